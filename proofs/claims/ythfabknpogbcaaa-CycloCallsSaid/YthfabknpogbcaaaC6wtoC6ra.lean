/- Plain facts about what the reference computes in place of what the program computes. Contracts of the reference: lower. Contracts of the reference: least, made, Check, Make, Root, Int, both. Contracts of the reference: Make, Root, Int, both, Add. Contracts of the reference: both, Add, Mul. -/
import Derived.Test.YthfabknpogbcaaaC6ktoC6v
/- Plain facts about what the reference computes in place of what the program computes. -/
namespace Go.Proofs.Ythfabknpogbcaaa
open Go Go.Ay
set_option maxRecDepth 100000
noncomputable section

/-- Numbers of 64 bits. -/
def inR (l : List Int) : Prop := ∀ z ∈ l, -9223372036854775808 ≤ z ∧ z < 9223372036854775808
theorem W_eq (x : Int) : W x = (x + 9223372036854775808) % 18446744073709551616 - 9223372036854775808 := by
  have h1 : IntKind.i64.bits = 64 := rfl
  have h2 : IntKind.i64.signed = true := rfl
  simp only [W, IntKind.wrap, h1, h2, Bool.true_and]
  rw [show (2 : Int) ^ 64 = 18446744073709551616 from by decide, show (2 : Int) ^ (64 - 1) = 9223372036854775808 from by decide]
  by_cases h : x % 18446744073709551616 ≥ 9223372036854775808
  · rw [decide_eq_true h, if_pos rfl]; omega
  · rw [decide_eq_false h]; simp only [Bool.false_eq_true, if_false]; omega
theorem W_in (x : Int) : -9223372036854775808 ≤ W x ∧ W x < 9223372036854775808 := by
  rw [W_eq]; omega
theorem W_id {x : Int} (h : -9223372036854775808 ≤ x ∧ x < 9223372036854775808) : W x = x := wrap_in h.1 h.2
theorem inR.cons {x : Int} {l : List Int} (h : inR (x :: l)) : (-9223372036854775808 ≤ x ∧ x < 9223372036854775808) ∧ inR l := ⟨h x (List.mem_cons_self ..), fun z hz => h z (List.mem_cons_of_mem _ hz)⟩
theorem inR.mk {x : Int} {l : List Int} (h1 : -9223372036854775808 ≤ x ∧ x < 9223372036854775808) (h2 : inR l) : inR (x :: l) := fun z hz => by
  rcases List.mem_cons.1 hz with rfl | hz
  · exact h1
  · exact h2 z hz
theorem inR.nil : inR [] := fun z hz => by cases hz
theorem inR.append {a b : List Int} (h1 : inR a) (h2 : inR b) : inR (a ++ b) := fun z hz => by
  rcases List.mem_append.1 hz with hz | hz
  · exact h1 z hz
  · exact h2 z hz
theorem inR.zeros (n : Nat) : inR (List.replicate n 0) := fun z hz => by rw [List.eq_of_mem_replicate hz]; omega
theorem inR.reverse {l : List Int} (h : inR l) : inR l.reverse := fun z hz => h z (List.mem_reverse.1 hz)
theorem inR.getD {l : List Int} (h : inR l) (i : Nat) : -9223372036854775808 ≤ l.getD i 0 ∧ l.getD i 0 < 9223372036854775808 := by
  rw [List.getD_eq_getElem?_getD]
  cases e : l[i]? with
  | none => simp
  | some x => exact h x (List.mem_of_getElem? e)
theorem inR.set {l : List Int} (h : inR l) {x : Int} (hx : -9223372036854775808 ≤ x ∧ x < 9223372036854775808) (i : Nat) : inR (l.set i x) := fun z hz => by
  rcases List.mem_or_eq_of_mem_set hz with hz | rfl
  · exact h z hz
  · exact hx
theorem zipS_in (x : Int) : ∀ (b r : List Int), inR r → inR (zipS x b r)
  | [], r, h => h
  | _ :: _, [], _ => inR.nil
  | y :: b, z :: r, h => by
    rw [zipS, Wq_eq]
    exact inR.mk (W_in _) (zipS_in x b r h.cons.2)
theorem divR_in (b : List Int) : ∀ (n : Nat) (a : List Int), inR a → inR (divR b n a).2
  | 0, a, h => h
  | n + 1, [], h => h
  | n + 1, x :: a, h => by
    rw [divR]
    exact divR_in b n _ (zipS_in x b a h.cons.2)
theorem divF_in {a : List Int} (b : List Int) (h : inR a) : inR (divF a b).2 := by
  rw [divF]
  exact (divR_in _ _ _ h.reverse).reverse
theorem redF_in (n : Nat) {c : List Int} (h : inR c) : inR (redF n c) := by
  rw [redF]
  exact (divF_in _ h).append (inR.zeros _)

theorem zipS_zero : ∀ (b r : List Int), b.length ≤ r.length → inR r → zipS 0 b r = r
  | [], r, _, _ => rfl
  | _ :: _, [], h, _ => by simp at h
  | y :: b, z :: r, h, hr => by
    rw [zipS, zipS_zero b r (by simpa using h) hr.cons.2, Wq_eq, Wq_eq, Int.zero_mul]
    have : W (z - W 0) = z := by
      rw [W_id (x := 0) (by omega), Int.sub_zero, W_id hr.cons.1]
    rw [this]
theorem divR_zero (b r : List Int) (hb : b.length ≤ r.length) (hr : inR r) : ∀ z, divR b z (List.replicate z 0 ++ r) = (List.replicate z 0, r)
  | 0 => rfl
  | z + 1 => by
    rw [List.replicate_succ, List.cons_append, divR, zipS_zero _ _ (by rw [List.length_append]; omega) ((inR.zeros z).append hr)]
    simp only [divR_zero b r hb hr z]
theorem redF_pad (n : Nat) (l : List Int) (z : Nat) (hl : l.length = (phiF n).length - 1) (h : inR l) : redF n (l ++ List.replicate z 0) = l := by
  have h1 : (divF (l ++ List.replicate z 0) (phiF n)).2 = l := by
    rw [divF, List.reverse_append, List.reverse_replicate, List.length_append, List.length_replicate, ← hl, show l.length + z - l.length = z by omega]
    rw [divR_zero _ _ (by rw [List.length_reverse, List.length_reverse, List.length_take]; omega) h.reverse]
    simp
  rw [redF, h1, hl, Nat.sub_self]
  simp

/-! rows by their elements -/
theorem gA_at (q m : Nat) (c : List Int) (hq : 0 < q) : ∀ k, k ≤ m * q → ∀ e i, e < q → i < m → ((gA q m c k).getD e []).getD i 0 = if i * q + e < k then c.getD (i * q + e) 0 else 0
  | 0, _, e, i, he, hi => by
    rw [if_neg (by omega), gA]
    have : (List.replicate q (List.replicate m (0 : Int))).getD e [] = List.replicate m 0 := by
      rw [List.getD_eq_getElem?_getD, List.getElem?_replicate, if_pos he]; rfl
    rw [this, List.getD_eq_getElem?_getD, List.getElem?_replicate, if_pos hi]; rfl
  | k + 1, hk, e, i, he, hi => by
    have hsh := gA_shape q m c k
    have hkq : k % q < q := Nat.mod_lt _ hq
    have hki : k / q < m := (Nat.div_lt_iff_lt_mul hq).2 (by omega)
    have hdm := Nat.div_add_mod k q
    rw [Nat.mul_comm] at hdm
    have ih := gA_at q m c hq k (by omega) e i he hi
    rw [gA, getD_set]
    by_cases h1 : k % q = e
    · rw [if_pos h1, if_pos (by rw [hsh.1]; exact hkq), getD_set]
      by_cases h2 : k / q = i
      · rw [if_pos h2, if_pos (by rw [hsh.2 _ hkq]; exact hki)]
        rw [h1, h2] at hdm
        rw [hdm, if_pos (by omega)]
      · rw [if_neg h2, h1, ih]
        have hne : i * q + e ≠ k := fun h => h2 (by
          rw [← h, Nat.mul_comm, Nat.mul_add_div hq, Nat.div_eq_of_lt he, Nat.add_zero])
        by_cases h3 : i * q + e < k
        · rw [if_pos h3, if_pos (by omega)]
        · rw [if_neg h3, if_neg (by omega)]
    · rw [if_neg h1, ih]
      have hne : i * q + e ≠ k := fun h => h1 (by
        rw [← h, Nat.mul_comm, Nat.mul_add_mod, Nat.mod_eq_of_lt he])
      by_cases h3 : i * q + e < k
      · rw [if_pos h3, if_pos (by omega)]
      · rw [if_neg h3, if_neg (by omega)]
theorem rows_in {rows : List (List Int)} (h : ∀ r ∈ rows, inR r) (e : Nat) : inR (rows.getD e []) := by
  rw [List.getD_eq_getElem?_getD]
  cases hh : rows[e]? with
  | none => exact inR.nil
  | some r => exact h r (List.mem_of_getElem? hh)
theorem gA_in (q m : Nat) {c : List Int} (h : inR c) : ∀ k, ∀ r ∈ gA q m c k, inR r
  | 0, r, hr => by rw [gA] at hr; rw [List.eq_of_mem_replicate hr]; exact inR.zeros _
  | k + 1, r, hr => by
    rw [gA] at hr
    rcases List.mem_or_eq_of_mem_set hr with hr | rfl
    · exact gA_in q m h k r hr
    · exact (rows_in (gA_in q m h k) _).set (h.getD _) _
theorem gB_in (a b q m : Nat) (c : List Int) : ∀ k, ∀ r ∈ gB a b q m c k, inR r
  | 0, r, hr => by rw [gB] at hr; rw [List.eq_of_mem_replicate hr]; exact inR.zeros _
  | k + 1, r, hr => by
    rw [gB] at hr
    rcases List.mem_or_eq_of_mem_set hr with hr | rfl
    · exact gB_in a b q m c k r hr
    · exact (rows_in (gB_in a b q m c k) _).set (W_in _) _
theorem subK_in {u : List Int} (v : List Int) (h : inR u) : ∀ k, inR (subK u v k)
  | 0 => h
  | k + 1 => by rw [subK]; exact (subK_in v h k).set (W_in _) _
theorem lowerF_in {n q : Nat} {c d : List Int} (h : inR c) (hd : lowerF n q c = some d) : inR d := by
  simp only [lowerF] at hd
  split at hd
  · simp only [lowA] at hd
    split at hd
    · cases hd
    · cases hd
      exact redF_in _ (rows_in (gA_in _ _ h _) _)
  · simp only [lowB] at hd
    split at hd
    · cases hd
      refine subK_in _ (rows_in (fun r hr => ?_) _) _
      obtain ⟨s, hs, rfl⟩ := List.mem_map.1 hr
      exact redF_in _ (gB_in _ _ _ _ _ _ s hs)
    · cases hd

/-- Every q-th coefficient, if the others are 0. -/
def evS (q : Nat) (c : List Int) : Nat → Option (List Int)
  | 0 => some []
  | k + 1 => (evS q c k).bind fun l => if k % q = 0 then some (l ++ [c.getD k 0]) else if c.getD k 0 ≠ 0 then none else some l
theorem evS_none {q : Nat} {c : List Int} : ∀ {k : Nat}, (∃ j, j < k ∧ j % q ≠ 0 ∧ c.getD j 0 ≠ 0) → evS q c k = none
  | 0, ⟨j, h, _⟩ => by omega
  | k + 1, ⟨j, h1, h2, h3⟩ => by
    rw [evS]
    by_cases hj : j < k
    · rw [evS_none ⟨j, hj, h2, h3⟩]; rfl
    · have : j = k := by omega
      subst this
      cases evS q c j with
      | none => rfl
      | some l => simp only [Option.bind_some]; rw [if_neg h2, if_pos h3]
theorem evS_some {q : Nat} {c : List Int} (hq : 0 < q) : ∀ {k : Nat}, (∀ j, j < k → j % q ≠ 0 → c.getD j 0 = 0) → evS q c k = some ((List.range ((k + q - 1) / q)).map fun i => c.getD (i * q) 0)
  | 0, _ => by
    rw [evS, show (0 + q - 1) / q = 0 from Nat.div_eq_of_lt (by omega)]; rfl
  | k + 1, h => by
    rw [evS, evS_some hq (fun j hj => h j (by omega)), Option.bind_some]
    by_cases hk : k % q = 0
    · rw [if_pos hk]
      obtain ⟨t, ht⟩ := Nat.dvd_of_mod_eq_zero hk
      subst ht
      have e1 : (q * t + 1 + q - 1) / q = t + 1 := by
        rw [show q * t + 1 + q - 1 = q * (t + 1) by rw [Nat.mul_add]; omega, Nat.mul_div_cancel_left _ hq]
      have e2 : (q * t + q - 1) / q = t := by
        rw [show q * t + q - 1 = q * t + (q - 1) by omega, Nat.mul_add_div hq, Nat.div_eq_of_lt (by omega)]; rfl
      rw [e1, e2, List.range_succ, List.map_append, List.map_singleton, Nat.mul_comm]
    · rw [if_neg hk, h k (by omega) hk, if_neg (fun h => h rfl)]
      congr 3
      have hdm := Nat.div_add_mod k q
      have hlt := Nat.mod_lt k hq
      have e1 : (k + 1 + q - 1) / q = k / q + 1 := by
        rw [show k + 1 + q - 1 = q * (k / q + 1) + k % q by rw [Nat.mul_add]; omega, Nat.mul_add_div hq, Nat.div_eq_of_lt hlt, Nat.add_zero]
      have e2 : (k + q - 1) / q = k / q + 1 := by
        have hx : (k % q - 1) / q = 0 := Nat.div_eq_of_lt (by omega)
        rw [show k + q - 1 = q * (k / q + 1) + (k % q - 1) by rw [Nat.mul_add]; omega, Nat.mul_add_div hq, hx, Nat.add_zero]
      rw [e1, e2]
theorem phi_mul : (List.range 121).all (fun n => (prOf n).all (fun q => n / q % q != 0 || (lens 120).getD n 0 - 1 == ((lens 120).getD (n / q) 0 - 1) * q)) = true := by decide +kernel
theorem phi_mulq {n q : Nat} (h1 : 1 ≤ n) (h2 : n ≤ 120) (hq : q ∈ prOf n) (hz : n / q % q = 0) : (phiF n).length - 1 = ((phiF (n / q)).length - 1) * q := by
  have h := List.all_eq_true.1 (List.all_eq_true.1 phi_mul n (List.mem_range.2 (by omega))) q hq
  have hok := lowOk h1 h2 hq
  have hlt := hok.lt
  rw [lens_eq 120 n h1 h2, lens_eq 120 (n / q) hlt.1 (by omega)] at h
  simpa [hz] using h
theorem lowA_evS {n q : Nat} {c : List Int} (h1 : 1 ≤ n) (h2 : n ≤ 120) (hq : q ∈ prOf n) (hz : n / q % q = 0) (hl : c.length = (phiF n).length - 1) (hr : inR c) : lowerF n q c = evS q c c.length := by
  have hok := lowOk h1 h2 hq
  have hlt := hok.lt
  have hq0 : 0 < q := by have := hok.q2; omega
  have hpl := phi_len h1 h2
  have hpm := phi_len hlt.1 (show n / q ≤ 120 by omega)
  have hmul := phi_mulq h1 h2 hq hz
  simp only [lowerF]
  rw [if_pos hz]
  obtain ⟨m, hm⟩ : ∃ m, n / q = m := ⟨_, rfl⟩
  have hdvd := hok.dvd
  rw [hm] at hmul hpm hlt hdvd ⊢
  have hsh := gA_shape q m c c.length
  have hat := gA_at q m c hq0 c.length (by omega)
  rw [lowA]
  by_cases hex : ∃ j, j < c.length ∧ j % q ≠ 0 ∧ c.getD j 0 ≠ 0
  · rw [evS_none hex, if_pos]
    obtain ⟨j, j1, j2, j3⟩ := hex
    have hjm : j % q < q := Nat.mod_lt _ hq0
    have hji : j / q < m := (Nat.div_lt_iff_lt_mul hq0).2 (by omega)
    have hdm := Nat.div_add_mod j q
    rw [Nat.mul_comm] at hdm
    have := hat (j % q) (j / q) hjm hji
    rw [hdm, if_pos j1] at this
    rw [List.any_eq_true]
    refine ⟨(gA q m c c.length).getD (j % q) [], ?_, ?_⟩
    · rw [List.getD_eq_getElem?_getD, List.getElem?_eq_getElem (by rw [hsh.1]; exact hjm), Option.getD_some, List.mem_iff_getElem]
      exact ⟨j % q - 1, by rw [List.length_drop, hsh.1]; omega, by rw [List.getElem_drop]; congr 1; omega⟩
    · rw [List.any_eq_true]
      have hl2 := hsh.2 _ hjm
      generalize (gA q m c c.length).getD (j % q) [] = R at hl2 this
      refine ⟨c.getD j 0, ?_, by simp [nz]; exact j3⟩
      rw [← this, List.getD_eq_getElem?_getD, List.getElem?_eq_getElem (by omega)]
      exact List.getElem_mem _
  · have hall : ∀ j, j < c.length → j % q ≠ 0 → c.getD j 0 = 0 := fun j h1 h2 => Classical.byContradiction fun h3 => hex ⟨j, h1, h2, h3⟩
    rw [evS_some hq0 hall, if_neg]
    · congr 1
      have hce : (c.length + q - 1) / q = (phiF m).length - 1 := by
        rw [hl, hmul, show ((phiF m).length - 1) * q + q - 1 = q * ((phiF m).length - 1) + (q - 1) by rw [Nat.mul_comm]; omega, Nat.mul_add_div hq0, Nat.div_eq_of_lt (by omega)]; rfl
      rw [hce]
      obtain ⟨l, hlx⟩ : ∃ l, (List.range ((phiF m).length - 1)).map (fun i => c.getD (i * q) 0) = l := ⟨_, rfl⟩
      rw [hlx]
      have hll : l.length = (phiF m).length - 1 := by rw [← hlx, List.length_map, List.length_range]
      have hlr : inR l := fun z hz => by
        rw [← hlx] at hz
        obtain ⟨i, _, rfl⟩ := List.mem_map.1 hz
        exact hr.getD _
      have hrow : (gA q m c c.length).getD 0 [] = l ++ List.replicate (m - ((phiF m).length - 1)) 0 := by
        apply eqD
        · rw [hsh.2 0 hq0, List.length_append, List.length_replicate, hll]; omega
        · intro i hi
          rw [hsh.2 0 hq0] at hi
          rw [hat 0 i hq0 hi, Nat.add_zero]
          by_cases hi2 : i < (phiF m).length - 1
          · have : i * q < c.length := by rw [hl, hmul]; exact Nat.mul_lt_mul_of_pos_right hi2 hq0
            rw [if_pos this, List.getD_eq_getElem?_getD, List.getD_eq_getElem?_getD, List.getElem?_append_left (by omega), ← hlx, List.getElem?_map, List.getElem?_range hi2, Option.map_some, Option.getD_some, List.getD_eq_getElem?_getD]
          · have : ¬ i * q < c.length := by
              rw [hl, hmul]
              have := Nat.mul_le_mul_right q (show (phiF m).length - 1 ≤ i by omega)
              omega
            rw [if_neg this, List.getD_eq_getElem?_getD, List.getElem?_append_right (by omega), List.getElem?_replicate]
            split <;> rfl
      rw [hrow, redF_pad m l _ hll hlr]
    · intro h
      rw [List.any_eq_true] at h
      obtain ⟨r, hrm, hrn⟩ := h
      obtain ⟨e, he, rfl⟩ := List.getElem_of_mem hrm
      rw [List.length_drop, hsh.1] at he
      rw [List.getElem_drop, List.any_eq_true] at hrn
      obtain ⟨x, hx, hxn⟩ := hrn
      obtain ⟨i, hi, rfl⟩ := List.getElem_of_mem hx
      have hge : (gA q m c c.length)[1 + e]'(by rw [hsh.1]; omega) = (gA q m c c.length).getD (1 + e) [] := by
        rw [List.getD_eq_getElem?_getD, List.getElem?_eq_getElem (by rw [hsh.1]; omega)]; rfl
      have hlen2 := hsh.2 (1 + e) (by omega)
      have hi' : i < m := by rw [hge, hlen2] at hi; exact hi
      have h0 := hat (1 + e) i (by omega) hi'
      have h3 : ((gA q m c c.length).getD (1 + e) []).getD i 0 = 0 := by
        rw [h0]
        split
        · rename_i hlt2
          refine hall _ hlt2 ?_
          rw [Nat.mul_comm, Nat.mul_add_mod, Nat.mod_eq_of_lt (by omega)]; omega
        · rfl
      have h4 : ((gA q m c c.length)[1 + e]'(by rw [hsh.1]; omega))[i] = ((gA q m c c.length).getD (1 + e) []).getD i 0 := by
        rw [List.getD_eq_getElem?_getD, List.getElem?_eq_getElem (by rw [hlen2]; exact hi')]
        simp only [hge]; rfl
      rw [h4, h3] at hxn
      simp [nz] at hxn

/-! the primes, as the reference finds them -/
def isPr (q : Nat) : Bool := (List.range q).all fun d => decide (d < 2) || q % d != 0
def rpF (n : Nat) : Nat → Nat → List Nat
  | 0, _ => []
  | f + 1, q => if q ≤ n then (if n % q == 0 && isPr q then q :: rpF n f (q + 1) else rpF n f (q + 1)) else []
theorem rp_all : (List.range 121).all (fun n => decide (rpF n 125 2 = prOf n)) = true := by decide +kernel
theorem rp_eq {n : Nat} (hn : n ≤ 120) : rpF n 125 2 = prOf n := of_decide_eq_true (List.all_eq_true.1 rp_all n (List.mem_range.2 (by omega)))

/-! steps of the canonical form -/
theorem stepF_spec {n q : Nat} {c d : List Int} (h : stepF n c = some (q, d)) : q ∈ prOf n ∧ lowerF n q c = some d := by
  simp only [stepF] at h
  obtain ⟨q', hq', hl⟩ := List.exists_of_findSome?_eq_some h
  simp only [Option.map_eq_some_iff] at hl
  obtain ⟨d', hd', he⟩ := hl
  cases he
  exact ⟨hq', hd'⟩
theorem leastG_stable : ∀ (n : Nat), 1 ≤ n → n ≤ 120 → ∀ (f g : Nat) (c : List Int), n ≤ f → n ≤ g → leastG f n c = leastG g n c := by
  intro n
  induction n using Nat.strongRecOn with
  | ind n ih =>
    intro h1 h2 f g c hf hg
    obtain ⟨f, rfl⟩ : ∃ f', f = f' + 1 := ⟨f - 1, by omega⟩
    obtain ⟨g, rfl⟩ : ∃ g', g = g' + 1 := ⟨g - 1, by omega⟩
    rw [leastG, leastG]
    cases hs : stepF n c with
    | none => rfl
    | some p =>
      obtain ⟨q, d⟩ := p
      obtain ⟨hq, _⟩ := stepF_spec hs
      have hlt := (lowOk h1 h2 hq).lt
      exact ih (n / q) hlt.2 hlt.1 (by omega) f g d (by omega) (by omega)
theorem leastF_step {n q : Nat} {c d : List Int} (h1 : 1 ≤ n) (h2 : n ≤ 120) (hs : stepF n c = some (q, d)) : leastF n c = leastF (n / q) d := by
  obtain ⟨hq, _⟩ := stepF_spec hs
  have hlt := (lowOk h1 h2 hq).lt
  obtain ⟨m, rfl⟩ : ∃ m, n = m + 1 := ⟨n - 1, by omega⟩
  unfold leastF
  rw [leastG, hs]
  exact leastG_stable _ hlt.1 (by omega) _ _ d (by omega) (Nat.le_refl _)
theorem leastF_stop {n : Nat} {c : List Int} (h1 : 1 ≤ n) (hs : stepF n c = none) : leastF n c = (n, c) := by
  obtain ⟨m, rfl⟩ : ∃ m, n = m + 1 := ⟨n - 1, by omega⟩
  unfold leastF
  rw [leastG, hs]
theorem leastG_len2 : ∀ (f n : Nat) (c : List Int), 1 ≤ n → n ≤ 120 → c.length = (phiF n).length - 1 → inR c → (leastG f n c).2.length = (phiF (leastG f n c).1).length - 1 ∧ inR (leastG f n c).2
  | 0, n, c, _, _, h3, h4 => ⟨h3, h4⟩
  | f + 1, n, c, h1, h2, h3, h4 => by
    rw [leastG]
    cases hs : stepF n c with
    | none => exact ⟨h3, h4⟩
    | some p =>
      obtain ⟨q, d⟩ := p
      obtain ⟨hq, hl⟩ := stepF_spec hs
      have hok := lowOk h1 h2 hq
      have hlt := hok.lt
      exact leastG_len2 f (n / q) d hlt.1 (by omega) (lowerF_len hok hl) (lowerF_in h4 hl)
end
end Go.Proofs.Ythfabknpogbcaaa
/- Contracts of the reference: lower. -/
namespace Go.Proofs.Ythfabknpogbcaaa
open Go Go.Ay
set_option maxRecDepth 100000
noncomputable section

/-- What 'lower' of the reference answers. -/
def LowQ (h : H) (r : Option (List Int)) (v : V) (h' : H) : Prop := Fr h h' ∧ ∃ u t, v = .tup [u, t] ∧ (match r with | none => t = .bool false | some d => t = .bool true ∧ SI h' u d ∧ Frs u h.next)

set_option maxHeartbeats 2000000 in
theorem rlower_ok (n q : Nat) (vc : V) (c : List Int) (h : H) (hn1 : 1 ≤ n) (hn2 : n ≤ 120) (hq : q ∈ prOf n) (hc : SI h vc c) (hl : c.length = (phiF n).length - 1) (hr : inR c) :
    Ev T n_ref06_lower [.int .i64 (n : Int), .int .i64 (q : Int), vc] h (LowQ h (lowerF n q c)) := by
  refine Ev_of t_ref06_lower rfl ?_
  have ok := lowOk hn1 hn2 hq
  have hlt := ok.lt
  have hq2 := ok.q2
  have hdvd := ok.dvd
  have hia := ok.ia
  have hib := ok.ib
  have hpl := phi_len hn1 hn2
  have hlA := @lowA_evS n q c hn1 hn2 hq
  have hqn : q ≤ n := Nat.le_of_dvd hn1 ⟨n / q, by rw [Nat.mul_comm]; exact hdvd.symm⟩
  have ed : (n : Int).tdiv (q : Int) = ((n / q : Nat) : Int) := rfl
  obtain ⟨m, hm⟩ : ∃ m, n / q = m := ⟨_, rfl⟩
  rw [hm] at ed hlt hdvd hlA hia hib
  obtain ⟨hm1, hm2⟩ := hlt
  have emq : (m : Int).tmod (q : Int) = ((m % q : Nat) : Int) := tmod_nat ..
  obtain ⟨cid, coff, hcs, hcid, hcc⟩ := hc.open
  simp (disch := first | omega | (simp only [List.length_set, List.length_replicate, List.length_append, List.length_take, List.length_drop, List.length_cons, List.length_nil, List.length_map, List.length_range, ints_length] <;> omega)) only [go_sem, c_ref06_lower, initV_eq, ed, emq]
  refine iteW_dec (fun hz => ?_) (fun hz => ?_)
  · have hz' : m % q = 0 := by omega
    rw [hlA hz' hl hr]
    simp (disch := first | omega | (simp only [List.length_set, List.length_replicate, List.length_append, List.length_take, List.length_drop, List.length_cons, List.length_nil, List.length_map, List.length_range, ints_length] <;> omega)) only [go_sem]
    refine Wp_loop (fun k' vars h3 => ∃ (k : Nat) (u : V) (l : List Int), (∃ g : Nat → V, vars = [g 0, .int .i64 (q : Int), vc, g 3, g 4, g 5, u, .int .i64 (k : Int), g 8, g 9, g 10, g 11, g 12, g 13, g 14, g 15, g 16, g 17, g 18, g 19, g 20, g 21, g 22, g 23, g 24, g 25, g 26, g 27, g 28]) ∧ k ≤ c.length ∧ evS q c k = some l ∧ l.length ≤ k ∧ Own h3 u 1 (ints l) h.next ∧ Fr h h3 ∧ k' = c.length - k) c.length
      ⟨0, .nils, [], ex_junk rfl, Nat.zero_le _, rfl, Nat.le_refl _, Own.nils _ _ _, Fr.refl h, rfl⟩ ?_
    rintro k' vars h3 ⟨k, u, l, ⟨g, rfl⟩, hk, hev, hll, ho, hf3, rfl⟩
    have hn3 := hf3.next
    simp (disch := first | omega | (simp only [List.length_set, List.length_replicate, List.length_append, List.length_take, List.length_drop, List.length_cons, List.length_nil, List.length_map, List.length_range, ints_length] <;> omega)) only [go_sem, hc.lens]
    refine iteW_dec (fun hlt2 => ?_) (fun hge => ?_)
    · have hcc3 := cells_fr hf3 hcid hcc
      have e1 : (k : Int).tmod (q : Int) = ((k % q : Nat) : Int) := tmod_nat ..
      have hstep : evS q c (k + 1) = if k % q = 0 then some (l ++ [c.getD k 0]) else if c.getD k 0 ≠ 0 then none else some l := by rw [evS, hev]; rfl
      simp (disch := first | omega | (simp only [List.length_set, List.length_replicate, List.length_append, List.length_take, List.length_drop, List.length_cons, List.length_nil, List.length_map, List.length_range, ints_length] <;> omega)) only [go_sem, e1]
      refine iteW_dec (fun hy => ?_) (fun hy => ?_)
      · rw [if_pos (by omega)] at hstep
        simp (disch := first | omega | (simp only [List.length_set, List.length_replicate, List.length_append, List.length_take, List.length_drop, List.length_cons, List.length_nil, List.length_map, List.length_range, ints_length] <;> omega)) only [go_sem, hcs.ixa, hcc3, bls_int1]
        obtain ⟨v6, h6, e6, a6⟩ := (ho.fr ((Fr.refl h3).new (.cells false (ints [c.getD k 0])))).app (bytes := 8) (n := l.length) (m := 1) (us := ints [c.getD k 0]) (y := .sl h3.next 0 1 (.kn 1)) (by rw [H.next_new]; omega) (Own.new h3 1 1 0 (ints [c.getD k 0]) rfl (Nat.zero_le _)).sv (by rw [ints_length, Nat.mul_one]) rfl (by omega) (by omega)
        simp (disch := first | omega | (simp only [List.length_set, List.length_replicate, List.length_append, List.length_take, List.length_drop, List.length_cons, List.length_nil, List.length_map, List.length_range, ints_length] <;> omega)) only [go_sem, e6]
        have ho6 := a6.own
        rw [← ints_append] at ho6
        rw [show (k : Int) + 1 = ((k + 1 : Nat) : Int) from by omega]
        exact ⟨c.length - (k + 1), by omega, k + 1, v6, _, ex_junk rfl, by omega, hstep, by rw [List.length_append, List.length_singleton]; omega, ho6, a6.fr h (hf3.new _) (Nat.le_refl _), rfl⟩
      · rw [if_neg (by omega)] at hstep
        simp (disch := first | omega | (simp only [List.length_set, List.length_replicate, List.length_append, List.length_take, List.length_drop, List.length_cons, List.length_nil, List.length_map, List.length_range, ints_length] <;> omega)) only [go_sem, hcs.ixa, hcc3]
        refine iteW_dec (fun hx => ?_) (fun hx => ?_)
        · simp (disch := first | omega | (simp only [List.length_set, List.length_replicate, List.length_append, List.length_take, List.length_drop, List.length_cons, List.length_nil, List.length_map, List.length_range, ints_length] <;> omega)) only [go_sem]
          rw [evS_none ⟨k, by omega, by omega, hx⟩]
          exact ⟨hf3, _, _, rfl, rfl⟩
        · rw [if_neg hx] at hstep
          simp (disch := first | omega | (simp only [List.length_set, List.length_replicate, List.length_append, List.length_take, List.length_drop, List.length_cons, List.length_nil, List.length_map, List.length_range, ints_length] <;> omega)) only [go_sem]
          rw [show (k : Int) + 1 = ((k + 1 : Nat) : Int) from by omega]
          exact ⟨c.length - (k + 1), by omega, k + 1, u, _, ex_junk rfl, by omega, hstep, by omega, ho, hf3, rfl⟩
    · have : k = c.length := by omega
      subst this
      simp (disch := first | omega | (simp only [List.length_set, List.length_replicate, List.length_append, List.length_take, List.length_drop, List.length_cons, List.length_nil, List.length_map, List.length_range, ints_length] <;> omega)) only [go_sem]
      rw [hev]
      exact ⟨hf3, _, _, rfl, rfl, ho.sv, Frs.own ho⟩
  · have hz' : m % q ≠ 0 := by omega
    obtain ⟨x0, hx0⟩ := hia hz'
    obtain ⟨y0, hy0⟩ := hib hz'
    obtain ⟨fx1, fx2, fx3⟩ := first_some hx0
    obtain ⟨fy1, fy2, fy3⟩ := first_some hy0
    have hinva : invF q m = x0 := by rw [invF, hx0]; rfl
    have hinvb : invF m q = y0 := by rw [invF, hy0]; rfl
    have hlB : lowerF n q c = lowB ((gB x0 y0 q m c c.length).map (redF m)) := by
      simp only [lowerF, hm]
      rw [if_neg hz', hinva, hinvb]
    rw [hlB]
    clear hlB hlA hia hib
    simp (disch := first | omega | (simp only [List.length_set, List.length_replicate, List.length_append, List.length_take, List.length_drop, List.length_cons, List.length_nil, List.length_map, List.length_range, ints_length] <;> omega)) only [go_sem]
    -- the inverse of q
    refine Wp_loop (fun k' vars h3 => ∃ (x : Nat), (∃ g : Nat → V, vars = [.int .i64 (n : Int), .int .i64 (q : Int), vc, g 3, g 4, .int .i64 (m : Int), g 6, g 7, .int .i64 (x : Int), .int .i64 0, g 10, g 11, g 12, g 13, g 14, g 15, g 16, g 17, g 18, g 19, g 20, g 21, g 22, g 23, g 24, g 25, g 26, g 27, g 28]) ∧ x ≤ x0 ∧ Fr h h3 ∧ k' = x0 - x) x0
      ⟨0, ex_junk rfl, Nat.zero_le _, Fr.refl h, rfl⟩ ?_
    rintro k' vars h3 ⟨x, ⟨g, rfl⟩, hxl, hf3, rfl⟩
    have hxq : x * q ≤ 121 * 120 := Nat.mul_le_mul (by omega) (by omega)
    have e4 : (x : Int) * (q : Int) = ((x * q : Nat) : Int) := (Int.natCast_mul ..).symm
    have e5 : ((x * q : Nat) : Int).tmod (m : Int) = ((x * q % m : Nat) : Int) := tmod_nat ..
    have e6 : (1 : Int).tmod (m : Int) = ((1 % m : Nat) : Int) := tmod_nat 1 m
    have hxc : (x * q % m = 1 % m) ↔ x = x0 := by
      refine ⟨fun he => ?_, fun he => ?_⟩
      · refine Classical.byContradiction fun hne => ?_
        have := fx3 x (by omega)
        rw [Nat.mul_comm] at he
        simp [he] at this
      · subst he
        have := fx2
        rw [Nat.mul_comm] at this
        simpa using this
    generalize x * q = xq at *
    simp (disch := first | omega | (simp only [List.length_set, List.length_replicate, List.length_append, List.length_take, List.length_drop, List.length_cons, List.length_nil, List.length_map, List.length_range, ints_length] <;> omega)) only [go_sem, e4, e5, e6]
    refine iteW_dec (fun hne => ?_) (fun heq => ?_)
    · have : x ≠ x0 := fun he => by have := hxc.2 he; omega
      simp (disch := first | omega | (simp only [List.length_set, List.length_replicate, List.length_append, List.length_take, List.length_drop, List.length_cons, List.length_nil, List.length_map, List.length_range, ints_length] <;> omega)) only [go_sem]
      rw [show (x : Int) + 1 = ((x + 1 : Nat) : Int) from by omega]
      exact ⟨x0 - (x + 1), by omega, x + 1, ex_junk rfl, by omega, hf3.bump (by omega), rfl⟩
    have hxe : x = x0 := hxc.1 (by omega)
    subst hxe
    clear heq hxc e4 e5 e6
    simp (disch := first | omega | (simp only [List.length_set, List.length_replicate, List.length_append, List.length_take, List.length_drop, List.length_cons, List.length_nil, List.length_map, List.length_range, ints_length] <;> omega)) only [go_sem]
    -- the inverse of m
    refine Wp_loop (fun k' vars h4 => ∃ (y : Nat), (∃ g : Nat → V, vars = [.int .i64 (n : Int), .int .i64 (q : Int), vc, g 3, g 4, .int .i64 (m : Int), g 6, g 7, .int .i64 (x : Int), .int .i64 (y : Int), g 10, g 11, g 12, g 13, g 14, g 15, g 16, g 17, g 18, g 19, g 20, g 21, g 22, g 23, g 24, g 25, g 26, g 27, g 28]) ∧ y ≤ y0 ∧ Fr h h4 ∧ k' = y0 - y) y0
      ⟨0, ex_junk rfl, Nat.zero_le _, hf3.bump (by omega), rfl⟩ ?_
    clear hf3
    rintro k' vars h4 ⟨y, ⟨g, rfl⟩, hyl, hf4, rfl⟩
    have hym : y * m ≤ 121 * 120 := Nat.mul_le_mul (by omega) (by omega)
    have e4 : (y : Int) * (m : Int) = ((y * m : Nat) : Int) := (Int.natCast_mul ..).symm
    have e5 : ((y * m : Nat) : Int).tmod (q : Int) = ((y * m % q : Nat) : Int) := tmod_nat ..
    have h1q : 1 % q = 1 := Nat.mod_eq_of_lt (by omega)
    have hyc : (y * m % q = 1) ↔ y = y0 := by
      refine ⟨fun he => ?_, fun he => ?_⟩
      · refine Classical.byContradiction fun hne => ?_
        have := fy3 y (by omega)
        rw [Nat.mul_comm] at he
        simp [he, h1q] at this
      · subst he
        have := fy2
        rw [Nat.mul_comm] at this
        simpa [h1q] using this
    generalize y * m = ym at *
    simp (disch := first | omega | (simp only [List.length_set, List.length_replicate, List.length_append, List.length_take, List.length_drop, List.length_cons, List.length_nil, List.length_map, List.length_range, ints_length] <;> omega)) only [go_sem, e4, e5]
    refine iteW_dec (fun hne => ?_) (fun heq => ?_)
    · have : y ≠ y0 := fun he => by have := hyc.2 he; omega
      simp (disch := first | omega | (simp only [List.length_set, List.length_replicate, List.length_append, List.length_take, List.length_drop, List.length_cons, List.length_nil, List.length_map, List.length_range, ints_length] <;> omega)) only [go_sem]
      rw [show (y : Int) + 1 = ((y + 1 : Nat) : Int) from by omega]
      exact ⟨y0 - (y + 1), by omega, y + 1, ex_junk rfl, by omega, hf4, rfl⟩
    have hye : y = y0 := hyc.1 (by omega)
    subst hye
    clear heq hyc e4 e5
    simp (disch := first | omega | (simp only [List.length_set, List.length_replicate, List.length_append, List.length_take, List.length_drop, List.length_cons, List.length_nil, List.length_map, List.length_range, ints_length] <;> omega)) only [go_sem, Int.toNat_natCast, zeros_one]
    obtain ⟨P, hP⟩ : ∃ P, h4.next = P := ⟨_, rfl⟩
    have hhP : h.next ≤ P := by rw [← hP]; exact hf4.next
    rw [hP]
    -- the rows
    refine Wp_loop (fun k' vars h5 => ∃ (k : Nat), (∃ g : Nat → V, vars = [.int .i64 (n : Int), .int .i64 (q : Int), vc, g 3, g 4, .int .i64 (m : Int), g 6, g 7, .int .i64 (x : Int), .int .i64 (y : Int), .sl P 0 q (.kn q), .int .i64 (k : Int), g 12, g 13, g 14, g 15, g 16, g 17, g 18, g 19, g 20, g 21, g 22, g 23, g 24, g 25, g 26, g 27, g 28]) ∧ k ≤ q ∧
      h5.get P = some (.cells false ((List.range k).map (fun e => V.sl (P + 1 + e) 0 m (.kn m)) ++ List.replicate (q - k) V.nils)) ∧ (∀ e, e < k → h5.get (P + 1 + e) = some (.cells false (ints (List.replicate m 0)))) ∧ h5.next = P + 1 + k ∧ Fr h h5 ∧ k' = q - k) q
      ⟨0, ex_junk rfl, Nat.zero_le _, by rw [← hP, H.get_new_same]; rfl, fun e he => by omega, by rw [H.next_new, hP], hf4.new _, rfl⟩ ?_
    rintro k' vars h5 ⟨k, ⟨g, rfl⟩, hk, hg, hrr, hnx, hf5, rfl⟩
    simp (disch := first | omega | (simp only [List.length_set, List.length_replicate, List.length_append, List.length_take, List.length_drop, List.length_cons, List.length_nil, List.length_map, List.length_range, ints_length] <;> omega)) only [go_sem]
    refine iteW_dec (fun hkq => ?_) (fun hkq => ?_)
    · have hlen : k < ((List.range k).map (fun e => V.sl (P + 1 + e) 0 m (.kn m)) ++ List.replicate (q - k) V.nils).length := by
        rw [List.length_append, List.length_map, List.length_range, List.length_replicate]; omega
      simp (disch := first | omega | (simp only [List.length_set, List.length_replicate, List.length_append, List.length_take, List.length_drop, List.length_cons, List.length_nil, List.length_map, List.length_range, ints_length] <;> omega)) only [go_sem, hg, Int.toNat_natCast, hnx]
      rw [show (k : Int) + 1 = ((k + 1 : Nat) : Int) from by omega]
      refine ⟨q - (k + 1), by omega, k + 1, ex_junk rfl, by omega, by rw [parts_step P m q k (by omega)], fun e he => ?_, by omega, (hf5.new _).set (by omega) _, rfl⟩
      by_cases hek : e = k
      · rw [hek, ← hnx, H.get_new_same]
      · rw [H.get_new_ne _ (by omega)]; exact hrr e (by omega)
    have : q = k := by omega
    subst this
    have hgrid : Grid h5 P m (gB x y q m c 0) := by
      have hlen : (gB x y q m c 0).length = q := List.length_replicate
      have hrow : ∀ e, e < q → (gB x y q m c 0).getD e [] = List.replicate m 0 := fun e he => by
        rw [gB, List.getD_eq_getElem?_getD, List.getElem?_replicate, if_pos he]; rfl
      refine ⟨?_, fun e he => ?_, fun e he => ?_, ?_⟩
      · rw [hg, hlen, Nat.sub_self, List.replicate_zero, List.append_nil]
      · rw [hlen] at he; rw [hrow e he]; exact hrr e he
      · rw [hlen] at he; rw [hrow e he]; exact List.length_replicate
      · rw [hlen]; omega
    clear hg hrr hkq hk
    simp (disch := first | omega | (simp only [List.length_set, List.length_replicate, List.length_append, List.length_take, List.length_drop, List.length_cons, List.length_nil, List.length_map, List.length_range, ints_length] <;> omega)) only [go_sem]
    -- the coefficients
    refine Wp_loop (fun k' vars h6 => ∃ (k : Nat), (∃ g : Nat → V, vars = [.int .i64 (n : Int), .int .i64 (q : Int), vc, g 3, g 4, .int .i64 (m : Int), g 6, g 7, .int .i64 (x : Int), .int .i64 (y : Int), .sl P 0 q (.kn q), g 11, .int .i64 (k : Int), g 13, g 14, g 15, g 16, g 17, g 18, g 19, g 20, g 21, g 22, g 23, g 24, g 25, g 26, g 27, g 28]) ∧ k ≤ c.length ∧
      Grid h6 P m (gB x y q m c k) ∧ Fr h h6 ∧ k' = c.length - k) c.length
      ⟨0, ex_junk rfl, Nat.zero_le _, hgrid, hf5, rfl⟩ ?_
    rintro k' vars h6 ⟨k, ⟨g, rfl⟩, hk, hg6, hf6, rfl⟩
    have hsh := gB_shape x y q m c k
    simp (disch := first | omega | (simp only [List.length_set, List.length_replicate, List.length_append, List.length_take, List.length_drop, List.length_cons, List.length_nil, List.length_map, List.length_range, ints_length] <;> omega)) only [go_sem, hc.lens]
    refine iteW_dec (fun hkc => ?_) (fun hkc => ?_)
    · have hcc6 := cells_fr hf6 hcid hcc
      have h5 : y * k % q < q := Nat.mod_lt _ (by omega)
      have h6' : x * k % m < m := Nat.mod_lt _ (by omega)
      have hBk : y * k ≤ 121 * 121 := Nat.mul_le_mul (by omega) (by omega)
      have hAk : x * k ≤ 121 * 121 := Nat.mul_le_mul (by omega) (by omega)
      have e4 : (y : Int) * (k : Int) = ((y * k : Nat) : Int) := (Int.natCast_mul ..).symm
      have e5 : (x : Int) * (k : Int) = ((x * k : Nat) : Int) := (Int.natCast_mul ..).symm
      have e2 : ((y * k : Nat) : Int).tmod (q : Int) = ((y * k % q : Nat) : Int) := tmod_nat ..
      have e3 : (((x * k : Nat) : Int) % ((m : Nat) : Int)).toNat = x * k % m := by omega
      have hstep : gB x y q m c (k + 1) = (gB x y q m c k).set (y * k % q) (((gB x y q m c k).getD (y * k % q) []).set (x * k % m) (W (((gB x y q m c k).getD (y * k % q) []).getD (x * k % m) 0 + c.getD k 0))) := rfl
      generalize y * k % q = r at h5 e2 hstep
      generalize x * k % m = u at h6' e3 hstep
      generalize y * k = Bk at e2 e4 hBk
      generalize x * k = Ak at e3 e5 hAk
      have hrl := hg6.rl r (by omega)
      simp (disch := first | omega | (simp only [List.length_set, List.length_replicate, List.length_append, List.length_take, List.length_drop, List.length_cons, List.length_nil, List.length_map, List.length_range, ints_length] <;> omega)) only [go_sem, hcs.ixa, hcc6, Int.toNat_natCast, e2, e4, e5, hg6.cell (e := r) (by omega)]
      obtain ⟨row, hrow⟩ : ∃ row, (gB x y q m c k).getD r [] = row := ⟨_, rfl⟩
      have hgr := hg6.rg r (by omega)
      rw [hrow] at hrl hgr hstep
      have hadd := radd_ok (P + 1 + r) (.kn m) row (Ak : Int) (c.getD k 0) (H.mk h6.tr (h6.next + 16)) hgr (by omega) (by omega)
      rw [hrl] at hadd
      refine hadd.mono ?_
      rintro v7 h7 rfl
      rw [e3]
      simp (disch := first | omega | (simp only [List.length_set, List.length_replicate, List.length_append, List.length_take, List.length_drop, List.length_cons, List.length_nil, List.length_map, List.length_range, ints_length] <;> omega)) only [go_sem]
      rw [show (k : Int) + 1 = ((k + 1 : Nat) : Int) from by omega]
      refine ⟨c.length - (k + 1), by omega, k + 1, ex_junk rfl, by omega, ?_, (hf6.bump (by omega)).set (by omega) _, rfl⟩
      rw [hstep, ← hrow]
      exact (hg6.fr ((Fr.refl h6).bump (by omega))).set (by omega) _
    have : c.length = k := by omega
    subst this
    clear hkc hk
    simp (disch := first | omega | (simp only [List.length_set, List.length_replicate, List.length_append, List.length_take, List.length_drop, List.length_cons, List.length_nil, List.length_map, List.length_range, ints_length] <;> omega)) only [go_sem]
    obtain ⟨rows, hrows⟩ : ∃ rows, gB x y q m c c.length = rows := ⟨_, rfl⟩
    rw [hrows] at hg6 hsh ⊢
    -- the rows, reduced
    refine Wp_loop (fun k' vars h7 => ∃ (k : Nat) (ws : List V), (∃ g : Nat → V, vars = [.int .i64 (n : Int), .int .i64 (q : Int), g 2, g 3, g 4, .int .i64 (m : Int), g 6, g 7, g 8, g 9, .sl P 0 q (.kn q), g 11, g 12, .int .i64 (k : Int), g 14, g 15, g 16, g 17, g 18, g 19, g 20, g 21, g 22, g 23, g 24, g 25, g 26, g 27, g 28]) ∧ k ≤ q ∧
      ws.length = q ∧ h7.get P = some (.cells false ws) ∧ (∀ e, k ≤ e → e < q → ws.getD e .undef = .sl (P + 1 + e) 0 m (.kn m) ∧ h7.get (P + 1 + e) = some (.cells false (ints (rows.getD e [])))) ∧
      (∀ e, e < k → Own h7 (ws.getD e .undef) 1 (ints (redF m (rows.getD e []))) (P + q + 1)) ∧ (∀ e, 1 ≤ e → e < k → Dis (ws.getD 0 .undef) (ws.getD e .undef)) ∧ Fr h h7 ∧ P + q < h7.next ∧ k' = q - k) q
      ⟨0, _, ex_junk rfl, Nat.zero_le _, ?_, hg6.pg, fun e _ he => ⟨?_, hg6.rg e (by omega)⟩, fun e he => by omega, fun e _ he => by omega, hf6, by have := hg6.lt; omega, rfl⟩ ?_
    · rw [List.length_map, List.length_range, hsh.1]
    · rw [List.getD_eq_getElem?_getD, List.getElem?_map, List.getElem?_range (by omega)]; rfl
    clear hg6 hf6
    rintro k' vars h7 ⟨k, ws, ⟨g, rfl⟩, hk, hwl, hwg, hrest, hown, hdis, hf7, hn7, rfl⟩
    simp (disch := first | omega | (simp only [List.length_set, List.length_replicate, List.length_append, List.length_take, List.length_drop, List.length_cons, List.length_nil, List.length_map, List.length_range, ints_length] <;> omega)) only [go_sem]
    refine iteW_dec (fun hkq => ?_) (fun hkq => ?_)
    · obtain ⟨hw1, hw2⟩ := hrest k (Nat.le_refl _) (by omega)
      have hcell : h7.cell P k = some (.sl (P + 1 + k) 0 m (.kn m)) := by
        rw [H.cell_of hwg, List.getElem?_eq_getElem (by omega), ← hw1, List.getD_eq_getElem?_getD, List.getElem?_eq_getElem (by omega)]; rfl
      have hrk := hsh.2 k (by omega)
      have hsi : SI h7 (.sl (P + 1 + k) 0 m (.kn m)) (rows.getD k []) := by
        have := SI.own (h := h7) (id := P + 1 + k) (by omega) hw2 (.kn m)
        rw [hrk] at this; exact this
      simp (disch := first | omega | (simp only [List.length_set, List.length_replicate, List.length_append, List.length_take, List.length_drop, List.length_cons, List.length_nil, List.length_map, List.length_range, ints_length] <;> omega)) only [go_sem, hcell]
      refine (rreduced_ok m _ _ h7 hm1 (by omega) hsi (by omega)).mono ?_
      rintro v5 h8 ⟨ho8, hf8⟩
      have hP8 : h8.get P = some (.cells false ws) := by rw [hf8.get P (by omega)]; exact hwg
      simp (disch := first | omega | (simp only [List.length_set, List.length_replicate, List.length_append, List.length_take, List.length_drop, List.length_cons, List.length_nil, List.length_map, List.length_range, ints_length] <;> omega)) only [go_sem, ho8.sv.st1, hP8, putO_one]
      rw [show (k : Int) + 1 = ((k + 1 : Nat) : Int) from by omega]
      have hPlt : P < P + q + 1 := by omega
      refine ⟨q - (k + 1), by omega, k + 1, ws.set k v5, ex_junk rfl, by omega, by rw [List.length_set, hwl], rfl, fun e he1 he2 => ?_, fun e he => ?_, fun e he1 he2 => ?_, (hf7.trans hf8).set (by omega) _, by have := hf8.next; omega, rfl⟩
      · obtain ⟨r1, r2⟩ := hrest e (by omega) he2
        refine ⟨by rw [getD_set, if_neg (by omega)]; exact r1, ?_⟩
        rw [hf8.get _ (by omega)]; exact r2
      · rw [getD_set]
        by_cases hke : k = e
        · subst hke
          rw [if_pos rfl, if_pos (by omega)]
          exact (ho8.le (by omega)).set hPlt _
        · rw [if_neg hke]
          exact ((hown e (by omega)).fr hf8).set hPlt _
      · have e0 : (ws.set k v5).getD 0 .undef = ws.getD 0 .undef := by rw [getD_set, if_neg (by omega)]
        rw [e0, getD_set]
        by_cases hke : k = e
        · subst hke
          rw [if_pos rfl, if_pos (by omega)]
          exact (hown 0 (by omega)).dis ho8
        · rw [if_neg hke]
          exact hdis e he1 (by omega)
    have : q = k := by omega
    subst this
    clear hkq hk hrest hx0 hy0 hcc hcs hcid
    simp (disch := first | omega | (simp only [List.length_set, List.length_replicate, List.length_append, List.length_take, List.length_drop, List.length_cons, List.length_nil, List.length_map, List.length_range, ints_length] <;> omega)) only [go_sem]
    obtain ⟨reds, hreds⟩ : ∃ reds, rows.map (redF m) = reds := ⟨_, rfl⟩
    have hrl : reds.length = q := by rw [← hreds, List.length_map, hsh.1]
    have hlen : ∀ e, e < q → reds.getD e [] = redF m (rows.getD e []) := fun e he => by
      rw [← hreds, List.getD_eq_getElem?_getD, List.getElem?_map, List.getD_eq_getElem?_getD, List.getElem?_eq_getElem (by rw [hsh.1]; exact he)]; rfl
    have hown' : ∀ e, e < q → Own h7 (ws.getD e .undef) 1 (ints (reds.getD e [])) (P + q + 1) := fun e he => by rw [hlen e he]; exact hown e he
    have hpm := phi_len hm1 (show m ≤ 120 by omega)
    have hL : ∀ e, e < q → (reds.getD e []).length = (phiF m).length - 1 := fun e he => by rw [hlen e he, redF_len]
    rw [hreds]
    clear hown hlen hdvd
    have hcell : ∀ e, e < q → h7.cell P e = some (ws.getD e .undef) := fun e he => by
      rw [H.cell_of hwg, List.getElem?_eq_getElem (by omega), List.getD_eq_getElem?_getD, List.getElem?_eq_getElem (by omega)]; rfl
    -- the rows, compared
    refine Wp_loop (fun k' vars h8 => ∃ (k : Nat), (∃ g : Nat → V, vars = [.int .i64 (n : Int), .int .i64 (q : Int), g 2, g 3, g 4, .int .i64 (m : Int), g 6, g 7, g 8, g 9, .sl P 0 q (.kn q), g 11, g 12, g 13, .int .i64 (k : Int), g 15, g 16, g 17, g 18, g 19, g 20, g 21, g 22, g 23, g 24, g 25, g 26, g 27, g 28]) ∧ 2 ≤ k ∧ k ≤ q ∧
      Fr h7 h8 ∧ (∀ e, 1 ≤ e → e < k → reds.getD e [] = reds.getD 1 []) ∧ k' = q - k) (q - 2)
      ⟨2, ex_junk rfl, by omega, by omega, Fr.refl h7, fun e h1 h2 => by rw [show e = 1 by omega], rfl⟩ ?_
    rintro k' vars h8 ⟨k, ⟨g, rfl⟩, hk2, hk, hf8, hall, rfl⟩
    have hcell8 : ∀ e, e < q → h8.cell P e = some (ws.getD e .undef) := fun e he => by rw [hf8.cell (by omega)]; exact hcell e he
    simp (disch := first | omega | (simp only [List.length_set, List.length_replicate, List.length_append, List.length_take, List.length_drop, List.length_cons, List.length_nil, List.length_map, List.length_range, ints_length] <;> omega)) only [go_sem]
    refine iteW_dec (fun hlt => ?_) (fun hge => ?_)
    · simp (disch := first | omega | (simp only [List.length_set, List.length_replicate, List.length_append, List.length_take, List.length_drop, List.length_cons, List.length_nil, List.length_map, List.length_range, ints_length] <;> omega)) only [go_sem, hcell8]
      have hfb : Fr h7 (H.mk h8.tr (h8.next + 9)) := hf8.bump (by omega)
      refine (same_ok _ _ _ _ (H.mk h8.tr (h8.next + 9)) ((hown' k (by omega)).fr hfb).sv ((hown' 1 (by omega)).fr hfb).sv (by rw [hL _ (by omega)]; omega) (by rw [hL _ (by omega)]; omega)).mono ?_
      rintro v1 h9 ⟨rfl, hf9⟩
      simp (disch := first | omega | (simp only [List.length_set, List.length_replicate, List.length_append, List.length_take, List.length_drop, List.length_cons, List.length_nil, List.length_map, List.length_range, ints_length] <;> omega)) only [go_sem]
      refine iteW_dec (fun heq => ?_) (fun hne => ?_)
      · simp (disch := first | omega | (simp only [List.length_set, List.length_replicate, List.length_append, List.length_take, List.length_drop, List.length_cons, List.length_nil, List.length_map, List.length_range, ints_length] <;> omega)) only [go_sem]
        rw [show (k : Int) + 1 = ((k + 1 : Nat) : Int) from by omega]
        refine ⟨q - (k + 1), by omega, k + 1, ex_junk rfl, by omega, by omega, hfb.trans hf9, fun e h1 h2 => ?_, rfl⟩
        by_cases hek : e = k
        · rw [hek]; exact heq
        · exact hall e h1 (by omega)
      · simp (disch := first | omega | (simp only [List.length_set, List.length_replicate, List.length_append, List.length_take, List.length_drop, List.length_cons, List.length_nil, List.length_map, List.length_range, ints_length] <;> omega)) only [go_sem]
        have hnone : lowB reds = none := by
          rw [lowB, if_neg]
          rw [List.all_eq_true]
          intro hx
          have := hx (reds.getD k []) (by
            rw [List.mem_iff_getElem]
            exact ⟨k - 1, by rw [List.length_drop]; omega, by rw [List.getElem_drop, List.getD_eq_getElem?_getD, List.getElem?_eq_getElem (by omega), Option.getD_some]; congr 1; omega⟩)
          exact hne (of_decide_eq_true this)
        rw [hnone]
        exact ⟨hf7.trans (hfb.trans hf9), _, _, rfl, rfl⟩
    have hsome : lowB reds = some (subK (reds.getD 0 []) (reds.getD 1 []) (reds.getD 1 []).length) := by
      rw [lowB, if_pos]
      rw [List.all_eq_true]
      intro x hx
      rw [List.mem_iff_getElem] at hx
      obtain ⟨i, hi, rfl⟩ := hx
      rw [List.length_drop] at hi
      rw [List.getElem_drop]
      have := hall (1 + i) (by omega) (by omega)
      rw [List.getD_eq_getElem?_getD, List.getElem?_eq_getElem (by omega), Option.getD_some] at this
      rw [this]
      exact decide_eq_true rfl
    rw [hsome]
    have ho0 := (hown' 0 (by omega)).fr hf8
    have ho1 := (hown' 1 (by omega)).fr hf8
    have hd01 := hdis 1 (Nat.le_refl _) (by omega)
    have hL0 := hL 0 (by omega)
    have hL1 := hL 1 (by omega)
    simp (disch := first | omega | (simp only [List.length_set, List.length_replicate, List.length_append, List.length_take, List.length_drop, List.length_cons, List.length_nil, List.length_map, List.length_range, ints_length] <;> omega)) only [go_sem, hcell8]
    obtain ⟨id1, off1, hs1, hid1, hc1⟩ := SI.open (h := h8) ho1.sv
    generalize reds.getD 0 [] = R0 at *
    generalize reds.getD 1 [] = R1 at *
    rcases ho0 with ⟨_, h0⟩ | ⟨id0, n0, cap0, rest0, hw0, hn0, hcap0, hid0, hid0', hg0⟩
    · have : (ints R0).length = 0 := by rw [h0]; rfl
      rw [ints_length] at this; omega
    rw [ints_length, Nat.mul_one] at hn0
    have hne01 : id0 ≠ id1 := by
      rcases ho1 with ⟨_, h0⟩ | ⟨id1', n1, cap1, rest1, hw1, hn1', _⟩
      · have : (ints R1).length = 0 := by rw [h0]; rfl
        rw [ints_length] at this; omega
      · have h1 := hd01 _ _ _ _ hw0 _ _ _ _ hw1
        have h2 := hs1.ixa .i64 0 (by omega) (by omega)
        rw [hw1, ixaV_sl (by omega) (by rw [ints_length] at hn1'; omega)] at h2
        simp only [Option.some.injEq, V.ptr.injEq] at h2
        omega
    have hid1' := hid1 (by omega)
    -- the difference, in place
    have e00 : ws.getD 0 .undef = .sl id0 0 n0 cap0 := hw0
    rw [e00]
    refine Wp_loop (fun k' vars h9 => ∃ (k : Nat), (∃ g : Nat → V, vars = [g 0, g 1, g 2, g 3, g 4, g 5, g 6, g 7, g 8, g 9, .sl P 0 q (.kn q), g 11, g 12, g 13, g 14, .sl id0 0 n0 cap0, .int .i64 (k : Int), g 17, g 18, g 19, g 20, g 21, g 22, g 23, g 24, g 25, g 26, g 27, g 28]) ∧ k ≤ R1.length ∧
      h9.get id0 = some (.cells false (ints (subK R0 R1 k) ++ rest0)) ∧ (∀ x, x ≠ id0 → x < h8.next → h9.get x = h8.get x) ∧ h8.next ≤ h9.next ∧ k' = R1.length - k) R1.length
      ⟨0, ex_junk rfl, Nat.zero_le _, hg0, fun _ _ _ => rfl, Nat.le_refl _, rfl⟩ ?_
    rintro k' vars h9 ⟨k2, ⟨g2, rfl⟩, hk2, hg9, hoth, hn9, rfl⟩
    have hc9 : ∀ x off, x ≠ id0 → x < h8.next → h9.cell x off = h8.cell x off := fun x off hx hxl => by unfold H.cell; rw [hoth x hx hxl]
    have hsl := subK_len R0 R1 k2
    have hn78 := hf8.next
    simp (disch := first | omega | (simp only [List.length_set, List.length_replicate, List.length_append, List.length_take, List.length_drop, List.length_cons, List.length_nil, List.length_map, List.length_range, ints_length] <;> omega)) only [go_sem]
    refine iteW_dec (fun hkL => ?_) (fun hkL => ?_)
    · have e1' : h9.cell id1 (off1 + k2) = some (.int .i64 (R1.getD k2 0)) := by rw [hc9 _ _ (Ne.symm hne01) (by omega)]; exact hc1 k2 (by omega)
      have e2 : h9.cell id0 k2 = some (.int .i64 ((subK R0 R1 k2).getD k2 0)) := by
        rw [H.cell_of hg9, List.getElem?_append_left (by rw [ints_length]; omega), ints_getD (by omega)]
      have e3 : h9.cell P 1 = some (ws.getD 1 .undef) := by rw [hc9 P 1 (by omega) (by omega)]; exact hcell8 1 (by omega)
      have hpl2 : k2 < (ints (subK R0 R1 k2) ++ rest0).length := by rw [List.length_append, ints_length]; omega
      simp (disch := first | omega | (simp only [List.length_set, List.length_replicate, List.length_append, List.length_take, List.length_drop, List.length_cons, List.length_nil, List.length_map, List.length_range, ints_length] <;> omega)) only [go_sem, hs1.ixa, e1', e2, e3, hg9]
      rw [show (k2 : Int) + 1 = ((k2 + 1 : Nat) : Int) from by omega]
      refine ⟨R1.length - (k2 + 1), by omega, k2 + 1, ex_junk rfl, by omega, ?_, fun x hx hxl => ?_, by omega, rfl⟩
      · rw [List.set_append_left _ _ (by rw [ints_length]; omega), ints_set]; rfl
      · rw [H.get_set_ne _ hx]; exact hoth x hx hxl
    · have : R1.length = k2 := by omega
      subst this
      simp (disch := first | omega | (simp only [List.length_set, List.length_replicate, List.length_append, List.length_take, List.length_drop, List.length_cons, List.length_nil, List.length_map, List.length_range, ints_length] <;> omega)) only [go_sem]
      have hF9 : Fr h h9 := ⟨by have := hf7.next; omega, fun x hx => by rw [hoth x (by omega) (by have := hf7.next; omega)]; exact (hf7.trans hf8).get x hx⟩
      refine ⟨hF9, _, _, rfl, rfl, ?_, fun id off n c e => by cases e; omega⟩
      refine .inr ⟨id0, 0, n0, cap0, false, _, rfl, by rw [ints_length]; omega, by omega, hg9, by rw [List.length_append, ints_length]; omega, ?_⟩
      rw [List.drop_zero, Nat.mul_one, show n0 = (ints (subK R0 R1 R1.length)).length by rw [ints_length]; omega, List.take_left]
end
end Go.Proofs.Ythfabknpogbcaaa
/- Contracts of the reference: least, made, Check, Make, Root, Int, both. -/
namespace Go.Proofs.Ythfabknpogbcaaa
open Go Go.Ay
set_option maxRecDepth 100000
noncomputable section

def isPrU (q d : Nat) : Bool := (List.range d).all fun d => decide (d < 2) || q % d != 0
theorem isPrU_succ (q d : Nat) : isPrU q (d + 1) = (isPrU q d && (decide (d < 2) || q % d != 0)) := by
  rw [isPrU, List.range_succ, List.all_append]; simp [isPrU]
theorem lowerF_ok {n q : Nat} {c d : List Int} (h1 : 1 ≤ n) (h2 : n ≤ 120) (hq : q ∈ prOf n) (h : lowerF n q c = some d) : d.length = (phiF (n / q)).length - 1 := lowerF_len (lowOk h1 h2 hq) h

set_option maxHeartbeats 1000000 in
theorem rleast_ok : ∀ (n : Nat) (vc : V) (c : List Int) (h : H), 1 ≤ n → n ≤ 120 → SI h vc c → c.length = (phiF n).length - 1 → inR c →
    Ev T n_ref06_least [.int .i64 (n : Int), vc] h (fun v h' => ∃ u, v = .agg [.int .i64 ((leastF n c).1 : Int), u] ∧ SI h' u (leastF n c).2 ∧ Fr h h' ∧ (u = vc ∨ Frs u h.next)) := by
  intro n
  induction n using Nat.strongRecOn with
  | ind n ih =>
  intro vc c h hn1 hn2 hc hl hr
  refine Ev_of t_ref06_least rfl ?_
  simp (disch := first | omega | (simp only [List.length_set, List.length_replicate, List.length_append, List.length_take, List.length_drop, List.length_cons, List.length_nil, List.length_map, List.length_range, ints_length] <;> omega)) only [go_sem, c_ref06_least, initV_eq]
  have hfa : Fr h (h.new (.cells false [.int .i64 0, .nils])) := (Fr.refl h).new _
  have hga : (h.new (.cells false [.int .i64 0, .nils])).get h.next = some (.cells false [.int .i64 0, .nils]) := H.get_new_same ..
  have hna : (h.new (.cells false [.int .i64 0, .nils])).next = h.next + 1 := H.next_new ..
  generalize h.new (.cells false [.int .i64 0, .nils]) = ha at *
  have hca := hc.mono hfa
  refine Wp_loop (fun k vars h1 => ∃ (q f : Nat), (∃ g : Nat → V, vars = [.int .i64 (n : Int), vc, .ptr h.next 0, .int .i64 (q : Int), g 4, g 5, g 6, g 7, g 8, g 9, g 10, g 11, g 12]) ∧ 2 ≤ q ∧ q + f = 127 ∧ q ≤ n + 2 ∧ (∀ e ∈ rpF n f q, e ∈ prOf n) ∧ (rpF n f q).findSome? (fun q => (lowerF n q c).map (fun d => (q, d))) = stepF n c ∧ Fr ha h1 ∧ k = f) 125
    ⟨2, 125, ex_junk rfl, Nat.le_refl _, rfl, by omega, fun e he => by rw [rp_eq hn2] at he; exact he, by rw [rp_eq hn2]; rfl, Fr.refl ha, rfl⟩ ?_
  rintro k vars h1 ⟨q, f, ⟨g, rfl⟩, hq2, hqf, hqn, hmem, hfs, hf1, rfl⟩
  have hn1' := hf1.next
  have hg1 := (hf1.get h.next (by omega)).trans hga
  simp (disch := first | omega | (simp only [List.length_set, List.length_replicate, List.length_append, List.length_take, List.length_drop, List.length_cons, List.length_nil, List.length_map, List.length_range, ints_length] <;> omega)) only [go_sem]
  refine iteW_dec (fun hle => ?_) (fun hgt => ?_)
  · obtain ⟨f, rfl⟩ : ∃ f', k = f' + 1 := ⟨k - 1, by omega⟩
    rw [rpF, if_pos (by omega)] at hmem hfs
    have em : (n : Int).tmod (q : Int) = ((n % q : Nat) : Int) := tmod_nat ..
    simp (disch := first | omega | (simp only [List.length_set, List.length_replicate, List.length_append, List.length_take, List.length_drop, List.length_cons, List.length_nil, List.length_map, List.length_range, ints_length] <;> omega)) only [go_sem, em]
    refine iteW_dec (fun hnz => ?_) (fun hz => ?_)
    · have hb : (n % q == 0 && isPr q) = false := by rw [show (n % q == 0) = false by simp; omega]; rfl
      rw [hb] at hmem hfs
      simp (disch := first | omega | (simp only [List.length_set, List.length_replicate, List.length_append, List.length_take, List.length_drop, List.length_cons, List.length_nil, List.length_map, List.length_range, ints_length] <;> omega)) only [go_sem]
      rw [show (q : Int) + 1 = ((q + 1 : Nat) : Int) from by omega]
      exact ⟨f, by omega, q + 1, f, ex_junk rfl, by omega, by omega, by omega, hmem, hfs, hf1, rfl⟩
    have hz' : n % q = 0 := by omega
    simp (disch := first | omega | (simp only [List.length_set, List.length_replicate, List.length_append, List.length_take, List.length_drop, List.length_cons, List.length_nil, List.length_map, List.length_range, ints_length] <;> omega)) only [go_sem]
    refine Wp_loop (fun k2 vars h2 => ∃ (d : Nat), (∃ g : Nat → V, vars = [.int .i64 (n : Int), vc, .ptr h.next 0, .int .i64 (q : Int), .bool (isPrU q d), .int .i64 (d : Int), g 6, g 7, g 8, g 9, g 10, g 11, g 12]) ∧ 2 ≤ d ∧ d ≤ q ∧ h2 = h1 ∧ k2 = q - d) (q - 2)
      ⟨2, ex_junk (by rw [show isPrU q 2 = true from rfl]; rfl), Nat.le_refl _, hq2, rfl, rfl⟩ ?_
    rintro k2 vars h2 ⟨d, ⟨g, rfl⟩, hd2, hdq, rfl, rfl⟩
    simp (disch := first | omega | (simp only [List.length_set, List.length_replicate, List.length_append, List.length_take, List.length_drop, List.length_cons, List.length_nil, List.length_map, List.length_range, ints_length] <;> omega)) only [go_sem]
    refine iteW_dec (fun hlt => ?_) (fun hge => ?_)
    · have hstep := isPrU_succ q d
      rw [show decide (d < 2) = false by simp; omega, Bool.false_or] at hstep
      have em2 : (q : Int).tmod (d : Int) = ((q % d : Nat) : Int) := tmod_nat ..
      cases hp : isPrU q d with
      | false =>
        rw [hp, Bool.false_and] at hstep
        simp (disch := first | omega | (simp only [List.length_set, List.length_replicate, List.length_append, List.length_take, List.length_drop, List.length_cons, List.length_nil, List.length_map, List.length_range, ints_length] <;> omega)) only [go_sem]
        rw [show (d : Int) + 1 = ((d + 1 : Nat) : Int) from by omega]
        exact ⟨q - (d + 1), by omega, d + 1, ex_junk (by rw [hstep]; rfl), by omega, by omega, rfl⟩
      | true =>
        rw [hp, Bool.true_and] at hstep
        have hdec : (q % d != 0) = decide (((q % d : Nat) : Int) ≠ 0) := by
          by_cases h0 : q % d = 0
          · rw [h0]; rfl
          · rw [decide_eq_true (by omega)]; simp [h0]
        simp (disch := first | omega | (simp only [List.length_set, List.length_replicate, List.length_append, List.length_take, List.length_drop, List.length_cons, List.length_nil, List.length_map, List.length_range, ints_length] <;> omega)) only [go_sem, em2]
        rw [show (d : Int) + 1 = ((d + 1 : Nat) : Int) from by omega]
        refine ⟨q - (d + 1), by omega, d + 1, ex_junk (by rw [hstep, hdec]; rfl), by omega, by omega, rfl⟩
    have hdq' : q = d := by omega
    subst hdq'
    have hisPr : isPrU q q = isPr q := rfl
    rw [hisPr]
    simp (disch := first | omega | (simp only [List.length_set, List.length_replicate, List.length_append, List.length_take, List.length_drop, List.length_cons, List.length_nil, List.length_map, List.length_range, ints_length] <;> omega)) only [go_sem]
    refine iteW_bool (fun hp => ?_) (fun hp => ?_)
    · rw [hp, Bool.and_true, show (n % q == 0) = true by simp [hz'], if_pos rfl] at hmem hfs
      have hqm := hmem q (List.mem_cons_self ..)
      rw [List.findSome?_cons] at hfs
      simp (disch := first | omega | (simp only [List.length_set, List.length_replicate, List.length_append, List.length_take, List.length_drop, List.length_cons, List.length_nil, List.length_map, List.length_range, ints_length] <;> omega)) only [go_sem]
      refine (rlower_ok n q vc c h2 hn1 hn2 hqm (hca.mono hf1) hl hr).mono ?_
      rintro v3 h3 ⟨hf3, u, t, rfl, hlow⟩
      have hn3 := hf3.next
      simp (disch := first | omega | (simp only [List.length_set, List.length_replicate, List.length_append, List.length_take, List.length_drop, List.length_cons, List.length_nil, List.length_map, List.length_range, ints_length] <;> omega)) only [go_sem, List.getElem?_cons_zero, List.getElem?_cons_succ]
      cases hlw : lowerF n q c with
      | none =>
        rw [hlw] at hlow hfs
        simp only at hlow
        subst hlow
        simp (disch := first | omega | (simp only [List.length_set, List.length_replicate, List.length_append, List.length_take, List.length_drop, List.length_cons, List.length_nil, List.length_map, List.length_range, ints_length] <;> omega)) only [go_sem]
        rw [show (q : Int) + 1 = ((q + 1 : Nat) : Int) from by omega]
        exact ⟨f, by omega, q + 1, f, ex_junk rfl, by omega, by omega, by omega, fun e he => hmem e (List.mem_cons_of_mem _ he), hfs, hf1.trans hf3, rfl⟩
      | some d =>
        rw [hlw] at hlow hfs
        simp only at hlow
        obtain ⟨rfl, hu, huf⟩ := hlow
        have hs : stepF n c = some (q, d) := hfs.symm
        have hlt := (lowOk hn1 hn2 hqm).lt
        have hdl := lowerF_ok hn1 hn2 hqm hlw
        have hdr := lowerF_in hr hlw
        have ed : (n : Int).tdiv (q : Int) = ((n / q : Nat) : Int) := rfl
        obtain ⟨m, hm⟩ : ∃ m, n / q = m := ⟨_, rfl⟩
        have hls := leastF_step hn1 hn2 hs
        rw [hm] at hlt hdl ed hls
        simp (disch := first | omega | (simp only [List.length_set, List.length_replicate, List.length_append, List.length_take, List.length_drop, List.length_cons, List.length_nil, List.length_map, List.length_range, ints_length] <;> omega)) only [go_sem, ed]
        refine (ih m hlt.2 u d h3 hlt.1 (by omega) hu hdl hdr).mono ?_
        rintro v4 h4 ⟨w, rfl, hw, hf4, hwf⟩
        have hn4 := hf4.next
        have hg4 := (hf4.get h.next (by omega)).trans ((hf3.get h.next (by omega)).trans hg1)
        have hst := fun hh => stV_agg2 hh h.next 0 (v := .int .i64 ((leastF m d).1 : Int)) (u := w) rfl hw.what.2.1
        have hrow := row_two (h := h4.set h.next (some (.cells false [.int .i64 ((leastF m d).1 : Int), w]))) (H.get_set_same ..)
        simp (disch := first | omega | (simp only [List.length_set, List.length_replicate, List.length_append, List.length_take, List.length_drop, List.length_cons, List.length_nil, List.length_map, List.length_range, ints_length] <;> omega)) only [go_sem, hst, hg4, hrow]
        rw [hls]
        have hwF : Frs w (h.next + 1) := by
          rcases hwf with rfl | hwf
          · exact huf.le (by omega)
          · exact hwf.le (by omega)
        exact ⟨_, rfl, SI.set_frs hw hwF (by omega) _, (((hfa.trans hf1).trans hf3).trans hf4).set (Nat.le_refl _) _, .inr (hwF.le (by omega))⟩
    · rw [hp, Bool.and_false] at hmem hfs
      simp (disch := first | omega | (simp only [List.length_set, List.length_replicate, List.length_append, List.length_take, List.length_drop, List.length_cons, List.length_nil, List.length_map, List.length_range, ints_length] <;> omega)) only [go_sem]
      rw [show (q : Int) + 1 = ((q + 1 : Nat) : Int) from by omega]
      exact ⟨f, by omega, q + 1, f, ex_junk rfl, by omega, by omega, by omega, hmem, hfs, hf1, rfl⟩
  · have hst0 : stepF n c = none := by
      rw [← hfs]
      cases k with
      | zero => rfl
      | succ f => rw [rpF, if_neg (by omega)]; rfl
    rw [leastF_stop hn1 hst0]
    have hc1 := hca.mono hf1
    have hst := fun hh => stV_agg2 hh h.next 0 (v := .int .i64 (n : Int)) (u := vc) rfl hc.what.2.1
    have hrow := row_two (h := h1.set h.next (some (.cells false [.int .i64 (n : Int), vc]))) (H.get_set_same ..)
    simp (disch := first | omega | (simp only [List.length_set, List.length_replicate, List.length_append, List.length_take, List.length_drop, List.length_cons, List.length_nil, List.length_map, List.length_range, ints_length] <;> omega)) only [go_sem, bldV_two (v := .int .i64 (n : Int)) rfl rfl hc.what.1 hc.what.2.1, hst, hg1, hrow]
    exact ⟨_, rfl, SV.set_ne hc1 (fun off len cc e => by subst e; have := SV.ne_of hc; omega) _, (hfa.trans hf1).set (Nat.le_refl _) _, .inl rfl⟩

theorem redF_len2 (n : Nat) (c : List Int) : (redF n c).length = (phiF n).length - 1 := redF_len n c

theorem rmade_ok (n : Nat) (vc : V) (c : List Int) (h : H) (h1 : 1 ≤ n) (h2 : n ≤ 120) (hc : SI h vc c) (hl : c.length < 1000000) (hr : inR c) :
    Ev T n_ref06_made [.int .i64 (n : Int), vc] h (fun v h' => ∃ w, v = .tup [w, .int .i64 (madeF n c).2] ∧ CycO h' w (madeF n c).1 h.next ∧ Fr h h') := by
  refine Ev_of t_ref06_made rfl ?_
  simp (disch := first | omega | (simp only [List.length_set, List.length_replicate, List.length_append, List.length_take, List.length_drop, List.length_cons, List.length_nil, List.length_map, List.length_range, ints_length] <;> omega)) only [go_sem, c_ref06_made, initV_eq]
  have hfa : Fr h (h.new (.cells false [.int .i64 0, .nils])) := (Fr.refl h).new _
  have hga : (h.new (.cells false [.int .i64 0, .nils])).get h.next = some (.cells false [.int .i64 0, .nils]) := H.get_new_same ..
  have hna : (h.new (.cells false [.int .i64 0, .nils])).next = h.next + 1 := H.next_new ..
  generalize h.new (.cells false [.int .i64 0, .nils]) = ha at *
  refine (rreduced_ok n vc c ha h1 h2 (hc.mono hfa) hl).mono ?_
  rintro v2 hd ⟨ho2, hf2⟩
  have hrl := redF_len n c
  have hpl := phi_len h1 h2
  simp (disch := first | omega | (simp only [List.length_set, List.length_replicate, List.length_append, List.length_take, List.length_drop, List.length_cons, List.length_nil, List.length_map, List.length_range, ints_length] <;> omega)) only [go_sem]
  refine (rleast_ok n v2 (redF n c) hd h1 h2 ho2.sv hrl (redF_in n hr)).mono ?_
  rintro v3 he ⟨u, rfl, hu, hf3, huf⟩
  have hF : Fr ha he := hf2.trans hf3
  have hge := (hF.get h.next (by omega)).trans hga
  have hL := leastG_len n n (redF n c) h1 h2 (by omega)
  have hn2 := hf2.next
  have hxn := hF.next
  have hufr : Frs u (h.next + 1) := by
    rcases huf with rfl | huf
    · exact (Frs.own ho2).le (by omega)
    · exact huf.le (by omega)
  have hst := fun hh => stV_agg2 hh he.next 0 (v := .int .i64 ((leastF n (redF n c)).1 : Int)) (u := u) rfl hu.what.2.1
  have hst2 := fun hh => stV_agg2 hh h.next 0 (v := .int .i64 0) (u := .nils) rfl rfl
  have hst3 := fun hh => stV_agg2 hh h.next 0 (v := .int .i64 ((leastF n (redF n c)).1 : Int)) (u := u) rfl hu.what.2.1
  simp (disch := first | omega | (simp only [List.length_set, List.length_replicate, List.length_append, List.length_take, List.length_drop, List.length_cons, List.length_nil, List.length_map, List.length_range, ints_length] <;> omega)) only [go_sem, hst, List.getElem?_cons_zero, List.getElem?_cons_succ]
  have hu2 : SI ((he.new (.cells false [.int .i64 0, .nils])).set he.next (some (.cells false [.int .i64 ((leastF n (redF n c)).1 : Int), u]))) u (leastF n (redF n c)).2 :=
    SV.set_ne (SV.mono hu ((Fr.refl he).new _)) (fun off len cc e => by subst e; have := SV.ne_of hu; omega) _
  have hF2 : Fr ha ((he.new (.cells false [.int .i64 0, .nils])).set he.next (some (.cells false [.int .i64 ((leastF n (redF n c)).1 : Int), u]))) := (hF.new _).set hxn _
  have hgf : ((he.new (.cells false [.int .i64 0, .nils])).set he.next (some (.cells false [.int .i64 ((leastF n (redF n c)).1 : Int), u]))).get he.next = some (.cells false [.int .i64 ((leastF n (redF n c)).1 : Int), u]) := H.get_set_same ..
  generalize (he.new (.cells false [.int .i64 0, .nils])).set he.next (some (.cells false [.int .i64 ((leastF n (redF n c)).1 : Int), u])) = hg at *
  have hgg := (hF2.get h.next (by omega)).trans hga
  refine (rover_ok u (leastF n (redF n c)).2 _ hu2 (by have := hL.2.1; have := hL.2.2; unfold leastF; omega)).mono ?_
  rintro v4 h4 ⟨rfl, rfl⟩
  simp (disch := first | omega | (simp only [List.length_set, List.length_replicate, List.length_append, List.length_take, List.length_drop, List.length_cons, List.length_nil, List.length_map, List.length_range, ints_length] <;> omega)) only [go_sem]
  refine iteW_bool (fun hp => ?_) (fun hp => ?_)
  · have hm : madeF n c = ((0, []), 5) := by simp only [madeF]; rw [if_pos hp]
    have hrow := row_two (h := h4.set h.next (some (.cells false [.int .i64 0, .nils]))) (H.get_set_same ..)
    simp (disch := first | omega | (simp only [List.length_set, List.length_replicate, List.length_append, List.length_take, List.length_drop, List.length_cons, List.length_nil, List.length_map, List.length_range, ints_length] <;> omega)) only [go_sem, hst2, hgg, hrow]
    rw [hm]
    exact ⟨_, rfl, CycO.zero _ _, (hfa.trans hF2).set (Nat.le_refl _) _⟩
  · have hm : madeF n c = ((((leastF n (redF n c)).1 : Int), (leastF n (redF n c)).2), 0) := by simp only [madeF]; rw [if_neg (by rw [hp]; simp)]
    have hrow := row_two (h := h4.set h.next (some (.cells false [.int .i64 ((leastF n (redF n c)).1 : Int), u]))) (H.get_set_same ..)
    have hrow4 := row_two hgf
    simp (disch := first | omega | (simp only [List.length_set, List.length_replicate, List.length_append, List.length_take, List.length_drop, List.length_cons, List.length_nil, List.length_map, List.length_range, ints_length] <;> omega)) only [go_sem, hst3, hgg, hrow, hrow4]
    rw [hm]
    exact ⟨_, rfl, ⟨_, rfl, SI.set_frs hu2 hufr (by omega) _, hufr.le (by omega)⟩, (hfa.trans hF2).set (Nat.le_refl _) _⟩

theorem leastG_le : ∀ (f n : Nat) (c : List Int), (leastG f n c).1 ≤ n
  | 0, n, c => Nat.le_refl _
  | f + 1, n, c => by
    rw [leastG]
    cases stepF n c with
    | none => exact Nat.le_refl _
    | some p => exact Nat.le_trans (leastG_le f _ _) (Nat.div_le_self _ _)

set_option maxHeartbeats 1000000 in
theorem rcheck_ok (v : V) (a : Int × List Int) (h : H) (ha : CycV h v a) (hl : a.2.length < 1000000) (hr : inR a.2) :
    Ev T n_ref06_Check [v] h (fun v h' => v = .int .i64 (checkF a) ∧ Fr h h') := by
  obtain ⟨u, rfl, hu⟩ := ha
  obtain ⟨N, C⟩ := a
  refine Ev_of t_ref06_Check rfl ?_
  simp (disch := first | omega | (simp only [List.length_set, List.length_replicate, List.length_append, List.length_take, List.length_drop, List.length_cons, List.length_nil, List.length_map, List.length_range, ints_length] <;> omega)) only [go_sem, c_ref06_Check, initV_eq, boxV_agg2 h (v := .int .i64 N) rfl hu.what.2.1]
  have hfa : Fr h (h.new (.cells false [.int .i64 N, u])) := (Fr.refl h).new _
  have hga : (h.new (.cells false [.int .i64 N, u])).get h.next = some (.cells false [.int .i64 N, u]) := H.get_new_same ..
  have hna : (h.new (.cells false [.int .i64 N, u])).next = h.next + 1 := H.next_new ..
  generalize h.new (.cells false [.int .i64 N, u]) = ha at *
  have c0 : ha.cell h.next 0 = some (.int .i64 N) := by rw [H.cell_of hga]; rfl
  have c1 : ha.cell h.next 1 = some u := by rw [H.cell_of hga]; rfl
  by_cases h1 : N < 1
  · rw [decide_eq_true h1]
    simp (disch := first | omega | (simp only [List.length_set, List.length_replicate, List.length_append, List.length_take, List.length_drop, List.length_cons, List.length_nil, List.length_map, List.length_range, ints_length] <;> omega)) only [go_sem]
    exact ⟨by rw [checkF, if_pos (.inl h1)], hfa⟩
  rw [decide_eq_false h1]
  simp (disch := first | omega | (simp only [List.length_set, List.length_replicate, List.length_append, List.length_take, List.length_drop, List.length_cons, List.length_nil, List.length_map, List.length_range, ints_length] <;> omega)) only [go_sem, c0]
  refine iteW_dec (fun h2 => ?_) (fun h2 => ?_)
  · simp (disch := first | omega | (simp only [List.length_set, List.length_replicate, List.length_append, List.length_take, List.length_drop, List.length_cons, List.length_nil, List.length_map, List.length_range, ints_length] <;> omega)) only [go_sem]
    exact ⟨by rw [checkF, if_pos (.inr h2)], hfa⟩
  obtain ⟨m, hm⟩ : ∃ m : Nat, N = (m : Int) := ⟨N.toNat, by omega⟩
  subst hm
  have hpl := phi_len (n := m) (by omega) (by omega)
  have hCk : checkF ((m : Int), C) = if C.length ≠ (phiF m).length - 1 then 3 else if C.any overF then 5 else if (leastF m C).1 < m then 3 else 0 := by
    rw [checkF, if_neg (by omega)]; rfl
  rw [hCk]
  simp (disch := first | omega | (simp only [List.length_set, List.length_replicate, List.length_append, List.length_take, List.length_drop, List.length_cons, List.length_nil, List.length_map, List.length_range, ints_length] <;> omega)) only [go_sem, c0, c1, (hu.mono hfa).lens]
  refine (rphi_ok m _ (by omega) (by omega)).mono ?_
  rintro v2 hb ⟨hv2, hfb, _⟩
  have hfb' : Fr ha hb := ((Fr.refl ha).bump (by omega)).trans hfb
  have hnb := hfb'.next
  have hgb := (hfb'.get h.next (by omega)).trans hga
  have d0 : hb.cell h.next 0 = some (.int .i64 (m : Int)) := by rw [H.cell_of hgb]; rfl
  have d1 : hb.cell h.next 1 = some u := by rw [H.cell_of hgb]; rfl
  have hub := (hu.mono hfa).mono hfb'
  simp (disch := first | omega | (simp only [List.length_set, List.length_replicate, List.length_append, List.length_take, List.length_drop, List.length_cons, List.length_nil, List.length_map, List.length_range, ints_length] <;> omega)) only [go_sem, hv2.lens, d0, d1, SV.eqV hub, List.getElem?_cons_zero, List.getElem?_cons_succ]
  refine iteW_dec (fun h3 => ?_) (fun h3 => ?_)
  · simp (disch := first | omega | (simp only [List.length_set, List.length_replicate, List.length_append, List.length_take, List.length_drop, List.length_cons, List.length_nil, List.length_map, List.length_range, ints_length] <;> omega)) only [go_sem]
    rw [if_pos (by omega)]
    exact ⟨rfl, hfa.trans hfb'⟩
  rw [if_neg (by omega)]
  have hCl : C.length = (phiF m).length - 1 := by omega
  simp (disch := first | omega | (simp only [List.length_set, List.length_replicate, List.length_append, List.length_take, List.length_drop, List.length_cons, List.length_nil, List.length_map, List.length_range, ints_length] <;> omega)) only [go_sem, d1]
  refine (rover_ok u C hb hub (by omega)).mono ?_
  rintro v3 h3' ⟨rfl, rfl⟩
  simp (disch := first | omega | (simp only [List.length_set, List.length_replicate, List.length_append, List.length_take, List.length_drop, List.length_cons, List.length_nil, List.length_map, List.length_range, ints_length] <;> omega)) only [go_sem]
  refine iteW_bool (fun hp => ?_) (fun hp => ?_)
  · simp (disch := first | omega | (simp only [List.length_set, List.length_replicate, List.length_append, List.length_take, List.length_drop, List.length_cons, List.length_nil, List.length_map, List.length_range, ints_length] <;> omega)) only [go_sem]
    rw [if_pos hp]
    exact ⟨rfl, hfa.trans hfb'⟩
  rw [if_neg (by rw [hp]; simp)]
  simp (disch := first | omega | (simp only [List.length_set, List.length_replicate, List.length_append, List.length_take, List.length_drop, List.length_cons, List.length_nil, List.length_map, List.length_range, ints_length] <;> omega)) only [go_sem, d0, d1]
  refine (rleast_ok m u C _ (by omega) (by omega) (hub.mono ((Fr.refl h3').bump (by omega))) hCl hr).mono ?_
  rintro v4 h4 ⟨w, rfl, hw, hf4, _⟩
  have hf4' : Fr h3' h4 := ((Fr.refl h3').bump (by omega)).trans hf4
  have hg4 := (hf4'.get h.next (by omega)).trans hgb
  have e0 : h4.cell h.next 0 = some (.int .i64 (m : Int)) := by rw [H.cell_of hg4]; rfl
  have hle := leastG_le m m C
  have hle' : (leastF m C).1 ≤ m := hle
  simp (disch := first | omega | (simp only [List.length_set, List.length_replicate, List.length_append, List.length_take, List.length_drop, List.length_cons, List.length_nil, List.length_map, List.length_range, ints_length] <;> omega)) only [go_sem, e0, List.getElem?_cons_zero]
  refine iteW_dec (fun h5 => ?_) (fun h5 => ?_)
  · simp (disch := first | omega | (simp only [List.length_set, List.length_replicate, List.length_append, List.length_take, List.length_drop, List.length_cons, List.length_nil, List.length_map, List.length_range, ints_length] <;> omega)) only [go_sem]
    rw [if_pos (by omega)]
    exact ⟨rfl, (hfa.trans hfb').trans hf4'⟩
  · simp (disch := first | omega | (simp only [List.length_set, List.length_replicate, List.length_append, List.length_take, List.length_drop, List.length_cons, List.length_nil, List.length_map, List.length_range, ints_length] <;> omega)) only [go_sem]
    rw [if_neg (by omega)]
    exact ⟨rfl, (hfa.trans hfb').trans hf4'⟩
end
end Go.Proofs.Ythfabknpogbcaaa
/- Contracts of the reference: Make, Root, Int, both, Add. -/
namespace Go.Proofs.Ythfabknpogbcaaa
open Go Go.Ay
set_option maxRecDepth 100000
noncomputable section

theorem accF_in (ix : Nat → Nat) (val : Nat → Int) {l0 : List Int} (h : inR l0) : ∀ k, inR (accF ix val l0 k)
  | 0 => h
  | k + 1 => by rw [accF]; exact (accF_in ix val h k).set (W_in _) _
theorem mulS_in (n N M : Nat) (A B : List Int) : ∀ i, inR (mulS n N M A B i)
  | 0 => by rw [mulS]; exact inR.zeros _
  | i + 1 => by rw [mulS, mulR]; exact accF_in _ _ (mulS_in n N M A B i) _

/-- 'add', in a list of one's own. -/
theorem radd_acc (id n : Nat) (cap : Cap) (l : List Int) (k x : Int) (z : Nat) (h : H) (hl : l.length = n) (hg : h.get id = some (.cells false (ints l))) (h0 : 0 < n) (h1 : n < 1000000) (hz : k % (n : Int) = (z : Int)) :
    Ev T n_ref06_add [.sl id 0 n cap, .int .i64 k, .int .i64 x] h (fun _ h' => h' = h.set id (some (.cells false (ints (l.set z (W (l.getD z 0 + x))))))) := by
  subst hl
  have := radd_ok id cap l k x h hg h0 h1
  rw [hz, Int.toNat_natCast] at this
  exact this

set_option maxHeartbeats 1000000 in
theorem rmake_ok (n : Int) (vc : V) (c : List Int) (h : H) (hc : SI h vc c) (hl : c.length < 1000000) :
    Ev T n_ref06_Make [.int .i64 n, vc] h (fun v h' => ∃ w, v = .tup [w, .int .i64 (makeF n c).2] ∧ CycO h' w (makeF n c).1 h.next ∧ Fr h h') := by
  refine Ev_of t_ref06_Make rfl ?_
  simp (disch := first | omega | (simp only [List.length_set, List.length_replicate, List.length_append, List.length_take, List.length_drop, List.length_cons, List.length_nil, List.length_map, List.length_range, ints_length] <;> omega)) only [go_sem, c_ref06_Make, initV_eq]
  have hfa : Fr h (h.new (.cells false [.int .i64 0, .nils])) := (Fr.refl h).new _
  have hga : (h.new (.cells false [.int .i64 0, .nils])).get h.next = some (.cells false [.int .i64 0, .nils]) := H.get_new_same ..
  have hna : (h.new (.cells false [.int .i64 0, .nils])).next = h.next + 1 := H.next_new ..
  have hst0 := fun hh => stV_agg2 hh h.next 0 (v := .int .i64 0) (u := .nils) rfl rfl
  generalize h.new (.cells false [.int .i64 0, .nils]) = ha at *
  have hrow0 := row_two (h := ha.set h.next (some (.cells false [.int .i64 0, .nils]))) (H.get_set_same ..)
  have hz : Fr h (ha.set h.next (some (.cells false [.int .i64 0, .nils]))) := hfa.set (Nat.le_refl _) _
  have hca := hc.mono hfa
  by_cases h1 : n < 1
  · rw [decide_eq_true h1]
    simp (disch := first | omega | (simp only [List.length_set, List.length_replicate, List.length_append, List.length_take, List.length_drop, List.length_cons, List.length_nil, List.length_map, List.length_range, ints_length] <;> omega)) only [go_sem, hst0, hga, hrow0]
    rw [makeF, if_pos (.inl h1)]
    exact ⟨_, rfl, CycO.zero _ _, hz⟩
  rw [decide_eq_false h1]
  simp (disch := first | omega | (simp only [List.length_set, List.length_replicate, List.length_append, List.length_take, List.length_drop, List.length_cons, List.length_nil, List.length_map, List.length_range, ints_length] <;> omega)) only [go_sem]
  refine iteW_dec (fun h2 => ?_) (fun h2 => ?_)
  · simp (disch := first | omega | (simp only [List.length_set, List.length_replicate, List.length_append, List.length_take, List.length_drop, List.length_cons, List.length_nil, List.length_map, List.length_range, ints_length] <;> omega)) only [go_sem, hst0, hga, hrow0]
    rw [makeF, if_pos (.inr h2)]
    exact ⟨_, rfl, CycO.zero _ _, hz⟩
  rw [makeF, if_neg (by omega)]
  simp (disch := first | omega | (simp only [List.length_set, List.length_replicate, List.length_append, List.length_take, List.length_drop, List.length_cons, List.length_nil, List.length_map, List.length_range, ints_length] <;> omega)) only [go_sem, hc.lens]
  refine iteW_dec (fun h3 => ?_) (fun h3 => ?_)
  · simp (disch := first | omega | (simp only [List.length_set, List.length_replicate, List.length_append, List.length_take, List.length_drop, List.length_cons, List.length_nil, List.length_map, List.length_range, ints_length] <;> omega)) only [go_sem, hst0, hga, hrow0]
    rw [if_pos (by omega)]
    exact ⟨_, rfl, CycO.zero _ _, hz⟩
  rw [if_neg (by omega)]
  simp (disch := first | omega | (simp only [List.length_set, List.length_replicate, List.length_append, List.length_take, List.length_drop, List.length_cons, List.length_nil, List.length_map, List.length_range, ints_length] <;> omega)) only [go_sem]
  refine (rover_ok vc c ha hca hl).mono ?_
  rintro v2 h2' ⟨rfl, rfl⟩
  simp (disch := first | omega | (simp only [List.length_set, List.length_replicate, List.length_append, List.length_take, List.length_drop, List.length_cons, List.length_nil, List.length_map, List.length_range, ints_length] <;> omega)) only [go_sem]
  refine iteW_bool (fun hp => ?_) (fun hp => ?_)
  · simp (disch := first | omega | (simp only [List.length_set, List.length_replicate, List.length_append, List.length_take, List.length_drop, List.length_cons, List.length_nil, List.length_map, List.length_range, ints_length] <;> omega)) only [go_sem, hst0, hga, hrow0]
    rw [if_pos hp]
    exact ⟨_, rfl, CycO.zero _ _, hz⟩
  rw [if_neg (by rw [hp]; simp)]
  obtain ⟨m, hm⟩ : ∃ m : Nat, n = (m : Int) := ⟨n.toNat, by omega⟩
  subst hm
  rw [Int.toNat_natCast]
  obtain ⟨cid, coff, hcs, hcid, hcc⟩ := hca.open
  simp (disch := first | omega | (simp only [List.length_set, List.length_replicate, List.length_append, List.length_take, List.length_drop, List.length_cons, List.length_nil, List.length_map, List.length_range, ints_length] <;> omega)) only [go_sem]
  have hnb : (h2'.new (.cells false (ints (List.replicate m 0)))).next = h2'.next + 1 := H.next_new ..
  have hgb : (h2'.new (.cells false (ints (List.replicate m 0)))).get h2'.next = some (.cells false (ints (List.replicate m 0))) := H.get_new_same ..
  have hfb : Fr h2' (h2'.new (.cells false (ints (List.replicate m 0)))) := (Fr.refl h2').new _
  generalize h2'.new (.cells false (ints (List.replicate m 0))) = hb at *
  refine Wp_loop (fun k' vars h6 => ∃ (j : Nat), (∃ g : Nat → V, vars = [.int .i64 (m : Int), vc, .ptr h.next 0, g 3, .sl h2'.next 0 m (.kn m), .int .i64 (j : Int), g 6, g 7, g 8, g 9]) ∧ j ≤ c.length ∧
    h6.get h2'.next = some (.cells false (ints (accF (fun i => i % m) (fun i => c.getD i 0) (List.replicate m 0) j))) ∧ Fr h2' h6 ∧ h2'.next < h6.next ∧ k' = c.length - j) c.length
    ⟨0, ex_junk rfl, Nat.zero_le _, hgb, hfb, by omega, rfl⟩ ?_
  rintro k' vars h6 ⟨j, ⟨g, rfl⟩, hj, hg6, hf6, hn6, rfl⟩
  have hal := accF_len (fun i => i % m) (fun i => c.getD i 0) (List.replicate m 0) j
  rw [List.length_replicate] at hal
  simp (disch := first | omega | (simp only [List.length_set, List.length_replicate, List.length_append, List.length_take, List.length_drop, List.length_cons, List.length_nil, List.length_map, List.length_range, ints_length] <;> omega)) only [go_sem, hc.lens]
  refine iteW_dec (fun hjc => ?_) (fun hjc => ?_)
  · have hcc6 := cells_fr hf6 hcid hcc
    simp (disch := first | omega | (simp only [List.length_set, List.length_replicate, List.length_append, List.length_take, List.length_drop, List.length_cons, List.length_nil, List.length_map, List.length_range, ints_length] <;> omega)) only [go_sem, hcs.ixa, hcc6]
    refine (radd_acc h2'.next m (.kn m) _ (j : Int) (c.getD j 0) (j % m) h6 hal hg6 (by omega) (by omega) (by omega)).mono ?_
    rintro v7 h7 rfl
    simp (disch := first | omega | (simp only [List.length_set, List.length_replicate, List.length_append, List.length_take, List.length_drop, List.length_cons, List.length_nil, List.length_map, List.length_range, ints_length] <;> omega)) only [go_sem]
    rw [show (j : Int) + 1 = ((j + 1 : Nat) : Int) from by omega]
    exact ⟨c.length - (j + 1), by omega, j + 1, ex_junk rfl, by omega, rfl, hf6.set (Nat.le_refl _) _, hn6, rfl⟩
  · have : c.length = j := by omega
    subst this
    simp (disch := first | omega | (simp only [List.length_set, List.length_replicate, List.length_append, List.length_take, List.length_drop, List.length_cons, List.length_nil, List.length_map, List.length_range, ints_length] <;> omega)) only [go_sem]
    have hsi : SI h6 (.sl h2'.next 0 m (.kn m)) (accF (fun i => i % m) (fun i => c.getD i 0) (List.replicate m 0) c.length) := by
      have := SI.own (h := h6) (id := h2'.next) (by omega) hg6 (.kn m)
      rw [hal] at this; exact this
    refine (rmade_ok m _ _ h6 (by omega) (by omega) hsi (by omega) (accF_in _ _ (inR.zeros _) _)).mono ?_
    rintro v7 h7 ⟨w, rfl, hcy, hf7⟩
    generalize madeF m _ = M at *
    have hf47 : Fr h2' h7 := hf6.trans hf7
    have hg7 := (hf47.get h.next (by omega)).trans hga
    obtain ⟨u', rfl, hu', hfu⟩ := hcy
    have hst3 := fun hh => stV_agg2 hh h.next 0 (v := .int .i64 M.1.1) (u := u') rfl hu'.what.2.1
    have hrow := row_two (h := h7.set h.next (some (.cells false [.int .i64 M.1.1, u']))) (H.get_set_same ..)
    simp (disch := first | omega | (simp only [List.length_set, List.length_replicate, List.length_append, List.length_take, List.length_drop, List.length_cons, List.length_nil, List.length_map, List.length_range, ints_length] <;> omega)) only [go_sem, hst3, hg7, hrow, List.getElem?_cons_zero, List.getElem?_cons_succ]
    exact ⟨_, rfl, (CycO.set ⟨u', rfl, hu', hfu⟩ (by omega) _).le (by omega), (hfa.trans hf47).set (by omega) _⟩

theorem rRoot_ok (n k : Int) (h : H) : Ev T n_ref06_Root [.int .i64 n, .int .i64 k] h (fun v h' => ∃ w, v = .tup [w, .int .i64 (rootF n k).2] ∧ CycO h' w (rootF n k).1 h.next ∧ Fr h h') := by
  refine Ev_of t_ref06_Root rfl ?_
  simp (disch := first | omega | (simp only [List.length_set, List.length_replicate, List.length_append, List.length_take, List.length_drop, List.length_cons, List.length_nil, List.length_map, List.length_range, ints_length] <;> omega)) only [go_sem, c_ref06_Root, initV_eq]
  have hfa : Fr h (h.new (.cells false [.int .i64 0, .nils])) := (Fr.refl h).new _
  have hga : (h.new (.cells false [.int .i64 0, .nils])).get h.next = some (.cells false [.int .i64 0, .nils]) := H.get_new_same ..
  have hna : (h.new (.cells false [.int .i64 0, .nils])).next = h.next + 1 := H.next_new ..
  have hst0 := fun hh => stV_agg2 hh h.next 0 (v := .int .i64 0) (u := .nils) rfl rfl
  generalize h.new (.cells false [.int .i64 0, .nils]) = ha at *
  have hrow0 := row_two (h := ha.set h.next (some (.cells false [.int .i64 0, .nils]))) (H.get_set_same ..)
  have hz : Fr h (ha.set h.next (some (.cells false [.int .i64 0, .nils]))) := hfa.set (Nat.le_refl _) _
  by_cases h1 : n < 1
  · rw [decide_eq_true h1]
    simp (disch := first | omega | (simp only [List.length_set, List.length_replicate, List.length_append, List.length_take, List.length_drop, List.length_cons, List.length_nil, List.length_map, List.length_range, ints_length] <;> omega)) only [go_sem, hst0, hga, hrow0]
    rw [rootF, if_pos (.inl h1)]
    exact ⟨_, rfl, CycO.zero _ _, hz⟩
  rw [decide_eq_false h1]
  simp (disch := first | omega | (simp only [List.length_set, List.length_replicate, List.length_append, List.length_take, List.length_drop, List.length_cons, List.length_nil, List.length_map, List.length_range, ints_length] <;> omega)) only [go_sem]
  refine iteW_dec (fun h2 => ?_) (fun h2 => ?_)
  · simp (disch := first | omega | (simp only [List.length_set, List.length_replicate, List.length_append, List.length_take, List.length_drop, List.length_cons, List.length_nil, List.length_map, List.length_range, ints_length] <;> omega)) only [go_sem, hst0, hga, hrow0]
    rw [rootF, if_pos (.inr h2)]
    exact ⟨_, rfl, CycO.zero _ _, hz⟩
  rw [rootF, if_neg (by omega)]
  obtain ⟨m, hm⟩ : ∃ m : Nat, n = (m : Int) := ⟨n.toNat, by omega⟩
  subst hm
  rw [Int.toNat_natCast]
  simp (disch := first | omega | (simp only [List.length_set, List.length_replicate, List.length_append, List.length_take, List.length_drop, List.length_cons, List.length_nil, List.length_map, List.length_range, ints_length] <;> omega)) only [go_sem]
  have hnb : (ha.new (.cells false (ints (List.replicate m 0)))).next = ha.next + 1 := H.next_new ..
  have hgb : (ha.new (.cells false (ints (List.replicate m 0)))).get ha.next = some (.cells false (ints (List.replicate m 0))) := H.get_new_same ..
  have hfb : Fr ha (ha.new (.cells false (ints (List.replicate m 0)))) := (Fr.refl ha).new _
  generalize ha.new (.cells false (ints (List.replicate m 0))) = hb at *
  have hr0 := Int.emod_nonneg k (show (m : Int) ≠ 0 by omega)
  have hr1 := Int.emod_lt_of_pos k (show (0 : Int) < m by omega)
  obtain ⟨r, hr⟩ : ∃ r : Nat, k % (m : Int) = (r : Int) := ⟨(k % (m : Int)).toNat, by omega⟩
  refine (radd_acc ha.next m (.kn m) _ k 1 r hb List.length_replicate hgb (by omega) (by omega) hr).mono ?_
  rintro v6 h6 rfl
  simp (disch := first | omega | (simp only [List.length_set, List.length_replicate, List.length_append, List.length_take, List.length_drop, List.length_cons, List.length_nil, List.length_map, List.length_range, ints_length] <;> omega)) only [go_sem]
  have hg6 : (hb.set ha.next (some (.cells false (ints ((List.replicate m 0).set r (W ((List.replicate m 0).getD r 0 + 1))))))).get ha.next = some (.cells false (ints ((List.replicate m 0).set r (W ((List.replicate m 0).getD r 0 + 1))))) := H.get_set_same ..
  have hf6 : Fr ha (hb.set ha.next (some (.cells false (ints ((List.replicate m 0).set r (W ((List.replicate m 0).getD r 0 + 1))))))) := hfb.set (Nat.le_refl _) _
  have hn6 : (hb.set ha.next (some (.cells false (ints ((List.replicate m 0).set r (W ((List.replicate m 0).getD r 0 + 1))))))).next = hb.next := rfl
  have e1 : W ((List.replicate m (0 : Int)).getD r 0 + 1) = 1 := by
    rw [List.getD_eq_getElem?_getD, List.getElem?_replicate, if_pos (by omega)]; decide
  rw [e1] at hg6 hf6 hn6 ⊢
  generalize hb.set ha.next (some (.cells false (ints ((List.replicate m 0).set r 1)))) = h6 at *
  have hsi : SI h6 (.sl ha.next 0 m (.kn m)) ((List.replicate m 0).set r 1) := by
    have := SI.own (h := h6) (id := ha.next) (by omega) hg6 (.kn m)
    rw [List.length_set, List.length_replicate] at this; exact this
  rw [hr, Int.toNat_natCast]
  refine (rmade_ok m _ _ h6 (by omega) (by omega) hsi (by rw [List.length_set, List.length_replicate]; omega) ((inR.zeros m).set (by omega) _)).mono ?_
  rintro v7 h7 ⟨w, rfl, hcy, hf7⟩
  generalize madeF m _ = M at *
  have hf47 : Fr ha h7 := hf6.trans hf7
  have hg7 := (hf47.get h.next (by omega)).trans hga
  obtain ⟨u', rfl, hu', hfu⟩ := hcy
  have hst3 := fun hh => stV_agg2 hh h.next 0 (v := .int .i64 M.1.1) (u := u') rfl hu'.what.2.1
  have hrow := row_two (h := h7.set h.next (some (.cells false [.int .i64 M.1.1, u']))) (H.get_set_same ..)
  simp (disch := first | omega | (simp only [List.length_set, List.length_replicate, List.length_append, List.length_take, List.length_drop, List.length_cons, List.length_nil, List.length_map, List.length_range, ints_length] <;> omega)) only [go_sem, hst3, hg7, hrow, List.getElem?_cons_zero, List.getElem?_cons_succ]
  exact ⟨_, rfl, (CycO.set ⟨u', rfl, hu', hfu⟩ (by omega) _).le (by omega), (hfa.trans hf47).set (by omega) _⟩

theorem rInt_ok (k : Int) (h : H) : Ev T n_ref06_Int [.int .i64 k] h (fun v h' => ∃ w, v = .tup [w, .int .i64 (makeF 1 [k]).2] ∧ CycO h' w (makeF 1 [k]).1 h.next ∧ Fr h h') := by
  refine Ev_of t_ref06_Int rfl ?_
  simp (disch := first | omega | (simp only [List.length_set, List.length_replicate, List.length_append, List.length_take, List.length_drop, List.length_cons, List.length_nil, List.length_map, List.length_range, ints_length] <;> omega)) only [go_sem, c_ref06_Int, initV_eq, bls_int1]
  have hfa : Fr h (h.new (.cells false [.int .i64 0, .nils])) := (Fr.refl h).new _
  have hga : (h.new (.cells false [.int .i64 0, .nils])).get h.next = some (.cells false [.int .i64 0, .nils]) := H.get_new_same ..
  have hna : (h.new (.cells false [.int .i64 0, .nils])).next = h.next + 1 := H.next_new ..
  rw [← hna]
  generalize h.new (.cells false [.int .i64 0, .nils]) = ha at *
  have hfb : Fr ha (ha.new (.cells false (ints [k]))) := (Fr.refl ha).new _
  have hsb : SI (ha.new (.cells false (ints [k]))) (.sl ha.next 0 1 (.kn 1)) [k] := SI.own (l := [k]) (by rw [H.next_new]; omega) (H.get_new_same ..) (.kn 1)
  have hnb : (ha.new (.cells false (ints [k]))).next = ha.next + 1 := H.next_new ..
  generalize ha.new (.cells false (ints [k])) = hb at *
  refine (rmake_ok 1 _ [k] hb hsb (by simp)).mono ?_
  rintro v7 h7 ⟨w, rfl, hcy, hf7⟩
  generalize makeF 1 [k] = M at *
  have hf47 : Fr ha h7 := hfb.trans hf7
  have hg7 := (hf47.get h.next (by omega)).trans hga
  obtain ⟨u', rfl, hu', hfu⟩ := hcy
  have hst3 := fun hh => stV_agg2 hh h.next 0 (v := .int .i64 M.1.1) (u := u') rfl hu'.what.2.1
  have hrow := row_two (h := h7.set h.next (some (.cells false [.int .i64 M.1.1, u']))) (H.get_set_same ..)
  simp (disch := first | omega | (simp only [List.length_set, List.length_replicate, List.length_append, List.length_take, List.length_drop, List.length_cons, List.length_nil, List.length_map, List.length_range, ints_length] <;> omega)) only [go_sem, hst3, hg7, hrow, List.getElem?_cons_zero, List.getElem?_cons_succ]
  exact ⟨_, rfl, (CycO.set ⟨u', rfl, hu', hfu⟩ (by omega) _).le (by omega), (hfa.trans hf47).set (by omega) _⟩
end
end Go.Proofs.Ythfabknpogbcaaa
/- Contracts of the reference: both, Add, Mul. -/
namespace Go.Proofs.Ythfabknpogbcaaa
open Go Go.Ay
set_option maxRecDepth 100000
noncomputable section

theorem orF_first {a b : Int} (h : a ≠ 0) : orF [a, b] = a := by
  rw [orF, List.find?_cons_of_pos (by simpa using h)]; rfl
theorem orF_second {a b : Int} (h : a = 0) : orF [a, b] = b := by
  subst h
  by_cases hb : b = 0
  · subst hb; rfl
  · rw [orF, List.find?_cons_of_neg (by simp), List.find?_cons_of_pos (by simpa using hb)]; rfl

set_option maxHeartbeats 1000000 in
theorem rboth_ok (va vb : V) (a b : Int × List Int) (h : H) (ha : CycV h va a) (hb : CycV h vb b) (hla : a.2.length < 1000000) (hlb : b.2.length < 1000000) (hra : inR a.2) (hrb : inR b.2) :
    Ev T n_ref06_both [va, vb] h (fun v h' => v = .tup [.int .i64 (commonF a b).1, .int .i64 (commonF a b).2] ∧ Fr h h') := by
  obtain ⟨u, rfl, hu⟩ := ha
  obtain ⟨w, rfl, hw⟩ := hb
  obtain ⟨N, A⟩ := a
  obtain ⟨M, B⟩ := b
  refine Ev_of t_ref06_both rfl ?_
  simp (disch := first | omega | (simp only [List.length_set, List.length_replicate, List.length_append, List.length_take, List.length_drop, List.length_cons, List.length_nil, List.length_map, List.length_range, ints_length] <;> omega)) only [go_sem, c_ref06_both, initV_eq, boxV_agg2 h (v := .int .i64 N) rfl hu.what.2.1]
  have hfx : Fr h (h.new (.cells false [.int .i64 N, u])) := (Fr.refl h).new _
  have hgx : (h.new (.cells false [.int .i64 N, u])).get h.next = some (.cells false [.int .i64 N, u]) := H.get_new_same ..
  have hnx : (h.new (.cells false [.int .i64 N, u])).next = h.next + 1 := H.next_new ..
  generalize h.new (.cells false [.int .i64 N, u]) = hx at *
  simp (disch := first | omega | (simp only [List.length_set, List.length_replicate, List.length_append, List.length_take, List.length_drop, List.length_cons, List.length_nil, List.length_map, List.length_range, ints_length] <;> omega)) only [go_sem, boxV_agg2 hx (v := .int .i64 M) rfl hw.what.2.1]
  have hfy : Fr hx (hx.new (.cells false [.int .i64 M, w])) := (Fr.refl hx).new _
  have hgy : (hx.new (.cells false [.int .i64 M, w])).get hx.next = some (.cells false [.int .i64 M, w]) := H.get_new_same ..
  have hny : (hx.new (.cells false [.int .i64 M, w])).next = hx.next + 1 := H.next_new ..
  generalize hx.new (.cells false [.int .i64 M, w]) = hy at *
  have hgxy := (hfy.get h.next (by omega)).trans hgx
  have hF := hfx.trans hfy
  simp (disch := first | omega | (simp only [List.length_set, List.length_replicate, List.length_append, List.length_take, List.length_drop, List.length_cons, List.length_nil, List.length_map, List.length_range, ints_length] <;> omega)) only [go_sem, row_two hgxy]
  refine (rcheck_ok _ (N, A) hy ⟨u, rfl, hu.mono hF⟩ hla hra).mono ?_
  rintro v3 h3 ⟨rfl, hf3⟩
  have hn3 := hf3.next
  have hgx3 := (hf3.get h.next (by omega)).trans hgxy
  have hgy3 := (hf3.get hx.next (by omega)).trans hgy
  simp (disch := first | omega | (simp only [List.length_set, List.length_replicate, List.length_append, List.length_take, List.length_drop, List.length_cons, List.length_nil, List.length_map, List.length_range, ints_length] <;> omega)) only [go_sem]
  refine iteW_dec (fun h1 => ?_) (fun h1 => ?_)
  · simp (disch := first | omega | (simp only [List.length_set, List.length_replicate, List.length_append, List.length_take, List.length_drop, List.length_cons, List.length_nil, List.length_map, List.length_range, ints_length] <;> omega)) only [go_sem]
    rw [commonF, orF_first h1, if_pos h1]
    exact ⟨rfl, hF.trans hf3⟩
  simp (disch := first | omega | (simp only [List.length_set, List.length_replicate, List.length_append, List.length_take, List.length_drop, List.length_cons, List.length_nil, List.length_map, List.length_range, ints_length] <;> omega)) only [go_sem, row_two hgy3]
  refine (rcheck_ok _ (M, B) h3 ⟨w, rfl, (hw.mono hF).mono hf3⟩ hlb hrb).mono ?_
  rintro v4 h4 ⟨rfl, hf4⟩
  have hn4 := hf4.next
  have hgx4 := (hf4.get h.next (by omega)).trans hgx3
  have hgy4 := (hf4.get hx.next (by omega)).trans hgy3
  have z1 : checkF (N, A) = 0 := by omega
  rw [commonF, orF_second z1]
  simp (disch := first | omega | (simp only [List.length_set, List.length_replicate, List.length_append, List.length_take, List.length_drop, List.length_cons, List.length_nil, List.length_map, List.length_range, ints_length] <;> omega)) only [go_sem]
  refine iteW_dec (fun h2 => ?_) (fun h2 => ?_)
  · simp (disch := first | omega | (simp only [List.length_set, List.length_replicate, List.length_append, List.length_take, List.length_drop, List.length_cons, List.length_nil, List.length_map, List.length_range, ints_length] <;> omega)) only [go_sem]
    rw [if_pos h2]
    exact ⟨rfl, (hF.trans hf3).trans hf4⟩
  rw [if_neg h2]
  have z2 : checkF (M, B) = 0 := by omega
  have g1 := check_range z1
  have g2 := check_range z2
  simp only at g1 g2
  have c0 : ∀ n, (H.mk h4.tr n).cell h.next 0 = some (.int .i64 N) := fun n => by rw [H.cell_of (h := H.mk h4.tr n) hgx4]; rfl
  have c1 : ∀ n, (H.mk h4.tr n).cell hx.next 0 = some (.int .i64 M) := fun n => by rw [H.cell_of (h := H.mk h4.tr n) hgy4]; rfl
  have c0' : h4.cell h.next 0 = some (.int .i64 N) := c0 h4.next
  have c1' : h4.cell hx.next 0 = some (.int .i64 M) := c1 h4.next
  simp (disch := first | omega | (simp only [List.length_set, List.length_replicate, List.length_append, List.length_take, List.length_drop, List.length_cons, List.length_nil, List.length_map, List.length_range, ints_length] <;> omega)) only [go_sem, c0', c1']
  refine (rgcd_ok N M (H.mk h4.tr (h4.next + 12)) (by omega) (by omega)).mono ?_
  rintro v5 h5 ⟨rfl, hf5⟩
  have hf5' : Fr h4 h5 := ((Fr.refl h4).bump (by omega)).trans hf5
  have e0 : h5.cell h.next 0 = some (.int .i64 N) := by rw [hf5'.cell (by omega)]; exact c0'
  have e1 : h5.cell hx.next 0 = some (.int .i64 M) := by rw [hf5'.cell (by omega)]; exact c1'
  have hG : 1 ≤ Int.gcd N M := Nat.one_le_iff_ne_zero.2 (fun e => by rw [Int.gcd_eq_zero_iff] at e; omega)
  have hdiv : N.tdiv (Int.gcd N M : Int) = N / (Int.gcd N M : Int) := Int.tdiv_eq_ediv_of_nonneg (by omega)
  have hq0 : 0 ≤ N / (Int.gcd N M : Int) := Int.ediv_nonneg (by omega) (by omega)
  have hq1 : N / (Int.gcd N M : Int) ≤ 120 := Int.le_trans (Int.ediv_le_self _ (by omega)) g1.2.1
  have hm0 : 0 ≤ N / (Int.gcd N M : Int) * M := Int.mul_nonneg hq0 (by omega)
  have hm1 : N / (Int.gcd N M : Int) * M ≤ 120 * 120 := Int.mul_le_mul hq1 g2.2.1 (by omega) (by omega)
  simp (disch := first | omega | (simp only [List.length_set, List.length_replicate, List.length_append, List.length_take, List.length_drop, List.length_cons, List.length_nil, List.length_map, List.length_range, ints_length] <;> omega)) only [go_sem, e0, e1, hdiv]
  refine iteW_dec (fun h6 => ?_) (fun h6 => ?_)
  · simp (disch := first | omega | (simp only [List.length_set, List.length_replicate, List.length_append, List.length_take, List.length_drop, List.length_cons, List.length_nil, List.length_map, List.length_range, ints_length] <;> omega)) only [go_sem]
    rw [if_pos h6]
    exact ⟨rfl, ((hF.trans hf3).trans hf4).trans hf5'⟩
  · simp (disch := first | omega | (simp only [List.length_set, List.length_replicate, List.length_append, List.length_take, List.length_drop, List.length_cons, List.length_nil, List.length_map, List.length_range, ints_length] <;> omega)) only [go_sem]
    rw [if_neg h6]
    exact ⟨rfl, ((hF.trans hf3).trans hf4).trans hf5'⟩

set_option maxHeartbeats 2000000 in
theorem radd'_ok (va vb : V) (a b : Int × List Int) (h : H) (ha : CycV h va a) (hb : CycV h vb b) (hla : a.2.length < 1000000) (hlb : b.2.length < 1000000) (hra : inR a.2) (hrb : inR b.2) :
    Ev T n_ref06_Add [va, vb] h (fun v h' => ∃ w, v = .tup [w, .int .i64 (addF a b).2] ∧ CycO h' w (addF a b).1 h.next ∧ Fr h h') := by
  obtain ⟨u, rfl, hu⟩ := ha
  obtain ⟨w, rfl, hw⟩ := hb
  obtain ⟨N, A⟩ := a
  obtain ⟨M, B⟩ := b
  simp only at hu hw hla hlb
  refine Ev_of t_ref06_Add rfl ?_
  simp (disch := first | omega | (simp only [List.length_set, List.length_replicate, List.length_append, List.length_take, List.length_drop, List.length_cons, List.length_nil, List.length_map, List.length_range, ints_length] <;> omega)) only [go_sem, c_ref06_Add, initV_eq, boxV_agg2 h (v := .int .i64 N) rfl hu.what.2.1]
  have hfx : Fr h (h.new (.cells false [.int .i64 N, u])) := (Fr.refl h).new _
  have hgx : (h.new (.cells false [.int .i64 N, u])).get h.next = some (.cells false [.int .i64 N, u]) := H.get_new_same ..
  have hnx : (h.new (.cells false [.int .i64 N, u])).next = h.next + 1 := H.next_new ..
  generalize h.new (.cells false [.int .i64 N, u]) = hx at *
  simp (disch := first | omega | (simp only [List.length_set, List.length_replicate, List.length_append, List.length_take, List.length_drop, List.length_cons, List.length_nil, List.length_map, List.length_range, ints_length] <;> omega)) only [go_sem, boxV_agg2 hx (v := .int .i64 M) rfl hw.what.2.1]
  have hfy : Fr hx (hx.new (.cells false [.int .i64 M, w])) := (Fr.refl hx).new _
  have hgy : (hx.new (.cells false [.int .i64 M, w])).get hx.next = some (.cells false [.int .i64 M, w]) := H.get_new_same ..
  have hny : (hx.new (.cells false [.int .i64 M, w])).next = hx.next + 1 := H.next_new ..
  generalize hx.new (.cells false [.int .i64 M, w]) = hy at *
  rw [← hny]
  have hfa : Fr hy (hy.new (.cells false [.int .i64 0, .nils])) := (Fr.refl hy).new _
  have hga : (hy.new (.cells false [.int .i64 0, .nils])).get hy.next = some (.cells false [.int .i64 0, .nils]) := H.get_new_same ..
  have hna : (hy.new (.cells false [.int .i64 0, .nils])).next = hy.next + 1 := H.next_new ..
  generalize hy.new (.cells false [.int .i64 0, .nils]) = ha at *
  have hgya := (hfa.get hx.next (by omega)).trans hgy
  have hgxa := (hfa.get h.next (by omega)).trans ((hfy.get h.next (by omega)).trans hgx)
  have hfh := (hfx.trans hfy).trans hfa
  simp (disch := first | omega | (simp only [List.length_set, List.length_replicate, List.length_append, List.length_take, List.length_drop, List.length_cons, List.length_nil, List.length_map, List.length_range, ints_length] <;> omega)) only [go_sem, row_two hgxa, row_two hgya]
  refine (rboth_ok _ _ (N, A) (M, B) ha ⟨u, rfl, hu.mono hfh⟩ ⟨w, rfl, hw.mono hfh⟩ hla hlb hra hrb).mono ?_
  rintro v1 hb ⟨rfl, hfb⟩
  have hnb := hfb.next
  have hgb := (hfb.get hy.next (by omega)).trans hga
  have hgxb := (hfb.get h.next (by omega)).trans hgxa
  have hgyb := (hfb.get hx.next (by omega)).trans hgya
  have hst0 := fun hh => stV_agg2 hh hy.next 0 (v := .int .i64 0) (u := .nils) rfl rfl
  have hrow0 := row_two (h := hb.set hy.next (some (.cells false [.int .i64 0, .nils]))) (H.get_set_same ..)
  have hF : Fr h hb := hfh.trans hfb
  simp (disch := first | omega | (simp only [List.length_set, List.length_replicate, List.length_append, List.length_take, List.length_drop, List.length_cons, List.length_nil, List.length_map, List.length_range, ints_length] <;> omega)) only [go_sem, List.getElem?_cons_zero, List.getElem?_cons_succ]
  refine iteW_dec (fun h1 => ?_) (fun h1 => ?_)
  · simp (disch := first | omega | (simp only [List.length_set, List.length_replicate, List.length_append, List.length_take, List.length_drop, List.length_cons, List.length_nil, List.length_map, List.length_range, ints_length] <;> omega)) only [go_sem, hst0, hgb, hrow0]
    rw [addF, if_pos h1]
    exact ⟨_, rfl, CycO.zero _ _, hF.set (by omega) _⟩
  rw [addF, if_neg h1]
  obtain ⟨r1, r2, r3, r4⟩ := common_range (show (commonF (N, A) (M, B)).2 = 0 by omega)
  have g1 := check_range r1
  have g2 := check_range r2
  simp only at g1 g2
  obtain ⟨n, hn⟩ : ∃ n : Nat, (commonF (N, A) (M, B)).1 = (n : Int) := ⟨(commonF (N, A) (M, B)).1.toNat, by omega⟩
  rw [hn] at r3 r4 ⊢
  obtain ⟨N, rfl⟩ : ∃ N' : Nat, N = (N' : Int) := ⟨N.toNat, by omega⟩
  obtain ⟨M, rfl⟩ : ∃ M' : Nat, M = (M' : Int) := ⟨M.toNat, by omega⟩
  simp only [Int.toNat_natCast] at g1 g2 ⊢
  clear hn h1 r1 r2
  have hpN := phi_len (n := N) (by omega) (by omega)
  have hpM := phi_len (n := M) (by omega) (by omega)
  have exN : (n : Int).tdiv (N : Int) = ((n / N : Nat) : Int) := rfl
  have exM : (n : Int).tdiv (M : Int) = ((n / M : Nat) : Int) := rfl
  have hdN := Nat.div_le_self n N
  have hdM := Nat.div_le_self n M
  simp (disch := first | omega | (simp only [List.length_set, List.length_replicate, List.length_append, List.length_take, List.length_drop, List.length_cons, List.length_nil, List.length_map, List.length_range, ints_length] <;> omega)) only [go_sem]
  have hf5 : Fr hb (hb.new (.cells false (ints (List.replicate n 0)))) := (Fr.refl hb).new _
  have hg5 : (hb.new (.cells false (ints (List.replicate n 0)))).get hb.next = some (.cells false (ints (List.replicate n 0))) := H.get_new_same ..
  have hn5 : (hb.new (.cells false (ints (List.replicate n 0)))).next = hb.next + 1 := H.next_new ..
  generalize hb.new (.cells false (ints (List.replicate n 0))) = h5 at *
  obtain ⟨cid, coff, hcs, hcid, hcc⟩ := hu.open
  obtain ⟨did, doff, hds, hdid, hdc⟩ := hw.open
  refine Wp_loop (fun k' vars h6 => ∃ (j : Nat), (∃ g : Nat → V, vars = [g 0, g 1, .ptr h.next 0, .ptr hx.next 0, .ptr hy.next 0, g 5, .int .i64 (n : Int), g 7, .sl hb.next 0 n (.kn n), .int .i64 (j : Int), g 10, g 11, g 12, g 13]) ∧ j ≤ A.length ∧
    h6.get hb.next = some (.cells false (ints (accF (fun i => i * (n / N)) (fun i => A.getD i 0) (List.replicate n 0) j))) ∧ Fr hb h6 ∧ hb.next < h6.next ∧ k' = A.length - j) A.length
    ⟨0, ex_junk rfl, Nat.zero_le _, hg5, hf5, by omega, rfl⟩ ?_
  rintro k' vars h6 ⟨j, ⟨g, rfl⟩, hj, hg6, hf6, hn6, rfl⟩
  have hal := accF_len (fun i => i * (n / N)) (fun i => A.getD i 0) (List.replicate n 0) j
  rw [List.length_replicate] at hal
  have hgx6 := (hf6.get h.next (by omega)).trans hgxb
  have d0 : h6.cell h.next 0 = some (.int .i64 (N : Int)) := by rw [H.cell_of hgx6]; rfl
  have d1 : h6.cell h.next 1 = some u := by rw [H.cell_of hgx6]; rfl
  simp (disch := first | omega | (simp only [List.length_set, List.length_replicate, List.length_append, List.length_take, List.length_drop, List.length_cons, List.length_nil, List.length_map, List.length_range, ints_length] <;> omega)) only [go_sem, d1, hu.lens]
  refine iteW_dec (fun hjc => ?_) (fun hjc => ?_)
  · have hcc6 := cells_fr (hF.trans hf6) hcid hcc
    have hjm : j * (n / N) < n := idx_lt (by omega) (by omega)
    have hz : ((j * (n / N) : Nat) : Int) % (n : Int) = ((j * (n / N) : Nat) : Int) := Int.emod_eq_of_lt (by omega) (by omega)
    have hstep : accF (fun i => i * (n / N)) (fun i => A.getD i 0) (List.replicate n 0) (j + 1) = (accF (fun i => i * (n / N)) (fun i => A.getD i 0) (List.replicate n 0) j).set (j * (n / N)) (W ((accF (fun i => i * (n / N)) (fun i => A.getD i 0) (List.replicate n 0) j).getD (j * (n / N)) 0 + A.getD j 0)) := rfl
    have em0 : (j : Int) * ((n / N : Nat) : Int) = ((j * (n / N) : Nat) : Int) := (Int.natCast_mul ..).symm
    generalize n / N = tN at *
    generalize j * tN = z at *
    simp (disch := first | omega | (simp only [List.length_set, List.length_replicate, List.length_append, List.length_take, List.length_drop, List.length_cons, List.length_nil, List.length_map, List.length_range, ints_length] <;> omega)) only [go_sem, exN, em0, d0, d1, hcs.ixa, hcc6]
    refine (radd_acc hb.next n (.kn n) _ (z : Int) (A.getD j 0) z (H.mk h6.tr (h6.next + 13)) hal hg6 (by omega) (by omega) hz).mono ?_
    rintro v7 h7 rfl
    simp (disch := first | omega | (simp only [List.length_set, List.length_replicate, List.length_append, List.length_take, List.length_drop, List.length_cons, List.length_nil, List.length_map, List.length_range, ints_length] <;> omega)) only [go_sem]
    rw [show (j : Int) + 1 = ((j + 1 : Nat) : Int) from by omega]
    exact ⟨A.length - (j + 1), by omega, j + 1, ex_junk rfl, by omega, by rw [hstep], (hf6.bump (by omega)).set (Nat.le_refl _) _, by show hb.next < h6.next + 13; omega, rfl⟩
  have : A.length = j := by omega
  subst this
  have hSA : inR (accF (fun i => i * (n / N)) (fun i => A.getD i 0) (List.replicate n 0) A.length) := accF_in _ _ (inR.zeros _) _
  generalize accF (fun i => i * (n / N)) (fun i => A.getD i 0) (List.replicate n 0) A.length = SA at *
  simp (disch := first | omega | (simp only [List.length_set, List.length_replicate, List.length_append, List.length_take, List.length_drop, List.length_cons, List.length_nil, List.length_map, List.length_range, ints_length] <;> omega)) only [go_sem]
  refine Wp_loop (fun k' vars h7 => ∃ (j : Nat), (∃ g : Nat → V, vars = [g 0, g 1, .ptr h.next 0, .ptr hx.next 0, .ptr hy.next 0, g 5, .int .i64 (n : Int), g 7, .sl hb.next 0 n (.kn n), g 9, .int .i64 (j : Int), g 11, g 12, g 13]) ∧ j ≤ B.length ∧
    h7.get hb.next = some (.cells false (ints (accF (fun i => i * (n / M)) (fun i => B.getD i 0) SA j))) ∧ Fr hb h7 ∧ hb.next < h7.next ∧ k' = B.length - j) B.length
    ⟨0, ex_junk rfl, Nat.zero_le _, hg6, hf6, by omega, rfl⟩ ?_
  clear hgx6 d0 d1 hf6 hn6 hg6 hjc
  rintro k' vars h7 ⟨j, ⟨g, rfl⟩, hj, hg7, hf7, hn7, rfl⟩
  have hal7 := accF_len (fun i => i * (n / M)) (fun i => B.getD i 0) SA j
  rw [hal] at hal7
  have hgy7 := (hf7.get hx.next (by omega)).trans hgyb
  have d0 : h7.cell hx.next 0 = some (.int .i64 (M : Int)) := by rw [H.cell_of hgy7]; rfl
  have d1 : h7.cell hx.next 1 = some w := by rw [H.cell_of hgy7]; rfl
  simp (disch := first | omega | (simp only [List.length_set, List.length_replicate, List.length_append, List.length_take, List.length_drop, List.length_cons, List.length_nil, List.length_map, List.length_range, ints_length] <;> omega)) only [go_sem, d1, hw.lens]
  refine iteW_dec (fun hjc => ?_) (fun hjc => ?_)
  · have hcc7 := cells_fr (hF.trans hf7) hdid hdc
    have hjm : j * (n / M) < n := idx_lt (by omega) (by omega)
    have hz : ((j * (n / M) : Nat) : Int) % (n : Int) = ((j * (n / M) : Nat) : Int) := Int.emod_eq_of_lt (by omega) (by omega)
    have hstep : accF (fun i => i * (n / M)) (fun i => B.getD i 0) SA (j + 1) = (accF (fun i => i * (n / M)) (fun i => B.getD i 0) SA j).set (j * (n / M)) (W ((accF (fun i => i * (n / M)) (fun i => B.getD i 0) SA j).getD (j * (n / M)) 0 + B.getD j 0)) := rfl
    have em0 : (j : Int) * ((n / M : Nat) : Int) = ((j * (n / M) : Nat) : Int) := (Int.natCast_mul ..).symm
    generalize n / M = tM at *
    generalize j * tM = z at *
    simp (disch := first | omega | (simp only [List.length_set, List.length_replicate, List.length_append, List.length_take, List.length_drop, List.length_cons, List.length_nil, List.length_map, List.length_range, ints_length] <;> omega)) only [go_sem, exM, em0, d0, d1, hds.ixa, hcc7]
    refine (radd_acc hb.next n (.kn n) _ (z : Int) (B.getD j 0) z (H.mk h7.tr (h7.next + 13)) hal7 hg7 (by omega) (by omega) hz).mono ?_
    rintro v8 h8 rfl
    simp (disch := first | omega | (simp only [List.length_set, List.length_replicate, List.length_append, List.length_take, List.length_drop, List.length_cons, List.length_nil, List.length_map, List.length_range, ints_length] <;> omega)) only [go_sem]
    rw [show (j : Int) + 1 = ((j + 1 : Nat) : Int) from by omega]
    exact ⟨B.length - (j + 1), by omega, j + 1, ex_junk rfl, by omega, by rw [hstep], (hf7.bump (by omega)).set (Nat.le_refl _) _, by show hb.next < h7.next + 13; omega, rfl⟩
  have : B.length = j := by omega
  subst this
  simp (disch := first | omega | (simp only [List.length_set, List.length_replicate, List.length_append, List.length_take, List.length_drop, List.length_cons, List.length_nil, List.length_map, List.length_range, ints_length] <;> omega)) only [go_sem]
  have hsi : SI h7 (.sl hb.next 0 n (.kn n)) (accF (fun i => i * (n / M)) (fun i => B.getD i 0) SA B.length) := by
    have := SI.own (h := h7) (id := hb.next) (by omega) hg7 (.kn n)
    rw [hal7] at this; exact this
  refine (rmade_ok n _ _ h7 (by omega) (by omega) hsi (by omega) (accF_in _ _ hSA _)).mono ?_
  rintro v8 h8 ⟨w8, rfl, hcy, hf8⟩
  generalize madeF n _ = R at *
  have hf78 : Fr hb h8 := hf7.trans hf8
  have hn78 := hf78.next
  have hg8 := (hf78.get hy.next (by omega)).trans hgb
  obtain ⟨u', rfl, hu', hfu⟩ := hcy
  have hst3 := fun hh => stV_agg2 hh hy.next 0 (v := .int .i64 R.1.1) (u := u') rfl hu'.what.2.1
  have hrow := row_two (h := h8.set hy.next (some (.cells false [.int .i64 R.1.1, u']))) (H.get_set_same ..)
  simp (disch := first | omega | (simp only [List.length_set, List.length_replicate, List.length_append, List.length_take, List.length_drop, List.length_cons, List.length_nil, List.length_map, List.length_range, ints_length] <;> omega)) only [go_sem, hst3, hg8, hrow, List.getElem?_cons_zero, List.getElem?_cons_succ]
  exact ⟨_, rfl, (CycO.set ⟨u', rfl, hu', hfu⟩ (by omega) _).le (by omega), (hF.trans hf78).set (by omega) _⟩
end
end Go.Proofs.Ythfabknpogbcaaa
