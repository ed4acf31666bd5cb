/- Layer 5: plain laws of bases and ranks. Layer 5: the plain law of the kernel. Layer 5: the plain law of the intersection. Layer 5: Basis and Rank with the span that they found; a copy of rows. Layer 5: two lists of rows in a row; Sum. Layer 5: Sum. Layer 5: Meet. Layer 5: the law of the intersection. Layer 5: two rows appended; a taker under another's change. The law LinearBasis, walked. The law LinearMeets, walked. -/
import Derived.Test.YtlhebmcnjgagjaaM5gtoM5q
/- Layer 5: plain laws of bases and ranks. -/
namespace Go.Proofs.Ytlhebmcnjgagjaa
open Go Go.Ay
set_option maxRecDepth 100000
theorem Re.same {p : Int} {n : Nat} {S S' : Nat → Bool} {f f' : Nat → Nat → Int} (r : Re p n n S f) (r' : Re p n n S' f') (h : ∀ c, c < n → S c = true → InS p n n (gf S' f') (f c)) (e : ∀ c, c < n → S c = S' c) : ∀ c j, c < n → S c = true → j < n → f c j = f' c j := fun c j hc hs hj => by
  obtain ⟨d, hd⟩ := h c hc hs
  have q := r'.read hd hj
  rw [sm_one (t := c) hc fun a ha hne => ?_, r.one c hc hs, Int.one_mul, gf_yes (by rw [← e c hc]; exact hs)] at q
  · have b1 := r.rng c j hc hs hj
    have b2 := r'.rng c j hc (by rw [← e c hc]; exact hs) hj
    rwa [Int.emod_eq_of_lt b1.1 b1.2, Int.emod_eq_of_lt b2.1 b2.2] at q
  cases hsa : S' a with
  | false => rw [gf_no hsa, Int.mul_zero]
  | true => rw [r.zer c a hc ha hs (by rw [e a ha]; exact hsa) hne, Int.zero_mul]
section
variable {p : Int} {n m m' k k' : Nat} {V V' : Nat → Nat → Int} {S S' : Nat → Bool} {f f' : Nat → Nat → Int}
theorem piv_at {i : Nat} (hi : i < (rwF n n S f).length) : ((List.range n).filter S).getD i 0 < n ∧ S (((List.range n).filter S).getD i 0) = true ∧ (rwF n n S f).getD i [] = mkV n (f (((List.range n).filter S).getD i 0)) := by
  have hl : (rwF n n S f).length = ((List.range n).filter S).length := by rw [rwF, List.length_map]
  have e : ((List.range n).filter S).getD i 0 = ((List.range n).filter S)[i]'(by omega) := by rw [List.getD_eq_getElem?_getD, List.getElem?_eq_getElem (by omega), Option.getD_some]
  have hm : ((List.range n).filter S)[i]'(by omega) ∈ (List.range n).filter S := List.getElem_mem _
  rw [List.mem_filter, List.mem_range, ← e] at hm
  refine ⟨hm.1, hm.2, ?_⟩
  rw [e, rwF, List.getD_eq_getElem?_getD, List.getElem?_map, List.getElem?_eq_getElem (by omega)]
  rfl
theorem piv_of {c : Nat} (hc : c < n) (hs : S c = true) : ∃ i, i < (rwF n n S f).length ∧ (rwF n n S f).getD i [] = mkV n (f c) := by
  have hm : c ∈ (List.range n).filter S := List.mem_filter.2 ⟨List.mem_range.2 hc, hs⟩
  obtain ⟨i, hi, e⟩ := List.mem_iff_getElem.1 hm
  have hl : (rwF n n S f).length = ((List.range n).filter S).length := by rw [rwF, List.length_map]
  refine ⟨i, by omega, ?_⟩
  rw [rwF, List.getD_eq_getElem?_getD, List.getElem?_map, List.getElem?_eq_getElem hi, e]
  rfl
/-- The rows that span are in the basis's span. -/
theorem Sp.toB (s : Sp p n n V m S f k) (i : Nat) (hi : i < m) : InS p n (rwF n n S f).length (vw (rwF n n S f)) (V i) := by
  refine (s.inn i hi).trans fun c hc => ?_
  cases hs : S c with
  | false => exact InS.zero.congr fun j _ => by rw [gf_no hs]
  | true =>
    obtain ⟨q, hq, e⟩ := piv_of (f := f) hc hs
    exact (InS.row hq).congr fun j hj => by rw [gf_yes hs, vw, e, mkV_get _ hj]
/-- The basis's rows are in the span. -/
theorem Sp.ofB (s : Sp p n n V m S f k) (i : Nat) (hi : i < (rwF n n S f).length) : InS p n m V (vw (rwF n n S f) i) := by
  obtain ⟨h1, h2, h3⟩ := piv_at hi
  exact (s.out _ h1 h2).congr fun j hj => by rw [vw, h3, mkV_get _ hj]
end
theorem ck_of {p : Int} {n : Nat} (hp : fieldF p = true) (h1 : 1 ≤ n) (h2 : n ≤ 64) (ls : List (List (List Int))) (h3 : ∀ l ∈ ls, l.length ≤ 200 ∧ ∀ i, i < l.length → (l.getD i []).length = n) : ckF p n ls = 0 := by
  rw [ckF, if_neg (by simp [hp]), if_neg (by omega)]
  induction ls with
  | nil => rfl
  | cons a r ih =>
    obtain ⟨q1, q2⟩ := h3 a (List.mem_cons_self ..)
    rw [lckF, if_neg (by omega), if_neg ?_]
    · exact ih fun l hl => h3 l (List.mem_cons_of_mem _ hl)
    · intro e
      obtain ⟨x, hx, e⟩ := List.any_eq_true.1 e
      obtain ⟨i, hi, rfl⟩ := List.mem_iff_getElem.1 hx
      have := q2 i hi
      rw [List.getD_eq_getElem?_getD, List.getElem?_eq_getElem hi, Option.getD_some] at this
      simp [this] at e
end Go.Proofs.Ytlhebmcnjgagjaa

/- Layer 5: the plain law of the kernel. -/
namespace Go.Proofs.Ytlhebmcnjgagjaa
open Go Go.Ay
set_option maxRecDepth 100000
theorem smod_zero {p : Int} {n : Nat} {f : Nat → Int} (h : ∀ k, k < n → f k % p = 0) : sm n f % p = 0 := by
  rw [sm_mod (g := fun _ => 0) fun k hk => by rw [h k hk, Int.zero_emod], sm_nul, Int.zero_emod]
section
variable {p : Int} {n m W k : Nat} {V : Nat → Nat → Int} {S : Nat → Bool} {f : Nat → Nat → Int}
/-- The span of rows with the identity behind them. -/
abbrev Sk (p : Int) (n m W : Nat) (V : Nat → Nat → Int) (S : Nat → Bool) (f : Nat → Nat → Int) (k : Nat) : Prop := Sp p W W (vw (mkR m W (mkE n V))) m S f k
def kS (n : Nat) (S : Nat → Bool) : Nat → Bool := fun c => S (n + c)
def kf (n : Nat) (f : Nat → Nat → Int) : Nat → Nat → Int := fun c j => f (n + c) (n + j)
theorem mk_lo (hW : n + m = W) {a j : Nat} (ha : a < m) (hj : j < n) : vw (mkR m W (mkE n V)) a j = V a j := by
  rw [vw, mkR_row _ ha, mkV_get _ (by omega), mkE, if_pos hj]
theorem mk_hi (hW : n + m = W) {a j : Nat} (ha : a < m) (hj : j < m) : vw (mkR m W (mkE n V)) a (n + j) = if j = a then 1 else 0 := by
  rw [vw, mkR_row _ ha, mkV_get _ (by omega), mkE, if_neg (by omega)]
  by_cases e : j = a
  · rw [if_pos e, if_pos (by omega)]
  · rw [if_neg e, if_neg (by omega)]
theorem krF_rwF (hW : n + m = W) : krF n m S f W = rwF m m (kS n S) (kf n f) := by
  subst hW
  simp only [krF, rwF, kS, kf]
  rw [List.range_add, List.filter_append, List.filter_eq_nil_iff.2 (fun a ha => by
    have := List.mem_range.1 ha
    simp; omega), List.nil_append, List.filter_map, List.map_map]
  congr 1
  refine List.filter_congr fun c _ => ?_
  simp [kS]
theorem Re.ker (hW : n + m = W) (r : Re p W W S f) : Re p m m (kS n S) (kf n f) :=
  ⟨fun c j hc hs hj => r.rng (n + c) (n + j) (by omega) hs (by omega), fun c hc hs => r.one (n + c) (by omega) hs, fun c d hc hd hs hd2 hne => r.zer (n + c) (n + d) (by omega) (by omega) hs hd2 (by omega), fun c j hc hs hj => r.lead (n + c) (n + j) (by omega) hs (by omega)⟩
theorem cnt_app (n m : Nat) (S : Nat → Bool) : cnt (n + m) S = cnt n S + cnt m (kS n S) := by
  induction m with
  | zero => simp [cnt]
  | succ m ih => rw [Nat.add_succ, cnt_succ, ih, cnt_succ, Nat.add_assoc]; rfl
/-- The first n columns: the span of the rows. -/
theorem Sk.left (hW : n + m = W) (s : Sk p n m W V S f k) : Sp p n n V m S f (cnt n S) := by
  have r := s.re
  refine ⟨⟨fun c j hc hs hj => r.rng c j (by omega) hs (by omega), fun c hc hs => r.one c (by omega) hs, fun c d hc hd hs hd2 hne => r.zer c d (by omega) (by omega) hs hd2 hne, fun c j hc hs hj => r.lead c j (by omega) hs hj⟩, fun c hc hs => ?_, fun a ha => ?_, rfl⟩
  · exact ((s.out c (by omega) hs).cols (by omega)).rows fun i j hi hj => by rw [mk_lo hW hi hj]
  · obtain ⟨d, hd⟩ := s.inn a ha
    refine ⟨d, fun j hj => ?_⟩
    have := hd j (by omega)
    rw [mk_lo hW ha hj] at this
    rw [this, ← hW, sm_app, sm_zeros (n := m) fun c hc => ?_, Int.add_zero]
    cases hs : S (n + c) with
    | false => rw [gf_no hs, Int.mul_zero]
    | true => rw [gf_yes hs, r.lead (n + c) j (by omega) hs (by omega), Int.mul_zero]
/-- What lies behind the pivots of the last m columns is mapped to zero. -/
theorem Sk.zero (hW : n + m = W) (s : Sk p n m W V S f k) {c : Nat} (hc : c < m) (hs : kS n S c = true) {j : Nat} (hj : j < n) : sm m (fun i => kf n f c i * V i j) % p = 0 := by
  obtain ⟨d, hd⟩ := s.out (n + c) (by omega) hs
  have e : ∀ i, i < m → kf n f c i % p = d i % p := fun i hi => by
    have q := hd (n + i) (by omega)
    rw [sm_one (t := i) hi fun a ha hne => by rw [mk_hi hW ha hi, if_neg (Ne.symm hne), Int.mul_zero], mk_hi hW hi hi, if_pos rfl, Int.mul_one] at q
    exact q
  have q := hd j (by omega)
  rw [s.re.lead (n + c) j (by omega) hs (by omega), Int.zero_emod] at q
  rw [q]
  exact sm_mod fun i hi => by rw [mk_lo hW hi hj]; exact mul_mod (e i hi) rfl
/-- What is mapped to zero is a combination of them. -/
theorem Sk.all (hW : n + m = W) (s : Sk p n m W V S f k) {κ : Nat → Int} (h : ∀ j, j < n → sm m (fun i => κ i * V i j) % p = 0) : ∀ i, i < m → κ i % p = sm m (fun c => κ c * gf (kS n S) (kf n f) c i) % p := fun i hi => by
  have hv : InS p W m (vw (mkR m W (mkE n V))) (fun j => sm m (fun i => κ i * vw (mkR m W (mkE n V)) i j)) := ⟨κ, fun j _ => rfl⟩
  obtain ⟨d, hd⟩ := s.mem.1 hv
  have q := s.re.read hd (j := n + i) (by omega)
  have hi2 : ∀ c, c < m → sm m (fun i => κ i * vw (mkR m W (mkE n V)) i (n + c)) = κ c := fun c hc => by
    rw [sm_one (t := c) hc fun a ha hne => by rw [mk_hi hW ha hc, if_neg (Ne.symm hne), Int.mul_zero], mk_hi hW hc hc, if_pos rfl, Int.mul_one]
  rw [hi2 i hi, ← hW, sm_app] at q
  rw [q, ← Int.add_emod_emod, Int.add_emod, smod_zero (n := n) fun c hc => ?_]
  · rw [Int.zero_add, Int.emod_emod_of_dvd _ (Int.dvd_refl p), Int.emod_emod_of_dvd _ (Int.dvd_refl p)]
    congr 1
    refine sm_congr fun c hc => ?_
    rw [hW, hi2 c hc]
    rfl
  · have := h c hc
    rw [Int.mul_emod, hW, sm_congr (g := fun i => κ i * V i c) fun a ha => by rw [mk_lo hW ha hc], this, Int.zero_mul, Int.zero_emod]
end
end Go.Proofs.Ytlhebmcnjgagjaa

/- Layer 5: the plain law of the intersection. -/
namespace Go.Proofs.Ytlhebmcnjgagjaa
open Go Go.Ay
set_option maxRecDepth 100000
/-- A combination of rows, reduced at each step. -/
def acF (p : Int) (κ : Nat → Int) (F : Nat → Nat → Int) : Nat → Nat → Int
  | 0 => fun _ => 0
  | i + 1 => fun j => (acF p κ F i j + κ i * F i j) % p
theorem acF_mod (p : Int) (κ : Nat → Int) (F : Nat → Nat → Int) (i j : Nat) : acF p κ F i j % p = sm i (fun a => κ a * F a j) % p := by
  induction i with
  | zero => rfl
  | succ i ih => rw [acF, sm_succ, mm2]; exact add_cg ih rfl
theorem acF_range {p : Int} (hp : 0 < p) (κ : Nat → Int) (F : Nat → Nat → Int) (i j : Nat) : 0 ≤ acF p κ F i j ∧ acF p κ F i j < p := by
  cases i with
  | zero => exact ⟨Int.le_refl 0, hp⟩
  | succ i => exact tmod_range _ hp
section
variable {p : Int} {n : Nat} {ll : List (List Int)} {P : Nat → Nat} {g : Nat → Nat → Int}
theorem Pv.vw (v : Pv p n ll P g) {i j : Nat} (hi : i < ll.length) (hj : j < n) : vw ll i j = g i j := by
  rw [Go.Proofs.Ytlhebmcnjgagjaa.vw, v.row i hi, mkV_get _ hj]
/-- At a pivot a combination shows its coefficient. -/
theorem Pv.at_ (v : Pv p n ll P g) (κ : Nat → Int) {t : Nat} (ht : t < ll.length) : sm ll.length (fun i => κ i * Go.Proofs.Ytlhebmcnjgagjaa.vw ll i (P t)) = κ t := by
  rw [sm_one (t := t) ht fun a ha hne => by rw [v.vw ha (v.lt t ht), v.zer t a ht ha hne, Int.mul_zero], v.vw ht (v.lt t ht), v.one t ht, Int.mul_one]
end
/-- The rows of the intersection before they are reduced. -/
def mtL (p : Int) (n : Nat) (first K : List (List Int)) : List (List Int) := (List.range K.length).map fun q => mkV n (acF p (vw K q) (vw first) first.length)
theorem mtL_len (p : Int) (n : Nat) (first K : List (List Int)) : (mtL p n first K).length = K.length := by rw [mtL, List.length_map, List.length_range]
theorem mtL_row {p : Int} {n : Nat} {first K : List (List Int)} {q : Nat} (hq : q < K.length) : (mtL p n first K).getD q [] = mkV n (acF p (vw K q) (vw first) first.length) := by
  rw [mtL, List.getD_eq_getElem?_getD, List.getElem?_map, List.getElem?_range hq]; rfl
theorem mtL_vw {p : Int} {n : Nat} {first K : List (List Int)} {q j : Nat} (hq : q < K.length) (hj : j < n) : vw (mtL p n first K) q j = acF p (vw K q) (vw first) first.length j := by
  rw [vw, mtL_row hq, mkV_get _ hj]
theorem vw_app {a b : List (List Int)} {i j : Nat} : vw (a ++ b) i j = if i < a.length then vw a i j else vw b (i - a.length) j := by
  unfold vw
  rw [List.getD_eq_getElem?_getD (l := a ++ b)]
  by_cases e : i < a.length
  · rw [if_pos e, List.getElem?_append_left e, ← List.getD_eq_getElem?_getD]
  · rw [if_neg e, List.getElem?_append_right (by omega), ← List.getD_eq_getElem?_getD]
section
variable {p : Int} {n : Nat} {first second : List (List Int)} {P1 P2 PK : Nat → Nat} {g1 g2 gK : Nat → Nat → Int} {K : List (List Int)}
/-- A combination whose rows map to zero. -/
theorem both_zero (hp : 1 < p) (v1 : Pv p n first P1 g1) (v2 : Pv p n second P2 g2) {κ : Nat → Int} (h1 : ∀ j, j < n → sm first.length (fun i => κ i * vw first i j) % p = 0) (h2 : ∀ j, j < n → sm (first.length + second.length) (fun i => κ i * vw (first ++ second) i j) % p = 0) : ∀ i, i < first.length + second.length → κ i % p = 0 := by
  have e1 : ∀ i, i < first.length → κ i % p = 0 := fun i hi => by
    have := h1 (P1 i) (v1.lt i hi)
    rwa [v1.at_ κ hi] at this
  have h3 : ∀ j, j < n → sm second.length (fun i => κ (first.length + i) * vw second i j) % p = 0 := fun j hj => by
    have q := h2 j hj
    rw [sm_app, sm_congr (n := first.length) (g := fun i => κ i * vw first i j) (fun i hi => by rw [vw_app, if_pos hi]), Int.add_emod, h1 j hj, Int.zero_add, mm2, sm_congr (g := fun i => κ (first.length + i) * vw second i j) (fun i hi => by rw [vw_app, if_neg (by omega), Nat.add_sub_cancel_left])] at q
    exact q
  intro i hi
  by_cases e : i < first.length
  · exact e1 i e
  · obtain ⟨t, rfl⟩ : ∃ t, i = first.length + t := ⟨i - first.length, by omega⟩
    have := h3 (P2 t) (v2.lt t (by omega))
    rwa [v2.at_ (fun i => κ (first.length + i)) (by omega)] at this
theorem meet_new (hp : 1 < p) (v1 : Pv p n first P1 g1) (v2 : Pv p n second P2 g2) (vK : Pv p (first.length + second.length) K PK gK)
    (hK : ∀ q, q < K.length → ∀ j, j < n → sm (first.length + second.length) (fun i => vw K q i * vw (first ++ second) i j) % p = 0) :
    ∀ i S f k, i < (mtL p n first K).length → Sp p n n (vw (mtL p n first K)) i S f k → ¬ ∀ j, j < n → rdF p S f (fun j => ((mtL p n first K).getD i []).getD j 0 % p) n j = 0 := fun q S f k hq s e => by
  rw [mtL_len] at hq
  obtain ⟨c, hc⟩ := (s.zero (by omega) (fun j => ((mtL p n first K).getD q []).getD j 0)).1 e
  obtain ⟨κ, hκ⟩ : ∃ κ : Nat → Int, κ = fun i => vw K q i - sm q (fun a => c a * vw K a i) := ⟨_, rfl⟩
  have lin : ∀ (L : Nat) (F : Nat → Nat → Int) (j : Nat), sm L (fun i => κ i * F i j) = sm L (fun i => vw K q i * F i j) - sm q (fun a => c a * sm L (fun i => vw K a i * F i j)) := fun L F j => by
    rw [sm_congr (g := fun i => vw K q i * F i j - sm q (fun a => c a * (vw K a i * F i j))) fun i _ => by
      rw [hκ]
      simp only
      rw [Int.sub_mul, ← sm_mulr]
      congr 1
      exact sm_congr fun a _ => by rw [Int.mul_assoc], sm_sub, sm_swap]
    congr 1
    exact sm_congr fun a _ => by rw [sm_mul]
  have h1 : ∀ j, j < n → sm first.length (fun i => κ i * vw first i j) % p = 0 := fun j hj => by
    rw [lin]
    have q1 : vw (mtL p n first K) q j % p = _ := hc j hj
    rw [mtL_vw hq hj, acF_mod] at q1
    rw [Int.emod_eq_zero_of_dvd]
    refine Int.dvd_of_emod_eq_zero ?_
    rw [← Int.emod_eq_emod_iff_emod_sub_eq_zero, q1]
    exact sm_mod fun a ha => mul_mod rfl (by rw [mtL_vw (by omega) hj, acF_mod])
  have h2 : ∀ j, j < n → sm (first.length + second.length) (fun i => κ i * vw (first ++ second) i j) % p = 0 := fun j hj => by
    rw [lin, Int.sub_emod, hK q hq j hj, smod_zero (n := q) fun a ha => by rw [Int.mul_emod, hK a (by omega) j hj, Int.mul_zero, Int.zero_emod]]
    rfl
  have z := both_zero hp v1 v2 h1 h2 (PK q) (vK.lt q hq)
  rw [hκ] at z
  simp only at z
  rw [vK.vw hq (vK.lt q hq), vK.one q hq, sm_zeros fun a ha => by rw [vK.vw (by omega) (vK.lt q hq), vK.zer q a hq (by omega) (by omega), Int.mul_zero], Int.sub_zero, Int.emod_eq_of_lt (by omega) hp] at z
  omega
end
end Go.Proofs.Ytlhebmcnjgagjaa

/- Layer 5: Basis and Rank with the span that they found; a copy of rows. -/
namespace Go.Proofs.Ytlhebmcnjgagjaa
open Go Go.Ay
set_option maxRecDepth 100000
set_option maxHeartbeats 8000000 in
theorem Rank_sp (p : Int) (n : Nat) (v : V) (ll : List (List Int)) (h : H) (hv : SR h v ll) (hl : (ll.length : Int) ≤ 2 ^ 63 - 1) (hz0 : ckF p n [ll] = 0) :
    Ev T n_linear_Rank [.int .i64 p, .int .i64 (n : Int), v] h (fun w h' => ∃ S f, ∃ k : Nat, w = .tup [.int .i64 (k : Int), .int .i64 0] ∧ Sp p n n (vw ll) ll.length S f k ∧ k ≤ ll.length ∧ Fr h h') := by
  refine Ev_of t_linear_Rank rfl ?_
  have wv := SV.what hv.choose_spec.1
  simp (disch := first | omega | (simp only [Qn] <;> omega)) only [go_sem, c_linear_Rank, initV_eq, bls_row h wv.1 wv.2.1]
  have hf1 : Fr h (h.new (.cells false [v])) := (Fr.refl h).new _
  have hg1 : (h.new (.cells false [v])).get h.next = some (.cells false [v]) := H.get_new_same ..
  have hn1 : (h.new (.cells false [v])).next = h.next + 1 := H.next_new ..
  generalize h.new (.cells false [v]) = h1 at *
  have c1 : h1.cell h.next 0 = some v := by rw [H.cell_of hg1]; rfl
  refine (check5_ok p (n : Int) (.sl h.next 0 1 (.kn 1)) 1 (fun _ => v) (fun _ => ll) h.next 0 h1 (sl1 ..) (fun _ => by omega) (fun i hi => by obtain rfl : i = 0 := (by omega); exact c1) (fun _ _ => hv.mono hf1) (fun _ _ => hl) (by omega)).mono ?_
  rintro w h2 ⟨rfl, f2⟩
  have F2 := hf1.trans f2
  simp only [List.range_one, List.map_cons, List.map_nil]
  simp (disch := first | omega | (simp only [Qn] <;> omega)) only [go_sem]
  refine iteW_dec (fun hz => absurd hz0 hz) (fun _ => ?_)
  have hz := hz0
  obtain ⟨q1, q2, q3, q4, q5⟩ := ck_zero hz
  obtain ⟨q6, q7⟩ := q5 ll (List.mem_singleton.2 rfl)
  simp (disch := first | omega | (simp only [Qn] <;> omega)) only [go_sem]
  refine (begin_ok p n n (fun _ _ => 0) h2).mono ?_
  rintro w h3 ⟨E, M, ρ, rfl, k3, f3⟩
  simp (disch := first | omega | (simp only [Qn] <;> omega)) only [go_sem]
  refine (each_ok p E M n n h2.next ll v _ (Sp.kp (isP_gt q1) (Nat.le_refl n) ll) h2 h3 _ ρ _ k3 f3.next (Sp.start p n n _ _) f3 (Nat.le_refl _) (hv.mono F2) (by omega) (fun i hi => by have := q7 i hi; omega) (by omega) (Nat.le_refl n) q1 q2).mono ?_
  rintro w h4 ⟨k, S, ρ, f, rfl, s, hk, kE, hF, hnx⟩
  simp (disch := first | omega | (simp only [Qn] <;> omega)) only [go_sem]
  exact ⟨S, f, k, rfl, s, hk, F2.trans (hF h2 f3 (Nat.le_refl _))⟩
end Go.Proofs.Ytlhebmcnjgagjaa

/- Layer 5: two lists of rows in a row; Sum. -/
namespace Go.Proofs.Ytlhebmcnjgagjaa
open Go Go.Ay
set_option maxRecDepth 100000
theorem caps_nil (ρ : X → V) (h : H) (x : X) (hx : ρ x = .nils) : evI ρ h (.caps x) = some (.int .i64 0, h) := by
  simp only [evI, hx]
theorem growr_ok (n : Nat) (h : H) (hn : n < 1000000) : Ev T n_slices_Grow_int_int_x85 [.nils, .int .i64 (n : Int)] h (fun v h' => Own h' v 1 [] h.next ∧ Fr h h') := by
  refine Ev_of t_slices_Grow_int_int_x85 rfl ?_
  simp (disch := first | omega | (simp only [Qn] <;> omega)) only [go_sem, c_slices_Grow_int_int_x85, initV_eq]
  rw [decide_eq_false (show ¬ ((n : Int) < 0) by omega)]
  simp (disch := first | omega | (simp only [Qn] <;> omega)) only [go_sem]
  rw [caps_nil _ _ _ rfl]
  simp (disch := first | omega | (simp only [Qn] <;> omega)) only [go_sem]
  by_cases hn0 : n = 0
  · subst hn0
    rw [decide_eq_false (show ¬ 0 < ((0 : Nat) : Int) - (0 - 0) by omega)]
    simp (disch := omega) only [go_sem]
    exact ⟨Own.nils _ _ _, Fr.refl h⟩
  rw [decide_eq_true (show 0 < (n : Int) - (0 - 0) by omega)]
  simp (disch := first | omega | (simp only [Qn] <;> omega)) only [go_sem]
  rw [caps_nil _ _ _ rfl]
  have ea := apzP_int (h := h) (sz := 1) (bytes := 24) (zero := [.nils]) (x := .nils) (n := (n : Int) - (0 - 0)) (by omega) (by omega) (by omega) rfl
  obtain ⟨v, h', e, a⟩ := (Own.nils h 1 h.next).appV (bytes := 24) (Nat.le_refl _) (n := 0) (m := n) (us := zerosV [.nils] n) rfl (by simp [zerosV]) (by omega) (by omega)
  rw [show ((n : Int) - (0 - 0)).toNat = n by omega, Nat.mul_one, e] at ea
  simp (disch := first | omega | (simp only [Qn] <;> omega)) only [go_sem, slc_nils, ea]
  rcases a.what with ⟨h1, _⟩ | ⟨id, rfl, h2, h3, h4⟩
  · omega
  have es : slcV 1 (.sl id 0 n (.un 1)) none (some (.int .i64 0)) none = some (.sl id 0 0 (.un 1)) := slc_un (by omega) (by omega)
  simp (disch := first | omega | (simp only [Qn] <;> omega)) only [go_sem, es]
  exact ⟨.inr ⟨id, 0, .un 1, _, rfl, rfl, .inl rfl, h2, h3, h4⟩, a.fr h (Fr.refl h) (Nat.le_refl _)⟩
theorem concatr_ok (id : Nat) (ua ub : V) (a b : List V) (h : H) (hg : h.get id = some (.cells false [ua, ub])) (hid : id < h.next) (ha : SV h ua 1 a) (hb : SV h ub 1 b) (la : a.length < 10000) (lb : b.length < 10000) :
    Ev T n_slices_Concat_int_int_x61 [.sl id 0 2 (.kn 2)] h (fun v h' => Own h' v 1 (a ++ b) h.next ∧ Fr h h') := by
  refine Ev_of t_slices_Concat_int_int_x61 rfl ?_
  have la' : lensV ua = some (.int .i64 (a.length : Int)) := by unfold lensV; rw [ha.len (n := a.length) (by omega) (by omega)]; rfl
  have lb' : lensV ub = some (.int .i64 (b.length : Int)) := by unfold lensV; rw [hb.len (n := b.length) (by omega) (by omega)]; rfl
  have lens2 : lensV (.sl id 0 2 (.kn 2)) = some (.int .i64 2) := rfl
  have c0 : h.cell id 0 = some ua := by rw [H.cell_of hg]; rfl
  have c1 : h.cell id 1 = some ub := by rw [H.cell_of hg]; rfl
  have i0 : ixaV 1 (.sl id 0 2 (.kn 2)) (.int .i64 0) = some (.ptr id 0) := by rw [ixaV_sl (by omega) (by omega)]; rfl
  have i1 : ixaV 1 (.sl id 0 2 (.kn 2)) (.int .i64 1) = some (.ptr id 1) := by rw [ixaV_sl (by omega) (by omega)]; rfl
  simp (disch := first | omega | (simp only [Qn] <;> omega)) only [go_sem, c_slices_Concat_int_int_x61, initV_eq, lens2]
  refine Wp_loop_unroll ?_
  simp (disch := first | omega | (simp only [Qn] <;> omega)) only [go_sem, i0, c0, la']
  rw [decide_eq_true (show (0 : Int) < 2 by omega)]
  simp (disch := first | omega | (simp only [Qn] <;> omega)) only [go_sem, i0, c0, la']
  rw [decide_eq_false (show ¬ (0 + (a.length : Int)) < 0 by omega)]
  simp (disch := first | omega | (simp only [Qn] <;> omega)) only [go_sem]
  rw [show (0 : Int) + 1 = 1 from rfl, Int.zero_add]
  refine Wp_loop_unroll ?_
  simp (disch := first | omega | (simp only [Qn] <;> omega)) only [go_sem]
  rw [decide_eq_true (show (1 : Int) < 2 by omega)]
  simp (disch := first | omega | (simp only [Qn] <;> omega)) only [go_sem, i1, c1, lb']
  rw [decide_eq_false (show ¬ ((a.length : Int) + (b.length : Int)) < 0 by omega)]
  simp (disch := first | omega | (simp only [Qn] <;> omega)) only [go_sem]
  rw [show (1 : Int) + 1 = 2 from rfl]
  refine Wp_loop_unroll ?_
  simp (disch := first | omega | (simp only [Qn] <;> omega)) only [go_sem]
  rw [decide_eq_false (show ¬ (2 : Int) < 2 by omega)]
  simp (disch := first | omega | (simp only [Qn] <;> omega)) only [go_sem]
  rw [show (a.length : Int) + (b.length : Int) = ((a.length + b.length : Nat) : Int) by omega]
  refine (growr_ok (a.length + b.length) h (by omega)).mono ?_
  rintro v h1 ⟨o1, f1⟩
  have c0 : h1.cell id 0 = some ua := by rw [f1.cell hid]; exact c0
  obtain ⟨v2, h2, e2, a2⟩ := o1.app (bytes := 24) (n := 0) (m := a.length) f1.next (SV.mono ha f1) rfl (by omega) (by omega) (by omega)
  have f2 := a2.fr h f1 (Nat.le_refl _)
  have c1 : h2.cell id 1 = some ub := by rw [f2.cell hid]; exact c1
  have o2 := a2.own
  obtain ⟨v3, h3, e3, a3⟩ := o2.app (bytes := 24) (n := a.length) (m := b.length) f2.next (SV.mono hb f2) (by simp) (by omega) (by omega) (by omega)
  have f3 := a3.fr h f2 (Nat.le_refl _)
  simp (disch := first | omega | (simp only [Qn] <;> omega)) only [go_sem, lens2]
  refine Wp_loop_unroll ?_
  simp (disch := first | omega | (simp only [Qn] <;> omega)) only [go_sem]
  rw [decide_eq_true (show (0 : Int) < 2 by omega)]
  simp (disch := first | omega | (simp only [Qn] <;> omega)) only [go_sem, i0, c0, e2]
  rw [show (0 : Int) + 1 = 1 from rfl]
  refine Wp_loop_unroll ?_
  simp (disch := first | omega | (simp only [Qn] <;> omega)) only [go_sem]
  rw [decide_eq_true (show (1 : Int) < 2 by omega)]
  simp (disch := first | omega | (simp only [Qn] <;> omega)) only [go_sem, i1, c1, e3]
  rw [show (1 : Int) + 1 = 2 from rfl]
  refine Wp_loop_unroll ?_
  simp (disch := first | omega | (simp only [Qn] <;> omega)) only [go_sem]
  rw [decide_eq_false (show ¬ (2 : Int) < 2 by omega)]
  simp (disch := first | omega | (simp only [Qn] <;> omega)) only [go_sem]
  have o3 := a3.own
  exact ⟨o3, f3⟩
end Go.Proofs.Ytlhebmcnjgagjaa

/- Layer 5: Sum. -/
namespace Go.Proofs.Ytlhebmcnjgagjaa
open Go Go.Ay
set_option maxRecDepth 100000
theorem ck_two {p n : Int} {A B : List (List Int)} (h : ckF p n [A, B] = 0) : isP p = true ∧ p < 10000 ∧ 1 ≤ n ∧ n ≤ 64 ∧ A.length ≤ 200 ∧ B.length ≤ 200 ∧ (∀ i, i < A.length → ((A.getD i []).length : Int) = n) ∧ ∀ i, i < B.length → ((B.getD i []).length : Int) = n := by
  obtain ⟨q1, q2, q3, q4, q5⟩ := ck_zero h
  obtain ⟨q6, q7⟩ := q5 A (by simp)
  obtain ⟨q8, q9⟩ := q5 B (by simp)
  exact ⟨q1, q2, q3, q4, q6, q8, q7, q9⟩
set_option maxHeartbeats 8000000 in
theorem check2_ok (p : Int) (n : Nat) (va vb : V) (A B : List (List Int)) (id : Nat) (h : H) (hg : h.get id = some (.cells false [va, vb])) (hid : id < h.next) (ha : SR h va A) (hb : SR h vb B) (lA : (A.length : Int) ≤ 2 ^ 63 - 1) (lB : (B.length : Int) ≤ 2 ^ 63 - 1) :
    Ev T n_linear_check [.int .i64 p, .int .i64 (n : Int), .sl id 0 2 (.kn 2)] h (fun w h' => w = .int .i64 (ckF p n [A, B]) ∧ Fr h h') := by
  have c1 : h.cell id 0 = some va := by rw [H.cell_of hg]; rfl
  have c2 : h.cell id 1 = some vb := by rw [H.cell_of hg]; rfl
  refine (check5_ok p n (.sl id 0 2 (.kn 2)) 2 (fun i => if i = 0 then va else vb) (fun i => if i = 0 then A else B) id 0 h (sl1 ..) (fun _ => hid) (fun i hi => ?_) (fun i hi => ?_) (fun i hi => ?_) (by omega)).mono fun _ _ q => q
  · rcases (show i = 0 ∨ i = 1 by omega) with rfl | rfl
    · exact c1
    · exact c2
  · rcases (show i = 0 ∨ i = 1 by omega) with rfl | rfl
    · exact ha
    · exact hb
  · rcases (show i = 0 ∨ i = 1 by omega) with rfl | rfl
    · exact lA
    · exact lB
set_option maxHeartbeats 8000000 in
theorem Sum_sp (p : Int) (n : Nat) (va vb : V) (A B : List (List Int)) (h : H) (ha : SR h va A) (hb : SR h vb B) (lA : (A.length : Int) ≤ 2 ^ 63 - 1) (lB : (B.length : Int) ≤ 2 ^ 63 - 1) (hz0 : ckF p n [A, B] = 0) :
    Ev T n_linear_Sum [.int .i64 p, .int .i64 (n : Int), va, vb] h (fun w h' => ∃ u S f k, w = .tup [u, .int .i64 0] ∧ Sp p n n (vw (A ++ B)) (A ++ B).length S f k ∧ SRf h' u (rwF n n S f) h.next ∧ Fr h h') := by
  refine Ev_of t_linear_Sum rfl ?_
  have wa := SV.what ha.choose_spec.1
  have wb := SV.what hb.choose_spec.1
  have bl2 := fun hh => bls_two hh (x := va) (u := vb) wa.1 wa.2.1 wb.1 wb.2.1
  simp (disch := first | omega | (simp only [Qn] <;> omega)) only [go_sem, c_linear_Sum, initV_eq, bl2]
  have hf1 : Fr h (h.new (.cells false [va, vb])) := (Fr.refl h).new _
  have hg1 : (h.new (.cells false [va, vb])).get h.next = some (.cells false [va, vb]) := H.get_new_same ..
  have hn1 : (h.new (.cells false [va, vb])).next = h.next + 1 := H.next_new ..
  generalize h.new (.cells false [va, vb]) = h1 at *
  refine (check2_ok p n va vb A B h.next h1 hg1 (by omega) (ha.mono hf1) (hb.mono hf1) lA lB).mono ?_
  rintro w h2 ⟨rfl, f2⟩
  have F2 := hf1.trans f2
  simp (disch := first | omega | (simp only [Qn] <;> omega)) only [go_sem]
  refine iteW_dec (fun hz => absurd hz0 hz) (fun _ => ?_)
  obtain ⟨q1, q2, q3, q4, q5, q6, q7, q8⟩ := ck_two hz0
  simp (disch := first | omega | (simp only [Qn] <;> omega)) only [go_sem, bl2]
  have hf3 : Fr h2 (h2.new (.cells false [va, vb])) := (Fr.refl h2).new _
  have hg3 : (h2.new (.cells false [va, vb])).get h2.next = some (.cells false [va, vb]) := H.get_new_same ..
  have hn3 : (h2.new (.cells false [va, vb])).next = h2.next + 1 := H.next_new ..
  generalize h2.new (.cells false [va, vb]) = h3 at *
  have F3 := F2.trans hf3
  obtain ⟨wsA, sA, aA⟩ := ha.mono F3
  obtain ⟨wsB, sB, aB⟩ := hb.mono F3
  have lwA := aA.length
  have lwB := aB.length
  refine (concatr_ok h2.next va vb wsA wsB h3 hg3 (by omega) sA sB (by omega) (by omega)).mono ?_
  rintro w h4 ⟨o4, f4⟩
  have s4 : SR h4 w (A ++ B) := ⟨wsA ++ wsB, o4.sv, All2.append (aA.mono fun _ _ s => s.mono f4) (aB.mono fun _ _ s => s.mono f4)⟩
  have lAB : (A ++ B).length = A.length + B.length := List.length_append
  have rAB : ∀ i, i < (A ++ B).length → ((A ++ B).getD i []).length = n := fun i hi => by
    rw [List.getD_eq_getElem?_getD]
    by_cases e : i < A.length
    · rw [List.getElem?_append_left e, ← List.getD_eq_getElem?_getD]; have := q7 i e; omega
    · rw [List.getElem?_append_right (by omega), ← List.getD_eq_getElem?_getD]; have := q8 (i - A.length) (by omega); omega
  simp (disch := first | omega | (simp only [Qn] <;> omega)) only [go_sem]
  refine (span_ok p n n (A ++ B) w _ (Sp.kp (isP_gt q1) (Nat.le_refl n) (A ++ B)) h4 (Sp.start p n n _ _) s4 (by omega) rAB (by omega) (Nat.le_refl n) q1 q2).mono ?_
  rintro w h5 ⟨E, M, k, S, ρ, f, rfl, s, hk, kE, f5⟩
  simp (disch := first | omega | (simp only [Qn] <;> omega)) only [go_sem]
  refine (list_fr p E M n n S ρ f _ h5 kE (by omega)).mono ?_
  rintro w h6 ⟨_, f6, sl⟩
  simp (disch := first | omega | (simp only [Qn] <;> omega)) only [go_sem]
  exact ⟨_, S, f, k, rfl, s, sl.le (F3.trans f4).next, ((F3.trans f4).trans f5).trans f6⟩
end Go.Proofs.Ytlhebmcnjgagjaa

/- Layer 5: Meet. -/
namespace Go.Proofs.Ytlhebmcnjgagjaa
open Go Go.Ay
set_option maxRecDepth 100000
theorem getD_app {A B : List (List Int)} {n : Nat} (hA : ∀ i, i < A.length → (A.getD i []).length = n) (hB : ∀ i, i < B.length → (B.getD i []).length = n) : ∀ i, i < (A ++ B).length → ((A ++ B).getD i []).length = n := fun i hi => by
  rw [List.length_append] at hi
  rw [List.getD_eq_getElem?_getD]
  by_cases e : i < A.length
  · rw [List.getElem?_append_left e, ← List.getD_eq_getElem?_getD]; exact hA i e
  · rw [List.getElem?_append_right (by omega), ← List.getD_eq_getElem?_getD]; exact hB _ (by omega)
set_option maxHeartbeats 32000000 in
theorem Meet_sp (p : Int) (n : Nat) (va vb : V) (A B : List (List Int)) (h : H) (ha : SR h va A) (hb : SR h vb B) (lA : (A.length : Int) ≤ 2 ^ 63 - 1) (lB : (B.length : Int) ≤ 2 ^ 63 - 1) (hz0 : ckF p n [A, B] = 0) :
    Ev T n_linear_Meet [.int .i64 p, .int .i64 (n : Int), va, vb] h (fun w h' => ∃ u S1 f1 k1 S2 f2 k2 Sk fk S f k first second K, w = .tup [u, .int .i64 0] ∧ Sp p n n (vw A) A.length S1 f1 k1 ∧ Sp p n n (vw B) B.length S2 f2 k2 ∧ first = rwF n n S1 f1 ∧ second = rwF n n S2 f2 ∧
      Go.Proofs.Ytlhebmcnjgagjaa.Sk p n (first ++ second).length (n + (first ++ second).length) (vw (first ++ second)) Sk fk (first ++ second).length ∧ K = krF n (first ++ second).length Sk fk (n + (first ++ second).length) ∧ Sp p n n (vw (mtL p n first K)) K.length S f k ∧ k = K.length ∧ SRf h' u (rwF n n S f) h.next ∧ Fr h h') := by
  refine Ev_of t_linear_Meet rfl ?_
  have wa := SV.what ha.choose_spec.1
  have wb := SV.what hb.choose_spec.1
  have bl2 := fun hh => bls_two hh (x := va) (u := vb) wa.1 wa.2.1 wb.1 wb.2.1
  simp (disch := first | omega | (simp only [Qn] <;> omega)) only [go_sem, c_linear_Meet, initV_eq, bl2]
  have hf1 : Fr h (h.new (.cells false [va, vb])) := (Fr.refl h).new _
  have hg1 : (h.new (.cells false [va, vb])).get h.next = some (.cells false [va, vb]) := H.get_new_same ..
  have hn1 : (h.new (.cells false [va, vb])).next = h.next + 1 := H.next_new ..
  generalize h.new (.cells false [va, vb]) = h1 at *
  refine (check2_ok p n va vb A B h.next h1 hg1 (by omega) (ha.mono hf1) (hb.mono hf1) lA lB).mono ?_
  rintro w h2 ⟨rfl, f2'⟩
  have F2 := hf1.trans f2'
  simp (disch := first | omega | (simp only [Qn] <;> omega)) only [go_sem]
  refine iteW_dec (fun hz => absurd hz0 hz) (fun _ => ?_)
  obtain ⟨q1, q2, q3, q4, q5, q6, q7, q8⟩ := ck_two hz0
  have hp := isP_gt q1
  have rA : ∀ i, i < A.length → (A.getD i []).length = n := fun i hi => by have := q7 i hi; omega
  have rB : ∀ i, i < B.length → (B.getD i []).length = n := fun i hi => by have := q8 i hi; omega
  simp (disch := first | omega | (simp only [Qn] <;> omega)) only [go_sem]
  refine (span_ok p n n A va _ (Sp.kp hp (Nat.le_refl n) A) h2 (Sp.start p n n _ _) (ha.mono F2) (by omega) rA (by omega) (Nat.le_refl n) q1 q2).mono ?_
  rintro w h3 ⟨E1, M1, k1, S1, ρ1, f1, rfl, s1, hk1, kE1, f3⟩
  have F3 := F2.trans f3
  simp (disch := first | omega | (simp only [Qn] <;> omega)) only [go_sem]
  refine (span_ok p n n B vb _ (Sp.kp hp (Nat.le_refl n) B) h3 (Sp.start p n n _ _) (hb.mono F3) (by omega) rB (by omega) (Nat.le_refl n) q1 q2).mono ?_
  rintro w h4 ⟨E2, M2, k2, S2, ρ2, f2, rfl, s2, hk2, kE2, f4⟩
  have F4 := F3.trans f4
  simp (disch := first | omega | (simp only [Qn] <;> omega)) only [go_sem]
  refine (list_fr p E1 M1 n n S1 ρ1 f1 _ h4 (kE1.fr f4) (by omega)).mono ?_
  rintro vf h5 ⟨_, f5, sf⟩
  have F5 := F4.trans f5
  obtain ⟨first, hfi⟩ : ∃ l, rwF n n S1 f1 = l := ⟨_, rfl⟩
  have pv1 := Re.pv s1.re
  rw [hfi] at sf pv1
  have lf : first.length = k1 := by rw [← hfi, rwF_len, s1.cn]
  have k1n : k1 ≤ n := by rw [s1.cn]; exact cnt_le n S1
  have rf : ∀ i, i < first.length → (first.getD i []).length = n := fun i hi => by rw [pv1.row i hi, mkV_len]
  simp (disch := first | omega | (simp only [Qn] <;> omega)) only [go_sem]
  refine (begin_ok p n n (fun _ _ => 0) h5).mono ?_
  rintro w h6 ⟨E, M, ρ, rfl, kE, f6⟩
  have F6 := F5.trans f6
  simp (disch := first | omega | (simp only [Qn] <;> omega)) only [go_sem]
  refine (list_fr p E2 M2 n n S2 ρ2 f2 _ h6 ((kE2.fr f5).fr f6) (by omega)).mono ?_
  rintro vs h7 ⟨_, f7, ss⟩
  obtain ⟨second, hse⟩ : ∃ l, rwF n n S2 f2 = l := ⟨_, rfl⟩
  have pv2 := Re.pv s2.re
  rw [hse] at ss pv2
  have ls : second.length = k2 := by rw [← hse, rwF_len, s2.cn]
  have k2n : k2 ≤ n := by rw [s2.cn]; exact cnt_le n S2
  have rs : ∀ i, i < second.length → (second.getD i []).length = n := fun i hi => by rw [pv2.row i hi, mkV_len]
  have F7 := F6.trans f7
  have sf7 := sf.sr.mono (f6.trans f7)
  have wf := SV.what sf7.choose_spec.1
  have wsx := SV.what ss.sr.choose_spec.1
  have bl3 := fun hh => bls_two hh (x := vf) (u := vs) wf.1 wf.2.1 wsx.1 wsx.2.1
  simp (disch := first | omega | (simp only [Qn] <;> omega)) only [go_sem, bl3]
  have hf8 : Fr h7 (h7.new (.cells false [vf, vs])) := (Fr.refl h7).new _
  have hg8 : (h7.new (.cells false [vf, vs])).get h7.next = some (.cells false [vf, vs]) := H.get_new_same ..
  have hn8 : (h7.new (.cells false [vf, vs])).next = h7.next + 1 := H.next_new ..
  generalize h7.new (.cells false [vf, vs]) = h8 at *
  have F8 := F7.trans hf8
  obtain ⟨wsA, sA, aA⟩ := sf7.mono hf8
  obtain ⟨wsB, sB, aB⟩ := ss.sr.mono hf8
  have lwA := aA.length
  have lwB := aB.length
  refine (concatr_ok h7.next vf vs wsA wsB h8 hg8 (by omega) sA sB (by omega) (by omega)).mono ?_
  rintro w h9 ⟨o9, f9⟩
  have s9 : SR h9 w (first ++ second) := ⟨wsA ++ wsB, o9.sv, All2.append (aA.mono fun _ _ s => s.mono f9) (aB.mono fun _ _ s => s.mono f9)⟩
  have F9 := F8.trans f9
  simp (disch := first | omega | (simp only [Qn] <;> omega)) only [go_sem]
  obtain ⟨st, hst⟩ : ∃ l, first ++ second = l := ⟨_, rfl⟩
  have lst : st.length = first.length + second.length := by rw [← hst, List.length_append]
  have rst : ∀ i, i < st.length → (st.getD i []).length = n := by rw [← hst]; exact getD_app rf rs
  rw [hst] at s9
  refine (kernel_ok p n w st h9 s9 (by omega) (by omega) (by omega) rst q1 q2).mono ?_
  rintro vk hk ⟨kk, Sz, fk, hkk, sk, sK, fk'⟩
  subst hkk
  obtain ⟨K, hKe⟩ : ∃ l, krF n st.length Sz fk (n + st.length) = l := ⟨_, rfl⟩
  have hKr := hKe
  rw [krF_rwF rfl] at hKr
  have rK := Re.ker rfl sk.re
  have pvK := Re.pv rK
  rw [hKr] at pvK
  rw [hKe] at sK
  have Fk := F9.trans fk'
  have F5k : Fr h5 hk := (((f6.trans f7).trans hf8).trans f9).trans fk'
  have lvk := sK.sr.lens
  have rowK : ∀ q, q < K.length → (K.getD q []).length = st.length := fun q hq => by rw [pvK.row q hq, mkV_len]
  have rngK : ∀ q i, q < K.length → i < st.length → 0 ≤ vw K q i ∧ vw K q i < p := fun q i hq hi => by rw [pvK.vw hq hi]; exact pvK.rng q i hq hi
  have new := meet_new hp pv1 pv2 (lst ▸ pvK) (fun q hq j hj => by
    rw [hst, ← lst]
    have e := piv_at (n := st.length) (S := kS n Sz) (f := kf n fk) (i := q) (by rw [hKr]; exact hq)
    rw [hKr] at e
    rw [← Sk.zero rfl sk e.1 e.2.1 hj]
    congr 1
    exact sm_congr fun i hi => by rw [vw, e.2.2, mkV_get _ hi])
  obtain ⟨LL, hLL⟩ : ∃ l, mtL p n first K = l := ⟨_, rfl⟩
  have lLL : LL.length = K.length := by rw [← hLL, mtL_len]
  have KK := (Sp.kp hp (Nat.le_refl n) (mtL p n first K)).ind new
  rw [hLL] at KK
  have gM : M < h9.next := by have := kE.ltM; have := (((f7).trans hf8).trans f9).next; omega
  have gE : E < h9.next := by have := kE.ltE; have := (((f7).trans hf8).trans f9).next; omega
  have h9k := fk'.next
  have lK : K.length ≤ 200 := by rw [← hKe]; exact Nat.le_trans krF_len (by omega)
  have lvf : lensV vf = some (.int .i64 (first.length : Int)) := sf.sr.lens
  simp (disch := first | omega | (simp only [Qn] <;> omega)) only [go_sem, lvk]
  refine Wp_loop (fun k' vars hh => ∃ (q k : Nat) (S : Nat → Bool) (ρ : Nat → Nat) (f : Nat → Nat → Int), (∃ g : Nat → V, vars = [.int .i64 p, .int .i64 (n : Int), g 2, g 3, g 4, g 5, g 6, g 7, g 8, vf, .ptr E 0, g 11, g 12, g 13, g 14, g 15, vk, .int .i64 (K.length : Int), .int .i64 (q : Int), g 19, g 20, g 21, g 22, g 23]) ∧ q ≤ K.length ∧ (Sp p n n (vw LL) q S f k ∧ k = q) ∧ Ec hh E M n n p S ρ f h5.next ∧ (∀ c, c < n → S c = true → hk.next ≤ ρ c) ∧ Fr h5 hh ∧ Fx M hk hh ∧ k' = K.length - q) K.length
    ⟨0, 0, fun _ => false, ρ, fun _ _ => 0, ex_junk rfl, Nat.zero_le _, ⟨Sp.start p n n _ _, rfl⟩, kE.fr (((f7.trans hf8).trans f9).trans fk'), fun c _ (q : false = true) => Bool.noConfusion q, F5k, Fx.refl _ _, rfl⟩ ?_
  clear kE
  rintro k' vars hh ⟨q, k, S, ρ, f, ⟨jk, rfl⟩, hq, hφ, kE, hρ, Fh, FX, rfl⟩
  have nx := FX.next
  simp (disch := first | omega | (simp only [Qn] <;> omega)) only [go_sem]
  by_cases hlt : (q : Int) < (K.length : Int)
  · rw [decide_eq_true hlt]
    have hq' : q < K.length := by omega
    have sKh := (sK.fx gM FX).sr
    obtain ⟨id, off, ws, sl, hid, hwl, hc, hall⟩ := sKh.open
    have cq := hc q hq'
    have rq := row_at hall (i := q) hq'
    obtain ⟨wq, hwq⟩ : ∃ w, ws.getD q .undef = w := ⟨_, rfl⟩
    rw [hwq] at cq rq
    have emk := fun h' => mks_ints h' n (by omega)
    simp (disch := first | omega | (simp only [Qn] <;> omega)) only [go_sem, sl.ixa, cq, emk, lvf]
    have hfN : Fr hh (hh.new (.cells false (ints (mkV n fun _ => 0)))) := (Fr.refl hh).new _
    have hgN : (hh.new (.cells false (ints (mkV n fun _ => 0)))).get hh.next = some (.cells false (ints (mkV n fun _ => 0))) := H.get_new_same ..
    have hnN : (hh.new (.cells false (ints (mkV n fun _ => 0)))).next = hh.next + 1 := H.next_new ..
    generalize hh.new (.cells false (ints (mkV n fun _ => 0))) = hN at *
    obtain ⟨N, hNe⟩ : ∃ N, hh.next = N := ⟨_, rfl⟩
    rw [hNe] at hgN ⊢
    refine Wp_loop (fun k' vars hi => ∃ (i : Nat), (∃ g : Nat → V, vars = [.int .i64 p, .int .i64 (n : Int), g 2, g 3, g 4, g 5, g 6, g 7, g 8, vf, .ptr E 0, wq, .sl N 0 n (.kn n), g 13, g 14, g 15, vk, .int .i64 (K.length : Int), .int .i64 (q : Int), g 19, vf, .int .i64 (first.length : Int), .int .i64 (i : Int), g 23]) ∧ i ≤ first.length ∧ Bk hi N n (acF p (vw K q) (vw first) i) ∧ N < hi.next ∧ Fr hh hi ∧ k' = first.length - i) first.length
      ⟨0, ex_junk rfl, Nat.zero_le _, hgN, by omega, hfN, rfl⟩ ?_
    rintro k' vars hi ⟨i, ⟨jk2, rfl⟩, hii, bN, lN, Fi, rfl⟩
    have nhi := Fi.next
    simp (disch := first | omega | (simp only [Qn] <;> omega)) only [go_sem]
    by_cases hlt2 : (i : Int) < (first.length : Int)
    · rw [decide_eq_true hlt2]
      have hi' : i < first.length := by omega
      have sfi := sf.sr.mono Fh
      obtain ⟨idf, offf, wsf, slf, hidf, hwlf, hcf, hallf⟩ := sfi.open
      have cfi : hi.cell idf (offf + i) = some (wsf.getD i .undef) := by rw [Fi.cell (hidf (by omega))]; exact hcf i hi'
      have rfi := row_at hallf (i := i) hi'
      have rfl' := rf i hi'
      obtain ⟨idw, offw, shw, hidw, hcw⟩ := rfi.open
      rw [rfl'] at shw hidw hcw
      replace hcw : ∀ j, j < n → hh.cell idw (offw + j) = some (.int .i64 (vw first i j)) := hcw
      obtain ⟨idk, offk, shk, hidk, hck⟩ := (rq.mono Fi).open
      rw [rowK q hq'] at shk hidk hck
      have cki := hck i (by omega)
      have evk : (K.getD q []).getD i 0 = vw K q i := rfl
      rw [evk] at cki
      have rE := r1E (kE.fr Fi).gE
      have rEb : (H.mk hi.tr (hi.next + 11)).row E 0 1 = some [.int .i64 p] := rE
      have fb : Fr hi (H.mk hi.tr (hi.next + 11)) := (Fr.refl hi).bump (by omega)
      have nb : (H.mk hi.tr (hi.next + 11)).next = hi.next + 11 := rfl
      simp (disch := first | omega | (simp only [Qn] <;> omega)) only [go_sem, slf.ixa, cfi, shk.ixa, cki, rE, rEb, List.getElem?_cons_zero, List.getElem?_cons_succ]
      have idwN : idw ≠ N := by have := hidw (by omega); omega
      generalize H.mk hi.tr (hi.next + 11) = hB at *
      have bB := bN.fr fb lN
      have rk := rngK q i hq' (by omega)
      have rg : ∀ j, j < n → 0 ≤ vw first i j ∧ vw first i j < p := fun j hj => by rw [pv1.vw hi' hj]; exact pv1.rng i j hi' hj
      refine (add_ok p (vw K q i) N n n idw offw (.kn n) _ (acF p (vw K q) (vw first) i) (vw first i) [] hB bB.bt (by omega) shw (fun h0 => by have := hidw h0; omega) (fun j hj => by rw [(Fi.trans fb).cell (by have := hidw (by omega); omega)]; exact hcw j hj) (.inl idwN) (Nat.le_refl n) (by omega) ⟨by omega, q2⟩ ⟨rk.1, by omega⟩ (fun j hj => by have := acF_range (p := p) (by omega) (vw K q) (vw first) i j; omega) (fun j hj => by have := rg j hj; omega)).mono ?_
      rintro w hC ⟨bC, FC⟩
      have nC := FC.next
      simp (disch := first | omega | (simp only [Qn] <;> omega)) only [go_sem]
      rw [show (i : Int) + 1 = ((i + 1 : Nat) : Int) from by omega]
      exact ⟨first.length - (i + 1), by omega, i + 1, ex_junk rfl, by omega, bC.bk.congr fun j hj => by rw [if_pos hj, acF], by omega, Fx.fr (Fi.trans fb) (by omega) FC, rfl⟩
    rw [decide_eq_false hlt2]
    obtain ⟨rfl⟩ : i = first.length := by omega
    have kEi := kE.fr Fi
    obtain ⟨l, hl⟩ : ∃ l, mkV n (acF p (vw K q) (vw first) first.length) = l := ⟨_, rfl⟩
    have eLL : LL.getD q [] = l := by rw [← hLL, mtL_row hq', hl]
    have ll : l.length = n := by rw [← hl, mkV_len]
    have sN := bN.si lN (.kn n)
    rw [hl] at sN
    obtain ⟨u, hu⟩ : ∃ u, u = rdF p S f (fun j => (LL.getD q []).getD j 0 % p) n := ⟨_, rfl⟩
    have hqL : q < LL.length := by omega
    have hu' : u = rdF p S f (fun j => l.getD j 0 % p) n := by rw [hu, eLL]
    simp (disch := first | omega | (simp only [Qn] <;> omega)) only [go_sem]
    refine (insert_fr p E M n n S ρ f _ _ l u hi kEi (by have := (Fh.trans Fi).next; omega) sN ll (by omega) (Nat.le_refl n) q1 q2 (KK.rng q S f k hφ) hu' (by rw [hu]; exact KK.red q S f k hqL hφ)).mono ?_
    rintro w hD ⟨hF, hnx, oth, hcase⟩
    have FhD := hF h5 (Fh.trans Fi) (Nat.le_refl _)
    have FXD : Fx M hk hD := ⟨by omega, fun id h1 h2 => (oth id (by omega) h2 fun c hc hs => by have := hρ c hc hs; omega).trans ((Fi.get id (by omega)).trans (FX.get id h1 h2))⟩
    rcases hcase with ⟨rfl, hz, kE2⟩ | ⟨rfl, at_, x, N', a1, a2, a3, a4, a5, a6, a7, kE2⟩
    · simp (disch := first | omega | (simp only [Qn] <;> omega)) only [go_sem]
      rw [show (q : Int) + 1 = ((q + 1 : Nat) : Int) from by omega]
      exact ⟨K.length - (q + 1), by omega, q + 1, k, S, ρ, f, ex_junk rfl, by omega, KK.no q S f k hqL hφ (by rw [← hu]; exact hz), kE2, hρ, FhD, FXD, rfl⟩
    · simp (disch := first | omega | (simp only [Qn] <;> omega)) only [go_sem]
      rw [show (q : Int) + 1 = ((q + 1 : Nat) : Int) from by omega]
      exact ⟨K.length - (q + 1), by omega, q + 1, k + 1, _, _, _, ex_junk rfl, by omega, KK.yes q S f k u hqL hφ hu at_ x a1 a2 a3 a4 a5 a6, kE2, fun c hc hs => by
        by_cases e : c = at_
        · simp only [upN, if_pos e]; omega
        · simp only [upN, if_neg e] at hs ⊢; exact hρ c hc hs, FhD, FXD, rfl⟩
  rw [decide_eq_false hlt]
  obtain ⟨rfl⟩ : q = K.length := by omega
  simp (disch := first | omega | (simp only [Qn] <;> omega)) only [go_sem]
  refine (list_fr p E M n n S ρ f _ hh kE (by omega)).mono ?_
  rintro w hZ ⟨_, fZ, sz⟩
  simp (disch := first | omega | (simp only [Qn] <;> omega)) only [go_sem]
  have F5h := F5.next
  refine ⟨_, S1, f1, k1, S2, f2, k2, Sz, fk, S, f, k, first, second, K, rfl, s1, s2, hfi.symm, hse.symm, by rw [hst]; exact sk, by rw [hst]; exact hKe.symm, by rw [hLL]; exact hφ.1, hφ.2, sz.le (by omega), (F5.trans Fh).trans fZ⟩
end Go.Proofs.Ytlhebmcnjgagjaa

/- Layer 5: the law of the intersection. -/
namespace Go.Proofs.Ytlhebmcnjgagjaa
open Go Go.Ay
set_option maxRecDepth 100000
theorem InS.app_l {p : Int} {n : Nat} {A B : List (List Int)} {i : Nat} (hi : i < A.length) : InS p n (A ++ B).length (vw (A ++ B)) (vw A i) :=
  (InS.row (V := vw (A ++ B)) (i := i) (by rw [List.length_append]; omega)).congr fun j _ => by rw [vw_app, if_pos hi]
theorem InS.app_r {p : Int} {n : Nat} {A B : List (List Int)} {i : Nat} (hi : i < B.length) : InS p n (A ++ B).length (vw (A ++ B)) (vw B i) :=
  (InS.row (V := vw (A ++ B)) (i := A.length + i) (by rw [List.length_append]; omega)).congr fun j _ => by rw [vw_app, if_neg (by omega), Nat.add_sub_cancel_left]
theorem InS.app {p : Int} {n m : Nat} {V : Nat → Nat → Int} {A B : List (List Int)} (hA : ∀ i, i < A.length → InS p n m V (vw A i)) (hB : ∀ i, i < B.length → InS p n m V (vw B i)) : ∀ i, i < (A ++ B).length → InS p n m V (vw (A ++ B) i) := fun i hi => by
  rw [List.length_append] at hi
  by_cases e : i < A.length
  · exact (hA i e).congr fun j _ => by rw [vw_app, if_pos e]
  · exact (hB (i - A.length) (by omega)).congr fun j _ => by rw [vw_app, if_neg e]
theorem meet_law {p : Int} {n k1 k2 : Nat} {A B first second K : List (List Int)} {S1 S2 Sz : Nat → Bool} {f1 f2 fk : Nat → Nat → Int} (hp : 1 < p) (s1 : Sp p n n (vw A) A.length S1 f1 k1) (s2 : Sp p n n (vw B) B.length S2 f2 k2) (hfi : first = rwF n n S1 f1) (hse : second = rwF n n S2 f2)
    (sk : Sk p n (first ++ second).length (n + (first ++ second).length) (vw (first ++ second)) Sz fk (first ++ second).length) (hK : K = krF n (first ++ second).length Sz fk (n + (first ++ second).length)) :
    (∀ v, InS p n A.length (vw A) v → InS p n B.length (vw B) v → InS p n K.length (vw (mtL p n first K)) v) ∧ (∀ q, q < K.length → InS p n A.length (vw A) (vw (mtL p n first K) q) ∧ InS p n B.length (vw B) (vw (mtL p n first K) q)) ∧
    ∀ Ss fs ks, Sp p n n (vw (A ++ B)) (A ++ B).length Ss fs ks → ks + K.length = k1 + k2 := by
  have aF : ∀ i, i < A.length → InS p n first.length (vw first) (vw A i) := by rw [hfi]; exact s1.toB
  have bS : ∀ i, i < B.length → InS p n second.length (vw second) (vw B i) := by rw [hse]; exact s2.toB
  have fA : ∀ i, i < first.length → InS p n A.length (vw A) (vw first i) := by rw [hfi]; exact s1.ofB
  have sB : ∀ i, i < second.length → InS p n B.length (vw B) (vw second i) := by rw [hse]; exact s2.ofB
  have lf : first.length = k1 := by rw [hfi, rwF_len, s1.cn]
  have ls : second.length = k2 := by rw [hse, rwF_len, s2.cn]
  obtain ⟨m, hm⟩ : ∃ m, (first ++ second).length = m := ⟨_, rfl⟩
  have hm2 : m = first.length + second.length := by rw [← hm, List.length_append]
  rw [hm] at sk hK
  rw [krF_rwF rfl] at hK
  have lK : K.length = cnt m (kS n Sz) := by rw [hK, rwF_len]
  -- the rows of K
  have Kr : ∀ q, q < K.length → ∃ c, c < m ∧ kS n Sz c = true ∧ ∀ i, i < m → vw K q i = kf n fk c i := fun q hq => by
    rw [hK] at hq
    obtain ⟨h1, h2, h3⟩ := piv_at hq
    exact ⟨_, h1, h2, fun i hi => by rw [hK, vw, h3, mkV_get _ hi]⟩
  have Kc : ∀ c, c < m → kS n Sz c = true → ∃ q, q < K.length ∧ ∀ i, i < m → vw K q i = kf n fk c i := fun c hc hs => by
    obtain ⟨q, hq, e⟩ := piv_of (f := kf n fk) hc hs
    rw [← hK] at hq e
    exact ⟨q, hq, fun i hi => by rw [vw, e, mkV_get _ hi]⟩
  have LLm : ∀ q, q < K.length → ∀ j, j < n → vw (mtL p n first K) q j % p = sm first.length (fun i => vw K q i * vw first i j) % p := fun q hq j hj => by rw [mtL_vw hq hj, acF_mod]
  have Kz : ∀ q, q < K.length → ∀ j, j < n → sm (first.length + second.length) (fun i => vw K q i * vw (first ++ second) i j) % p = 0 := fun q hq j hj => by
    obtain ⟨c, h1, h2, h3⟩ := Kr q hq
    rw [← hm2, sm_congr (g := fun i => kf n fk c i * vw (first ++ second) i j) fun i hi => by rw [h3 i hi]]
    exact Sk.zero rfl sk h1 h2 hj
  have Ksp : ∀ q, q < K.length → ∀ j, j < n → (sm first.length (fun i => vw K q i * vw first i j) + sm second.length (fun i => vw K q (first.length + i) * vw second i j)) % p = 0 := fun q hq j hj => by
    have e := Kz q hq j hj
    rw [sm_app, sm_congr (n := first.length) (g := fun i => vw K q i * vw first i j) (fun i hi => by rw [vw_app, if_pos hi]), sm_congr (n := second.length) (g := fun i => vw K q (first.length + i) * vw second i j) (fun i hi => by rw [vw_app, if_neg (by omega), Nat.add_sub_cancel_left])] at e
    exact e
  refine ⟨fun v hA hB => ?_, fun q hq => ⟨?_, ?_⟩, fun Ss fs ks hs => ?_⟩
  · obtain ⟨α, hα⟩ := hA.trans aF
    obtain ⟨β, hβ⟩ := hB.trans bS
    obtain ⟨κ, hκ⟩ : ∃ κ : Nat → Int, κ = fun i => if i < first.length then α i else - β (i - first.length) := ⟨_, rfl⟩
    have z : ∀ j, j < n → sm m (fun i => κ i * vw (first ++ second) i j) % p = 0 := fun j hj => by
      rw [hm2, sm_app, sm_congr (n := first.length) (g := fun i => α i * vw first i j) (fun i hi => by rw [vw_app, if_pos hi, hκ]; simp only [if_pos hi]), sm_congr (n := second.length) (g := fun i => -(β i * vw second i j)) (fun i hi => by rw [vw_app, if_neg (by omega), Nat.add_sub_cancel_left, hκ]; simp only [if_neg (show ¬ first.length + i < first.length by omega), Nat.add_sub_cancel_left, Int.neg_mul]), sm_neg, ← Int.sub_eq_add_neg, Int.sub_emod, ← hα j hj, ← hβ j hj, Int.sub_self, Int.zero_emod]
    have all := Sk.all rfl sk z
    have e1 : InS p n K.length (vw (mtL p n first K)) (fun j => sm m (fun c => κ c * sm first.length (fun i => gf (kS n Sz) (kf n fk) c i * vw first i j))) := InS.sum (U := fun c j => sm first.length (fun i => gf (kS n Sz) (kf n fk) c i * vw first i j)) (fun c hc => by
      cases hs : kS n Sz c with
      | false => exact InS.zero.congr fun j _ => by rw [sm_zeros fun i _ => by rw [gf_no hs, Int.zero_mul]]
      | true =>
        obtain ⟨q, hq, e⟩ := Kc c hc hs
        exact (InS.row hq).congr fun j hj => by
          rw [LLm q hq j hj]
          exact sm_mod fun i hi => by rw [gf_yes hs, e i (by omega)]) κ
    refine e1.congr fun j hj => ?_
    rw [hα j hj, sm_mod (g := fun i => sm m (fun c => κ c * gf (kS n Sz) (kf n fk) c i) * vw first i j) fun i hi => mul_mod (by rw [← all i (by omega), hκ]; simp only [if_pos hi]) rfl]
    congr 1
    rw [sm_congr (g := fun i => sm m (fun c => κ c * gf (kS n Sz) (kf n fk) c i * vw first i j)) fun i _ => by rw [sm_mulr], sm_swap]
    exact sm_congr fun c _ => by rw [← sm_mul]; exact sm_congr fun i _ => by rw [Int.mul_assoc]
  · exact (InS.trans ⟨fun i => vw K q i, fun j hj => LLm q hq j hj⟩ fA)
  · refine InS.trans (V := vw second) ⟨fun i => - vw K q (first.length + i), fun j hj => ?_⟩ sB
    rw [LLm q hq j hj]
    have e := Ksp q hq j hj
    rw [sm_congr (n := second.length) (g := fun i => -(vw K q (first.length + i) * vw second i j)) fun i _ => by rw [Int.neg_mul], sm_neg]
    refine sub_zero ?_
    rw [Int.sub_neg]
    exact e
  · have L := Sk.left rfl sk
    rw [← hm] at L
    have u := (Sp.uniq hp hs L (InS.app (fun i hi => (aF i hi).trans fun i hi => InS.app_l hi) fun i hi => (bS i hi).trans fun i hi => InS.app_r hi) (InS.app (fun i hi => (fA i hi).trans fun i hi => InS.app_l hi) fun i hi => (sB i hi).trans fun i hi => InS.app_r hi)).2.2
    have c := sk.cn
    rw [cnt_app] at c
    omega
end Go.Proofs.Ytlhebmcnjgagjaa

/- Layer 5: two rows appended; a taker under another's change. -/
namespace Go.Proofs.Ytlhebmcnjgagjaa
open Go Go.Ay
set_option maxRecDepth 100000
theorem vw_mkR {m n : Nat} {A : Mx} {i j : Nat} (hi : i < m) (hj : j < n) : vw (mkR m n A) i j = A i j := by rw [vw, mkR_row _ hi, mkV_get _ hj]
theorem Rws.open {h : H} {u : V} {ws : List V} {ll : List (List Int)} {lo : Nat} (r : Rws h u ws ll lo) : ∃ id off, Sl u 1 ll.length id off ∧ (0 < ll.length → id < h.next ∧ lo ≤ id) ∧ ws.length = ll.length ∧ ∀ i, i < ll.length → h.cell id (off + i) = some (ws.getD i .undef) := by
  have hl := r.row.length
  obtain ⟨id, off, h1, h2, h3⟩ := r.own.sv.shape ll.length (by rw [hl, Nat.mul_one]) (by omega)
  refine ⟨id, off, h1, fun h0 => ⟨h2 h0, ?_⟩, hl, fun i i1 => ?_⟩
  · rcases r.own with ⟨h1', _⟩ | ⟨id', n, cap, rest, h1', _, _, h4, _⟩
    · have := h1.len
      rw [h1'] at this
      simp [lenV] at this
      omega
    · have e := h1.ixa .i64 0 (by omega) (by omega)
      have hn : n = ll.length := by
        have := h1.len
        rw [h1'] at this
        simpa [lenV] using this
      rw [h1', ixaV_sl (by omega) (by omega)] at e
      simp only [Option.some.injEq, V.ptr.injEq] at e
      omega
  · rw [h3 i (by omega), List.getD_eq_getElem?_getD, List.getElem?_eq_getElem (by omega)]; rfl
theorem ap1 {o : List (List Int)} {x : List Int} {q : Nat} (hq : q < o.length + 1) : (q < o.length ∧ (o ++ [x]).getD q [] = o.getD q []) ∨ (q = o.length ∧ (o ++ [x]).getD q [] = x) := by
  rw [List.getD_eq_getElem?_getD]
  rcases Nat.lt_or_ge q o.length with h | h
  · exact .inl ⟨h, by rw [List.getElem?_append_left h, ← List.getD_eq_getElem?_getD]⟩
  · obtain rfl : q = o.length := by omega
    exact .inr ⟨rfl, by simp⟩
theorem InS.vw {p : Int} {n m : Nat} {V : Nat → Nat → Int} {ll ll' : List (List Int)} {q q' : Nat} (h : InS p n m V (vw ll q)) (e : ll'.getD q' [] = ll.getD q []) : InS p n m V (Go.Proofs.Ytlhebmcnjgagjaa.vw ll' q') := by
  unfold Go.Proofs.Ytlhebmcnjgagjaa.vw at h ⊢
  rw [e]; exact h
end Go.Proofs.Ytlhebmcnjgagjaa

/- The law LinearBasis, walked. -/
namespace Go.Proofs.Ytlhebmcnjgagjaa
open Go Go.Ay
set_option maxRecDepth 100000
end Go.Proofs.Ytlhebmcnjgagjaa

/- The law LinearMeets, walked. -/
namespace Go.Proofs.Ytlhebmcnjgagjaa
open Go Go.Ay
set_option maxRecDepth 100000
theorem iteW_then {p : Nat → Option Ay.Fn} {rd : Option Nat} {a b c : C} {vars : List V} {h : H} {Q : E → List V → H → Prop} {v : V} (J : List V → H → Prop) (h1 : iteW p rd a b vars h (fun e vs h' => e = .norm ∧ J vs h' ∨ e ≠ .norm ∧ Q e vs h') v) (h2 : ∀ vs h', J vs h' → Wp p rd c vs h' Q) : iteW p rd a b vars h (thenP p rd c Q) v := by
  have key : ∀ e vs h', (e = .norm ∧ J vs h' ∨ e ≠ .norm ∧ Q e vs h') → thenP p rd c Q e vs h' := fun e vs h' q => by
    rcases q with ⟨rfl, q⟩ | ⟨hne, q⟩
    · exact h2 vs h' q
    · cases e
      · exact absurd rfl hne
      · exact q
      · exact q
  cases v with
  | bool t =>
    cases t
    · exact Wp.mono (show Wp p rd b vars h _ from h1) key
    · exact Wp.mono (show Wp p rd a vars h _ from h1) key
  | _ => exact (show False from h1).elim
set_option maxHeartbeats 32000000 in
theorem meets_ok (vl : V) (l : List Int) (pp mm oo nn : Int) (h : H) (hc : SI h vl l) (hcl : (l.length : Int) ≤ 2 ^ 63 - 1) : Ev T n_law05_LinearMeets [vl, .int .i64 pp, .int .i64 mm, .int .i64 oo, .int .i64 nn] h (fun v _ => v = .bool true) := by
  refine Ev_of t_law05_LinearMeets rfl ?_
  simp (disch := first | omega | (simp only [Qn] <;> omega)) only [go_sem, c_law05_LinearMeets, initV_eq]
  refine (lives_ok h).mono ?_
  rintro v h0 ⟨rfl, g⟩
  replace hc := hc.mono g
  clear g
  simp (disch := first | omega | (simp only [Qn] <;> omega)) only [go_sem, hc.lens]
  refine iteW_dec (fun hlong => ?_) (fun hl1 => ?_)
  · simp (disch := first | omega | (simp only [Qn] <;> omega)) only [go_sem]
  have hl : l.length < 1000000 := by omega
  simp (disch := first | omega | (simp only [Qn] <;> omega)) only [go_sem]
  refine (lawfield_ok pp _).mono ?_
  rintro v hb ⟨p, rfl, hf, fb⟩
  replace hc := hc.mono fb
  clear fb
  have hF := hf
  simp only [fieldF, Bool.and_eq_true, decide_eq_true_eq] at hF
  obtain ⟨hp2, hpr⟩ := hF
  have hp := isP_gt hpr
  simp (disch := first | omega | (simp only [Qn] <;> omega)) only [go_sem]
  refine (pick_ok mm 5 hb (by omega) (by omega)).mono ?_
  rintro v h1 ⟨rfl, rfl⟩
  simp (disch := first | omega | (simp only [Qn] <;> omega)) only [go_sem]
  refine (pick_ok oo 5 h1 (by omega) (by omega)).mono ?_
  rintro v h1 ⟨rfl, rfl⟩
  simp (disch := first | omega | (simp only [Qn] <;> omega)) only [go_sem]
  refine (pick_ok nn 6 h1 (by omega) (by omega)).mono ?_
  rintro v h1 ⟨rfl, rfl⟩
  obtain ⟨n, hn⟩ : ∃ n : Nat, 1 + nn % 6 = (n : Int) := ⟨(1 + nn % 6).toNat, by omega⟩
  obtain ⟨m, hmq⟩ : ∃ m : Nat, mm % 5 = (m : Int) := ⟨(mm % 5).toNat, by omega⟩
  obtain ⟨o, hoq⟩ : ∃ m : Nat, oo % 5 = (m : Int) := ⟨(oo % 5).toNat, by omega⟩
  have hn6 : 1 ≤ n ∧ n ≤ 6 := by omega
  have hm6 : m ≤ 4 := by omega
  have ho6 : o ≤ 4 := by omega
  have vc := SV.what hc
  have hbl : bldV [.nils, .int .i64 0] [(0, 1, vl)] = some (.agg [vl, .int .i64 0]) := bldV_fst (z1 := .nils) (z2 := .int .i64 0) (v := vl) vc.1 vc.2.1
  have hbo := fun hh => boxV_agg2 hh (v := vl) (u := .int .i64 0) vc.2.1 rfl
  simp (disch := first | omega | (simp only [Qn] <;> omega)) only [go_sem, hn, hmq, hoq, hbl, hbo]
  have hfx : Fr h1 (h1.new (.cells false [vl, .int .i64 0])) := (Fr.refl h1).new _
  have hgx : (h1.new (.cells false [vl, .int .i64 0])).get h1.next = some (.cells false [vl, .int .i64 0]) := H.get_new_same ..
  have hnx : (h1.new (.cells false [vl, .int .i64 0])).next = h1.next + 1 := H.next_new ..
  generalize h1.new (.cells false [vl, .int .i64 0]) = hx at *
  have idl : ∀ id off len c, vl = .sl id off len c → id < h1.next := fun id off len c e => SI.lt hc e
  obtain ⟨tid, htid⟩ : ∃ t, h1.next = t := ⟨_, rfl⟩
  rw [htid] at hgx idl
  have ht : Tk hx tid l := ⟨vl, 0, hgx, hc.mono hfx, idl, Nat.zero_le _, by omega⟩
  rw [htid]
  refine (drawn_ok tid l m n p hx ht hl (by omega) (by omega) (by omega)).mono ?_
  rintro va k0 ⟨A, wsA, hA, RA, ht0, FX0⟩
  have n0 := FX0.next
  obtain ⟨lo, hlo⟩ : ∃ t, hx.next = t := ⟨_, rfl⟩
  rw [hlo] at RA
  have htl : tid < lo := by omega
  simp (disch := first | omega | (simp only [Qn] <;> omega)) only [go_sem]
  refine (drawn_ok tid l o n p k0 ht0 hl (by omega) (by omega) (by omega)).mono ?_
  rintro vb k1 ⟨B, wsB, hB, RB, ht1, FX1⟩
  have n1 := FX1.next
  have RA0 := RA
  replace RA := Rws.fx RA htl FX1
  obtain ⟨aL, haL⟩ : ∃ a, mkR m n A = a := ⟨_, rfl⟩
  obtain ⟨bL, hbL⟩ : ∃ a, mkR o n B = a := ⟨_, rfl⟩
  have al : aL.length = m := by rw [← haL, mkR_len]
  have bl : bL.length = o := by rw [← hbL, mkR_len]
  have ar : ∀ i, i < aL.length → (aL.getD i []).length = n := fun i hi => by rw [← haL, mkR_row _ (by omega), mkV_len]
  have br : ∀ i, i < bL.length → (bL.getD i []).length = n := fun i hi => by rw [← hbL, mkR_row _ (by omega), mkV_len]
  have ae : ∀ i j, i < aL.length → j < n → 0 ≤ vw aL i j ∧ vw aL i j < p := fun i j hi hj => by rw [← haL, vw_mkR (by omega) hj]; exact hA i j (by omega) hj
  rw [haL] at RA RA0
  rw [hbL] at RB
  clear hA hB haL hbL A B FX0
  simp (disch := first | omega | (simp only [Qn] <;> omega)) only [go_sem]
  refine (mix_ok tid l n p va wsA aL lo k1 ht1 hl (by omega) (by omega) RA htl (by omega) ar ae).mono ?_
  rintro w k2 ⟨r, N, hin, hr, rfl, hN1, hN2, bN, ht2, FX2⟩
  replace RA := Rws.fx RA htl FX2
  have RB1 := RB
  replace RB := Rws.fx RB (by omega) FX2
  have n2 := FX2.next
  simp (disch := first | omega | (simp only [Qn] <;> omega)) only [go_sem]
  refine (take_ok tid l 2 k2 ht2 hl (by omega) (by omega)).mono ?_
  rintro w k3 ⟨z, rfl, z1, z2, ht3, FX3⟩
  replace RA := Rws.fx RA htl FX3
  replace RB := Rws.fx RB (by omega) FX3
  have n3 := FX3.next
  have bN3 : Bk k3 N n r := (FX3.get N (by omega) (by omega)).trans bN
  have dB : Dis vb (.sl N 0 n (.kn n)) := fun i1 o1 n1' c1 e1 i2 o2 n2' c2 e2 => by
    cases e2
    rcases RB1.own with ⟨h1', _⟩ | ⟨id', n', cap, rest, h1', _, _, _, h4', _⟩
    · rw [h1'] at e1; cases e1
    · rw [h1'] at e1; cases e1
      omega
  have FXA : Fx tid k0 k3 := (FX1.trans FX2).trans FX3
  simp (disch := first | omega | (simp only [Qn] <;> omega)) only [go_sem]
  refine iteW_then (fun vs h' => ∃ (vb' : V) (wsB' : List V) (bL' : List (List Int)), (∃ g : Nat → V, vs = [vl, .int .i64 p, .int .i64 (m : Int), .int .i64 (o : Int), .int .i64 (n : Int), g 5, g 6, va, vb', .sl N 0 n (.kn n), g 10, g 11, g 12, g 13, g 14, g 15, g 16, g 17, g 18, g 19, g 20, g 21, g 22, g 23, g 24, g 25, g 26, g 27, g 28, g 29, g 30, g 31, g 32]) ∧ Rws h' vb' wsB' bL' k0.next ∧ bL'.length ≤ 5 ∧ (∀ i, i < bL'.length → (bL'.getD i []).length = n) ∧ Rws h' va wsA aL lo ∧ Bk h' N n r ∧ N < h'.next) ?_ ?_
  · refine iteW_dec (fun _ => ?_) (fun _ => ?_)
    · have hf4 : Fr k3 (k3.new (.cells false [.sl N 0 n (.kn n)])) := (Fr.refl k3).new _
      have sy : SV (k3.new (.cells false [.sl N 0 n (.kn n)])) (.sl k3.next 0 1 (.kn 1)) 1 [.sl N 0 n (.kn n)] := SV.all rfl (by rw [H.next_new]; omega) (H.get_new_same ..) _
      have hlen := RB.row.length
      obtain ⟨v5, h5, e5, R5, n5, k5, q5⟩ := (RB.fr hf4).app (by rw [H.next_new]; omega) sy ((bN3.fr hf4 (by omega)).si (by rw [H.next_new]; omega) (.kn n)) dB (fun i1 o1 n1' c1 e1 => by cases e1; omega) (by omega)
      rw [H.next_new] at n5
      simp (disch := first | omega | (simp only [Qn] <;> omega)) only [go_sem, bls_v k3 (.sl N 0 n (.kn n)) rfl rfl, e5]
      refine .inl ⟨v5, _, _, ex_junk rfl, R5, by simp; omega, fun i hi => ?_, ?_, ?_, by omega⟩
      · rw [List.length_append] at hi
        rcases ap1 (o := bL) (x := mkV n r) (q := i) hi with ⟨a1, a2⟩ | ⟨a1, a2⟩
        · rw [a2]; exact br i a1
        · rw [a2, mkV_len]
      · exact Rws.fx RA0 htl ⟨by omega, fun id h1 h2 => ((k5 id (by rw [H.next_new]; omega) (own_apart (RB.fr hf4).own h1)).trans (H.get_new_ne _ (by omega) _)).trans (FXA.get id h1 h2)⟩
      · exact ((k5 N (by rw [H.next_new]; omega) fun id' o' n' c' e' h0 => dB _ _ _ _ e' _ _ _ _ rfl h0.symm).trans (H.get_new_ne _ (by omega) _)).trans bN3
    · simp (disch := first | omega | (simp only [Qn] <;> omega)) only [go_sem]
      exact .inl ⟨vb, _, _, ex_junk rfl, RB, by omega, br, RA, bN3, by omega⟩
  clear RB RA RA0 RB1 dB bN3 bN ht3 ht2 ht1 ht0 FX1 FX2 FX3 FXA br bl
  rintro vs hJ ⟨vb', wsB', bL', ⟨g, rfl⟩, RB, bl, br, RA, bN, lN⟩
  have d00 : decide ((0 : Int) ≠ 0) = false := rfl
  have ckl : ∀ L : List (List Int), L.length ≤ 200 → (∀ i, i < L.length → (L.getD i []).length = n) → ckF p n [L] = 0 := fun L h1 h2 => ck_of hf hn6.1 (by omega) _ fun q hq => by
    rw [List.mem_singleton.1 hq]; exact ⟨h1, h2⟩
  have ckl2 : ∀ L L2 : List (List Int), L.length ≤ 200 → (∀ i, i < L.length → (L.getD i []).length = n) → L2.length ≤ 200 → (∀ i, i < L2.length → (L2.getD i []).length = n) → ckF p n [L, L2] = 0 := fun L L2 h1 h2 h3 h4 => ck_of hf hn6.1 (by omega) _ fun q hq => by
    rcases List.mem_cons.1 hq with rfl | hq
    · exact ⟨h1, h2⟩
    · rw [List.mem_singleton.1 hq]; exact ⟨h3, h4⟩
  have inF : ∀ (L : List (List Int)) (q : List Int), L.length ≤ 200 → (∀ i, i < L.length → (L.getD i []).length = n) → q.length = n → InF p n L q = (open Classical in decide (InS p n L.length (vw L) (fun j => q.getD j 0)), 0) := fun L q h1 h2 h3 => by
    rw [InF, if_neg (by rw [ckl2 L [q] h1 h2 (by simp) (fun i hi => by obtain rfl : i = 0 := (by simpa using hi); exact h3)]; simp), Int.toNat_natCast]
  simp (disch := first | omega | (simp only [Qn] <;> omega)) only [go_sem]
  refine (Sum_sp p n va vb' aL bL' hJ RA.sr RB.sr (by omega) (by omega) (ckl2 _ _ (by omega) ar (by omega) br)).mono ?_
  rintro w h4 ⟨us, Ss, fs, ks, rfl, ss, sls, f4⟩
  replace RA := RA.sr.mono f4
  replace RB := RB.sr.mono f4
  replace bN := (bN.si lN (.kn n)).mono f4
  simp (disch := first | omega | (simp only [Qn] <;> omega)) only [go_sem]
  refine (Meet_sp p n va vb' aL bL' h4 RA RB (by omega) (by omega) (ckl2 _ _ (by omega) ar (by omega) br)).mono ?_
  rintro w h5 ⟨um, S1, f1, k1', S2, f2, k2', Sz, fk, S, f, k, first, second, K, rfl, s1, s2, hfi, hse, sk, hK, sm, hk, slm, f5⟩
  obtain ⟨mlA, mlB, mdim⟩ := meet_law hp s1 s2 hfi hse sk hK
  have dim := mdim Ss fs ks ss
  replace RA := RA.mono f5
  replace RB := RB.mono f5
  replace bN := bN.mono f5
  replace sls := sls.sr.mono f5
  replace slm := slm.sr
  have lLL : (mtL p n first K).length = K.length := mtL_len ..
  rw [← lLL] at sm mlA mlB
  have pvm := Re.pv sm.re
  have pvs := Re.pv ss.re
  have mB := sm.toB
  have mO := sm.ofB
  have lm : (rwF n n S f).length = K.length := by rw [rwF_len, ← sm.cn, hk]
  have lsu : (rwF n n Ss fs).length = ks := by rw [rwF_len, ← ss.cn]
  have ksn : ks ≤ n := by rw [ss.cn]; exact cnt_le n Ss
  have kmn : K.length ≤ n := by rw [← hk, sm.cn]; exact cnt_le n S
  obtain ⟨mL, hmL⟩ : ∃ q, rwF n n S f = q := ⟨_, rfl⟩
  obtain ⟨sL, hsL⟩ : ∃ q, rwF n n Ss fs = q := ⟨_, rfl⟩
  rw [hmL] at slm pvm mB mO lm
  rw [hsL] at sls pvs lsu
  have mr : ∀ i, i < mL.length → (mL.getD i []).length = n := fun i hi => by rw [pvm.row i hi, mkV_len]
  simp (disch := first | omega | (simp only [Qn] <;> omega)) only [go_sem]
  refine (Rank_sp p n va aL h5 RA (by omega) (ckl _ (by omega) ar)).mono ?_
  rintro w h6 ⟨S6, f6', kx, rfl, s6, hk6, f6⟩
  have ekx : kx = k1' := (Sp.uniq hp s6 s1 (fun i hi => InS.row hi) fun i hi => InS.row hi).2.2
  subst ekx
  simp (disch := first | omega | (simp only [Qn] <;> omega)) only [go_sem]
  refine (Rank_sp p n vb' bL' h6 (RB.mono f6) (by omega) (ckl _ (by omega) br)).mono ?_
  rintro w h7 ⟨S7, f7', ky, rfl, s7, hk7, f7⟩
  have eky : ky = k2' := (Sp.uniq hp s7 s2 (fun i hi => InS.row hi) fun i hi => InS.row hi).2.2
  subst eky
  have F7 := f6.trans f7
  simp (disch := first | omega | (simp only [Qn] <;> omega)) only [go_sem]
  refine (In_ok p n vb' _ bL' (mkV n r) h7 (RB.mono F7) (by omega) (bN.mono F7)).mono ?_
  rintro w h8 ⟨rfl, f8⟩
  rw [inF _ _ (by omega) br (mkV_len ..)]
  have F8 := F7.trans f8
  simp (disch := first | omega | (simp only [Qn] <;> omega)) only [go_sem]
  refine (In_ok p n um _ mL (mkV n r) h8 (slm.mono F8) (by omega) (bN.mono F8)).mono ?_
  rintro w h9 ⟨rfl, f9⟩
  rw [inF _ _ (by omega) mr (mkV_len ..)]
  have F9 := F8.trans f9
  have hinA : InS p n aL.length (vw aL) (fun j => (mkV n r).getD j 0) := hin.congr fun j hj => by rw [mkV_get _ hj]
  have key : InS p n bL'.length (vw bL') (fun j => (mkV n r).getD j 0) ↔ InS p n mL.length (vw mL) (fun j => (mkV n r).getD j 0) :=
    ⟨fun q => (mlA _ hinA q).trans mB, fun q => (q.trans mO).trans fun i hi => (mlB i hi).2⟩
  have dnn : decide (((ks : Int) + (K.length : Int)) ≠ ((kx : Int) + (ky : Int))) = false := decide_eq_false fun q => q (by omega)
  have lvm := (slm.mono F9).lens
  have lvs := (sls.mono F9).lens
  rw [lm] at lvm
  rw [lsu] at lvs
  simp (disch := first | omega | (simp only [Qn] <;> omega)) only [go_sem, d00, lvm, lvs, dnn]
  have dd : @decide (InS p n bL'.length (vw bL') (fun j => (mkV n r).getD j 0)) (Classical.propDecidable _) = @decide (InS p n mL.length (vw mL) (fun j => (mkV n r).getD j 0)) (Classical.propDecidable _) := decide_eq_decide.2 key
  simp (disch := first | omega | (simp only [Qn] <;> omega)) only [dd, beq_self_eq_true, Bool.not_true, go_sem]
  refine (echelon_ok p n um mL _ _ h9 (slm.mono F9) (by omega) (by omega) pvm).mono ?_
  rintro w h9' ⟨rfl, rfl⟩
  simp (disch := first | omega | (simp only [Qn] <;> omega)) only [go_sem]
  refine (echelon_ok p n us sL _ _ h9' (sls.mono F9) (by omega) (by omega) pvs).mono ?_
  rintro w h9 ⟨rfl, rfl⟩
  simp (disch := first | omega | (simp only [Qn] <;> omega)) only [go_sem]
  have slm9 := slm.mono F9
  obtain ⟨id, off, ws, sl, hid, hwl, hcc, hall⟩ := slm9.open
  rw [lm] at sl hid hcc hwl
  refine Wp_loop (fun k' vars hh => ∃ (q : Nat), (∃ g : Nat → V, vars = [vl, .int .i64 p, .int .i64 (m : Int), .int .i64 (o : Int), .int .i64 (n : Int), g 5, g 6, va, vb', g 9, g 10, g 11, um, g 13, g 14, g 15, g 16, g 17, g 18, g 19, g 20, g 21, .int .i64 (q : Int), g 23, g 24, g 25, g 26, g 27, g 28, g 29, g 30, g 31, g 32]) ∧ q ≤ K.length ∧ Fr h9 hh ∧ k' = K.length - q) K.length
    ⟨0, ex_junk rfl, Nat.zero_le _, Fr.refl _, rfl⟩ ?_
  rintro k' vars hh ⟨q, ⟨jk, rfl⟩, hq, Fh, rfl⟩
  simp (disch := first | omega | (simp only [Qn] <;> omega)) only [go_sem, lvm]
  by_cases hlt : (q : Int) < (K.length : Int)
  · rw [decide_eq_true hlt]
    have hq' : q < K.length := by omega
    have cq : hh.cell id (off + q) = some (ws.getD q .undef) := by rw [Fh.cell (hid (by omega))]; exact hcc q hq'
    have rq := (row_at hall (i := q) (by omega)).mono Fh
    have lq := mr q (by omega)
    simp (disch := first | omega | (simp only [Qn] <;> omega)) only [go_sem, sl.ixa, cq]
    refine (In_ok p n va _ aL _ hh (RA.mono (F9.trans Fh)) (by omega) rq).mono ?_
    rintro w h10 ⟨rfl, f10⟩
    rw [inF _ _ (by omega) ar lq]
    have cq2 : h10.cell id (off + q) = some (ws.getD q .undef) := by rw [(Fh.trans f10).cell (hid (by omega))]; exact hcc q hq'
    simp (disch := first | omega | (simp only [Qn] <;> omega)) only [go_sem, sl.ixa, cq2]
    refine (In_ok p n vb' _ bL' _ h10 (RB.mono ((F9.trans Fh).trans f10)) (by omega) (rq.mono f10)).mono ?_
    rintro w h11 ⟨rfl, f11⟩
    rw [inF _ _ (by omega) br lq]
    have hA1 : InS p n aL.length (vw aL) (fun j => (mL.getD q []).getD j 0) := (mO q (by omega)).trans fun i hi => (mlB i hi).1
    have hB1 : InS p n bL'.length (vw bL') (fun j => (mL.getD q []).getD j 0) := (mO q (by omega)).trans fun i hi => (mlB i hi).2
    simp (disch := first | omega | (simp only [Qn] <;> omega)) only [go_sem, hA1, hB1, decide_true, d00]
    rw [show (q : Int) + 1 = ((q + 1 : Nat) : Int) from by omega]
    exact ⟨K.length - (q + 1), by omega, q + 1, ex_junk rfl, by omega, (Fh.trans f10).trans f11, rfl⟩
  rw [decide_eq_false hlt]
  simp (disch := first | omega | (simp only [Qn] <;> omega)) only [go_sem]
end Go.Proofs.Ytlhebmcnjgagjaa

