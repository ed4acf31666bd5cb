/- Layer 5: plain laws of bases and ranks. Layer 5: the plain law of the kernel. Layer 5: the plain law of the intersection. Layer 5: Basis and Rank with the span that they found; a copy of rows. Layer 5: two lists of rows in a row; Sum. Layer 5: Sum. Layer 5: Meet. Layer 5: the law of the intersection. Layer 5: the tags of a system's rows. Layer 5: Solve. Layer 5: two rows appended; a taker under another's change. The law LinearBasis, walked. Layer 5: the reference's Apply: its result lies at or behind the heap's index. Layer 5: for LinearSolves: apply, a part of rows, a row replaced. The law LinearMeets, walked. The law LinearSolves, walked. -/
import Derived.Test.YtlhebmcnjgagjaaM5gtoM5q
import Derived.Test.YtlhebmcnjgagjaaL4ytoM5e
import Derived.Test.YtlhebmcnjgagjaaL4atoDt6
/- Layer 5: plain laws of bases and ranks. -/
namespace Go.Proofs.Ytlhebmcnjgagjaa
open Go Go.Ay
set_option maxRecDepth 100000
theorem Re.same {p : Int} {n : Nat} {S S' : Nat → Bool} {f f' : Nat → Nat → Int} (r : Re p n n S f) (r' : Re p n n S' f') (h : ∀ c, c < n → S c = true → InS p n n (gf S' f') (f c)) (e : ∀ c, c < n → S c = S' c) : ∀ c j, c < n → S c = true → j < n → f c j = f' c j := fun c j hc hs hj => by
  obtain ⟨d, hd⟩ := h c hc hs
  have q := r'.read hd hj
  rw [sm_one (t := c) hc fun a ha hne => ?_, r.one c hc hs, Int.one_mul, gf_yes (by rw [← e c hc]; exact hs)] at q
  · have b1 := r.rng c j hc hs hj
    have b2 := r'.rng c j hc (by rw [← e c hc]; exact hs) hj
    rwa [Int.emod_eq_of_lt b1.1 b1.2, Int.emod_eq_of_lt b2.1 b2.2] at q
  cases hsa : S' a with
  | false => rw [gf_no hsa, Int.mul_zero]
  | true => rw [r.zer c a hc ha hs (by rw [e a ha]; exact hsa) hne, Int.zero_mul]
section
variable {p : Int} {n m m' k k' : Nat} {V V' : Nat → Nat → Int} {S S' : Nat → Bool} {f f' : Nat → Nat → Int}
theorem piv_at {i : Nat} (hi : i < (rwF n n S f).length) : ((List.range n).filter S).getD i 0 < n ∧ S (((List.range n).filter S).getD i 0) = true ∧ (rwF n n S f).getD i [] = mkV n (f (((List.range n).filter S).getD i 0)) := by
  have hl : (rwF n n S f).length = ((List.range n).filter S).length := by rw [rwF, List.length_map]
  have e : ((List.range n).filter S).getD i 0 = ((List.range n).filter S)[i]'(by omega) := by rw [List.getD_eq_getElem?_getD, List.getElem?_eq_getElem (by omega), Option.getD_some]
  have hm : ((List.range n).filter S)[i]'(by omega) ∈ (List.range n).filter S := List.getElem_mem _
  rw [List.mem_filter, List.mem_range, ← e] at hm
  refine ⟨hm.1, hm.2, ?_⟩
  rw [e, rwF, List.getD_eq_getElem?_getD, List.getElem?_map, List.getElem?_eq_getElem (by omega)]
  rfl
end
theorem ck_of {p : Int} {n : Nat} (hp : fieldF p = true) (h1 : 1 ≤ n) (h2 : n ≤ 64) (ls : List (List (List Int))) (h3 : ∀ l ∈ ls, l.length ≤ 200 ∧ ∀ i, i < l.length → (l.getD i []).length = n) : ckF p n ls = 0 := by
  rw [ckF, if_neg (by simp [hp]), if_neg (by omega)]
  induction ls with
  | nil => rfl
  | cons a r ih =>
    obtain ⟨q1, q2⟩ := h3 a (List.mem_cons_self ..)
    rw [lckF, if_neg (by omega), if_neg ?_]
    · exact ih fun l hl => h3 l (List.mem_cons_of_mem _ hl)
    · intro e
      obtain ⟨x, hx, e⟩ := List.any_eq_true.1 e
      obtain ⟨i, hi, rfl⟩ := List.mem_iff_getElem.1 hx
      have := q2 i hi
      rw [List.getD_eq_getElem?_getD, List.getElem?_eq_getElem hi, Option.getD_some] at this
      simp [this] at e
end Go.Proofs.Ytlhebmcnjgagjaa

/- Layer 5: the plain law of the kernel. -/
namespace Go.Proofs.Ytlhebmcnjgagjaa
open Go Go.Ay
set_option maxRecDepth 100000
theorem smod_zero {p : Int} {n : Nat} {f : Nat → Int} (h : ∀ k, k < n → f k % p = 0) : sm n f % p = 0 := by
  rw [sm_mod (g := fun _ => 0) fun k hk => by rw [h k hk, Int.zero_emod], sm_nul, Int.zero_emod]
section
variable {p : Int} {n m W k : Nat} {V : Nat → Nat → Int} {S : Nat → Bool} {f : Nat → Nat → Int}
/-- The span of rows with the identity behind them. -/
abbrev Sk (p : Int) (n m W : Nat) (V : Nat → Nat → Int) (S : Nat → Bool) (f : Nat → Nat → Int) (k : Nat) : Prop := Sp p W W (vw (mkR m W (mkE n V))) m S f k
def kS (n : Nat) (S : Nat → Bool) : Nat → Bool := fun c => S (n + c)
def kf (n : Nat) (f : Nat → Nat → Int) : Nat → Nat → Int := fun c j => f (n + c) (n + j)
theorem mk_lo (hW : n + m = W) {a j : Nat} (ha : a < m) (hj : j < n) : vw (mkR m W (mkE n V)) a j = V a j := by
  rw [vw, mkR_row _ ha, mkV_get _ (by omega), mkE, if_pos hj]
theorem mk_hi (hW : n + m = W) {a j : Nat} (ha : a < m) (hj : j < m) : vw (mkR m W (mkE n V)) a (n + j) = if j = a then 1 else 0 := by
  rw [vw, mkR_row _ ha, mkV_get _ (by omega), mkE, if_neg (by omega)]
  by_cases e : j = a
  · rw [if_pos e, if_pos (by omega)]
  · rw [if_neg e, if_neg (by omega)]
theorem krF_rwF (hW : n + m = W) : krF n m S f W = rwF m m (kS n S) (kf n f) := by
  subst hW
  simp only [krF, rwF, kS, kf]
  rw [List.range_add, List.filter_append, List.filter_eq_nil_iff.2 (fun a ha => by
    have := List.mem_range.1 ha
    simp; omega), List.nil_append, List.filter_map, List.map_map]
  congr 1
  refine List.filter_congr fun c _ => ?_
  simp [kS]
theorem Re.ker (hW : n + m = W) (r : Re p W W S f) : Re p m m (kS n S) (kf n f) :=
  ⟨fun c j hc hs hj => r.rng (n + c) (n + j) (by omega) hs (by omega), fun c hc hs => r.one (n + c) (by omega) hs, fun c d hc hd hs hd2 hne => r.zer (n + c) (n + d) (by omega) (by omega) hs hd2 (by omega), fun c j hc hs hj => r.lead (n + c) (n + j) (by omega) hs (by omega)⟩
theorem cnt_app (n m : Nat) (S : Nat → Bool) : cnt (n + m) S = cnt n S + cnt m (kS n S) := by
  induction m with
  | zero => simp [cnt]
  | succ m ih => rw [Nat.add_succ, cnt_succ, ih, cnt_succ, Nat.add_assoc]; rfl
/-- The first n columns: the span of the rows. -/
theorem Sk.left (hW : n + m = W) (s : Sk p n m W V S f k) : Sp p n n V m S f (cnt n S) := by
  have r := s.re
  refine ⟨⟨fun c j hc hs hj => r.rng c j (by omega) hs (by omega), fun c hc hs => r.one c (by omega) hs, fun c d hc hd hs hd2 hne => r.zer c d (by omega) (by omega) hs hd2 hne, fun c j hc hs hj => r.lead c j (by omega) hs hj⟩, fun c hc hs => ?_, fun a ha => ?_, rfl⟩
  · exact ((s.out c (by omega) hs).cols (by omega)).rows fun i j hi hj => by rw [mk_lo hW hi hj]
  · obtain ⟨d, hd⟩ := s.inn a ha
    refine ⟨d, fun j hj => ?_⟩
    have := hd j (by omega)
    rw [mk_lo hW ha hj] at this
    rw [this, ← hW, sm_app, sm_zeros (n := m) fun c hc => ?_, Int.add_zero]
    cases hs : S (n + c) with
    | false => rw [gf_no hs, Int.mul_zero]
    | true => rw [gf_yes hs, r.lead (n + c) j (by omega) hs (by omega), Int.mul_zero]
/-- What lies behind the pivots of the last m columns is mapped to zero. -/
theorem Sk.zero (hW : n + m = W) (s : Sk p n m W V S f k) {c : Nat} (hc : c < m) (hs : kS n S c = true) {j : Nat} (hj : j < n) : sm m (fun i => kf n f c i * V i j) % p = 0 := by
  obtain ⟨d, hd⟩ := s.out (n + c) (by omega) hs
  have e : ∀ i, i < m → kf n f c i % p = d i % p := fun i hi => by
    have q := hd (n + i) (by omega)
    rw [sm_one (t := i) hi fun a ha hne => by rw [mk_hi hW ha hi, if_neg (Ne.symm hne), Int.mul_zero], mk_hi hW hi hi, if_pos rfl, Int.mul_one] at q
    exact q
  have q := hd j (by omega)
  rw [s.re.lead (n + c) j (by omega) hs (by omega), Int.zero_emod] at q
  rw [q]
  exact sm_mod fun i hi => by rw [mk_lo hW hi hj]; exact mul_mod (e i hi) rfl
/-- What is mapped to zero is a combination of them. -/
theorem Sk.all (hW : n + m = W) (s : Sk p n m W V S f k) {κ : Nat → Int} (h : ∀ j, j < n → sm m (fun i => κ i * V i j) % p = 0) : ∀ i, i < m → κ i % p = sm m (fun c => κ c * gf (kS n S) (kf n f) c i) % p := fun i hi => by
  have hv : InS p W m (vw (mkR m W (mkE n V))) (fun j => sm m (fun i => κ i * vw (mkR m W (mkE n V)) i j)) := ⟨κ, fun j _ => rfl⟩
  obtain ⟨d, hd⟩ := s.mem.1 hv
  have q := s.re.read hd (j := n + i) (by omega)
  have hi2 : ∀ c, c < m → sm m (fun i => κ i * vw (mkR m W (mkE n V)) i (n + c)) = κ c := fun c hc => by
    rw [sm_one (t := c) hc fun a ha hne => by rw [mk_hi hW ha hc, if_neg (Ne.symm hne), Int.mul_zero], mk_hi hW hc hc, if_pos rfl, Int.mul_one]
  rw [hi2 i hi, ← hW, sm_app] at q
  rw [q, ← Int.add_emod_emod, Int.add_emod, smod_zero (n := n) fun c hc => ?_]
  · rw [Int.zero_add, Int.emod_emod_of_dvd _ (Int.dvd_refl p), Int.emod_emod_of_dvd _ (Int.dvd_refl p)]
    congr 1
    refine sm_congr fun c hc => ?_
    rw [hW, hi2 c hc]
    rfl
  · have := h c hc
    rw [Int.mul_emod, hW, sm_congr (g := fun i => κ i * V i c) fun a ha => by rw [mk_lo hW ha hc], this, Int.zero_mul, Int.zero_emod]
end
end Go.Proofs.Ytlhebmcnjgagjaa

/- Layer 5: the plain law of the intersection. -/
namespace Go.Proofs.Ytlhebmcnjgagjaa
open Go Go.Ay
set_option maxRecDepth 100000
section
variable {p : Int} {n : Nat} {ll : List (List Int)} {P : Nat → Nat} {g : Nat → Nat → Int}
theorem Pv.vw (v : Pv p n ll P g) {i j : Nat} (hi : i < ll.length) (hj : j < n) : vw ll i j = g i j := by
  rw [Go.Proofs.Ytlhebmcnjgagjaa.vw, v.row i hi, mkV_get _ hj]
/-- At a pivot a combination shows its coefficient. -/
theorem Pv.at_ (v : Pv p n ll P g) (κ : Nat → Int) {t : Nat} (ht : t < ll.length) : sm ll.length (fun i => κ i * Go.Proofs.Ytlhebmcnjgagjaa.vw ll i (P t)) = κ t := by
  rw [sm_one (t := t) ht fun a ha hne => by rw [v.vw ha (v.lt t ht), v.zer t a ht ha hne, Int.mul_zero], v.vw ht (v.lt t ht), v.one t ht, Int.mul_one]
end
theorem vw_app {a b : List (List Int)} {i j : Nat} : vw (a ++ b) i j = if i < a.length then vw a i j else vw b (i - a.length) j := by
  unfold vw
  rw [List.getD_eq_getElem?_getD (l := a ++ b)]
  by_cases e : i < a.length
  · rw [if_pos e, List.getElem?_append_left e, ← List.getD_eq_getElem?_getD]
  · rw [if_neg e, List.getElem?_append_right (by omega), ← List.getD_eq_getElem?_getD]
section
variable {p : Int} {n : Nat} {first second : List (List Int)} {P1 P2 PK : Nat → Nat} {g1 g2 gK : Nat → Nat → Int} {K : List (List Int)}
end
end Go.Proofs.Ytlhebmcnjgagjaa

/- Layer 5: Basis and Rank with the span that they found; a copy of rows. -/
namespace Go.Proofs.Ytlhebmcnjgagjaa
open Go Go.Ay
set_option maxRecDepth 100000
set_option maxHeartbeats 8000000 in
theorem Rank_sp (p : Int) (n : Nat) (v : V) (ll : List (List Int)) (h : H) (hv : SR h v ll) (hl : (ll.length : Int) ≤ 2 ^ 63 - 1) (hz0 : ckF p n [ll] = 0) :
    Ev T n_linear_Rank [.int .i64 p, .int .i64 (n : Int), v] h (fun w h' => ∃ S f, ∃ k : Nat, w = .tup [.int .i64 (k : Int), .int .i64 0] ∧ Sp p n n (vw ll) ll.length S f k ∧ k ≤ ll.length ∧ Fr h h') := by
  refine Ev_of t_linear_Rank rfl ?_
  have wv := SV.what hv.choose_spec.1
  simp (disch := first | omega | (simp only [Qn] <;> omega)) only [go_sem, c_linear_Rank, initV_eq, bls_row h wv.1 wv.2.1]
  have hf1 : Fr h (h.new (.cells false [v])) := (Fr.refl h).new _
  have hg1 : (h.new (.cells false [v])).get h.next = some (.cells false [v]) := H.get_new_same ..
  have hn1 : (h.new (.cells false [v])).next = h.next + 1 := H.next_new ..
  generalize h.new (.cells false [v]) = h1 at *
  have c1 : h1.cell h.next 0 = some v := by rw [H.cell_of hg1]; rfl
  refine (check5_ok p (n : Int) (.sl h.next 0 1 (.kn 1)) 1 (fun _ => v) (fun _ => ll) h.next 0 h1 (sl1 ..) (fun _ => by omega) (fun i hi => by obtain rfl : i = 0 := (by omega); exact c1) (fun _ _ => hv.mono hf1) (fun _ _ => hl) (by omega)).mono ?_
  rintro w h2 ⟨rfl, f2⟩
  have F2 := hf1.trans f2
  simp only [List.range_one, List.map_cons, List.map_nil]
  simp (disch := first | omega | (simp only [Qn] <;> omega)) only [go_sem]
  refine iteW_dec (fun hz => absurd hz0 hz) (fun _ => ?_)
  have hz := hz0
  obtain ⟨q1, q2, q3, q4, q5⟩ := ck_zero hz
  obtain ⟨q6, q7⟩ := q5 ll (List.mem_singleton.2 rfl)
  simp (disch := first | omega | (simp only [Qn] <;> omega)) only [go_sem]
  refine (begin_ok p n n (fun _ _ => 0) h2).mono ?_
  rintro w h3 ⟨E, M, ρ, rfl, k3, f3⟩
  simp (disch := first | omega | (simp only [Qn] <;> omega)) only [go_sem]
  refine (each_ok p E M n n h2.next ll v _ (Sp.kp (isP_gt q1) (Nat.le_refl n) ll) h2 h3 _ ρ _ k3 f3.next (Sp.start p n n _ _) f3 (Nat.le_refl _) (hv.mono F2) (by omega) (fun i hi => by have := q7 i hi; omega) (by omega) (Nat.le_refl n) q1 q2).mono ?_
  rintro w h4 ⟨k, S, ρ, f, rfl, s, hk, kE, hF, hnx⟩
  simp (disch := first | omega | (simp only [Qn] <;> omega)) only [go_sem]
  exact ⟨S, f, k, rfl, s, hk, F2.trans (hF h2 f3 (Nat.le_refl _))⟩
end Go.Proofs.Ytlhebmcnjgagjaa

/- Layer 5: two lists of rows in a row; Sum. -/
namespace Go.Proofs.Ytlhebmcnjgagjaa
open Go Go.Ay
set_option maxRecDepth 100000
end Go.Proofs.Ytlhebmcnjgagjaa

/- Layer 5: Sum. -/
namespace Go.Proofs.Ytlhebmcnjgagjaa
open Go Go.Ay
set_option maxRecDepth 100000
end Go.Proofs.Ytlhebmcnjgagjaa

/- Layer 5: Meet. -/
namespace Go.Proofs.Ytlhebmcnjgagjaa
open Go Go.Ay
set_option maxRecDepth 100000
end Go.Proofs.Ytlhebmcnjgagjaa

/- Layer 5: the law of the intersection. -/
namespace Go.Proofs.Ytlhebmcnjgagjaa
open Go Go.Ay
set_option maxRecDepth 100000
theorem InS.app {p : Int} {n m : Nat} {V : Nat → Nat → Int} {A B : List (List Int)} (hA : ∀ i, i < A.length → InS p n m V (vw A i)) (hB : ∀ i, i < B.length → InS p n m V (vw B i)) : ∀ i, i < (A ++ B).length → InS p n m V (vw (A ++ B) i) := fun i hi => by
  rw [List.length_append] at hi
  by_cases e : i < A.length
  · exact (hA i e).congr fun j _ => by rw [vw_app, if_pos e]
  · exact (hB (i - A.length) (by omega)).congr fun j _ => by rw [vw_app, if_neg e]
end Go.Proofs.Ytlhebmcnjgagjaa

/- Layer 5: the tags of a system's rows. -/
namespace Go.Proofs.Ytlhebmcnjgagjaa
open Go Go.Ay
set_option maxRecDepth 100000
theorem rdF_col {p : Int} {n : Nat} {S : Nat → Bool} {f : Nat → Nat → Int} {v : Nat → Int} {j : Nat} (hv : v j = 0) (hf : ∀ c, c < n → S c = true → f c j = 0) : ∀ c, c ≤ n → rdF p S f v c j = 0
  | 0, _ => hv
  | c + 1, hc => by
    rw [rdF]
    cases hs : S c with
    | false => rw [if_neg (by simp)]; exact rdF_col hv hf c (by omega)
    | true => rw [if_pos rfl, rdF_col hv hf c (by omega), hf c (by omega) hs, Int.mul_zero, Int.add_zero, Int.zero_emod]
theorem neg_cg {p x y : Int} (h : x % p = (-y) % p) : (-x) % p = y % p := by
  have d := Int.dvd_of_emod_eq_zero (Int.emod_eq_emod_iff_emod_sub_eq_zero.1 h)
  refine Int.emod_eq_emod_iff_emod_sub_eq_zero.2 (Int.emod_eq_zero_of_dvd ?_)
  rw [show -x - y = -(x - -y) by omega]
  exact Int.dvd_neg.2 d
/-- Rows that are in the span of those before them have left no trace. -/
def Tg (p : Int) (n m : Nat) (V : Nat → Nat → Int) (i : Nat) (S : Nat → Bool) (f : Nat → Nat → Int) : Prop := ∀ t, t < m → (i ≤ t ∨ InS p n t V (V t)) → ∀ c, c < n → S c = true → f c (n + t) = 0
section
variable {p : Int} {n m W i k : Nat} {V : Nat → Nat → Int} {S : Nat → Bool} {f : Nat → Nat → Int}
theorem Sp.cut {U : Nat → Nat → Int} (hW : n ≤ W) (s : Sp p n W U i S f k) : Sp p n n U i S f k :=
  ⟨⟨fun c j hc hs hj => s.re.rng c j hc hs (by omega), s.re.one, s.re.zer, s.re.lead⟩, fun c hc hs => (s.out c hc hs).cols hW, s.inn, s.cn⟩
theorem kp_tag (hp : 1 < p) (hW : n + m = W) : Kp p n W (mkR m W (mkE n V)) (fun i S f k => Sp p n W (vw (mkR m W (mkE n V))) i S f k ∧ Tg p n m V i S f) := by
  have K := Sp.kp hp (show n ≤ W by omega) (mkR m W (mkE n V))
  refine ⟨fun i S f k h => K.rng i S f k h.1, fun i S f k hi h => K.red i S f k hi h.1, fun i S f k hi h e => ⟨K.no i S f k hi h.1 e, fun t ht q => h.2 t ht (q.imp_left fun q => by omega)⟩, fun i S f k u hi h hu at_ x h1 h2 h3 h4 h5 h6 => ⟨K.yes i S f k u hi h.1 hu at_ x h1 h2 h3 h4 h5 h6, fun t ht q c hc hs => ?_⟩⟩
  rw [mkR_len] at hi
  have f0 := h.2 t ht (q.imp_left fun q => by omega)
  have hti : t ≠ i := fun e => by
    subst e
    rcases q with q | q
    · omega
    · have s2 := h.1.cut (show n ≤ W by omega)
      have e2 : InS p n t (vw (mkR m W (mkE n V))) (fun j => ((mkR m W (mkE n V)).getD t []).getD j 0) := by
        refine (q.congr (w := fun j => ((mkR m W (mkE n V)).getD t []).getD j 0) fun j hj => ?_).rows fun a j ha hj => ?_
        · show vw (mkR m W (mkE n V)) t j % p = _
          rw [mk_lo hW hi hj]
        · rw [mk_lo hW (by omega) hj]
      have z := (s2.zero (by omega) (fun j => ((mkR m W (mkE n V)).getD t []).getD j 0)).2 e2 at_ h1
      rw [← hu] at z
      omega
  have u0 : u (n + t) = 0 := by
    rw [hu]
    refine rdF_col ?_ f0 n (Nat.le_refl n)
    show vw (mkR m W (mkE n V)) i (n + t) % p = 0
    rw [mk_hi hW hi ht, if_neg hti, Int.zero_emod]
  by_cases e : c = at_
  · simp only [if_pos e, u0, Int.mul_zero, Int.add_zero, Int.zero_emod]
  · simp only [if_neg e] at hs ⊢
    rw [nwF, f0 c hc hs, u0, Int.mul_zero, Int.add_zero, Int.zero_emod, Int.mul_zero, Int.add_zero, Int.zero_emod]
/-- What is read behind the first n columns solves the system. -/
theorem sol_law (hp : 1 < p) (hW : n + m = W) (s : Sp p n W (vw (mkR m W (mkE n V))) m S f k) (b : Nat → Int) (hb : ∀ i, i < m → b (n + i) = 0) (hz : ∀ j, j < n → rdF p S f (fun j => b j % p) n j = 0) {r : Nat → Int} (hr : ∀ i, i < m → r i % p = (- rdF p S f (fun j => b j % p) n (n + i)) % p) :
    ∀ j, j < n → sm m (fun i => r i * V i j) % p = b j % p := fun j hj => by
  have rd := fun j hj => rd_sum s.re (show n ≤ W by omega) (fun j => b j % p) n (Nat.le_refl n) j hj
  have row : ∀ c, c < n → ∀ j, j < n → gf S f c j % p = sm m (fun i => gf S f c (n + i) * V i j) % p := fun c hc j hj => by
    cases hs : S c with
    | false => rw [gf_no hs, sm_zeros fun i _ => by rw [gf_no hs, Int.zero_mul]]
    | true =>
      obtain ⟨d, hd⟩ := s.out c hc hs
      have q := hd j (by omega)
      rw [gf_yes hs, q]
      refine sm_mod fun i hi => ?_
      have q2 := hd (n + i) (by omega)
      rw [sm_one (t := i) hi fun a ha hne => by rw [mk_hi hW ha hi, if_neg (Ne.symm hne), Int.mul_zero], mk_hi hW hi hi, if_pos rfl, Int.mul_one] at q2
      rw [mk_lo hW hi hj, gf_yes hs]
      exact mul_mod q2.symm rfl
  have er : ∀ i, i < m → r i % p = sm n (fun c => b c * gf S f c (n + i)) % p := fun i hi => by
    have q := rd (n + i) (by omega)
    simp only [hb i hi, Int.zero_emod, Int.zero_sub] at q
    rw [hr i hi, neg_cg q]
    exact sm_mod fun c _ => mul_mod (mm2 p _) rfl
  have q := rd j (by omega)
  rw [hz j hj, Int.zero_emod] at q
  have q2 := sub_zero q.symm
  simp only [mm2] at q2
  rw [q2, sm_mod (g := fun i => sm n (fun c => b c * gf S f c (n + i)) * V i j) fun i hi => mul_mod (er i hi) rfl, sm_congr (g := fun i => sm n (fun c => b c * gf S f c (n + i) * V i j)) fun i _ => by rw [sm_mulr], sm_swap]
  refine sm_mod fun c hc => ?_
  rw [sm_congr (g := fun i => b c * (gf S f c (n + i) * V i j)) fun i _ => by rw [Int.mul_assoc], sm_mul]
  exact mul_mod (mm2 p _).symm (row c hc j hj).symm
end
end Go.Proofs.Ytlhebmcnjgagjaa

/- Layer 5: Solve. -/
namespace Go.Proofs.Ytlhebmcnjgagjaa
open Go Go.Ay
set_option maxRecDepth 100000
set_option maxHeartbeats 32000000 in
theorem Solve_sp (va vb : V) (a : Mat) (b : List Int) (h : H) (ha : MatV h va a) (la : (a.2.length : Int) ≤ 2 ^ 63 - 1) (hb : SI h vb b) (hc0 : checkM a = 0) (lb : b.length = (a.2.getD 0 []).length) :
    Ev T n_linear_Solve [va, vb] h (fun w h' => Fr h h' ∧ ((¬ InS a.1 b.length a.2.length (vw a.2) (fun j => b.getD j 0) ∧ w = .tup [.nils, .int .i64 18]) ∨
      (InS a.1 b.length a.2.length (vw a.2) (fun j => b.getD j 0) ∧ ∃ u r, w = .tup [u, .int .i64 0] ∧ SI h' u (mkV a.2.length r) ∧ (∀ i, i < a.2.length → 0 ≤ r i ∧ r i < a.1) ∧ (∀ j, j < b.length → sm a.2.length (fun i => r i * vw a.2 i j) % a.1 = b.getD j 0 % a.1) ∧ ∀ i, i < a.2.length → InS a.1 b.length i (vw a.2) (vw a.2 i) → r i = 0))) := by
  obtain ⟨ua, rfl, hua⟩ := ha
  obtain ⟨p, A⟩ := a
  have da := check_vd hc0
  simp only at hua la lb da hc0 ⊢
  refine Ev_of t_linear_Solve rfl ?_
  have wa := SV.what hua.choose_spec.1
  obtain ⟨n, hn⟩ : ∃ n, (A.getD 0 []).length = n := ⟨_, rfl⟩
  rw [hn] at lb da
  obtain ⟨m, hm⟩ : ∃ m, A.length = m := ⟨_, rfl⟩
  have hr1 := da.r1
  have hr2 := da.r2
  have hc1 := da.c1
  have hc2 := da.c2
  have hF := da.p
  simp only [fieldF, Bool.and_eq_true, decide_eq_true_eq] at hF
  obtain ⟨hp2, hpr⟩ := hF
  have hp := isP_gt hpr
  have hrow := da.row
  simp only at hr1 hr2 hrow
  rw [hm] at hr1 hr2
  obtain ⟨W, hW⟩ : ∃ W, n + m = W := ⟨_, rfl⟩
  simp (disch := first | omega | (simp only [Qn] <;> omega)) only [go_sem, c_linear_Solve, initV_eq, boxV_agg2 h (v := .int .i64 p) rfl wa.2.1]
  have hfx : Fr h (h.new (.cells false [.int .i64 p, ua])) := (Fr.refl h).new _
  have hgx : (h.new (.cells false [.int .i64 p, ua])).get h.next = some (.cells false [.int .i64 p, ua]) := H.get_new_same ..
  have hnx : (h.new (.cells false [.int .i64 p, ua])).next = h.next + 1 := H.next_new ..
  generalize h.new (.cells false [.int .i64 p, ua]) = hx at *
  obtain ⟨X, hX⟩ : ∃ X, h.next = X := ⟨_, rfl⟩
  rw [hX] at hgx ⊢
  simp (disch := first | omega | (simp only [Qn] <;> omega)) only [go_sem, row_two hgx]
  refine (check_ok _ (p, A) hx ⟨ua, rfl, hua.mono hfx⟩ la).mono ?_
  rintro v h5 ⟨rfl, f5⟩
  have F5 := hfx.trans f5
  have gx5 := (f5.get X (by omega)).trans hgx
  have x0 : h5.cell X 0 = some (.int .i64 p) := by rw [H.cell_of gx5]; rfl
  have x1 : h5.cell X 1 = some ua := by rw [H.cell_of gx5]; rfl
  simp (disch := first | omega | (simp only [Qn] <;> omega)) only [go_sem]
  refine iteW_dec (fun hz => absurd hc0 hz) (fun _ => ?_)
  obtain ⟨ida, offa, wsa, sua, hida, hwla, hcA, halla⟩ := (hua.mono F5).open
  have c0 : h5.cell ida offa = some (wsa.getD 0 .undef) := hcA 0 (by omega)
  have l0 := (row_at halla (i := 0) (by omega)).lens
  rw [hn] at l0
  have lvb := hb.lens
  rw [lb] at lvb
  simp (disch := first | omega | (simp only [Qn] <;> omega)) only [go_sem, x1, sua.ixa, c0, l0, lvb]
  refine iteW_dec (fun q => absurd rfl q) (fun _ => ?_)
  simp (disch := first | omega | (simp only [Qn] <;> omega)) only [go_sem, x0, x1]
  have fb : Fr h5 (H.mk h5.tr (h5.next + 9)) := (Fr.refl h5).bump (by omega)
  have nb : (H.mk h5.tr (h5.next + 9)).next = h5.next + 9 := rfl
  generalize H.mk h5.tr (h5.next + 9) = h5b at *
  refine (marked_ok n ua A h5b (hua.mono (F5.trans fb)) (by omega) (by omega) (by omega) hrow).mono ?_
  rintro w h6 ⟨s6, f6⟩
  rw [hm, hW] at s6
  have F6 := (F5.trans fb).trans f6
  have gx6 := ((fb.trans f6).get X (by have := f5.next; omega)).trans gx5
  have x06 : h6.cell X 0 = some (.int .i64 p) := by rw [H.cell_of gx6]; rfl
  obtain ⟨L2, hL2⟩ : ∃ L2, mkR m W (mkE n (vw A)) = L2 := ⟨_, rfl⟩
  have KT := kp_tag hp hW (V := vw A)
  rw [hL2] at s6 KT
  have l2 : L2.length = m := by rw [← hL2, mkR_len]
  have lr2 : ∀ i, i < L2.length → (L2.getD i []).length = W := fun i hi => by rw [← hL2, mkR_row _ (by omega), mkV_len]
  simp (disch := first | omega | (simp only [Qn] <;> omega)) only [go_sem, x06, eqV_int]
  refine (span_ok p n W L2 w _ KT h6 ⟨Sp.start p n W _ _, fun _ _ _ _ _ (q : false = true) => Bool.noConfusion q⟩ s6.sr (by omega) lr2 (by omega) (by omega) hpr hp2).mono ?_
  rintro w h7 ⟨E, M, k, S, ρ, f, rfl, ⟨s, tg⟩, hk, kE, f7⟩
  rw [l2] at s
  have F7 := F6.trans f7
  have gx7 := (f7.get X (by have := f5.next; have := (fb.trans f6).next; omega)).trans gx6
  have x17 : h7.cell X 1 = some ua := by rw [H.cell_of gx7]; rfl
  have lvA : lensV ua = some (.int .i64 (m : Int)) := by have := hua.lens; rwa [hm] at this
  have emk := fun hh => mks_ints hh m (by omega)
  have wvb := SV.what hb
  simp (disch := first | omega | (simp only [Qn] <;> omega)) only [go_sem, x17, lvA, emk, fun hh (i : Nat) => bls_two hh (x := vb) (u := .sl i 0 m (.kn m)) wvb.1 wvb.2.1 rfl rfl]
  have hf8 : Fr h7 (h7.new (.cells false (ints (mkV m fun _ => 0)))) := (Fr.refl h7).new _
  have hg8 : (h7.new (.cells false (ints (mkV m fun _ => 0)))).get h7.next = some (.cells false (ints (mkV m fun _ => 0))) := H.get_new_same ..
  have hn8 : (h7.new (.cells false (ints (mkV m fun _ => 0)))).next = h7.next + 1 := H.next_new ..
  generalize h7.new (.cells false (ints (mkV m fun _ => 0))) = h8 at *
  rw [← hn8]
  have hf9 : Fr h8 (h8.new (.cells false [vb, .sl h7.next 0 m (.kn m)])) := (Fr.refl h8).new _
  have hg9 : (h8.new (.cells false [vb, .sl h7.next 0 m (.kn m)])).get h8.next = some (.cells false [vb, .sl h7.next 0 m (.kn m)]) := H.get_new_same ..
  have hn9 : (h8.new (.cells false [vb, .sl h7.next 0 m (.kn m)])).next = h8.next + 1 := H.next_new ..
  generalize h8.new (.cells false [vb, .sl h7.next 0 m (.kn m)]) = h9 at *
  have sz9 : SI h9 (.sl h7.next 0 m (.kn m)) (mkV m fun _ => 0) := (Bk.si (show Bk h8 h7.next m fun _ => 0 from hg8) (by omega) (.kn m)).mono hf9
  have F9 := (F7.trans hf8).trans hf9
  have f79 := hf8.trans hf9
  refine (concat_ok h8.next vb _ b (mkV m fun _ => 0) h9 hg9 (by omega) (hb.mono F9) sz9 (by rw [mkV_len]; omega) (by omega) (by rw [mkV_len]; omega)).mono ?_
  rintro w h10 ⟨o10, f10⟩
  have F10 := F9.trans f10
  obtain ⟨bz, hbz⟩ : ∃ l, b ++ mkV m (fun _ => 0) = l := ⟨_, rfl⟩
  rw [hbz] at o10
  have lbz : bz.length = W := by rw [← hbz, List.length_append, mkV_len]; omega
  simp (disch := first | omega | (simp only [Qn] <;> omega)) only [go_sem]
  refine (reduced_ok p E M n W S ρ f _ w bz h10 (kE.fr (f79.trans f10)) o10.sv lbz (by omega) (by omega) ⟨by omega, hp2⟩ (fun c j hc hs hj => s.re.rng c j hc hs hj)).mono ?_
  rintro w h11 ⟨N, rfl, N1, N2, bN, f11⟩
  have F11 := F10.trans f11
  obtain ⟨u, hu⟩ : ∃ u, rdF p S f (fun i => bz.getD i 0 % p) n = u := ⟨_, rfl⟩
  rw [hu] at bN
  have ur : ∀ j, 0 ≤ u j ∧ u j < p := fun j => by rw [← hu]; exact rdF_range (by omega) (tmod_range _ (by omega)) n
  have sk := fun kk : IntKind => slc_kn (id := N) (off := 0) (len := W) (c := W) (hi := (n : Int)) (k := kk) (by omega) (by omega)
  simp only [Int.toNat_natCast] at sk
  simp (disch := first | omega | (simp only [Qn] <;> omega)) only [go_sem, sk]
  refine (max_ok _ (mkV n u) h11 (bN.pre (by omega) N2 _) (by rw [mkV_len]; omega) (by rw [mkV_len]; omega)).mono ?_
  rintro w h11' ⟨mx, rfl, rfl, hmx⟩
  have bzb : ∀ j, j < n → bz.getD j 0 = b.getD j 0 := fun j hj => by
    rw [← hbz, List.getD_eq_getElem?_getD, List.getElem?_append_left (by omega), ← List.getD_eq_getElem?_getD]
  have bz0 : ∀ i, i < m → bz.getD (n + i) 0 = 0 := fun i hi => by
    rw [← hbz, List.getD_eq_getElem?_getD, List.getElem?_append_right (by omega), ← List.getD_eq_getElem?_getD, mkV_get _ (by omega)]
  have inL : InS p n m (vw A) (fun j => b.getD j 0) ↔ ∀ j, j < n → u j = 0 := by
    have z := (s.cut (show n ≤ W by omega)).zero (by omega) (fun j => bz.getD j 0)
    rw [hu] at z
    rw [z]
    constructor
    · exact fun q => (q.congr (w := fun j => bz.getD j 0) fun j hj => by rw [bzb j hj]).rows fun a j ha hj => by rw [← hL2, mk_lo hW ha hj]
    · exact fun q => (q.congr (w := fun j => b.getD j 0) fun j hj => by rw [bzb j hj]).rows fun a j ha hj => by rw [← hL2, mk_lo hW ha hj]
  rw [lb, hm]
  have any1 := hmx 1
  simp (disch := first | omega | (simp only [Qn] <;> omega)) only [go_sem]
  refine iteW_dec (fun hpos => ?_) (fun hneg => ?_)
  · simp (disch := first | omega | (simp only [Qn] <;> omega)) only [go_sem]
    refine ⟨F11, .inl ⟨fun q => ?_, trivial⟩⟩
    rw [decide_eq_true (show (1 : Int) ≤ mx by omega)] at any1
    obtain ⟨x, hx1, hx2⟩ := List.any_eq_true.1 any1.symm
    simp only [mkV, List.mem_map, List.mem_range] at hx1
    obtain ⟨j, hj, rfl⟩ := hx1
    rw [inL.1 q j hj] at hx2
    simp at hx2
  have uz : ∀ j, j < n → u j = 0 := fun j hj => by
    rw [decide_eq_false (show ¬ (1 : Int) ≤ mx by omega)] at any1
    have := List.any_eq_false.1 any1.symm (u j) (by simp only [mkV, List.mem_map, List.mem_range]; exact ⟨j, hj, rfl⟩)
    have := ur j
    simp at *
    omega
  have kE11 := kE.fr ((f79.trans f10).trans f11)
  have gx11 : h11'.get X = some (.cells false [.int .i64 p, ua]) := (((f79.trans f10).trans f11).get X (by have := f5.next; have := ((fb.trans f6).trans f7).next; omega)).trans gx7
  have x111 : h11'.cell X 1 = some ua := by rw [H.cell_of gx11]; rfl
  simp (disch := first | omega | (simp only [Qn] <;> omega)) only [go_sem, x111, lvA, emk]
  have hf12 : Fr h11' (h11'.new (.cells false (ints (mkV m fun _ => 0)))) := (Fr.refl h11').new _
  have hg12 : (h11'.new (.cells false (ints (mkV m fun _ => 0)))).get h11'.next = some (.cells false (ints (mkV m fun _ => 0))) := H.get_new_same ..
  have hn12 : (h11'.new (.cells false (ints (mkV m fun _ => 0)))).next = h11'.next + 1 := H.next_new ..
  have cap1 : Cap1 (V.sl N 0 W (.kn W)) := fun id off m c e => by cases e; exact .inr ⟨W, rfl, Nat.le_refl _⟩
  obtain ⟨vr, evr, svr⟩ := slc_lo (bN.si N2 (.kn W)) cap1 (k := n) (by rw [mkV_len]; omega)
  have edr : (mkV W u).drop n = mkV m (fun j => u (n + j)) := mkV_eq (by rw [List.length_drop, mkV_len]; omega) fun k hk => by
    rw [List.getD_eq_getElem?_getD, List.getElem?_drop, ← List.getD_eq_getElem?_getD, mkV_get _ (by omega)]
  rw [edr] at svr
  generalize h11'.new (.cells false (ints (mkV m fun _ => 0))) = h12 at *
  rw [← hn12]
  obtain ⟨O, hO⟩ : ∃ O, h11'.next = O := ⟨_, rfl⟩
  rw [hO] at hg12 ⊢
  obtain ⟨idw, offw, shw, hidw, hcw⟩ := svr.open
  rw [mkV_len] at shw hidw hcw
  have rE := r1E (kE11.fr hf12).gE
  have e0 := (kE11.fr hf12).e0
  have rEb : (H.mk h12.tr (h12.next + 15)).row E 0 1 = some [.int .i64 p] := rE
  have e0b : (H.mk h12.tr (h12.next + 15)).cell E 0 = some (.int .i64 p) := e0
  have fb2 : Fr h12 (H.mk h12.tr (h12.next + 15)) := (Fr.refl h12).bump (by omega)
  have nb2 : (H.mk h12.tr (h12.next + 15)).next = h12.next + 15 := rfl
  simp (disch := first | omega | (simp only [Qn] <;> omega)) only [go_sem, rE, rEb, e0, e0b, evr, List.getElem?_cons_zero, List.getElem?_cons_succ]
  generalize H.mk h12.tr (h12.next + 15) = h13 at *
  have bO : Bk h13 O m (fun _ => 0) := Bk.fr (show Bk h12 O m _ from hg12) fb2 (by omega)
  refine (add_ok p (p - 1) O m m idw offw (.kn m) vr (fun _ => 0) (fun i => u (n + i)) [] h13 bO.bt (by omega) shw (fun h0 => by have := hidw h0; omega) (fun i hi => by rw [(hf12.trans fb2).cell (by have := hidw (by omega); omega)]; have := hcw i hi; rwa [mkV_get _ hi] at this) (.inl (by have := hidw (by omega); omega)) (Nat.le_refl m) (by omega) ⟨by omega, hp2⟩ (by omega) (fun i hi => by omega) (fun i hi => by have := ur (n + i); omega)).mono ?_
  rintro w h14 ⟨bR, F14⟩
  have F13 := (F11.trans hf12).trans fb2
  have F14h : Fr h h14 := Fx.fr F13 (by have := F11.next; omega) F14
  simp (disch := first | omega | (simp only [Qn] <;> omega)) only [go_sem]
  refine ⟨F14h, .inr ⟨inL.2 uz, _, fun i => (0 + (p - 1) * u (n + i)) % p, rfl, (bR.bk.congr fun i hi => by rw [if_pos hi]).si (by have := F14.next; omega) _, fun i hi => tmod_range _ (by omega), ?_, fun i hi q => ?_⟩⟩
  · intro j hj
    have := sol_law hp hW (by rw [hL2]; exact s) (fun j => bz.getD j 0) bz0 (by rw [hu]; exact uz) (r := fun i => (0 + (p - 1) * u (n + i)) % p) (fun i hi => by
      rw [hu, mm2, show 0 + (p - 1) * u (n + i) = - u (n + i) + p * u (n + i) by grind, Int.add_mul_emod_self_left]) j hj
    rw [this, bzb j hj]
  · have u0 : u (n + i) = 0 := by
      rw [← hu]
      refine rdF_col (by rw [bz0 i hi, Int.zero_emod]) (fun c hc hs => tg i hi (.inr q) c hc hs) n (Nat.le_refl n)
    simp only [u0, Int.mul_zero, Int.add_zero, Int.zero_emod]
end Go.Proofs.Ytlhebmcnjgagjaa

/- Layer 5: two rows appended; a taker under another's change. -/
namespace Go.Proofs.Ytlhebmcnjgagjaa
open Go Go.Ay
set_option maxRecDepth 100000
theorem vw_mkR {m n : Nat} {A : Mx} {i j : Nat} (hi : i < m) (hj : j < n) : vw (mkR m n A) i j = A i j := by rw [vw, mkR_row _ hi, mkV_get _ hj]
theorem Rws.open {h : H} {u : V} {ws : List V} {ll : List (List Int)} {lo : Nat} (r : Rws h u ws ll lo) : ∃ id off, Sl u 1 ll.length id off ∧ (0 < ll.length → id < h.next ∧ lo ≤ id) ∧ ws.length = ll.length ∧ ∀ i, i < ll.length → h.cell id (off + i) = some (ws.getD i .undef) := by
  have hl := r.row.length
  obtain ⟨id, off, h1, h2, h3⟩ := r.own.sv.shape ll.length (by rw [hl, Nat.mul_one]) (by omega)
  refine ⟨id, off, h1, fun h0 => ⟨h2 h0, ?_⟩, hl, fun i i1 => ?_⟩
  · rcases r.own with ⟨h1', _⟩ | ⟨id', n, cap, rest, h1', _, _, h4, _⟩
    · have := h1.len
      rw [h1'] at this
      simp [lenV] at this
      omega
    · have e := h1.ixa .i64 0 (by omega) (by omega)
      have hn : n = ll.length := by
        have := h1.len
        rw [h1'] at this
        simpa [lenV] using this
      rw [h1', ixaV_sl (by omega) (by omega)] at e
      simp only [Option.some.injEq, V.ptr.injEq] at e
      omega
  · rw [h3 i (by omega), List.getD_eq_getElem?_getD, List.getElem?_eq_getElem (by omega)]; rfl
theorem InS.vw {p : Int} {n m : Nat} {V : Nat → Nat → Int} {ll ll' : List (List Int)} {q q' : Nat} (h : InS p n m V (vw ll q)) (e : ll'.getD q' [] = ll.getD q []) : InS p n m V (Go.Proofs.Ytlhebmcnjgagjaa.vw ll' q') := by
  unfold Go.Proofs.Ytlhebmcnjgagjaa.vw at h ⊢
  rw [e]; exact h
end Go.Proofs.Ytlhebmcnjgagjaa

/- The law LinearBasis, walked. -/
namespace Go.Proofs.Ytlhebmcnjgagjaa
open Go Go.Ay
set_option maxRecDepth 100000
end Go.Proofs.Ytlhebmcnjgagjaa

/- Layer 5: the reference's Apply: its result lies at or behind the heap's index. -/
namespace Go.Proofs.Ytlhebmcnjgagjaa
open Go Go.Ay
set_option maxRecDepth 100000
set_option maxHeartbeats 8000000 in
theorem ref_Apply_fr (vv va : V) (v : List Int) (a : Mat) (h : H) (hv : SI h vv v) (lv : (v.length : Int) ≤ 2 ^ 63 - 1) (ha : MatV h va a) (la : (a.2.length : Int) ≤ 2 ^ 63 - 1) :
    Ev T n_ref04_Apply [vv, va] h (fun r h' => ∃ w, r = .tup [w, .int .i64 (ApplyF v a).2] ∧ SI h' w (ApplyF v a).1 ∧ Fr h h' ∧ Frs w h.next) := by
  obtain ⟨ua, rfl, hua⟩ := ha
  obtain ⟨p, A⟩ := a
  simp only at hua la
  refine Ev_of t_ref04_Apply rfl ?_
  have wa := SV.what hua.choose_spec.1
  simp (disch := first | omega | (simp only [Qn] <;> omega)) only [go_sem, c_ref04_Apply, initV_eq, boxV_agg2 h (v := .int .i64 p) rfl wa.2.1]
  have hfx : Fr h (h.new (.cells false [.int .i64 p, ua])) := (Fr.refl h).new _
  have hgx : (h.new (.cells false [.int .i64 p, ua])).get h.next = some (.cells false [.int .i64 p, ua]) := H.get_new_same ..
  have hnx : (h.new (.cells false [.int .i64 p, ua])).next = h.next + 1 := H.next_new ..
  generalize h.new (.cells false [.int .i64 p, ua]) = hx at *
  have rx := row_two hgx
  simp (disch := first | omega | (simp only [Qn] <;> omega)) only [go_sem, rx]
  refine (ref_check_ok _ (p, A) hx ⟨ua, rfl, hua.mono hfx⟩ la).mono ?_
  rintro r h5 ⟨rfl, f5⟩
  have F5 := hfx.trans f5
  have gx5 := (f5.get h.next (by omega)).trans hgx
  have n5 := f5.next
  simp (disch := first | omega | (simp only [Qn] <;> omega)) only [go_sem]
  refine iteW_dec (fun he => ?_) (fun he => ?_)
  · simp (disch := first | omega | (simp only [Qn] <;> omega)) only [go_sem]
    have e : ApplyF v (p, A) = ([], checkM (p, A)) := by rw [ApplyF, if_pos he]
    rw [e]
    exact ⟨_, rfl, SV.nils _ _, F5, fun _ _ _ _ e => by cases e⟩
  have hz : checkM (p, A) = 0 := Classical.byContradiction he
  have da := check_vd hz
  have hp := fieldF_range da.p
  have hra1 := da.r1
  have hra2 := da.r2
  have hca1 := da.c1
  have hca2 := da.c2
  simp only at hp hra1 hra2
  obtain ⟨c, hc⟩ : ∃ c, (A.getD 0 []).length = c := ⟨_, rfl⟩
  simp only [hc] at da hca1 hca2
  have x0 : h5.cell h.next 0 = some (.int .i64 p) := by rw [H.cell_of gx5]; rfl
  have x1 : h5.cell h.next 1 = some ua := by rw [H.cell_of gx5]; rfl
  simp (disch := first | omega | (simp only [Qn] <;> omega)) only [go_sem, hv.lens, x1, hua.lens]
  refine iteW_dec (fun hl => ?_) (fun hl => ?_)
  · simp (disch := first | omega | (simp only [Qn] <;> omega)) only [go_sem]
    have e : ApplyF v (p, A) = ([], 10) := by rw [ApplyF, if_neg (by simp [hz]), if_pos (by show v.length ≠ A.length; omega)]
    rw [e]
    exact ⟨_, rfl, SV.nils _ _, F5, fun _ _ _ _ e => by cases e⟩
  have hlen : v.length = A.length := by omega
  obtain ⟨ida, offa, wsa, ρa, oa, RA⟩ := SR.rd (hua.mono F5) fun i hi => da.row i hi
  obtain ⟨idv, offv, sv, hidv, cv⟩ := (hv.mono F5).open
  have ca0 : h5.cell ida offa = some (wsa.getD 0 .undef) := RA.at_ 0 hra1
  have emk : mksV h5 1 8 [.int .i64 0] (.int .i64 (c : Int)) (.int .i64 (c : Int)) = some (.sl h5.next 0 c (.kn c), h5.new (.cells false (ints (List.replicate c 0)))) := by
    rw [mksV_int (by omega) (Int.le_refl _) (by omega) (by omega), Int.toNat_natCast, Nat.mul_one, zeros_int]
  simp (disch := first | omega | (simp only [Qn] <;> omega)) only [go_sem, x1, RA.sl.ixa, ca0, RA.lens hra1, emk]
  have hfz : Fr h5 (h5.new (.cells false (ints (List.replicate c 0)))) := (Fr.refl h5).new _
  have hgz : (h5.new (.cells false (ints (List.replicate c 0)))).get h5.next = some (.cells false (ints (List.replicate c 0))) := H.get_new_same ..
  have hnz : (h5.new (.cells false (ints (List.replicate c 0)))).next = h5.next + 1 := H.next_new ..
  generalize h5.new (.cells false (ints (List.replicate c 0))) = hz5 at *
  obtain ⟨S, hS⟩ : ∃ S : Nat → Nat → Int, S = fun i k => sm i (fun i => v.getD i 0 % p * ent A i k) % p := ⟨_, rfl⟩
  have Sr : ∀ i k, 0 ≤ S i k ∧ S i k < p := fun i k => by rw [hS]; exact tmod_range _ (by omega)
  have S0 : ∀ k, S 0 k = 0 := fun k => by rw [hS]; rfl
  have er : List.replicate c (0 : Int) = mkV c (fun x => if x < 0 then S v.length x else if x = 0 then S 0 x else 0) := mkV_eq (List.length_replicate ..) fun j hj => by
    rw [List.getD_eq_getElem?_getD, List.getElem?_replicate, if_pos hj, if_neg (by omega), S0]; simp
  rw [er] at hgz
  have lsl : lensV (.sl h5.next 0 c (.kn c)) = some (.int .i64 (c : Int)) := rfl
  refine Wp_loop (fun k' vars h3 => ∃ (k : Nat), (∃ g : Nat → V, vars = [vv, g 1, .ptr h.next 0, g 3, g 4, g 5, .sl h5.next 0 c (.kn c), .int .i64 (k : Int), g 8, g 9, g 10, g 11, g 12]) ∧ k ≤ c ∧ h3.get h5.next = some (.cells false (ints (mkV c (fun x => if x < k then S v.length x else if x = k then S 0 x else 0)))) ∧ h5.next < h3.next ∧ Fr h5 h3 ∧ k' = c - k) c
    ⟨0, ex_junk rfl, Nat.zero_le _, hgz, by omega, hfz, rfl⟩ ?_
  clear hgz hfz er emk ca0
  rintro k' vars h3 ⟨k, ⟨g, rfl⟩, hk, g3, n3, f3, rfl⟩
  simp (disch := first | omega | (simp only [Qn] <;> omega)) only [go_sem, lsl]
  by_cases hlt : (k : Int) < (c : Int)
  · rw [decide_eq_true hlt]
    simp (disch := first | omega | (simp only [Qn] <;> omega)) only [go_sem]
    refine Wp_loop (fun k' vars h3 => ∃ (i : Nat), (∃ g : Nat → V, vars = [vv, g 1, .ptr h.next 0, g 3, g 4, g 5, .sl h5.next 0 c (.kn c), .int .i64 (k : Int), .int .i64 (i : Int), g 9, g 10, g 11, g 12]) ∧ i ≤ v.length ∧ h3.get h5.next = some (.cells false (ints (mkV c (fun x => if x < k then S v.length x else if x = k then S i x else 0)))) ∧ h5.next < h3.next ∧ Fr h5 h3 ∧ k' = v.length - i) v.length
      ⟨0, ex_junk rfl, Nat.zero_le _, g3, n3, f3, rfl⟩ ?_
    clear g3 n3 f3 g
    rintro k' vars h3 ⟨i, ⟨g, rfl⟩, hi, g3, n3, f3, rfl⟩
    simp (disch := first | omega | (simp only [Qn] <;> omega)) only [go_sem, hv.lens]
    by_cases hlt2 : (i : Int) < (v.length : Int)
    · rw [decide_eq_true hlt2]
      have hi' : i < A.length := by omega
      have hk' : k < c := by omega
      have x0' : h3.cell h.next 0 = some (.int .i64 p) := by rw [f3.cell (by omega)]; exact x0
      have x1' : h3.cell h.next 1 = some ua := by rw [f3.cell (by omega)]; exact x1
      have cvi : h3.cell idv (offv + i) = some (.int .i64 (v.getD i 0)) := by rw [f3.cell (hidv (by omega))]; exact cv i (by omega)
      have RA3 := RA.fr f3
      have co : h3.cell h5.next k = some (.int .i64 (S i k)) := by
        rw [H.cell_of g3, ints_getD (by rw [mkV_len]; exact hk'), mkV_get _ hk', if_neg (by omega), if_pos rfl]
      have b1 := da.lo i k hi' hk'
      have b2 := da.hi i k hi' hk'
      have b3 := tmod_range (v.getD i 0) (show 0 < p by omega)
      have b4 := mul_bound b3.1 b3.2 b1 b2 hp.2
      simp only at b4
      have b5 := Sr i k
      have ev : eqV ua ua = true := SV.eqV hua.choose_spec.1
      have ew : eqV (wsa.getD i .undef) (wsa.getD i .undef) = true := SV.eqV (RA.row i hi')
      have em : (S i k + v.getD i 0 % p * ent A i k).tmod p = S (i + 1) k := by
        rw [nonneg_tmod (by omega), hS]
        simp only
        rw [sm_succ, Int.emod_add_emod]
      simp (disch := first | omega | (simp only [Qn] <;> omega)) only [go_sem, co, sv.ixa, cvi, x0', x1', RA.sl.ixa, RA3.at_ i hi', (RA.rsl i hi').ixa, RA3.ent i k hi' hk']
      refine (pick_ok (v.getD i 0) p (H.mk h3.tr (h3.next + 28)) (by omega) (by omega)).mono ?_
      rintro r h4 ⟨rfl, rfl⟩
      have hput : putO (some (.cells false (ints (mkV c (fun x => if x < k then S v.length x else if x = k then S i x else 0))))) (H.mk h3.tr (h3.next + 28)) h5.next k [.int .i64 (S (i + 1) k)] = some ((H.mk h3.tr (h3.next + 28)).set h5.next (some (.cells false (ints (mkV c (fun x => if x < k then S v.length x else if x = k then S (i + 1) x else 0)))))) := by
        rw [putO_ints (by rw [mkV_len]; exact hk'), mkV_set]
        congr 5
        refine mkV_congr fun x _ => ?_
        by_cases e : x = k
        · subst e; rw [if_pos rfl, if_neg (by omega), if_pos rfl]
        · rw [if_neg e, if_neg e, if_neg e]
      simp (disch := first | omega | (simp only [Qn] <;> omega)) only [go_sem, co, sv.ixa, cvi, x0', x1', RA.sl.ixa, RA3.at_ i hi', (RA.rsl i hi').ixa, RA3.ent i k hi' hk', ev, ew, em, g3, hput]
      rw [show (i : Int) + 1 = ((i + 1 : Nat) : Int) from by omega]
      exact ⟨v.length - (i + 1), by omega, i + 1, ex_junk rfl, by omega, rfl, by show h5.next < h3.next + 28; omega, (f3.bump (by omega)).set (Nat.le_refl _) _, rfl⟩
    · rw [decide_eq_false hlt2]
      obtain rfl : i = v.length := by omega
      simp (disch := first | omega | (simp only [Qn] <;> omega)) only [go_sem]
      rw [show (k : Int) + 1 = ((k + 1 : Nat) : Int) from by omega]
      refine ⟨c - (k + 1), by omega, k + 1, ex_junk rfl, by omega, ?_, n3, f3, rfl⟩
      rw [g3]
      congr 4
      funext x
      by_cases e : x < k
      · rw [if_pos e, if_pos (by omega)]
      · rw [if_neg e]
        by_cases e2 : x = k
        · rw [if_pos e2, if_pos (by omega)]
        · rw [if_neg e2, if_neg (by omega), S0]; split <;> rfl
  · rw [decide_eq_false hlt]
    obtain rfl : k = c := by omega
    simp (disch := first | omega | (simp only [Qn] <;> omega)) only [go_sem]
    have e : ApplyF v (p, A) = (mkV k (S v.length), 0) := by
      rw [ApplyF, if_neg (by simp [hz]), if_neg (by simp [hlen]), applyF, mkV_len, hS, ← hc]
      congr 1
      refine mkV_congr fun x _ => ?_
      simp only
      refine congrArg (· % p) (sm_congr fun j hj => ?_)
      rw [mkV_get _ hj]
    rw [e]
    have so := SI.own (h := h3) (id := h5.next) (by omega) g3 (.kn k)
    rw [mkV_len, mkV_congr (g := S v.length) fun x hx => if_pos hx] at so
    exact ⟨_, rfl, so, F5.trans f3, fun _ _ _ _ e => by cases e; have := F5.next; omega⟩
end Go.Proofs.Ytlhebmcnjgagjaa

/- Layer 5: for LinearSolves: apply, a part of rows, a row replaced. -/
namespace Go.Proofs.Ytlhebmcnjgagjaa
open Go Go.Ay
set_option maxRecDepth 100000
theorem all2_take {α β : Type} {R : α → β → Prop} : ∀ {as : List α} {bs : List β} (k : Nat), All2 R as bs → All2 R (as.take k) (bs.take k)
  | [], [], k, _ => by rw [List.take_nil, List.take_nil]; exact trivial
  | _ :: _, _ :: _, 0, _ => trivial
  | a :: as, b :: bs, k + 1, h => ⟨h.1, all2_take k h.2⟩
  | [], _ :: _, _, h => h.elim
  | _ :: _, [], _, h => h.elim
theorem all2_set {α β : Type} {R : α → β → Prop} : ∀ {as : List α} {bs : List β} (k : Nat) {a : α} {b : β}, All2 R as bs → R a b → All2 R (as.set k a) (bs.set k b)
  | [], [], _, _, _, _, _ => trivial
  | _ :: _, _ :: _, 0, _, _, h, q => ⟨q, h.2⟩
  | x :: as, y :: bs, k + 1, _, _, h, q => ⟨h.1, all2_set k h.2 q⟩
  | [], _ :: _, _, _, _, h, _ => h.elim
  | _ :: _, [], _, _, _, h, _ => h.elim
theorem Rws.pre {h : H} {id m lo : Nat} {ws : List V} {ll : List (List Int)} (r : Rws h (.sl id 0 m (.un 1)) ws ll lo) {k : Nat} (hk : k ≤ ll.length) : Rws h (.sl id 0 k (.un 1)) (ws.take k) (ll.take k) lo := by
  have hl := r.row.length
  refine ⟨?_, all2_take k r.row, fun w hw => ?_, fun w hw => r.frs w (List.mem_of_mem_take hw)⟩
  · rcases r.own with ⟨e, _⟩ | ⟨id', n, cap, rest, e, h1, _, h3, h4, h5⟩
    · cases e
    · cases e
      exact .inr ⟨id, k, .un 1, ws.drop k ++ rest, rfl, by rw [List.length_take]; omega, .inl rfl, h3, h4, by rw [h5, ← List.append_assoc, List.take_append_drop]⟩
  · have := r.dis w (List.mem_of_mem_take hw)
    intro i o n' c e i' o' n2 c' e'
    cases e
    exact this _ _ _ _ rfl _ _ _ _ e'
theorem Rws.setrow {h : H} {id m lo i : Nat} {ws : List V} {ll : List (List Int)} (r : Rws h (.sl id 0 m (.un 1)) ws ll lo) (hi : i < ll.length) {w : V} {l : List Int} (hw : SI h w l) (fw : Frs w lo) (dw : Dis (.sl id 0 m (.un 1)) w) : ∃ vs, h.get id = some (.cells false vs) ∧ i < vs.length ∧ lo ≤ id ∧ id < h.next ∧ Rws (h.set id (some (.cells false (vs.set i w)))) (.sl id 0 m (.un 1)) (ws.set i w) (ll.set i l) lo := by
  have hl := r.row.length
  rcases r.own with ⟨e, _⟩ | ⟨id', n, cap, rest, e, h1, _, h3, h4, h5⟩
  · cases e
  · cases e
    have keep : ∀ x l, SI h x l → Dis (.sl id 0 m (.un 1)) x → SI (h.set id (some (.cells false ((ws ++ rest).set i w)))) x l := fun x l s d => SI.keep s (Nat.le_refl _) fun id2 off n c e => H.get_set_ne _ (fun e2 => d _ _ _ _ rfl _ _ _ _ e e2.symm) _
    refine ⟨ws ++ rest, h5, by rw [List.length_append]; omega, h3, h4, .inr ⟨id, m, .un 1, rest, rfl, by rw [List.length_set]; exact h1, .inl rfl, h3, h4, ?_⟩, all2_set i (All2.keep r.row fun x hx b s => keep x b s (r.dis x hx)) (keep w l hw dw), fun x hx => ?_, fun x hx => ?_⟩
    · rw [H.get_set_same, List.set_append_left _ _ (by omega)]
    · rcases List.mem_or_eq_of_mem_set hx with q | q
      · exact r.dis x q
      · rw [q]; exact dw
    · rcases List.mem_or_eq_of_mem_set hx with q | q
      · exact r.frs x q
      · rw [q]; exact fw
theorem apply_ok (vv va : V) (v : List Int) (a : Mat) (h : H) (hv : SI h vv v) (lv : (v.length : Int) ≤ 2 ^ 63 - 1) (ha : MatV h va a) (la : (a.2.length : Int) ≤ 2 ^ 63 - 1) :
    Ev T n_law05_apply [vv, va] h (fun w h' => SI h' w (ApplyF v a).1 ∧ Fr h h' ∧ Frs w h.next) := by
  obtain ⟨ua, rfl, hua⟩ := ha
  refine Ev_of t_law05_apply rfl ?_
  have wa := SV.what hua.choose_spec.1
  simp (disch := first | omega | (simp only [Qn] <;> omega)) only [go_sem, c_law05_apply, initV_eq, boxV_agg2 h (v := .int .i64 a.1) rfl wa.2.1]
  have hfx : Fr h (h.new (.cells false [.int .i64 a.1, ua])) := (Fr.refl h).new _
  have hgx : (h.new (.cells false [.int .i64 a.1, ua])).get h.next = some (.cells false [.int .i64 a.1, ua]) := H.get_new_same ..
  have hnx : (h.new (.cells false [.int .i64 a.1, ua])).next = h.next + 1 := H.next_new ..
  generalize h.new (.cells false [.int .i64 a.1, ua]) = hx at *
  simp (disch := first | omega | (simp only [Qn] <;> omega)) only [go_sem, row_two hgx]
  refine (ref_Apply_fr vv _ v a hx (hv.mono hfx) lv ⟨ua, rfl, hua.mono hfx⟩ la).mono ?_
  rintro w h2 ⟨u, rfl, su, f2, fu⟩
  simp (disch := first | omega | (simp only [Qn] <;> omega)) only [go_sem]
  exact ⟨su, hfx.trans f2, fu.le (by omega)⟩
set_option maxHeartbeats 8000000 in
theorem Kernel_sp (va : V) (a : Mat) (h : H) (ha : MatV h va a) (la : (a.2.length : Int) ≤ 2 ^ 63 - 1) (hz : checkM a = 0) : Ev T n_linear_Kernel [va] h (fun w h' => ∃ u S f, w = .tup [u, .int .i64 0] ∧ Sk a.1 (a.2.getD 0 []).length a.2.length ((a.2.getD 0 []).length + a.2.length) (vw a.2) S f a.2.length ∧ SRf h' u (krF (a.2.getD 0 []).length a.2.length S f ((a.2.getD 0 []).length + a.2.length)) h.next ∧ Fr h h') := by
  obtain ⟨ua, rfl, hua⟩ := ha
  refine Ev_of t_linear_Kernel rfl ?_
  have wa := SV.what hua.choose_spec.1
  simp (disch := first | omega | (simp only [Qn] <;> omega)) only [go_sem, c_linear_Kernel, initV_eq, boxV_agg2 h (v := .int .i64 a.1) rfl wa.2.1]
  have hfx : Fr h (h.new (.cells false [.int .i64 a.1, ua])) := (Fr.refl h).new _
  have hgx : (h.new (.cells false [.int .i64 a.1, ua])).get h.next = some (.cells false [.int .i64 a.1, ua]) := H.get_new_same ..
  have hnx : (h.new (.cells false [.int .i64 a.1, ua])).next = h.next + 1 := H.next_new ..
  generalize h.new (.cells false [.int .i64 a.1, ua]) = hx at *
  simp (disch := first | omega | (simp only [Qn] <;> omega)) only [go_sem, row_two hgx]
  refine (check_ok _ a hx ⟨ua, rfl, hua.mono hfx⟩ la).mono ?_
  rintro v h5 ⟨rfl, f5⟩
  have F5 := hfx.trans f5
  have gx5 := (f5.get h.next (by omega)).trans hgx
  have x0 : h5.cell h.next 0 = some (.int .i64 a.1) := by rw [H.cell_of gx5]; rfl
  have x1 : h5.cell h.next 1 = some ua := by rw [H.cell_of gx5]; rfl
  simp (disch := first | omega | (simp only [Qn] <;> omega)) only [go_sem]
  refine iteW_dec (fun q => absurd hz q) (fun _ => ?_)
  have da := check_vd hz
  have hr1 := da.r1
  have hr2 := da.r2
  obtain ⟨ida, offa, wsa, sua, hida, hwla, hcA, halla⟩ := (hua.mono F5).open
  have c0 : h5.cell ida offa = some (wsa.getD 0 .undef) := hcA 0 (by omega)
  have l0 := (row_at halla (i := 0) (by omega)).lens
  simp (disch := first | omega | (simp only [Qn] <;> omega)) only [go_sem, x0, x1, sua.ixa, c0, l0]
  have fb : Fr h5 (H.mk h5.tr (h5.next + 12)) := (Fr.refl h5).bump (by omega)
  have nb : (H.mk h5.tr (h5.next + 12)).next = h5.next + 12 := rfl
  generalize H.mk h5.tr (h5.next + 12) = h5b at *
  have hF := da.p
  simp only [fieldF, Bool.and_eq_true, decide_eq_true_eq] at hF
  refine (kernel_ok a.1 (a.2.getD 0 []).length ua a.2 h5b (hua.mono (F5.trans fb)) (by omega) da.c1 da.c2 da.row hF.2 hF.1).mono ?_
  rintro w h6 ⟨k, S, f, hk, s, sr, f6⟩
  simp (disch := first | omega | (simp only [Qn] <;> omega)) only [go_sem]
  subst hk
  exact ⟨_, S, f, rfl, s, sr.le (F5.trans fb).next, (F5.trans fb).trans f6⟩
end Go.Proofs.Ytlhebmcnjgagjaa

/- The law LinearMeets, walked. -/
namespace Go.Proofs.Ytlhebmcnjgagjaa
open Go Go.Ay
set_option maxRecDepth 100000
theorem iteW_then {p : Nat → Option Ay.Fn} {rd : Option Nat} {a b c : C} {vars : List V} {h : H} {Q : E → List V → H → Prop} {v : V} (J : List V → H → Prop) (h1 : iteW p rd a b vars h (fun e vs h' => e = .norm ∧ J vs h' ∨ e ≠ .norm ∧ Q e vs h') v) (h2 : ∀ vs h', J vs h' → Wp p rd c vs h' Q) : iteW p rd a b vars h (thenP p rd c Q) v := by
  have key : ∀ e vs h', (e = .norm ∧ J vs h' ∨ e ≠ .norm ∧ Q e vs h') → thenP p rd c Q e vs h' := fun e vs h' q => by
    rcases q with ⟨rfl, q⟩ | ⟨hne, q⟩
    · exact h2 vs h' q
    · cases e
      · exact absurd rfl hne
      · exact q
      · exact q
  cases v with
  | bool t =>
    cases t
    · exact Wp.mono (show Wp p rd b vars h _ from h1) key
    · exact Wp.mono (show Wp p rd a vars h _ from h1) key
  | _ => exact (show False from h1).elim
end Go.Proofs.Ytlhebmcnjgagjaa

/- The law LinearSolves, walked. -/
namespace Go.Proofs.Ytlhebmcnjgagjaa
open Go Go.Ay
set_option maxRecDepth 100000
set_option maxHeartbeats 32000000 in
theorem solves_ok (vl : V) (l : List Int) (pp mm nn : Int) (h : H) (hc : SI h vl l) (hcl : (l.length : Int) ≤ 2 ^ 63 - 1) : Ev T n_law05_LinearSolves [vl, .int .i64 pp, .int .i64 mm, .int .i64 nn] h (fun v _ => v = .bool true) := by
  refine Ev_of t_law05_LinearSolves rfl ?_
  simp (disch := first | omega | (simp only [Qn] <;> omega)) only [go_sem, c_law05_LinearSolves, initV_eq]
  refine (lives_ok h).mono ?_
  rintro v h0 ⟨rfl, g⟩
  replace hc := hc.mono g
  clear g
  simp (disch := first | omega | (simp only [Qn] <;> omega)) only [go_sem, hc.lens]
  refine iteW_dec (fun hlong => ?_) (fun hl1 => ?_)
  · simp (disch := first | omega | (simp only [Qn] <;> omega)) only [go_sem]
  have hl : l.length < 1000000 := by omega
  simp (disch := first | omega | (simp only [Qn] <;> omega)) only [go_sem]
  refine (lawfield_ok pp _).mono ?_
  rintro v hb ⟨p, rfl, hf, fb⟩
  replace hc := hc.mono fb
  clear fb
  have hF := hf
  simp only [fieldF, Bool.and_eq_true, decide_eq_true_eq] at hF
  obtain ⟨hp2, hpr⟩ := hF
  have hp := isP_gt hpr
  simp (disch := first | omega | (simp only [Qn] <;> omega)) only [go_sem]
  refine (pick_ok mm 5 hb (by omega) (by omega)).mono ?_
  rintro v h1 ⟨rfl, rfl⟩
  simp (disch := first | omega | (simp only [Qn] <;> omega)) only [go_sem]
  refine (pick_ok nn 5 h1 (by omega) (by omega)).mono ?_
  rintro v h1 ⟨rfl, rfl⟩
  obtain ⟨n, hn⟩ : ∃ n : Nat, 1 + nn % 5 = (n : Int) := ⟨(1 + nn % 5).toNat, by omega⟩
  obtain ⟨m, hmq⟩ : ∃ m : Nat, 1 + mm % 5 = (m : Int) := ⟨(1 + mm % 5).toNat, by omega⟩
  have hn6 : 1 ≤ n ∧ n ≤ 5 := by omega
  have hm6 : 1 ≤ m ∧ m ≤ 5 := by omega
  have vc := SV.what hc
  have hbl : bldV [.nils, .int .i64 0] [(0, 1, vl)] = some (.agg [vl, .int .i64 0]) := bldV_fst (z1 := .nils) (z2 := .int .i64 0) (v := vl) vc.1 vc.2.1
  have hbo := fun hh => boxV_agg2 hh (v := vl) (u := .int .i64 0) vc.2.1 rfl
  simp (disch := first | omega | (simp only [Qn] <;> omega)) only [go_sem, hn, hmq, hbl, hbo]
  have hfx : Fr h1 (h1.new (.cells false [vl, .int .i64 0])) := (Fr.refl h1).new _
  have hgx : (h1.new (.cells false [vl, .int .i64 0])).get h1.next = some (.cells false [vl, .int .i64 0]) := H.get_new_same ..
  have hnx : (h1.new (.cells false [vl, .int .i64 0])).next = h1.next + 1 := H.next_new ..
  generalize h1.new (.cells false [vl, .int .i64 0]) = hx at *
  have idl : ∀ id off len c, vl = .sl id off len c → id < h1.next := fun id off len c e => SI.lt hc e
  obtain ⟨tid, htid⟩ : ∃ t, h1.next = t := ⟨_, rfl⟩
  rw [htid] at hgx idl
  have ht : Tk hx tid l := ⟨vl, 0, hgx, hc.mono hfx, idl, Nat.zero_le _, by omega⟩
  rw [htid]
  refine (drawn_un tid l m n p hx ht hl (by omega) (by omega) (by omega)).mono ?_
  rintro va k0 ⟨A, wsA, hA, RA, ht0, FX0, hun⟩
  have n0 := FX0.next
  obtain ⟨ida, rfl⟩ := hun (by omega)
  have lida0 : ida < k0.next := by
    rcases RA.own with ⟨e, _⟩ | ⟨id', n', cap, rest, e, _, _, h3, h4, _⟩
    · cases e
    · cases e; exact h4
  obtain ⟨lo, hlo⟩ : ∃ t, hx.next = t := ⟨_, rfl⟩
  rw [hlo] at RA
  have htl : tid < lo := by omega
  obtain ⟨aL, haL⟩ : ∃ a, mkR m n A = a := ⟨_, rfl⟩
  have al : aL.length = m := by rw [← haL, mkR_len]
  have ar : ∀ i, i < aL.length → (aL.getD i []).length = n := fun i hi => by rw [← haL, mkR_row _ (by omega), mkV_len]
  have ae : ∀ i j, i < aL.length → j < n → 0 ≤ vw aL i j ∧ vw aL i j < p := fun i j hi hj => by rw [← haL, vw_mkR (by omega) hj]; exact hA i j (by omega) hj
  rw [haL] at RA
  clear hA haL FX0 ht
  have hbl2 := bldV_two (z1 := .int .i64 0) (z2 := .nils) (v := .int .i64 p) (u := .sl ida 0 m (.un 1)) rfl rfl rfl rfl
  have hst2 := fun hh id => stV_agg2 hh id 0 (v := .int .i64 p) (u := .sl ida 0 m (.un 1)) rfl rfl
  simp (disch := first | omega | (simp only [Qn] <;> omega)) only [go_sem, hbl2, hst2, bxH_eq]
  have fB := bxH_fr k0 p (.sl ida 0 m (.un 1))
  have gB := bxH_get k0 p (.sl ida 0 m (.un 1))
  have nB := bxH_next k0 p (.sl ida 0 m (.un 1))
  generalize bxH k0 p (.sl ida 0 m (.un 1)) = k1 at *
  obtain ⟨X, hX⟩ : ∃ X, k0.next = X := ⟨_, rfl⟩
  rw [hX] at gB nB ⊢
  replace RA := RA.fr fB
  have ht1 := ht0.mono fB
  refine (take_ok tid l 2 k1 ht1 hl (by omega) (by omega)).mono ?_
  rintro w k2 ⟨z, rfl, z1, z2, ht2, FX2⟩
  have n2 := FX2.next
  replace RA := Rws.fx RA htl FX2
  have gX := (FX2.get X (by omega) (by omega)).trans gB
  clear ht1 ht0
  simp (disch := first | omega | (simp only [Qn] <;> omega)) only [go_sem]
  refine iteW_then (fun vs h' => ∃ (wsA' : List V) (aL' : List (List Int)), (∃ g : Nat → V, vs = [vl, .int .i64 p, .int .i64 (m : Int), .int .i64 (n : Int), g 4, .ptr tid 0, .ptr X 0, g 7, g 8, g 9, g 10, g 11, g 12, g 13, g 14, g 15, g 16, g 17, g 18, g 19, g 20, g 21, g 22, g 23, g 24, g 25, g 26, g 27, g 28, g 29, g 30]) ∧ Rws h' (.sl ida 0 m (.un 1)) wsA' aL' lo ∧ aL'.length = m ∧ (∀ i, i < m → (aL'.getD i []).length = n) ∧ (∀ i j, i < m → j < n → 0 ≤ vw aL' i j ∧ vw aL' i j < p) ∧ h'.get X = some (.cells false [.int .i64 p, .sl ida 0 m (.un 1)]) ∧ X < h'.next ∧ Tk h' tid l) ?_ ?_
  · refine iteW_dec (fun _ => ?_) (fun _ => ?_)
    · have x1 : k2.cell X 1 = some (.sl ida 0 m (.un 1)) := by rw [H.cell_of gX]; rfl
      have es := fun kk : IntKind => slc_un (id := ida) (off := 0) (len := m) (hi := (m : Int) - 1) (k := kk) (by omega) (by omega)
      have fb : Fr k2 (H.mk k2.tr (k2.next + 15)) := (Fr.refl k2).bump (by omega)
      have nb : (H.mk k2.tr (k2.next + 15)).next = k2.next + 15 := rfl
      simp (disch := first | omega | (simp only [Qn] <;> omega)) only [go_sem, x1, es]
      generalize H.mk k2.tr (k2.next + 15) = k3 at *
      rw [show ((m : Int) - 1).toNat = m - 1 by omega]
      have RP := (RA.fr fb).pre (k := m - 1) (by omega)
      have lP : (aL.take (m - 1)).length = m - 1 := by rw [List.length_take]; omega
      have gP : ∀ i, i < m - 1 → (aL.take (m - 1)).getD i [] = aL.getD i [] := fun i hi => by rw [List.getD_eq_getElem?_getD, List.getElem?_take_of_lt hi, ← List.getD_eq_getElem?_getD]
      refine (mix_ok tid l n p _ _ _ lo k3 (ht2.mono fb) hl (by omega) (by omega) RP htl (by omega) (fun i hi => by rw [gP i (by omega)]; exact ar i (by omega)) (fun i j hi hj => by unfold vw; rw [gP i (by omega)]; exact ae i j (by omega) hj)).mono ?_
      rintro w k4 ⟨r, N, hin, hr, rfl, hN1, hN2, bN, ht4, FX4⟩
      have RA4 := Rws.fx (RA.fr fb) htl FX4
      have n4 := FX4.next
      have gX4 := (FX4.get X (by omega) (by omega)).trans ((fb.get X (by omega)).trans gX)
      have x14 : k4.cell X 1 = some (.sl ida 0 m (.un 1)) := by rw [H.cell_of gX4]; rfl
      have hn0 := RA.own
      have lida : lo ≤ ida ∧ ida < k2.next := by
        rcases RA.own with ⟨e, _⟩ | ⟨id', n', cap, rest, e, _, _, h3, h4, _⟩
        · cases e
        · cases e; exact ⟨h3, h4⟩
      obtain ⟨vs, v1, v2, v3, v4, RS⟩ := RA4.setrow (i := m - 1) (by omega) (bN.si hN2 (.kn n)) (fun i1 o1 n1' c1 e1 => by cases e1; omega) (fun i1 o1 n1' c1 e1 i2 o2 n2' c2 e2 => by cases e1; cases e2; omega)
      have eU : eqV (.sl ida 0 m (.un 1)) (.sl ida 0 m (.un 1)) = true := SV.eqV RA4.own.sv
      have hstN := fun h3 => stV_one (y := V.sl N 0 n (.kn n)) rfl rfl h3 ida (m - 1)
      have pt := fun h3 : H => putO_one (vs := vs) (off := m - 1) v2 h3 ida (.sl N 0 n (.kn n))
      have ix : ∀ kk : IntKind, ixaV 1 (.sl ida 0 m (.un 1)) (.int kk ((m : Int) - 1)) = some (.ptr ida (m - 1)) := fun kk => by
        rw [ixaV_sl (by omega) (by omega)]
        congr 2
        omega
      simp (disch := first | omega | (simp only [Qn] <;> omega)) only [go_sem, x14, eU, ix, hstN, v1, pt]
      have gs : ∀ i, i < m → (aL.set (m - 1) (mkV n r)).getD i [] = if i = m - 1 then mkV n r else aL.getD i [] := fun i hi => by
        rw [List.getD_eq_getElem?_getD, List.getElem?_set]
        by_cases e : m - 1 = i
        · rw [if_pos e, if_pos (by omega), if_pos e.symm]; rfl
        · rw [if_neg e, if_neg (Ne.symm e), ← List.getD_eq_getElem?_getD]
      refine .inl ⟨_, _, ex_junk rfl, RS, by rw [List.length_set]; exact al, fun i hi => ?_, fun i j hi hj => ?_, gX4, by omega, ht4.low (Nat.le_refl _) fun id hid => H.get_set_ne _ (by omega) _⟩
      · rw [gs i hi]
        by_cases e : i = m - 1
        · rw [if_pos e, mkV_len]
        · rw [if_neg e]; exact ar i (by omega)
      · unfold vw
        rw [gs i hi]
        by_cases e : i = m - 1
        · rw [if_pos e, mkV_get _ hj]; exact hr j hj
        · rw [if_neg e]; exact ae i j (by omega) hj
    · simp (disch := first | omega | (simp only [Qn] <;> omega)) only [go_sem]
      exact .inl ⟨wsA, aL, ex_junk rfl, RA, al, fun i hi => ar i (by omega), fun i j hi hj => ae i j (by omega) hj, gX, by omega, ht2⟩
  clear RA ar ae al gX ht2 n2 FX2 hun gB nB fB z1 z2 aL wsA lida0
  rintro vs hJ ⟨wsA, aL, ⟨g, rfl⟩, RA, al, ar, ae, gX, lX, ht⟩
  replace ar : ∀ i, i < aL.length → (aL.getD i []).length = n := fun i hi => ar i (by omega)
  have d00 : decide ((0 : Int) ≠ 0) = false := rfl
  have a0 : (aL.getD 0 []).length = n := ar 0 (by omega)
  have va : Vd (p, aL) n := ⟨hf, by show 1 ≤ aL.length; omega, by show aL.length ≤ 64; omega, by omega, by omega, ar, fun i k hi hk => (ae i k (by have : i < aL.length := hi; omega) hk).1, fun i k hi hk => (ae i k (by have : i < aL.length := hi; omega) hk).2⟩
  have cka : checkM (p, aL) = 0 := vd_check va
  have ckl : ∀ L : List (List Int), L.length ≤ 200 → (∀ i, i < L.length → (L.getD i []).length = n) → ckF p n [L] = 0 := fun L h1 h2 => ck_of hf hn6.1 (by omega) _ fun q hq => by
    rw [List.mem_singleton.1 hq]; exact ⟨h1, h2⟩
  simp (disch := first | omega | (simp only [Qn] <;> omega)) only [go_sem, row_two gX]
  refine (Kernel_sp _ (p, aL) hJ ⟨_, rfl, RA.sr⟩ (by show (aL.length : Int) ≤ _; omega) cka).mono ?_
  rintro w h1 ⟨uk, Sz, fk, rfl, sk, sK, f1⟩
  simp only [a0, al] at sk sK
  have gX1 := (f1.get X lX).trans gX
  have x11 : h1.cell X 1 = some (.sl ida 0 m (.un 1)) := by rw [H.cell_of gX1]; rfl
  simp (disch := first | omega | (simp only [Qn] <;> omega)) only [go_sem, x11]
  refine (Rank_sp p n _ aL h1 (RA.sr.mono f1) (by omega) (ckl _ (by omega) ar)).mono ?_
  rintro w h2 ⟨S, f, kr, rfl, s, hk, f2⟩
  obtain ⟨K, hKe⟩ : ∃ K, krF n m Sz fk (n + m) = K := ⟨_, rfl⟩
  have hKr := hKe
  rw [krF_rwF rfl] at hKr
  have pvK := Re.pv (Re.ker rfl sk.re)
  rw [hKr] at pvK
  rw [hKe] at sK
  have lK : K.length + kr = m := by
    have c := sk.cn
    rw [cnt_app] at c
    have e1 : K.length = cnt m (kS n Sz) := by rw [← hKr, rwF_len]
    have e2 := (Sp.uniq hp s (by rw [al]; exact Sk.left rfl sk) (fun i hi => InS.row hi) fun i hi => InS.row hi).2.2
    omega
  have lvk := (sK.sr.mono f2).lens
  have dkk : decide (((K.length : Int) + (kr : Int)) ≠ (m : Int)) = false := decide_eq_false fun q => q (by omega)
  simp (disch := first | omega | (simp only [Qn] <;> omega)) only [go_sem, d00, lvk, dkk]
  refine (echelon_ok p m uk K _ _ h2 (sK.sr.mono f2) (by omega) (by omega) pvK).mono ?_
  rintro w h2' ⟨rfl, rfl⟩
  simp (disch := first | omega | (simp only [Qn] <;> omega)) only [go_sem]
  have ap : ∀ v : List Int, v.length = m → (ApplyF v (p, aL)).1 = mkV n (fun k => sm m (fun i => v.getD i 0 * vw aL i k) % p) := fun v hv => by
    rw [ApplyF, if_neg (by simp [cka]), if_neg (by show ¬ v.length ≠ aL.length; omega)]
    show applyF _ (p, aL) (aL.getD 0 []).length = _
    rw [applyF, a0, mkV_len, hv]
    exact mkV_congr fun k hk => sm_mod fun i hi => mul_mod (by rw [mkV_get _ hi, mm2]) rfl
  have rowK : ∀ q, q < K.length → (K.getD q []).length = m := fun q hq => by rw [pvK.row q hq, mkV_len]
  have kz : ∀ q, q < K.length → (ApplyF (K.getD q []) (p, aL)).1 = mkV n (fun _ => 0) := fun q hq => by
    rw [ap _ (rowK q hq)]
    have e := piv_at (n := m) (S := kS n Sz) (f := kf n fk) (i := q) (by rw [hKr]; exact hq)
    rw [hKr] at e
    refine mkV_congr fun k hk => ?_
    refine Eq.trans ?_ (Sk.zero rfl sk e.1 e.2.1 hk)
    congr 1
    exact sm_congr fun i hi => by rw [e.2.2, mkV_get _ hi]
  have gX2 := (f2.get X (by have := f1.next; omega)).trans gX1
  have F2 := f1.trans f2
  have n2 := F2.next
  obtain ⟨idk, offk, wsk, slk, hidk, hwlk, hck, hallk⟩ := (sK.sr.mono f2).open
  have lvk2 := lvk
  refine Wp_loop (fun k' vars hh => ∃ (q : Nat), (∃ g : Nat → V, vars = [vl, .int .i64 p, .int .i64 (m : Int), .int .i64 (n : Int), g 4, .ptr tid 0, .ptr X 0, uk, g 8, g 9, g 10, .int .i64 (q : Int), g 12, g 13, g 14, g 15, g 16, g 17, g 18, g 19, g 20, g 21, g 22, g 23, g 24, g 25, g 26, g 27, g 28, g 29, g 30]) ∧ q ≤ K.length ∧ Fr h2' hh ∧ k' = K.length - q) K.length
    ⟨0, ex_junk rfl, Nat.zero_le _, Fr.refl _, rfl⟩ ?_
  rintro k' vars hh ⟨q, ⟨jk, rfl⟩, hq, Fh, rfl⟩
  simp (disch := first | omega | (simp only [Qn] <;> omega)) only [go_sem, lvk]
  by_cases hlt : (q : Int) < (K.length : Int)
  · rw [decide_eq_true hlt]
    have hq' : q < K.length := by omega
    have cq : hh.cell idk (offk + q) = some (wsk.getD q .undef) := by rw [Fh.cell (hidk (by omega))]; exact hck q hq'
    have rq := (row_at hallk (i := q) (by omega)).mono Fh
    have gXh := (Fh.get X (by omega)).trans gX2
    have emk := fun hq => mks_ints hq n (by omega)
    simp (disch := first | omega | (simp only [Qn] <;> omega)) only [go_sem, slk.ixa, cq, row_two gXh]
    have fb : Fr hh (H.mk hh.tr (hh.next + 10)) := (Fr.refl hh).bump (by omega)
    have nb : (H.mk hh.tr (hh.next + 10)).next = hh.next + 10 := rfl
    have gXb : (H.mk hh.tr (hh.next + 10)).get X = some (.cells false [.int .i64 p, .sl ida 0 m (.un 1)]) := gXh
    try simp (disch := first | omega | (simp only [Qn] <;> omega)) only [go_sem, row_two gXb]
    generalize H.mk hh.tr (hh.next + 10) = h3 at *
    refine (apply_ok _ _ (K.getD q []) (p, aL) h3 (rq.mono fb) (by rw [rowK q hq']; omega) ⟨_, rfl, RA.sr.mono ((F2.trans Fh).trans fb)⟩ (by show (aL.length : Int) ≤ _; omega)).mono ?_
    rintro w h4 ⟨s4, f4, r4⟩
    rw [kz q hq'] at s4
    have n4 := f4.next
    have FX4 : Fx (hh.next + 7) h4 (litV h4 (hh.next + 7) (ints (mkV n fun _ => 0)) h4.next) := ⟨by rw [litV_next]; exact Nat.le_refl _, fun id h1 h2 => litV_ne _ _ _ h2⟩
    have s5 := SI.fx s4 r4 (by omega) FX4
    have sz : SI (litV h4 (hh.next + 7) (ints (mkV n fun _ => 0)) h4.next) (.sl (hh.next + 7) 0 n (.kn n)) (mkV n fun _ => 0) := si_at (mkV_len ..) (litV_get ..) (by rw [litV_next]; omega)
    have F5 : Fr hh (litV h4 (hh.next + 7) (ints (mkV n fun _ => 0)) h4.next) := Fx.fr (fb.trans f4) (by omega) FX4
    have eA : eqV (.agg [.int .i64 p, .sl ida 0 m (.un 1)]) (.agg [.int .i64 p, .sl ida 0 m (.un 1)]) = true := by
      have := SV.eqV RA.own.sv
      simp [eqV, eqVs, this]
    simp (disch := first | omega | (simp only [Qn] <;> omega)) only [go_sem, emk, litV_eq]
    generalize litV h4 (hh.next + 7) (ints (mkV n fun _ => 0)) h4.next = h5 at *
    refine (same_ok _ _ _ _ h5 s5 sz (by rw [mkV_len]; omega) (by rw [mkV_len]; omega)).mono ?_
    rintro w2 h6 ⟨rfl, f6⟩
    simp (disch := first | omega | (simp only [Qn] <;> omega)) only [go_sem, decide_true]
    rw [show (q : Int) + 1 = ((q + 1 : Nat) : Int) from by omega]
    exact ⟨K.length - (q + 1), by omega, q + 1, ex_junk rfl, by omega, (Fh.trans F5).trans f6, rfl⟩
  rw [decide_eq_false hlt]
  simp (disch := first | omega | (simp only [Qn] <;> omega)) only [go_sem]
  clear slk hck hallk hidk hwlk
  have RAh := (RA.fr F2).fr Fh
  have hth := (ht.mono F2).mono Fh
  have gXh := (Fh.get X (by omega)).trans gX2
  have nh := Fh.next
  have fb : Fr hh (H.mk hh.tr (hh.next + 9)) := (Fr.refl hh).bump (by omega)
  have nb : (H.mk hh.tr (hh.next + 9)).next = hh.next + 9 := rfl
  have gXb : (H.mk hh.tr (hh.next + 9)).get X = some (.cells false [.int .i64 p, .sl ida 0 m (.un 1)]) := gXh
  simp (disch := first | omega | (simp only [Qn] <;> omega)) only [go_sem, row_two gXh, row_two gXb]
  generalize H.mk hh.tr (hh.next + 9) = h3 at *
  refine (drawn_ok tid l 1 m p h3 (hth.mono fb) hl (by omega) (by omega) (by omega)).mono ?_
  rintro vv k9 ⟨A1, wsV, hA1, RV, ht9, FX9⟩
  have RA9 := Rws.fx (RAh.fr fb) htl FX9
  have n9 := FX9.next
  have gX9 := (FX9.get X (by omega) (by omega)).trans ((fb.get X (by omega)).trans gXh)
  obtain ⟨idv, offv, slv, hidv, hwlv, hcv⟩ := RV.open
  rw [mkR_len] at slv hidv hcv hwlv
  have c0 := hcv 0 (by omega)
  have r0 := row_at RV.row (i := 0) (by rw [mkR_len]; omega)
  rw [mkR_row _ (by omega)] at r0
  rw [Nat.add_zero] at c0
  have eA : eqV (.agg [.int .i64 p, .sl ida 0 m (.un 1)]) (.agg [.int .i64 p, .sl ida 0 m (.un 1)]) = true := by
    have := SV.eqV RA.own.sv
    simp [eqV, eqVs, this]
  simp (disch := first | omega | (simp only [Qn] <;> omega)) only [go_sem, row_two gX9, eA, slv.ixa, c0]
  refine (apply_ok _ _ (mkV m (A1 0)) (p, aL) k9 r0 (by rw [mkV_len]; omega) ⟨_, rfl, RA9.sr⟩ (by show (aL.length : Int) ≤ _; omega)).mono ?_
  rintro vB h4 ⟨sB, f4, _⟩
  rw [ap _ (mkV_len ..)] at sB
  obtain ⟨bf, hbf⟩ : ∃ bf : Nat → Int, bf = fun k => sm m (fun i => (mkV m (A1 0)).getD i 0 * vw aL i k) % p := ⟨_, rfl⟩
  rw [← hbf] at sB
  have RA4 := RA9.fr f4
  have ht4 := ht9.mono f4
  have gX4 := (f4.get X (by omega)).trans gX9
  have n4 := f4.next
  simp (disch := first | omega | (simp only [Qn] <;> omega)) only [go_sem, row_two gX4]
  refine (Solve_sp _ vB (p, aL) (mkV n bf) h4 ⟨_, rfl, RA4.sr⟩ (by show (aL.length : Int) ≤ _; omega) sB cka (by rw [mkV_len]; exact a0.symm)).mono ?_
  rintro w h5 ⟨f5, hcase⟩
  have inB : InS p (mkV n bf).length aL.length (vw aL) (fun j => (mkV n bf).getD j 0) := by
    rw [mkV_len, al]
    exact ⟨fun i => (mkV m (A1 0)).getD i 0, fun j hj => by show (mkV n bf).getD j 0 % p = _; rw [mkV_get _ hj, hbf]; exact mm2 p _⟩
  rcases hcase with ⟨q, _⟩ | ⟨_, u, r, rfl, su, ru, req, rz⟩
  · exact absurd inB q
  simp only [mkV_len, al] at su ru req rz
  have RA5 := RA4.fr f5
  have ht5 := ht4.mono f5
  have gX5 := (f5.get X (by omega)).trans gX4
  have n5 := f5.next
  have lu := su.lens
  rw [mkV_len] at lu
  have dmm : decide ((m : Int) ≠ (m : Int)) = false := decide_eq_false fun q => q rfl
  simp (disch := first | omega | (simp only [Qn] <;> omega)) only [go_sem, d00, lu, dmm, row_two gX5]
  refine (apply_ok _ _ (mkV m r) (p, aL) h5 su (by rw [mkV_len]; omega) ⟨_, rfl, RA5.sr⟩ (by show (aL.length : Int) ≤ _; omega)).mono ?_
  rintro vC h6 ⟨sC, f6, _⟩
  rw [ap _ (mkV_len ..), mkV_congr (g := bf) fun k hk => by
    have e := req k hk
    rw [mkV_get _ hk] at e
    rw [sm_congr (g := fun i => r i * vw aL i k) fun i hi => by rw [mkV_get _ hi], e, hbf]
    exact mm2 p _] at sC
  simp (disch := first | omega | (simp only [Qn] <;> omega)) only [go_sem]
  refine (same_ok _ _ _ _ h6 sC (sB.mono (f5.trans f6)) (by rw [mkV_len]; omega) (by rw [mkV_len]; omega)).mono ?_
  rintro w2 h7 ⟨rfl, f7⟩
  simp (disch := first | omega | (simp only [Qn] <;> omega)) only [go_sem, decide_true]
  have F57 := f6.trans f7
  have RA7 := RA5.fr F57
  have ht7 := ht5.mono F57
  have gX7 := (F57.get X (by omega)).trans gX5
  have n7 := F57.next
  have su7 := su.mono F57
  have ckl2 : ∀ L L2 : List (List Int), L.length ≤ 200 → (∀ i, i < L.length → (L.getD i []).length = n) → L2.length ≤ 200 → (∀ i, i < L2.length → (L2.getD i []).length = n) → ckF p n [L, L2] = 0 := fun L L2 h1 h2 h3 h4 => ck_of hf hn6.1 (by omega) _ fun q hq => by
    rcases List.mem_cons.1 hq with rfl | hq
    · exact ⟨h1, h2⟩
    · rw [List.mem_singleton.1 hq]; exact ⟨h3, h4⟩
  have inF : ∀ (L : List (List Int)) (q : List Int), L.length ≤ 200 → (∀ i, i < L.length → (L.getD i []).length = n) → q.length = n → InF p n L q = (open Classical in decide (InS p n L.length (vw L) (fun j => q.getD j 0)), 0) := fun L q h1 h2 h3 => by
    rw [InF, if_neg (by rw [ckl2 L [q] h1 h2 (by simp) (fun i hi => by obtain rfl : i = 0 := (by simpa using hi); exact h3)]; simp), Int.toNat_natCast]
  refine Wp_loop (fun k' vars hh => ∃ (q : Nat), (∃ g : Nat → V, vars = [vl, .int .i64 p, .int .i64 (m : Int), .int .i64 (n : Int), g 4, .ptr tid 0, .ptr X 0, g 7, g 8, g 9, g 10, g 11, g 12, u, g 14, .int .i64 (q : Int), g 16, g 17, g 18, g 19, g 20, g 21, g 22, g 23, g 24, g 25, g 26, g 27, g 28, g 29, g 30]) ∧ q ≤ m ∧ Fr h7 hh ∧ k' = m - q) m
    ⟨0, ex_junk rfl, Nat.zero_le _, Fr.refl _, rfl⟩ ?_
  rintro k' vars hi ⟨q, ⟨jk2, rfl⟩, hq2, Fi, rfl⟩
  simp (disch := first | omega | (simp only [Qn] <;> omega)) only [go_sem]
  by_cases hlt2 : (q : Int) < (m : Int)
  · rw [decide_eq_true hlt2]
    have hq' : q < m := by omega
    have RAi := RA7.fr Fi
    have gXi := (Fi.get X (by omega)).trans gX7
    have x1i : hi.cell X 1 = some (.sl ida 0 m (.un 1)) := by rw [H.cell_of gXi]; rfl
    have es := fun kk : IntKind => slc_un (id := ida) (off := 0) (len := m) (hi := (q : Int)) (k := kk) (by omega) (by omega)
    simp only [Int.toNat_natCast] at es
    obtain ⟨idr, offr, slr, hidr, hwlr, hcr⟩ := RAi.open
    rw [al] at slr hcr
    have cr := hcr q hq'
    have rr := row_at RAi.row (i := q) (by omega)
    have RP := RAi.pre (k := q) (by omega)
    have lP : (aL.take q).length = q := by rw [List.length_take]; omega
    have gP : ∀ i, i < q → (aL.take q).getD i [] = aL.getD i [] := fun i hi => by rw [List.getD_eq_getElem?_getD, List.getElem?_take_of_lt hi, ← List.getD_eq_getElem?_getD]
    have rP : ∀ i, i < (aL.take q).length → ((aL.take q).getD i []).length = n := fun i hi => by rw [gP i (by omega)]; exact ar i (by omega)
    have fb2 : Fr hi (H.mk hi.tr (hi.next + 17)) := (Fr.refl hi).bump (by omega)
    simp (disch := first | omega | (simp only [Qn] <;> omega)) only [go_sem, x1i, es, slr.ixa, cr]
    generalize H.mk hi.tr (hi.next + 17) = hj at *
    refine (In_ok p n _ _ (aL.take q) _ hj (RP.sr.mono fb2) (by omega) (rr.mono fb2)).mono ?_
    rintro w hk ⟨rfl, fk2⟩
    rw [inF _ _ (by omega) rP (ar q (by omega))]
    obtain ⟨idu, offu, slu, hidu, hcu⟩ := (su7.mono ((Fi.trans fb2).trans fk2)).open
    rw [mkV_len] at slu hcu
    have cu := hcu q hq'
    rw [mkV_get _ hq'] at cu
    by_cases hin : InS p n (aL.take q).length (vw (aL.take q)) (fun j => (aL.getD q []).getD j 0)
    · have hin2 : InS p n q (vw aL) (vw aL q) := by
        rw [lP] at hin
        exact InS.rows hin fun i j hi hj => by unfold vw; rw [gP i hi]
      rw [rz q hq' hin2] at cu
      simp (disch := first | omega | (simp only [Qn] <;> omega)) only [go_sem, d00, hin, decide_true, slu.ixa, cu]
      rw [show (q : Int) + 1 = ((q + 1 : Nat) : Int) from by omega]
      exact ⟨m - (q + 1), by omega, q + 1, ex_junk rfl, by omega, (Fi.trans fb2).trans fk2, rfl⟩
    · simp (disch := first | omega | (simp only [Qn] <;> omega)) only [go_sem, d00, hin, decide_false]
      rw [show (q : Int) + 1 = ((q + 1 : Nat) : Int) from by omega]
      exact ⟨m - (q + 1), by omega, q + 1, ex_junk rfl, by omega, (Fi.trans fb2).trans fk2, rfl⟩
  rw [decide_eq_false hlt2]
  simp (disch := first | omega | (simp only [Qn] <;> omega)) only [go_sem]
  have ni := Fi.next
  refine (drawn_ok tid l 1 n p hi (ht7.mono Fi) hl (by omega) (by omega) (by omega)).mono ?_
  rintro vv2 k20 ⟨A2, wsV2, hA2, RV2, ht20, FX20⟩
  have RA20 := Rws.fx (RA7.fr Fi) htl FX20
  have gX20 := (FX20.get X (by omega) (by omega)).trans ((Fi.get X (by omega)).trans gX7)
  have n20 := FX20.next
  obtain ⟨idv2, offv2, slv2, hidv2, hwlv2, hcv2⟩ := RV2.open
  rw [mkR_len] at slv2 hidv2 hcv2 hwlv2
  have c02 := hcv2 0 (by omega)
  have r02 := row_at RV2.row (i := 0) (by rw [mkR_len]; omega)
  rw [mkR_row _ (by omega)] at r02
  rw [Nat.add_zero] at c02
  have x120 : k20.cell X 1 = some (.sl ida 0 m (.un 1)) := by rw [H.cell_of gX20]; rfl
  simp (disch := first | omega | (simp only [Qn] <;> omega)) only [go_sem, slv2.ixa, c02, x120]
  refine (In_ok p n _ _ aL _ k20 RA20.sr (by omega) r02).mono ?_
  rintro w k21 ⟨rfl, f21⟩
  rw [inF _ _ (by omega) ar (mkV_len ..)]
  have gX21 := (f21.get X (by omega)).trans gX20
  simp (disch := first | omega | (simp only [Qn] <;> omega)) only [go_sem, row_two gX21]
  refine (Solve_sp _ _ (p, aL) (mkV n (A2 0)) k21 ⟨_, rfl, (RA20.fr f21).sr⟩ (by show (aL.length : Int) ≤ _; omega) (r02.mono f21) cka (by rw [mkV_len]; exact a0.symm)).mono ?_
  rintro w k22 ⟨f22, hcase⟩
  simp only [mkV_len] at hcase
  rcases hcase with ⟨q, rfl⟩ | ⟨q, u2, r2, rfl, _, _, _, _⟩
  · have e18 : ¬ (18 : Int) = 0 := by omega
    simp (disch := first | omega | (simp only [Qn] <;> omega)) only [go_sem, q, decide_false, decide_true, e18]
  · have e18 : ¬ (0 : Int) = 18 := by omega
    simp (disch := first | omega | (simp only [Qn] <;> omega)) only [go_sem, q, decide_false, decide_true, e18]
end Go.Proofs.Ytlhebmcnjgagjaa

