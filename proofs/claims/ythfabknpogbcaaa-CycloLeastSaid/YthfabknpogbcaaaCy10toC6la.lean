/- Add and Mul of numbers that are written with the same n. Scale, Quot, Make, Int, Root of numbers that are written with n; zero. Automorphisms. Automorphisms of canonical numbers. A number that is not in a smaller field is moved; a trace is an integer; the powers of a root. What the laws CycloRing and CycloGalois ask. Contracts: the laws' own helpers. Literals and boxes for straight walks. Contracts: the chapter's examples. Contracts: the helpers of the laws. -/
import Derived.Test.YthfabknpogbcaaaC6ytoCy9
import Derived.Test.YthfabknpogbcaaaC6otoC6w
/- Add and Mul of numbers that are written with the same n. -/
namespace Go.Proofs.Ythfabknpogbcaaa
open Go Go.Ay
set_option maxRecDepth 100000
noncomputable section

/-- The least common multiple that 'common' finds. -/
theorem common_num {N M n : Nat} (hN : 1 ≤ N) (hM : 1 ≤ M) (hn : 1 ≤ n) (h2 : n ≤ 120) (dN : N ∣ n) (dM : M ∣ n) {A B : List Int} (cA : checkF ((N : Int), A) = 0) (cB : checkF ((M : Int), B) = 0) :
    ∃ L r s t, 1 ≤ L ∧ 1 ≤ r ∧ 1 ≤ s ∧ 1 ≤ t ∧ L = N * r ∧ L = M * s ∧ n = L * t ∧ commonF ((N : Int), A) ((M : Int), B) = ((L : Int), 0) := by
  obtain ⟨g, hg⟩ : ∃ g, Nat.gcd N M = g := ⟨_, rfl⟩
  have hgN : g ∣ N := by rw [← hg]; exact Nat.gcd_dvd_left N M
  have hgM : g ∣ M := by rw [← hg]; exact Nat.gcd_dvd_right N M
  have hgp : 1 ≤ g := Nat.pos_of_dvd_of_pos hgN hN
  obtain ⟨x, hx⟩ := hgN
  obtain ⟨y, hy⟩ := hgM
  have hxp : 1 ≤ x := by rcases Nat.eq_zero_or_pos x with h | h; (subst h; simp at hx; omega); exact h
  have hyp : 1 ≤ y := by rcases Nat.eq_zero_or_pos y with h | h; (subst h; simp at hy; omega); exact h
  have hL : N / g * M = Nat.lcm N M := by
    rw [Nat.lcm, hg, hx, Nat.mul_div_cancel_left _ (by omega), Nat.mul_assoc, Nat.mul_div_cancel_left _ (by omega)]
  obtain ⟨t, ht⟩ := Nat.lcm_dvd dN dM
  have hLx : Nat.lcm N M = x * M := by rw [← hL, hx, Nat.mul_div_cancel_left _ (by omega)]
  have htp : 1 ≤ t := by rcases Nat.eq_zero_or_pos t with h | h; (subst h; simp at ht; omega); exact h
  have hLp : 1 ≤ Nat.lcm N M := by rw [hLx]; exact Nat.mul_pos hxp hM
  have hLn : Nat.lcm N M ≤ n := Nat.le_of_dvd hn ⟨t, ht⟩
  refine ⟨Nat.lcm N M, y, x, t, hLp, hyp, hxp, htp, ?_, by rw [hLx, Nat.mul_comm], ht, ?_⟩
  · rw [hLx, hy, hx, Nat.mul_left_comm, Nat.mul_assoc]
  · rw [commonF, cA, cB, show orF [(0 : Int), 0] = 0 from rfl, if_neg (by omega)]
    have e : (N : Int) / ((Int.gcd (N : Int) (M : Int) : Nat) : Int) * (M : Int) = ((Nat.lcm N M : Nat) : Int) := by
      rw [Int.gcd_natCast_natCast, hg, ← hL]
      rfl
    simp only [e]
    rw [if_neg (by omega)]

/-- A sum, spread in the same way. -/
theorem wid_add (r : Nat) (a b : Nat → Int) : wid r (fun k => a k + b k) = fun k => wid r a k + wid r b k := by
  funext k; simp only [wid]; split <;> simp
theorem val_add (p : List Int) (n : Nat) (a b : Nat → Int) (j : Nat) : val p n (fun k => a k + b k) j = val p n a j + val p n b j := by
  rw [val, val, val, ← sm_add]; exact sm_congr fun k _ => Int.add_mul ..
theorem val_mul (p : List Int) (n : Nat) (x : Int) (a : Nat → Int) (j : Nat) : val p n (fun k => x * a k) j = x * val p n a j := by
  rw [val, val, ← sm_mul]; exact sm_congr fun k _ => Int.mul_assoc ..
theorem L1_add (n : Nat) (a b : Nat → Int) : L1 n (fun k => a k + b k) ≤ L1 n a + L1 n b := by
  rw [L1, L1, L1, ← sm_add]; exact sm_le fun k _ => ab_add _ _
theorem L1_nonneg (n : Nat) (a : Nat → Int) : 0 ≤ L1 n a := sm_nonneg fun k _ => ab_nonneg _
/-- What 'accF' puts where. -/
theorem acc_wid {N r t : Nat} (hr : 1 ≤ r) (v : Nat → Int) : sm (VV N v).length (fun i => if i * r = t then (VV N v).getD i 0 else 0) = wid r (cut N (val (phiF N) N v)) t := by
  have hl : (VV N v).length = fi N := vecL_len _ _
  have hc : ∀ i, (VV N v).getD i 0 = cut N (val (phiF N) N v) i := fun i => congrFun (cut_vec N (val (phiF N) N v)) i
  rw [hl, wid]
  by_cases hz : t % r = 0
  · rw [if_pos hz]
    have hd : t / r * r = t := Nat.div_mul_cancel (Nat.dvd_of_mod_eq_zero hz)
    by_cases hlt : t / r < fi N
    · rw [sm_one hlt fun i _ hne => if_neg fun h => hne (by rw [← h, Nat.mul_div_cancel _ (by omega)]), if_pos hd, hc]
    · rw [sm_zeros fun i hi => if_neg fun h => by rw [← h, Nat.mul_div_cancel _ (by omega)] at hlt; omega, cut, if_neg hlt]
  · rw [if_neg hz, sm_zeros fun i _ => if_neg fun h => hz (by rw [← h]; exact Nat.mul_mod_left i r)]

/-- One factor of a written multiple. -/
theorem Canon.up {n : Nat} {c c' : Nat → Int} {N : Nat} (k : Canon n c N c') {r t : Nat} (hn : n = N * r * t) (hr : 1 ≤ r) (ht : 1 ≤ t) (j : Nat) : val (phiF n) n (wid t (wid r c')) j = val (phiF n) n c j := by
  have hp := k.pos
  rw [k.same, wid_wid (by omega)]
  have : n / N = t * r := by rw [hn, Nat.mul_assoc, Nat.mul_div_cancel_left _ (by omega), Nat.mul_comm]
  rw [this]

theorem add_num {n : Nat} (h1 : 1 ≤ n) (h2 : n ≤ 120) {c d : Nat → Int} (hb : L1 n c + L1 n d ≤ 3000000) : addF (numF n c) (numF n d) = (numF n (fun k => c k + d k), 0) := by
  have hcn := L1_nonneg n c
  have hdn := L1_nonneg n d
  obtain ⟨N, c', kc⟩ := canon n c h1 h2 (by omega)
  obtain ⟨M, d', kd⟩ := canon n d h1 h2 (by omega)
  have ckc := num_check h1 h2 (c := c) (by omega)
  have ckd := num_check h1 h2 (c := d) (by omega)
  rw [kc.num] at ckc ⊢
  rw [kd.num] at ckd ⊢
  obtain ⟨L, r, s, t, hL, hr, hs, ht, e1, e2, e3, hcom⟩ := common_num kc.pos kd.pos h1 h2 kc.dvd kd.dvd ckc ckd
  have hLn : L ≤ 120 := by
    have := Nat.le_mul_of_pos_right L (show 0 < t by omega)
    omega
  have hNle := kc.le
  have hMle := kd.le
  have hNp := kc.pos
  have hMp := kd.pos
  rw [addF, hcom, if_neg (by simp)]
  simp only [Int.toNat_natCast]
  have dr : L / N = r := by rw [e1, Nat.mul_div_cancel_left _ (by omega)]
  have ds : L / M = s := by rw [e2, Nat.mul_div_cancel_left _ (by omega)]
  rw [dr, ds]
  have hbc : L1 L (wid r c') ≤ L1 n c := by
    rw [e1, (least_fac r N c' hr hNp (by omega) (by have := kc.l1; omega)).2]; exact kc.l1
  have hbd : L1 L (wid s d') ≤ L1 n d := by
    rw [e2, (least_fac s M d' hs hMp (by omega) (by have := kd.l1; omega)).2]; exact kd.l1
  have hbs : L1 L (fun k => wid r c' k + wid s d' k) ≤ 3000000 := Int.le_trans (L1_add _ _ _) (by omega)
  have hm : madeF L (accF (fun i => i * s) (fun i => (VV M d').getD i 0) (accF (fun i => i * r) (fun i => (VV N c').getD i 0) (List.replicate L 0) (VV N c').length) (VV M d').length) = (numF L (fun k => wid r c' k + wid s d' k), 0) := by
    refine made_num hL hLn (accF_in _ _ (accF_in _ _ (inR.zeros _) _) _) (x := fun t => wid r (cut N (val (phiF N) N c')) t + wid s (cut M (val (phiF M) M d')) t) (fun k hk => ?_) (fun j _ => ?_) hbs
    · rw [accF_len, accF_len, List.length_replicate] at hk
      have a := accF_cg (fun i => i * s) (fun i => (VV M d').getD i 0) (accF (fun i => i * r) (fun i => (VV N c').getD i 0) (List.replicate L 0) (VV N c').length) k (by rw [accF_len, List.length_replicate]; exact hk) (VV M d').length
      have b := accF_cg (fun i => i * r) (fun i => (VV N c').getD i 0) (List.replicate L 0) k (by rw [List.length_replicate]; exact hk) (VV N c').length
      rw [acc_wid hs] at a
      rw [acc_wid hr] at b
      have z : (List.replicate L (0 : Int)).getD k 0 = 0 := by rw [List.getD_eq_getElem?_getD, List.getElem?_replicate, if_pos hk]; rfl
      rw [z, Int.zero_add] at b
      exact a.trans (b.add (cg.refl _))
    · rw [accF_len, accF_len, List.length_replicate, val_add, val_add]
      have a := wid_wd r N (cut N (val (phiF N) N c')) c' hr hNp (by omega) (fun j hj => val_cut hNp (by omega) _ hj) j
      have b := wid_wd s M (cut M (val (phiF M) M d')) d' hs hMp (by omega) (fun j hj => val_cut hMp (by omega) _ hj) j
      rw [← e1] at a
      rw [← e2] at b
      rw [a, b]
  rw [hm]
  congr 1
  rw [← num_fac ht hL (by omega) (by omega : L1 L (fun k => wid r c' k + wid s d' k) ≤ 100000000000), ← e3]
  refine num_congr fun j _ => ?_
  rw [wid_add, val_add, val_add, kc.up (by rw [← e1]; exact e3) hr ht, kd.up (by rw [← e2]; exact e3) hs ht]

/-! products -/
theorem mulS_cg (L N M : Nat) (A B : List Int) (t : Nat) (ht : t < L) : ∀ i, cg ((mulS L N M A B i).getD t 0) (sm i (fun i => sm B.length (fun k => if (i * (L / N) + k * (L / M)) % L = t then A.getD i 0 * B.getD k 0 else 0)))
  | 0 => by
    rw [mulS, sm_zero, List.getD_eq_getElem?_getD, List.getElem?_replicate, if_pos ht]; exact cg.refl _
  | i + 1 => by
    rw [mulS, mulR, sm_succ]
    refine (accF_cg _ _ _ t (by rw [mulS_len]; exact ht) _).trans ((mulS_cg L N M A B t ht i).add (cg_sm fun k _ => ?_))
    split
    · exact cg_W _
    · exact cg.refl _
/-- A factor of a spread product. -/
theorem conv_wid {N r M s L : Nat} (hr : 1 ≤ r) (hs : 1 ≤ s) (hL : 1 ≤ L) (hL2 : L ≤ 120) (e1 : L = N * r) (e2 : L = M * s) (a b : Nat → Int) (j : Nat) : val (phiF L) L (conv L (wid r a) (wid s b)) j = sm N (fun i => sm M (fun k => a i * b k * rr (phiF L) (r * i + s * k) j)) := by
  rw [val_conv hL hL2]
  have h1 : ∀ i, sm L (fun k => wid s b k * rr (phiF L) (i + k) j) = sm M (fun k => b k * rr (phiF L) (i + s * k) j) := fun i => by
    have := sm_wid (N := M) hs b (fun k => rr (phiF L) (i + k) j)
    rw [← e2] at this; exact this
  rw [sm_congr fun i _ => by rw [h1 i]]
  have := sm_wid (N := N) hr a (fun i => sm M (fun k => b k * rr (phiF L) (i + s * k) j))
  rw [← e1] at this
  rw [this]
  refine sm_congr fun i _ => ?_
  rw [← sm_mul]
  exact sm_congr fun k _ => by rw [Int.mul_assoc]
theorem mul_num {n : Nat} (h1 : 1 ≤ n) (h2 : n ≤ 120) {c d : Nat → Int} (hb : L1 n c ≤ 3000000) (hb' : L1 n d ≤ 3000000) (hbb : L1 n c * L1 n d ≤ 3000000) : mulF (numF n c) (numF n d) = (numF n (conv n c d), 0) := by
  have hcn := L1_nonneg n c
  have hdn := L1_nonneg n d
  obtain ⟨N, c', kc⟩ := canon n c h1 h2 (by omega)
  obtain ⟨M, d', kd⟩ := canon n d h1 h2 (by omega)
  have ckc := num_check h1 h2 (c := c) hb
  have ckd := num_check h1 h2 (c := d) hb'
  rw [kc.num] at ckc ⊢
  rw [kd.num] at ckd ⊢
  obtain ⟨L, r, s, t, hL, hr, hs, ht, e1, e2, e3, hcom⟩ := common_num kc.pos kd.pos h1 h2 kc.dvd kd.dvd ckc ckd
  have hLn : L ≤ 120 := by
    have := Nat.le_mul_of_pos_right L (show 0 < t by omega)
    omega
  have hNle := kc.le
  have hMle := kd.le
  have hNp := kc.pos
  have hMp := kd.pos
  have hfN := fi_le hNp (show N ≤ 120 by have := kc.le; omega)
  have hfM := fi_le hMp (show M ≤ 120 by have := kd.le; omega)
  rw [mulF, hcom, if_neg (by simp)]
  simp only [Int.toNat_natCast]
  have dr : L / N = r := by rw [e1, Nat.mul_div_cancel_left _ (by omega)]
  have ds : L / M = s := by rw [e2, Nat.mul_div_cancel_left _ (by omega)]
  have hbc : L1 L (wid r c') ≤ L1 n c := by
    rw [e1, (least_fac r N c' hr hNp (by omega) (by have := kc.l1; omega)).2]; exact kc.l1
  have hbd : L1 L (wid s d') ≤ L1 n d := by
    rw [e2, (least_fac s M d' hs hMp (by omega) (by have := kd.l1; omega)).2]; exact kd.l1
  have hbs : L1 L (conv L (wid r c') (wid s d')) ≤ 3000000 := by
    refine Int.le_trans (conv_L1 hL _ _) (Int.le_trans (Int.mul_le_mul hbc hbd (L1_nonneg _ _) hcn) hbb)
  have hm : madeF L (mulS L N M (VV N c') (VV M d') (VV N c').length) = (numF L (conv L (wid r c') (wid s d')), 0) := by
    refine made_num hL hLn (mulS_in L N M (VV N c') (VV M d') _) (x := fun t => sm (VV N c').length (fun i => sm (VV M d').length (fun k => if (i * (L / N) + k * (L / M)) % L = t then (VV N c').getD i 0 * (VV M d').getD k 0 else 0))) (fun k hk => ?_) (fun j _ => ?_) hbs
    · rw [mulS_len] at hk
      exact mulS_cg L N M (VV N c') (VV M d') k hk _
    · rw [mulS_len, dr, ds]
      have hcA : ∀ i, (VV N c').getD i 0 = cut N (val (phiF N) N c') i := fun i => congrFun (cut_vec N (val (phiF N) N c')) i
      have hcB : ∀ i, (VV M d').getD i 0 = cut M (val (phiF M) M d') i := fun i => congrFun (cut_vec M (val (phiF M) M d')) i
      have hlA : (VV N c').length = fi N := vecL_len _ _
      have hlB : (VV M d').length = fi M := vecL_len _ _
      rw [hlA, hlB]
      have s1 : val (phiF L) L (fun t => sm (fi N) (fun i => sm (fi M) (fun k => if (i * r + k * s) % L = t then (VV N c').getD i 0 * (VV M d').getD k 0 else 0))) j = sm (fi N) (fun i => sm (fi M) (fun k => cut N (val (phiF N) N c') i * cut M (val (phiF M) M d') k * rr (phiF L) (r * i + s * k) j)) := by
        have e : val (phiF L) L (fun t => sm (fi N) (fun i => sm (fi M) (fun k => if (i * r + k * s) % L = t then (VV N c').getD i 0 * (VV M d').getD k 0 else 0))) j = sm L (fun t => sm (fi N) (fun i => sm (fi M) (fun k => if (i * r + k * s) % L = t then (VV N c').getD i 0 * (VV M d').getD k 0 else 0) * rr (phiF L) t j)) := sm_congr fun t _ => by rw [sm_mulr]
        rw [e, sm_swap]
        refine sm_congr fun i _ => ?_
        rw [sm_group (fun k => (i * r + k * s) % L) (fun k _ => Nat.mod_lt _ (by omega)) (fun k => (VV N c').getD i 0 * (VV M d').getD k 0)]
        exact sm_congr fun k _ => by rw [rr_mod hL hLn, hcA, hcB, Nat.mul_comm i, Nat.mul_comm k]
      have s2 : sm (fi N) (fun i => sm (fi M) (fun k => cut N (val (phiF N) N c') i * cut M (val (phiF M) M d') k * rr (phiF L) (r * i + s * k) j)) = sm N (fun i => sm M (fun k => cut N (val (phiF N) N c') i * cut M (val (phiF M) M d') k * rr (phiF L) (r * i + s * k) j)) := by
        refine Eq.trans (sm_congr fun i _ => (sm_more (m := M) hfM.2 fun k x1 x2 => ?_).symm) (sm_more hfN.2 fun i x1 x2 => sm_zeros fun k _ => ?_).symm
        · rw [cut, cut, if_neg (show ¬ k < fi M by omega), Int.mul_zero, Int.zero_mul]
        · rw [cut, if_neg (show ¬ i < fi N by omega), Int.zero_mul, Int.zero_mul]
      rw [s1, s2, ← conv_wid hr hs hL hLn e1 e2]
      refine conv_wd hL hLn (fun j _ => ?_) (fun j _ => ?_) j
      · have a := wid_wd r N (cut N (val (phiF N) N c')) c' hr hNp (by omega) (fun j hj => val_cut hNp (by omega) _ hj) j
        rw [← e1] at a; exact a
      · have b := wid_wd s M (cut M (val (phiF M) M d')) d' hs hMp (by omega) (fun j hj => val_cut hMp (by omega) _ hj) j
        rw [← e2] at b; exact b
  rw [hm]
  congr 1
  rw [← num_fac ht hL (by omega) (by omega : L1 L (conv L (wid r c') (wid s d')) ≤ 100000000000), ← e3]
  refine num_congr fun j hj => ?_
  -- a spread product is the product of what is spread
  have hw : ∀ j, val (phiF n) n (wid t (conv L (wid r c') (wid s d'))) j = val (phiF n) n (conv n (wid t (wid r c')) (wid t (wid s d'))) j := fun j => by
    rw [wid_wid (by omega), wid_wid (by omega), conv_wid (N := N) (M := M) (by exact Nat.mul_pos ht hr) (by exact Nat.mul_pos ht hs) h1 h2 (by rw [e3, e1, Nat.mul_assoc, Nat.mul_comm t]) (by rw [e3, e2, Nat.mul_assoc, Nat.mul_comm t])]
    have a := val_widr (N := L) ht (conv L (wid r c') (wid s d')) j
    rw [← e3] at a
    rw [a]
    have e : sm L (fun u => conv L (wid r c') (wid s d') u * rr (phiF n) (t * u) j) = sm L (fun u => sm L (fun i => sm L (fun k => if (i + k) % L = u then wid r c' i * wid s d' k else 0) * rr (phiF n) (t * u) j)) := sm_congr fun u _ => by rw [conv, sm_mulr]
    have hper : ∀ x, rr (phiF n) (t * (x % L)) j = rr (phiF n) (t * x) j := fun x => by
      rw [← rr_mod h1 h2 (t * x), ← rr_mod h1 h2 (t * (x % L))]
      congr 1
      rw [e3, Nat.mul_comm L t, Nat.mul_mod_mul_left, Nat.mul_mod_mul_left, Nat.mod_mod]
    rw [e, sm_swap]
    have e5 : ∀ i, sm L (fun u => sm L (fun k => if (i + k) % L = u then wid r c' i * wid s d' k else 0) * rr (phiF n) (t * u) j) = wid r c' i * sm M (fun k => d' k * rr (phiF n) (t * (i + s * k)) j) := fun i => by
      rw [sm_group (fun k => (i + k) % L) (fun k _ => Nat.mod_lt _ (by omega)) (fun k => wid r c' i * wid s d' k) (fun u => rr (phiF n) (t * u) j)]
      have := sm_wid (N := M) hs d' (fun k => rr (phiF n) (t * (i + k)) j)
      rw [← e2] at this
      rw [← this, ← sm_mul]
      exact sm_congr fun k _ => by rw [hper, Int.mul_assoc]
    rw [sm_congr fun i _ => e5 i]
    have := sm_wid (N := N) hr c' (fun i => sm M (fun k => d' k * rr (phiF n) (t * (i + s * k)) j))
    rw [← e1] at this
    rw [this]
    refine sm_congr fun i _ => ?_
    rw [← sm_mul]
    exact sm_congr fun k _ => by rw [Int.mul_assoc, Nat.mul_add, Nat.mul_assoc, Nat.mul_assoc]
  rw [hw]
  exact conv_wd h1 h2 (fun j _ => kc.up (by rw [← e1]; exact e3) hr ht j) (fun j _ => kd.up (by rw [← e2]; exact e3) hs ht j) j
end
end Go.Proofs.Ythfabknpogbcaaa
/- Scale, Quot, Make, Int, Root of numbers that are written with n; zero. -/
namespace Go.Proofs.Ythfabknpogbcaaa
open Go Go.Ay
set_option maxRecDepth 100000
noncomputable section

theorem L1_mul (n : Nat) (x : Int) (a : Nat → Int) : L1 n (fun k => x * a k) = ab x * L1 n a := by
  rw [L1, L1, ← sm_mul]; exact sm_congr fun k _ => ab_mul _ _
theorem wid_mul (r : Nat) (x : Int) (a : Nat → Int) : wid r (fun k => x * a k) = fun k => x * wid r a k := by
  funext k; simp only [wid]; split <;> simp
theorem dp_mul (n q e : Nat) (x : Int) (c : Nat → Int) (j : Nat) : dp n q e (fun k => x * c k) j = x * dp n q e c j := by
  have h : ∀ e, vp n q e (fun k => x * c k) j = x * vp n q e c j := fun e => by
    rw [vp, vp, ← val_mul]; rfl
  rw [dp, dp, h, h]
  split
  · rw [Int.sub_zero, Int.sub_zero]
  · rw [Int.mul_sub]
theorem stepF_of {n : Nat} {w : List Int} (h : ∀ q ∈ prOf n, lowerF n q w = none) : stepF n w = none := by
  simp only [stepF]
  rw [List.findSome?_eq_none_iff]
  intro q hq
  rw [h q hq]; rfl
/-- A canonical number's multiple is canonical. -/
theorem Canon.mul {n : Nat} {c c' : Nat → Int} {N : Nat} (k : Canon n c N c') (h1 : 1 ≤ n) (h2 : n ≤ 120) {x : Int} (hx : x ≠ 0) (hb0 : L1 n c ≤ 100000000000) (hb : L1 n (fun i => x * c i) ≤ 100000000000) : leastF n (VV n (fun i => x * c i)) = (N, VV N (fun i => x * c' i)) ∧ stepF N (VV N (fun i => x * c' i)) = none := by
  have hp := k.pos
  have hle := k.le
  have hbx : L1 N (fun i => x * c' i) ≤ 100000000000 := by
    rw [L1_mul] at hb ⊢
    exact Int.le_trans (Int.mul_le_mul_of_nonneg_left k.l1 (ab_nonneg x)) hb
  have hirr : stepF N (VV N (fun i => x * c' i)) = none := stepF_of fun q hq => by
    have P : Pq N q := ⟨hp, by omega, hq⟩
    have h0 := stepF_none k.irr q hq
    refine (P.lower _ hbx).2 fun hall => ?_
    have := (P.lower c' (Int.le_trans k.l1 hb0)).1 fun e e1 e2 j hj => by
      have := hall e e1 e2 j hj
      rw [dp_mul] at this
      rcases Int.mul_eq_zero.1 this with h | h
      · exact absurd h hx
      · exact h
    rw [VV, this] at h0
    cases h0
  refine ⟨?_, hirr⟩
  have hn : N * (n / N) = n := by rw [Nat.mul_comm]; exact Nat.div_mul_cancel k.dvd
  have ht : 1 ≤ n / N := by
    rcases Nat.eq_zero_or_pos (n / N) with h | h
    · rw [h] at hn; omega
    · exact h
  have e1 : VV n (fun i => x * c i) = VV n (wid (n / N) (fun i => x * c' i)) := VV_congr fun j _ => by rw [wid_mul, val_mul, val_mul, k.same]
  have e2 := (least_fac (n / N) N (fun i => x * c' i) ht hp (by rw [hn]; exact h2) hbx).1
  rw [hn] at e2
  rw [e1, e2, leastF_stop hp hirr]
theorem Canon.n {n : Nat} {c c' : Nat → Int} {N : Nat} (k : Canon n c N c') (h1 : 1 ≤ n) : N * (n / N) = n ∧ 1 ≤ n / N := by
  have hn : N * (n / N) = n := by rw [Nat.mul_comm]; exact Nat.div_mul_cancel k.dvd
  refine ⟨hn, ?_⟩
  rcases Nat.eq_zero_or_pos (n / N) with h | h
  · rw [h] at hn; omega
  · exact h

theorem scale_num {n : Nat} (h1 : 1 ≤ n) (h2 : n ≤ 120) {c : Nat → Int} {x : Int} (hb : L1 n c ≤ 3000000) (hx : overF x = false) (hbx : ab x * L1 n c ≤ 3000000) : scaleF (numF n c) x = (numF n (fun k => x * c k), 0) := by
  obtain ⟨N, c', k⟩ := canon n c h1 h2 (by omega)
  have ck := num_check h1 h2 hb
  obtain ⟨hn, ht⟩ := k.n h1
  have hp := k.pos
  have hle := k.le
  have hbN : L1 N (fun i => x * c' i) ≤ 3000000 := by
    rw [L1_mul]
    exact Int.le_trans (Int.mul_le_mul_of_nonneg_left k.l1 (ab_nonneg x)) hbx
  rw [k.num] at ck ⊢
  rw [scaleF, if_neg (by omega), if_neg (by rw [hx]; simp)]
  simp only [Int.toNat_natCast]
  have hl : ((VV N c').map fun y => W (y * x)).length = fi N := by rw [List.length_map]; exact vecL_len _ _
  have hin : inR ((VV N c').map fun y => W (y * x)) := fun z hz => by obtain ⟨y, _, rfl⟩ := List.mem_map.1 hz; exact W_in _
  rw [made_num hp (by omega) hin (x := fun i => x * val (phiF N) N c' i) (c := fun i => x * c' i) (fun i hi => ?_) (fun j hj => ?_) hbN]
  · congr 1
    rw [← num_fac ht hp (by omega) (by omega : L1 N (fun i => x * c' i) ≤ 100000000000), hn]
    exact num_congr fun j _ => by rw [wid_mul, val_mul, val_mul, ← k.same]
  · rw [hl] at hi
    have e : ((VV N c').map fun y => W (y * x)).getD i 0 = W ((VV N c').getD i 0 * x) := by
      rw [List.getD_eq_getElem?_getD, List.getElem?_map, List.getD_eq_getElem?_getD, List.getElem?_eq_getElem (by rw [VV, vecL_len]; exact hi)]; rfl
    rw [e, VV, vecL_at, if_pos hi, Int.mul_comm x]
    exact cg_W _
  · rw [hl, val_self (mon hp (by omega)) _ hj, val_mul]

theorem quot_num {n : Nat} (h1 : 1 ≤ n) (h2 : n ≤ 120) {c : Nat → Int} {x : Int} (hb : L1 n c ≤ 3000000) (hx : x ≠ 0) (hbx : ab x * L1 n c ≤ 3000000) : quotF (numF n (fun k => x * c k)) x = (numF n c, 0) := by
  obtain ⟨N, c', k⟩ := canon n c h1 h2 (by omega)
  have hp := k.pos
  have hle := k.le
  have hbx' : L1 n (fun k => x * c k) ≤ 3000000 := by rw [L1_mul]; exact hbx
  obtain ⟨a, b⟩ := k.mul h1 h2 hx (by omega) (by omega)
  have ck := num_check h1 h2 hbx'
  have hn : numF n (fun k => x * c k) = ((N : Int), VV N (fun i => x * c' i)) := by rw [numF, a]
  rw [hn] at ck ⊢
  have hat : ∀ y ∈ VV N (fun i => x * c' i), ∃ z, y = x * z := fun y hy => by
    obtain ⟨j, _, rfl⟩ := List.mem_map.1 hy
    exact ⟨_, val_mul _ _ _ _ _⟩
  rw [quotF, if_neg (by omega), if_neg hx, if_neg]
  · rw [k.num]
    congr 2
    apply eqD
    · rw [List.length_map, VV, VV, vecL_len, vecL_len]
    · intro j hj
      rw [List.length_map, VV, vecL_len] at hj
      have e : ((VV N (fun i => x * c' i)).map fun y => W (y.tdiv x)).getD j 0 = W (((VV N (fun i => x * c' i)).getD j 0).tdiv x) := by
        rw [List.getD_eq_getElem?_getD, List.getElem?_map, List.getD_eq_getElem?_getD, List.getElem?_eq_getElem (by rw [VV, vecL_len]; exact hj)]; rfl
      rw [e, VV, VV, vecL_at, vecL_at, if_pos hj, if_pos hj, val_mul, Int.mul_tdiv_cancel_left _ hx]
      have := ab_le.1 (val_small hp (by omega) (Int.le_trans k.l1 hb) j)
      exact W_id (by omega)
  · rw [List.any_eq_true]
    rintro ⟨y, hy, hz⟩
    obtain ⟨z, rfl⟩ := hat y hy
    have := of_decide_eq_true hz
    rw [Int.mul_tmod_right] at this
    exact this rfl

/-- 'Make'. -/
theorem make_num {n : Nat} (h1 : 1 ≤ n) (h2 : n ≤ 120) {l : List Int} (hl : l.length ≤ 1000) (ho : l.any overF = false) {c : Nat → Int} (hv : ∀ j, j < fi n → val (phiF n) l.length (fun k => l.getD k 0) j = val (phiF n) n c j) (hb : L1 n c ≤ 3000000) : makeF (n : Int) l = (numF n c, 0) := by
  rw [makeF, if_neg (by omega), if_neg (by omega), if_neg (by rw [ho]; simp), Int.toNat_natCast]
  refine made_num h1 h2 (accF_in _ _ (inR.zeros _) _) (x := fun t => sm l.length (fun i => if i % n = t then l.getD i 0 else 0)) (fun t ht => ?_) (fun j hj => ?_) hb
  · rw [accF_len, List.length_replicate] at ht
    have := accF_cg (fun i => i % n) (fun i => l.getD i 0) (List.replicate n 0) t (by rw [List.length_replicate]; exact ht) l.length
    have z : (List.replicate n (0 : Int)).getD t 0 = 0 := by rw [List.getD_eq_getElem?_getD, List.getElem?_replicate, if_pos ht]; rfl
    rw [z, Int.zero_add] at this
    exact this
  · rw [accF_len, List.length_replicate, ← hv j hj, val, sm_group (fun i => i % n) (fun i _ => Nat.mod_lt _ (by omega)) (fun i => l.getD i 0) (fun t => rr (phiF n) t j)]
    exact sm_congr fun i _ => by rw [rr_mod h1 h2]
/-- A power alone. -/
def dl (m : Nat) (x : Int) (k : Nat) : Int := if k = m then x else 0
theorem L1_dl {n m : Nat} (hm : m < n) (x : Int) : L1 n (dl m x) = ab x := by
  rw [L1, sm_one hm fun k _ hne => by rw [dl, if_neg hne]; rfl, dl, if_pos rfl]
theorem wid_dl {r : Nat} (hr : 1 ≤ r) (x : Int) : wid r (dl 0 x) = dl 0 x := by
  funext k
  rw [wid, dl]
  by_cases h0 : k = 0
  · subst h0; simp [dl]
  · rw [dl, if_neg h0]
    split
    · rename_i hz
      rw [if_neg]
      intro h
      have := Nat.div_add_mod k r
      rw [h, hz] at this; omega
    · rfl
theorem num_int {n : Nat} (h1 : 1 ≤ n) (h2 : n ≤ 120) {x : Int} (hx : ab x ≤ 100000000000) : numF n (dl 0 x) = numF 1 (dl 0 x) := by
  have := num_fac (r := n) (n := 1) (c := dl 0 x) h1 (by omega) (by omega) (by rw [L1_dl (by omega)]; exact hx)
  rw [wid_dl h1, Nat.one_mul] at this
  exact this
theorem prOf_one : prOf 1 = [] := by decide +kernel
theorem num_one (x : Int) : numF 1 (dl 0 x) = (1, [x]) := by
  have m := mon (n := 1) (by omega) (by omega)
  have hf : fi 1 = 1 := by decide +kernel
  have hs : stepF 1 (VV 1 (dl 0 x)) = none := by simp only [stepF, prOf_one]; rfl
  have hv : VV 1 (dl 0 x) = [x] := by
    rw [VV, vecL, hf]
    show [val (phiF 1) 1 (dl 0 x) 0] = [x]
    rw [val, sm_succ, sm_zero, Int.zero_add, rr_unit m 0 (by omega) 0 (by omega), if_pos rfl, Int.mul_one]
    rfl
  rw [numF, leastF_stop (by omega) hs, hv]; rfl
theorem int_num {n : Nat} (h1 : 1 ≤ n) (h2 : n ≤ 120) {x : Int} (hx : ab x ≤ 3000000) : makeF 1 [x] = (numF n (dl 0 x), 0) := by
  have hb := ab_le.1 hx
  rw [num_int h1 h2 (by omega)]
  refine make_num (n := 1) (by omega) (by omega) (by simp) (by simp [overF]; omega) (fun j _ => ?_) (by rw [L1_dl (by omega)]; exact hx)
  exact sm_congr fun k hk => by
    have : k = 0 := by simp at hk; omega
    subst this; rfl
theorem root_num {n : Nat} (h1 : 1 ≤ n) (h2 : n ≤ 120) (k : Int) : rootF (n : Int) k = (numF n (dl (k % (n : Int)).toNat 1), 0) := by
  have hr0 := Int.emod_nonneg k (show (n : Int) ≠ 0 by omega)
  have hr1 := Int.emod_lt_of_pos k (show (0 : Int) < n by omega)
  obtain ⟨m, hm⟩ : ∃ m : Nat, (k % (n : Int)).toNat = m := ⟨_, rfl⟩
  have hmn : m < n := by omega
  rw [rootF, if_neg (by omega), Int.toNat_natCast, hm]
  refine made_num h1 h2 ((inR.zeros n).set (by omega) _) (x := dl m 1) (fun t ht => ?_) (fun j _ => ?_) (by rw [L1_dl hmn]; decide)
  · rw [List.length_set, List.length_replicate] at ht
    rw [getD_set, List.length_replicate, dl]
    by_cases h : m = t
    · rw [if_pos h, if_pos hmn, if_pos h.symm]; exact cg.refl _
    · rw [if_neg h, if_neg (Ne.symm h), List.getD_eq_getElem?_getD, List.getElem?_replicate, if_pos ht]; exact cg.refl _
  · rw [List.length_set, List.length_replicate]
/-- Equal numbers are written alike. -/
theorem num_inj {n : Nat} (h1 : 1 ≤ n) (h2 : n ≤ 120) {c d : Nat → Int} (hc : L1 n c ≤ 100000000000) (hd : L1 n d ≤ 100000000000) (h : numF n c = numF n d) (j : Nat) : val (phiF n) n c j = val (phiF n) n d j := by
  obtain ⟨N, c', k⟩ := canon n c h1 h2 hc
  obtain ⟨M, d', l⟩ := canon n d h1 h2 hd
  rw [k.num, l.num, Prod.mk.injEq] at h
  obtain ⟨e1, e2⟩ := h
  have e1' : N = M := by omega
  subst e1'
  obtain ⟨hn, ht⟩ := k.n h1
  have := wid_wd (n / N) N c' d' ht k.pos (by omega) (VV_inj e2) j
  rw [hn] at this
  rw [k.same, l.same, this]
end
end Go.Proofs.Ythfabknpogbcaaa
/- Automorphisms. -/
namespace Go.Proofs.Ythfabknpogbcaaa
open Go Go.Ay
set_option maxRecDepth 100000
noncomputable section

/-! the checks: automorphisms map the polynomial's root to a root -/
def orders : List Nat := [1, 2, 3, 4, 5, 6, 7, 8, 9, 10, 12, 15, 16, 18, 20, 21, 24, 30, 35, 36, 40, 45, 60, 84, 105, 120]
def dvs : List Nat := (List.range 121).filter fun d => d != 0 && orders.any fun o => o % d == 0
/-- A polynomial whose powers are moved. -/
def movL (n k : Nat) : Nat → List Int → List Int → List Int
  | _, [], acc => acc
  | i, x :: l, acc => match x with
    | .ofNat 0 => movL n k (i + 1) l acc
    | x => movL n k (i + 1) l (acc.set (i * k % n) (acc.getD (i * k % n) 0 + x))
def k7 (n k : Nat) : Bool := zeroT (phiF n) (movL n k 0 (phiF n) (List.replicate n 0))
def units (n : Nat) : List Nat := (List.range n).filter fun k => Nat.gcd n k == 1
theorem k7_all : dvs.all (fun n => (units n).all fun k => k7 n k) = true := by decide +kernel
end
end Go.Proofs.Ythfabknpogbcaaa
/- Automorphisms of canonical numbers. -/
namespace Go.Proofs.Ythfabknpogbcaaa
open Go Go.Ay
set_option maxRecDepth 100000
noncomputable section
theorem movL_len (n k : Nat) : ∀ (l acc : List Int) (i : Nat), (movL n k i l acc).length = acc.length
  | [], acc, i => rfl
  | x :: l, acc, i => by
    cases x with
    | ofNat m => cases m with
      | zero => exact movL_len n k l acc (i + 1)
      | succ m => exact (movL_len n k l _ (i + 1)).trans (List.length_set ..)
    | negSucc m => exact (movL_len n k l _ (i + 1)).trans (List.length_set ..)
theorem movL_at (n k : Nat) (hn : 1 ≤ n) : ∀ (l acc : List Int) (i t : Nat), acc.length = n → t < n → (movL n k i l acc).getD t 0 = acc.getD t 0 + sm l.length (fun u => if (i + u) * k % n = t then l.getD u 0 else 0)
  | [], acc, i, t, _, _ => by simp [movL, sm_zero]
  | x :: l, acc, i, t, ha, ht => by
    have hs : sm (x :: l).length (fun u => if (i + u) * k % n = t then (x :: l).getD u 0 else 0) = (if i * k % n = t then x else 0) + sm l.length (fun u => if (i + 1 + u) * k % n = t then l.getD u 0 else 0) := by
      rw [List.length_cons, sm_first]
      congr 1
      exact sm_congr fun u _ => by rw [List.getD_cons_succ, show i + (u + 1) = i + 1 + u by omega]
    rw [hs]
    have step : (movL n k i (x :: l) acc).getD t 0 = (movL n k (i + 1) l (acc.set (i * k % n) (acc.getD (i * k % n) 0 + x))).getD t 0 := by
      cases x with
      | ofNat m => cases m with
        | zero =>
          show (movL n k (i + 1) l acc).getD t 0 = _
          have : acc.set (i * k % n) (acc.getD (i * k % n) 0 + Int.ofNat 0) = acc := by
            apply eqD
            · rw [List.length_set]
            · intro j hj
              rw [getD_set]
              split
              · rename_i h
                subst h
                rw [if_pos (by rw [ha]; exact Nat.mod_lt _ (by omega))]
                exact Int.add_zero _
              · rfl
          rw [this]
        | succ m => rfl
      | negSucc m => rfl
    rw [step, movL_at n k hn l _ (i + 1) t (by rw [List.length_set]; exact ha) ht, getD_set]
    by_cases h : i * k % n = t
    · rw [if_pos h, if_pos (by rw [ha, h]; exact ht), if_pos h, h]; omega
    · rw [if_neg h, if_neg h, Int.zero_add]
theorem mem_dvs {d n : Nat} (hn : n ∈ orders) (hd : d ∣ n) : d ∈ dvs ∧ 1 ≤ n ∧ n ≤ 120 := by
  have ho : ∀ o ∈ orders, 1 ≤ o ∧ o ≤ 120 := by decide
  obtain ⟨h1, h2⟩ := ho n hn
  have hle := Nat.le_of_dvd h1 hd
  have hp := Nat.pos_of_dvd_of_pos hd h1
  refine ⟨?_, h1, h2⟩
  rw [dvs, List.mem_filter, List.mem_range]
  refine ⟨by omega, ?_⟩
  rw [Bool.and_eq_true, List.any_eq_true]
  exact ⟨by simp; omega, n, hn, by rw [Nat.mod_eq_zero_of_dvd hd]; rfl⟩
theorem dvs_le {n : Nat} (h : n ∈ dvs) : 1 ≤ n ∧ n ≤ 120 := by
  rw [dvs, List.mem_filter, List.mem_range, Bool.and_eq_true] at h
  have := h.2.1
  simp at this
  omega
theorem dvs_dvd {n d : Nat} (h : n ∈ dvs) (hd : d ∣ n) : d ∈ dvs := by
  have hl := dvs_le h
  have hp := Nat.pos_of_dvd_of_pos hd hl.1
  have hle := Nat.le_of_dvd hl.1 hd
  rw [dvs, List.mem_filter, List.mem_range, Bool.and_eq_true, List.any_eq_true] at h
  obtain ⟨_, _, o, ho, hz⟩ := h
  have hdo : d ∣ o := Nat.dvd_trans hd (Nat.dvd_of_mod_eq_zero (by simpa using hz))
  exact (mem_dvs ho hdo).1

/-- Powers moved. -/
def sg (n k : Nat) (c : Nat → Int) (t : Nat) : Int := sm n (fun i => if i * k % n = t then c i else 0)
section
variable {n : Nat} (h1 : 1 ≤ n) (h2 : n ≤ 120)
include h1
theorem sg_sum (k : Nat) (c g : Nat → Int) : sm n (fun t => sg n k c t * g t) = sm n (fun i => c i * g (i * k % n)) := sm_group (fun i => i * k % n) (fun i _ => Nat.mod_lt _ (by omega)) c g
theorem sg_L1 (k : Nat) (c : Nat → Int) : L1 n (sg n k c) ≤ L1 n c := by
  have e : L1 n (sg n k c) ≤ sm n (fun t => sm n (fun i => if i * k % n = t then ab (c i) else 0)) := sm_le fun t _ => by
    refine Int.le_trans (sm_ab _ _) (sm_le fun i _ => ?_)
    split
    · exact Int.le_refl _
    · exact Int.le_refl _
  have := sm_group (n := n) (m := n) (fun i => i * k % n) (fun i _ => Nat.mod_lt _ (by omega)) (fun i => ab (c i)) (fun _ => 1)
  simp only [Int.mul_one] at this
  rw [this] at e
  exact e
include h2
theorem val_sg (k : Nat) (c : Nat → Int) (j : Nat) : val (phiF n) n (sg n k c) j = sm n (fun i => c i * rr (phiF n) (i * k) j) := by
  rw [val, sg_sum h1]
  exact sm_congr fun i _ => by rw [rr_mod h1 h2]
theorem sg_mod {k k' : Nat} (hk : k % n = k' % n) (c : Nat → Int) : sg n k c = sg n k' c := by
  have _ := h1
  have _ := h2
  funext t
  exact sm_congr fun i _ => by rw [Nat.mul_mod, hk, ← Nat.mul_mod]
theorem sg_sg (j k : Nat) (c : Nat → Int) (u : Nat) : val (phiF n) n (sg n k (sg n j c)) u = val (phiF n) n (sg n (j * k) c) u := by
  rw [val_sg h1 h2, val_sg h1 h2, sg_sum h1 j c (fun i => rr (phiF n) (i * k) u)]
  exact sm_congr fun i _ => by
    rw [← rr_mod h1 h2, Nat.mod_mul_mod, rr_mod h1 h2, Nat.mul_assoc]
theorem sg_add (k : Nat) (a b : Nat → Int) (j : Nat) : val (phiF n) n (sg n k (fun i => a i + b i)) j = val (phiF n) n (fun i => sg n k a i + sg n k b i) j := by
  rw [val_add, val_sg h1 h2, val_sg h1 h2, val_sg h1 h2, ← sm_add]
  exact sm_congr fun i _ => Int.add_mul ..
theorem sg_conv (k : Nat) (a b : Nat → Int) (j : Nat) : val (phiF n) n (sg n k (conv n a b)) j = val (phiF n) n (conv n (sg n k a) (sg n k b)) j := by
  rw [val_sg h1 h2, val_conv h1 h2]
  have e1 : ∀ i, sm n (fun u => sg n k b u * rr (phiF n) (i + u) j) = sm n (fun u => b u * rr (phiF n) (i + u * k) j) := fun i => by
    rw [sg_sum h1 k b (fun u => rr (phiF n) (i + u) j)]
    exact sm_congr fun u _ => by rw [← rr_mod h1 h2 (i + u * k % n), Nat.add_mod_mod, rr_mod h1 h2]
  have e3 : sm n (fun i => sg n k a i * sm n (fun u => sg n k b u * rr (phiF n) (i + u) j)) = sm n (fun i => a i * sm n (fun u => b u * rr (phiF n) (i * k % n + u * k) j)) := by
    rw [← sg_sum h1 k a (fun i => sm n (fun u => b u * rr (phiF n) (i + u * k) j))]
    exact sm_congr fun i _ => by rw [e1 i]
  have e2 : sm n (fun t => conv n a b t * rr (phiF n) (t * k) j) = sm n (fun t => sm n (fun i => sm n (fun u => if (i + u) % n = t then a i * b u else 0) * rr (phiF n) (t * k) j)) := sm_congr fun t _ => by rw [conv, sm_mulr]
  rw [e3, e2, sm_swap]
  refine sm_congr fun i _ => ?_
  rw [sm_group (fun u => (i + u) % n) (fun u _ => Nat.mod_lt _ (by omega)) (fun u => a i * b u) (fun t => rr (phiF n) (t * k) j), ← sm_mul]
  exact sm_congr fun u _ => by
    rw [← rr_mod h1 h2 ((i + u) % n * k), Nat.mod_mul_mod, rr_mod h1 h2, ← rr_mod h1 h2 (i * k % n + u * k), Nat.mod_add_mod, rr_mod h1 h2, Nat.add_mul, Int.mul_assoc]
omit h1 h2 in
theorem sg_one {n : Nat} (h1 : 1 ≤ n) (h2 : n ≤ 120) (c : Nat → Int) (j : Nat) : val (phiF n) n (sg n 1 c) j = val (phiF n) n c j := by
  rw [val_sg h1 h2]
  exact sm_congr fun i _ => by rw [Nat.mul_one]
end
/-- An automorphism moves equal numbers alike. -/
theorem sg_wd {n k : Nat} (hn : n ∈ dvs) (hk : Nat.gcd n k = 1) {c c' : Nat → Int} (h : ∀ j, j < fi n → val (phiF n) n c j = val (phiF n) n c' j) (j : Nat) : val (phiF n) n (sg n k c) j = val (phiF n) n (sg n k c') j := by
  obtain ⟨h1, h2⟩ := dvs_le hn
  have m := mon h1 h2
  have hmod : k % n % n = k % n := Nat.mod_mod k n
  rw [← sg_mod h1 h2 hmod, ← sg_mod h1 h2 hmod]
  have hku : k % n ∈ units n := by
    rw [units, List.mem_filter, List.mem_range]
    exact ⟨Nat.mod_lt _ (by omega), by
      have : Nat.gcd n (k % n) = Nat.gcd n k := by rw [Nat.gcd_comm, ← Nat.gcd_rec]
      rw [this, hk]; rfl⟩
  generalize k % n = k at hku
  have hz := List.all_eq_true.1 (List.all_eq_true.1 k7_all n hn) k hku
  have h0 : ∀ j, sm (fi n + 1) (fun i => (phiF n).getD i 0 * rr (phiF n) (i * k) j) = 0 := fun j => by
    have a := zeroT_val m hz j
    rw [movL_len, List.length_replicate, val] at a
    have b : sm n (fun t => (movL n k 0 (phiF n) (List.replicate n 0)).getD t 0 * rr (phiF n) t j) = sm n (fun t => sm (phiF n).length (fun u => if u * k % n = t then (phiF n).getD u 0 else 0) * rr (phiF n) t j) := sm_congr fun t ht => by
      rw [movL_at n k h1 _ _ 0 t List.length_replicate ht, List.getD_eq_getElem?_getD (l := List.replicate n 0), List.getElem?_replicate, if_pos ht, Option.getD_some, Int.zero_add]
      congr 1
      exact sm_congr fun u _ => by rw [Nat.zero_add]
    rw [b, sm_group (fun u => u * k % n) (fun u _ => Nat.mod_lt _ (by omega)) (fun u => (phiF n).getD u 0) (fun t => rr (phiF n) t j), m.len] at a
    refine Eq.trans ?_ a
    exact sm_congr fun i _ => by rw [rr_mod h1 h2]
  have hrec : Rec (phiF n) (fi n) (fun i => rr (phiF n) (i * k) j) := fun s => by
    refine Eq.trans ?_ (rel_shift h1 h2 (g := fun i => i * k) h0 (s * k) j)
    exact sm_congr fun i _ => by show _ * rr (phiF n) ((s + i) * k) j = _; rw [Nat.add_mul, Nat.add_comm]
  rw [val_sg h1 h2, val_sg h1 h2, val_rec m hrec n c, val_rec m hrec n c']
  exact sm_congr fun u hu => by rw [h u hu]
/-- 'Galois'. -/
theorem gal_num {n : Nat} (hn : n ∈ dvs) {c : Nat → Int} (hb : L1 n c ≤ 3000000) {k : Int} {k' : Nat} (hk : ∃ z : Int, k = (k' : Int) + n * z) (hg : Nat.gcd n k' = 1) :
    galF (numF n c) k = (numF n (sg n k' c), 0) ∧ (numF n (sg n k' c)).1 ≤ (numF n c).1 := by
  obtain ⟨h1, h2⟩ := dvs_le hn
  obtain ⟨N, c', kc⟩ := canon n c h1 h2 (by omega)
  have ck := num_check h1 h2 hb
  obtain ⟨hnn, ht⟩ := kc.n h1
  have hp := kc.pos
  have hle := kc.le
  have hNd : N ∈ dvs := dvs_dvd hn kc.dvd
  have m := mon hp (show N ≤ 120 by omega)
  obtain ⟨z, hz⟩ := hk
  have hr : k % (N : Int) = ((k' % N : Nat) : Int) := by
    obtain ⟨s, hs⟩ := kc.dvd
    have : k = (k' : Int) + N * (s * z) := by rw [hz, hs]; rw [Int.natCast_mul, Int.mul_assoc]
    rw [this, Int.add_mul_emod_self_left, Int.natCast_emod]
  have hgN : Nat.gcd N k' = 1 := by
    have := Nat.gcd_dvd_gcd_of_dvd_left k' kc.dvd
    rw [hg] at this
    exact Nat.dvd_one.1 this
  have hgr : Int.gcd (N : Int) ((k' % N : Nat) : Int) = 1 := by
    rw [Int.gcd_natCast_natCast, Nat.gcd_comm, ← Nat.gcd_rec]; exact hgN
  have hbN : L1 N (sg N k' c') ≤ 3000000 := Int.le_trans (sg_L1 hp k' c') (Int.le_trans kc.l1 hb)
  have hfN := fi_le hp (show N ≤ 120 by omega)
  have hmade : madeF N (accF (fun i => i * (k' % N) % N) (fun i => (VV N c').getD i 0) (List.replicate N 0) (VV N c').length) = (numF N (sg N k' c'), 0) := by
    refine made_num hp (by omega) (accF_in _ _ (inR.zeros _) _) (x := fun t => sm (VV N c').length (fun i => if i * (k' % N) % N = t then (VV N c').getD i 0 else 0)) (fun t ht => ?_) (fun j hj => ?_) hbN
    · rw [accF_len, List.length_replicate] at ht
      have := accF_cg (fun i => i * (k' % N) % N) (fun i => (VV N c').getD i 0) (List.replicate N 0) t (by rw [List.length_replicate]; exact ht) (VV N c').length
      have z : (List.replicate N (0 : Int)).getD t 0 = 0 := by rw [List.getD_eq_getElem?_getD, List.getElem?_replicate, if_pos ht]; rfl
      rw [z, Int.zero_add] at this
      exact this
    · rw [accF_len, List.length_replicate]
      have hcA : ∀ i, (VV N c').getD i 0 = cut N (val (phiF N) N c') i := fun i => congrFun (cut_vec N (val (phiF N) N c')) i
      have hlA : (VV N c').length = fi N := vecL_len _ _
      have e : val (phiF N) N (fun t => sm (VV N c').length (fun i => if i * (k' % N) % N = t then (VV N c').getD i 0 else 0)) j = val (phiF N) N (sg N (k' % N) (cut N (val (phiF N) N c'))) j := sm_congr fun t _ => by
        congr 1
        rw [hlA, sg]
        refine Eq.trans (sm_congr fun i _ => by rw [hcA]) (sm_more hfN.2 fun i x1 x2 => ?_).symm
        rw [cut, if_neg (show ¬ i < fi N by omega)]
        split <;> rfl
      rw [e, sg_mod hp (by omega) (Nat.mod_mod k' N)]
      exact sg_wd hNd hgN (fun j hj => val_cut hp (by omega) _ hj) j
  have hup : numF N (sg N k' c') = numF n (sg n k' c) := by
    rw [← num_fac ht hp (by omega) (by omega : L1 N (sg N k' c') ≤ 100000000000), hnn]
    refine num_congr fun j _ => ?_
    have e1 : val (phiF n) n (wid (n / N) (sg N k' c')) j = val (phiF n) n (sg n k' (wid (n / N) c')) j := by
      rw [val_sg h1 h2]
      have a := val_widr (N := N) ht (sg N k' c') j
      rw [hnn] at a
      rw [a, sg_sum hp k' c' (fun t => rr (phiF n) (n / N * t) j)]
      have b := sm_wid (N := N) ht c' (fun i => rr (phiF n) (i * k') j)
      rw [hnn] at b
      rw [b]
      refine sm_congr fun i _ => ?_
      congr 1
      rw [← rr_mod h1 h2 (n / N * (i * k' % N)), ← rr_mod h1 h2 (n / N * i * k')]
      congr 1
      have hnn' : n / N * N = n := Nat.div_mul_cancel kc.dvd
      have key : ∀ x, n / N * (x % N) = n / N * x % n := fun x => by
        have := Nat.mul_mod_mul_left (n / N) x N
        rw [hnn'] at this; exact this.symm
      rw [key, Nat.mod_mod, Nat.mul_assoc]
    rw [e1]
    exact sg_wd hn hg (fun j _ => (kc.same j).symm) j
  have hgal : galF (numF n c) k = (numF n (sg n k' c), 0) := by
    rw [kc.num] at ck ⊢
    rw [galF, if_neg (by omega)]
    simp only [hr, Int.toNat_natCast]
    rw [hgr, if_neg (by omega), hmade, hup]
  refine ⟨hgal, ?_⟩
  rw [← hup]
  obtain ⟨N', c'', k2⟩ := canon N (sg N k' c') hp (by omega) (by omega)
  rw [k2.num, kc.num]
  have := k2.le
  simp only
  omega
end
end Go.Proofs.Ythfabknpogbcaaa
/- A number that is not in a smaller field is moved; a trace is an integer; the powers of a root. -/
namespace Go.Proofs.Ythfabknpogbcaaa
open Go Go.Ay
set_option maxRecDepth 100000
noncomputable section

def liftB (n : Nat) : Bool := (units n).all fun k => (units n).any fun k' => k * k' % n == 1 % n
def lift2B (n : Nat) : Bool := (List.range (n + 1)).all fun d => d == 0 || n % d != 0 || (units d).all fun k => (units n).any fun k' => k' % d == k
def movB (n : Nat) : Bool := (prOf n).all fun q => let m := n / q
  cond (m % q == 0) (Nat.gcd n (1 + m) == 1 && Nat.blt (1 + m) n && (prOf m).contains q && (List.range q).all fun e => e == 0 || (List.range q).any fun e' => e * e' % q == 1 % q)
    ((List.range q).all fun e => e == 0 || (List.range n).any fun k => k % m == 1 % m && Nat.gcd n k == 1 && (List.range q).all fun e' => (e' * k % q != 0 || e' == 0) && (e' * k % q != 1 || e' == e) && (e' != e || e' * k % q == 1))
theorem lift_all : dvs.all (fun n => liftB n && lift2B n && movB n) = true := by decide +kernel
theorem lift_at {n : Nat} (hn : n ∈ dvs) : liftB n = true ∧ lift2B n = true ∧ movB n = true := by
  have h := List.all_eq_true.1 lift_all n hn
  rw [Bool.and_eq_true, Bool.and_eq_true] at h
  exact ⟨h.1.1, h.1.2, h.2⟩
theorem mem_units {n k : Nat} : k ∈ units n ↔ k < n ∧ Nat.gcd n k = 1 := by
  rw [units, List.mem_filter, List.mem_range, beq_iff_eq]
/-- An inverse. -/
theorem unit_inv {n k : Nat} (hn : n ∈ dvs) (hk : k < n) (hg : Nat.gcd n k = 1) : ∃ k', k' < n ∧ Nat.gcd n k' = 1 ∧ k * k' % n = 1 % n := by
  have h := List.all_eq_true.1 (lift_at hn).1 k (mem_units.2 ⟨hk, hg⟩)
  rw [List.any_eq_true] at h
  obtain ⟨k', hk', he⟩ := h
  obtain ⟨a, b⟩ := mem_units.1 hk'
  exact ⟨k', a, b, by simpa using he⟩
/-- A unit, lifted. -/
theorem unit_lift {n d k : Nat} (hn : n ∈ dvs) (hd : d ∣ n) (hk : k < d) (hg : Nat.gcd d k = 1) : ∃ k', k' < n ∧ Nat.gcd n k' = 1 ∧ k' % d = k := by
  have hl := dvs_le hn
  have hp := Nat.pos_of_dvd_of_pos hd hl.1
  have hle := Nat.le_of_dvd hl.1 hd
  have h := List.all_eq_true.1 (lift_at hn).2.1 d (List.mem_range.2 (by omega))
  have a : (d == 0) = false := by simp; omega
  have b : (n % d != 0) = false := by rw [Nat.mod_eq_zero_of_dvd hd]; rfl
  rw [a, b, Bool.false_or, Bool.false_or] at h
  have h := List.all_eq_true.1 h k (mem_units.2 ⟨hk, hg⟩)
  rw [List.any_eq_true] at h
  obtain ⟨k', hk', he⟩ := h
  obtain ⟨x, y⟩ := mem_units.1 hk'
  exact ⟨k', x, y, by simpa using he⟩
/-- A sum in another order. -/
theorem sm_bij {n : Nat} (s r : Nat → Nat) (hs : ∀ k, k < n → s k < n) (hr : ∀ k, k < n → r k < n) (h1 : ∀ k, k < n → r (s k) = k) (h2 : ∀ k, k < n → s (r k) = k) (F : Nat → Int) : sm n (fun k => F (s k)) = sm n F := by
  have a := sm_group (n := n) (m := n) s hs (fun _ => 1) F
  simp only [Int.one_mul] at a
  rw [← a]
  refine sm_congr fun t ht => ?_
  rw [sm_one (hr t ht) fun k hk hne => if_neg fun h => hne (by rw [← h, h1 k hk]), if_pos (h2 t ht), Int.one_mul]
theorem unit_bij {n k : Nat} (hn : n ∈ dvs) (hk : k < n) (hg : Nat.gcd n k = 1) (F : Nat → Int) : sm n (fun i => F (i * k % n)) = sm n F := by
  obtain ⟨k', hk', _, hi⟩ := unit_inv hn hk hg
  have hl := dvs_le hn
  have key : ∀ a b, a * b % n = 1 % n → ∀ i, i < n → i * a % n * b % n = i := fun a b hab i hin => by
    rw [Nat.mod_mul_mod, Nat.mul_assoc, Nat.mul_mod, hab, ← Nat.mul_mod, Nat.mul_one, Nat.mod_eq_of_lt hin]
  exact sm_bij (fun i => i * k % n) (fun i => i * k' % n) (fun i _ => Nat.mod_lt _ (by omega)) (fun i _ => Nat.mod_lt _ (by omega)) (key k k' hi) (key k' k (by rw [Nat.mul_comm]; exact hi)) F

section
variable {n q : Nat} (P : Pq n q)
include P
theorem Pq.vp_sg {e : Nat} (he : e < q) (k : Nat) (c : Nat → Int) (j : Nat) : vp n q e (sg n k c) j = sm n (fun i => c i * pF n q e j (i * k % n)) := by
  rw [P.vp_sum he, sg_sum P.h1]
/-- A number that the automorphisms over the smaller field leave is one of it. -/
theorem Pq.fix (hn : n ∈ dvs) {c : Nat → Int} (hfix : ∀ k, k < n → k % (n / q) = 1 % (n / q) → Nat.gcd n k = 1 → ∀ j, j < fi n → val (phiF n) n (sg n k c) j = val (phiF n) n c j) :
    ∀ e, 1 ≤ e → e < q → ∀ j, j < fi (n / q) → dp n q e c j = 0 := by
  intro e he1 he2 j hj
  have hq := P.q2
  have hm := P.m1
  have hd := P.dvd
  have hB := List.all_eq_true.1 (lift_at hn).2.2 q P.hq
  by_cases hz : n / q % q = 0
  · simp only [show (n / q % q == 0) = true by simp [hz], cond_true, Bool.and_eq_true, beq_iff_eq] at hB
    obtain ⟨⟨⟨b1, b2⟩, b3⟩, b4⟩ := hB
    rw [Nat.blt_eq] at b2
    have P' : Pq (n / q) q := ⟨P.m1, P.m2, by simpa using b3⟩
    have hd' := P'.dvd
    have hE : ∀ k, eOf n q k = k % q := fun k => by rw [eOf, if_pos hz]
    have hT : ∀ k, tOf n q k = k / q := fun k => by rw [tOf, if_pos hz]
    obtain ⟨u, hu⟩ : ∃ u, n / q / q = u := ⟨_, rfl⟩
    rw [hu] at hd'
    have hk1 : (1 + n / q) % (n / q) = 1 % (n / q) := by rw [Nat.add_mod_right]
    have hfx := hfix (1 + n / q) b2 hk1 b1
    -- the automorphism multiplies the part
    have hvp : ∀ j, vp n q e (sg n (1 + n / q) c) j = sm (fi (n / q)) (fun i => vp n q e c i * rr (phiF (n / q)) (i + u * e) j) := fun j => by
      rw [P.vp_sg he2]
      have e1 : sm n (fun i => c i * pF n q e j (i * (1 + n / q) % n)) = sm n (fun i => c i * (if eOf n q i = e then rr (phiF (n / q)) (tOf n q i + u * e) j else 0)) := sm_congr fun i hi => by
        congr 1
        rw [pF, hE, hT, hE, hT]
        have a1 : i * (1 + n / q) % n % q = i % q := by
          rw [Nat.mod_mod_of_dvd _ ⟨n / q, hd.symm⟩, Nat.mul_add, Nat.mul_one, ← hd', Nat.mul_left_comm, Nat.add_mul_mod_self_left]
        have a2 : i * (1 + n / q) % n / q = (i / q + u * i) % (n / q) := by
          have : i * (1 + n / q) % (q * (n / q)) / q = i * (1 + n / q) / q % (n / q) := Nat.mod_mul_right_div_self ..
          rw [hd] at this
          rw [this, Nat.mul_add, Nat.mul_one]
          congr 1
          rw [← hd', Nat.mul_left_comm, Nat.add_mul_div_left _ _ (by omega), Nat.mul_comm i u]
        rw [a1]
        by_cases h : i % q = e
        · rw [if_pos h, if_pos h, a2, rr_mod P.m1 P.m2]
          have hi2 : u * i = n / q * (i / q) + u * e := by
            have h3 := Nat.div_add_mod i q
            rw [h] at h3
            have h4 : u * i = u * (q * (i / q) + e) := by rw [h3]
            rw [h4, ← hd', Nat.mul_add, ← Nat.mul_assoc, Nat.mul_comm u q]
          rw [hi2, show i / q + (n / q * (i / q) + u * e) = n / q * (i / q) + (i / q + u * e) by omega, rr_pers P.m1 P.m2]
        · rw [if_neg h, if_neg h]
      rw [e1, P.sum (fun i => c i * (if eOf n q i = e then rr (phiF (n / q)) (tOf n q i + u * e) j else 0))]
      obtain ⟨c1, c2⟩ := P.crt
      rw [sm_one he2 fun e' he' hne => sm_zeros fun t ht => by rw [(c2 e' t he' ht).1, if_neg hne, Int.mul_zero]]
      have hf : Rec (phiF (n / q)) (fi (n / q)) (fun t => rr (phiF (n / q)) (t + u * e) j) := fun s => by
        refine Eq.trans ?_ (rr_rec P.monm (s + u * e) j)
        exact sm_congr fun i _ => by show _ * rr _ (s + i + u * e) j = _; rw [show s + i + u * e = s + u * e + i by omega]
      have := val_rec P.monm hf (n / q) (part n q e c)
      refine Eq.trans (sm_congr fun t ht => ?_) this
      rw [(c2 e t he2 ht).1, if_pos rfl, (c2 e t he2 ht).2.1]; rfl
    have hst : ∀ j, vp n q e c j = sm (fi (n / q)) (fun i => vp n q e c i * rr (phiF (n / q)) (i + u * e) j) := fun j => by
      have := P.wd he2 (c := sg n (1 + n / q) c) (c' := c) hfx j
      rw [dp, dp, if_pos hz, if_pos hz, Int.sub_zero, Int.sub_zero, hvp] at this
      exact this.symm
    have hit : ∀ a j, vp n q e c j = sm (fi (n / q)) (fun i => vp n q e c i * rr (phiF (n / q)) (i + u * (e * a)) j) := fun a => by
      induction a with
      | zero =>
        intro j
        rw [Nat.mul_zero, Nat.mul_zero]
        by_cases hj : j < fi (n / q)
        · rw [sm_one hj fun i hi hne => by rw [Nat.add_zero, rr_unit P.monm i hi j hj, if_neg (Ne.symm hne), Int.mul_zero], Nat.add_zero, rr_unit P.monm j hj j hj, if_pos rfl, Int.mul_one]
        · rw [vp, val_ge P.monm _ _ (by omega)]
          exact (sm_zeros fun i _ => by rw [rr_ge P.monm _ (by omega), Int.mul_zero]).symm
      | succ a ih =>
        intro j
        rw [hst j]
        have hf : Rec (phiF (n / q)) (fi (n / q)) (fun t => rr (phiF (n / q)) t j) := fun s => rr_rec P.monm s j
        have e1 : sm (fi (n / q)) (fun i => vp n q e c i * rr (phiF (n / q)) (i + u * e) j) = sm (fi (n / q)) (fun i => sm (fi (n / q)) (fun l => vp n q e c l * rr (phiF (n / q)) (l + u * (e * a)) i * rr (phiF (n / q)) (i + u * e) j)) := sm_congr fun i _ => by
          conv => lhs; rw [ih i]
          rw [sm_mulr]
        rw [e1, sm_swap]
        refine sm_congr fun l _ => ?_
        have := rec_lin P.monm hf (l + u * (e * a)) (u * e)
        rw [show l + u * (e * (a + 1)) = l + u * (e * a) + u * e by rw [Nat.mul_add e, Nat.mul_one, Nat.mul_add]; omega, this, ← sm_mul]
        exact sm_congr fun i _ => by rw [Int.mul_assoc]
    have hsum : (q : Int) * vp n q e c j = 0 := by
      have e1 : (q : Int) * vp n q e c j = sm q (fun a => vp n q e c j) := by
        have : ∀ t : Nat, (t : Int) * vp n q e c j = sm t (fun _ => vp n q e c j) := fun t => by
          induction t with
          | zero => simp [sm_zero]
          | succ t ih => rw [sm_succ, ← ih, show ((t + 1 : Nat) : Int) = (t : Int) + 1 by omega, Int.add_mul, Int.one_mul]
        exact this q
      rw [e1, sm_congr fun a _ => hit a j, sm_swap]
      refine sm_zeros fun i _ => ?_
      rw [sm_mul]
      have hgeo : sm q (fun a => rr (phiF (n / q)) (i + u * (e * a)) j) = 0 := by
        have h4 := List.all_eq_true.1 b4 e (List.mem_range.2 he2)
        rw [show (e == 0) = false by simp; omega, Bool.false_or, List.any_eq_true] at h4
        obtain ⟨e', he', hee⟩ := h4
        have hee' : e * e' % q = 1 % q := by simpa using hee
        have hq1 : 1 % q = 1 := Nat.mod_eq_of_lt (by omega)
        have key : ∀ a b, a * b % q = 1 % q → ∀ x, x < q → b * (a * x % q) % q = x := fun a b hab x hx => by
          rw [Nat.mul_mod_mod, ← Nat.mul_assoc, Nat.mul_comm b a, Nat.mul_mod, hab, ← Nat.mul_mod, Nat.one_mul, Nat.mod_eq_of_lt hx]
        have hper : ∀ a, rr (phiF (n / q)) (i + u * (e * a)) j = rr (phiF (n / q)) (u * (e * a % q) + i) j := fun a => by
          have : i + u * (e * a) = n / q * (e * a / q) + (u * (e * a % q) + i) := by
            have h5 := Nat.div_add_mod (e * a) q
            have h6 : u * (e * a) = u * (q * (e * a / q) + e * a % q) := by rw [h5]
            rw [h6, Nat.mul_add, ← hd', ← Nat.mul_assoc, Nat.mul_comm u q]; omega
          rw [this, rr_pers P.m1 P.m2]
        rw [sm_congr fun a _ => hper a, sm_bij (fun a => e * a % q) (fun a => e' * a % q) (fun a _ => Nat.mod_lt _ (by omega)) (fun a _ => Nat.mod_lt _ (by omega)) (key e e' hee') (key e' e (by rw [Nat.mul_comm]; exact hee')) (fun a => rr (phiF (n / q)) (u * a + i) j)]
        have := P'.geo i j
        rw [hu] at this
        exact this
      rw [hgeo, Int.mul_zero]
    rw [dp, if_pos hz, Int.sub_zero]
    rcases Int.mul_eq_zero.1 hsum with h | h
    · omega
    · exact h
  · simp only [show (n / q % q == 0) = false by simp [hz], cond_false] at hB
    have hB := List.all_eq_true.1 hB e (List.mem_range.2 he2)
    rw [show (e == 0) = false by simp; omega, Bool.false_or, List.any_eq_true] at hB
    obtain ⟨k, hk, hB⟩ := hB
    simp only [Bool.and_eq_true, beq_iff_eq] at hB
    obtain ⟨⟨b1, b2⟩, b3⟩ := hB
    have hkn := List.mem_range.1 hk
    have hfx := hfix k hkn b1 b2
    have b4 : ∀ e', e' < q → (e' * k % q = 0 → e' = 0) ∧ (e' * k % q = 1 → e' = e) ∧ (e' = e → e' * k % q = 1) := fun e' he' => by
      have := List.all_eq_true.1 b3 e' (List.mem_range.2 he')
      simp only [Bool.and_eq_true, Bool.or_eq_true, beq_iff_eq, bne_iff_ne] at this
      obtain ⟨⟨x, y⟩, z⟩ := this
      exact ⟨fun h => x.resolve_left (fun h' => h' h), fun h => y.resolve_left (fun h' => h' h), fun h => z.resolve_left (fun h' => h' h)⟩
    have hE : ∀ i, eOf n q i = invF (n / q) q * i % q := fun i => by rw [eOf, if_neg hz]
    have hT : ∀ i, tOf n q i = invF q (n / q) * i % (n / q) := fun i => by rw [tOf, if_neg hz]
    have hEk : ∀ i, eOf n q (i * k % n) = eOf n q i * k % q := fun i => by
      rw [hE, hE, Nat.mul_mod, Nat.mod_mod_of_dvd _ ⟨n / q, hd.symm⟩, ← Nat.mul_mod, Nat.mod_mul_mod, Nat.mul_assoc]
    have hTk : ∀ i, tOf n q (i * k % n) = tOf n q i := fun i => by
      rw [hT, hT, Nat.mul_mod, Nat.mod_mod_of_dvd _ ⟨q, by rw [Nat.mul_comm]; exact hd.symm⟩, ← Nat.mul_mod, ← Nat.mul_assoc, Nat.mul_mod, b1, ← Nat.mul_mod, Nat.mul_one]
    have hvp : ∀ e0 e1, e0 < q → (∀ e', e' < q → (e' * k % q = e0 ↔ e' = e1)) → e1 < q → vp n q e0 (sg n k c) j = vp n q e1 c j := fun e0 e1 h0 h1 h2 => by
      rw [P.vp_sg h0, P.vp_sum h2]
      refine sm_congr fun i hi => ?_
      have hei := (P.crt.1 i hi).1
      rw [pF, pF, hEk, hTk]
      by_cases h : eOf n q i = e1
      · rw [if_pos ((h1 _ hei).2 h), if_pos h]
      · rw [if_neg (fun h' => h ((h1 _ hei).1 h')), if_neg h]
    have v0 := hvp 0 0 (by omega) (fun e' he' => ⟨(b4 e' he').1, fun h => by rw [h, Nat.zero_mul, Nat.zero_mod]⟩) (by omega)
    have v1 := hvp 1 e (by omega) (fun e' he' => ⟨(b4 e' he').2.1, (b4 e' he').2.2⟩) he2
    have := P.wd (e := 0) (by omega) (c := sg n k c) (c' := c) hfx j
    rw [dp, dp, if_neg hz, if_neg hz, v0, v1] at this
    rw [dp, if_neg hz]
    omega
end
/-- A canonical number is moved by an automorphism over each smaller field. -/
theorem moved {N : Nat} (hN : N ∈ dvs) {c : Nat → Int} (hb : L1 N c ≤ 3000000) (hirr : stepF N (VV N c) = none) {q : Nat} (hq : q ∈ prOf N) : ∃ k, k < N ∧ k % (N / q) = 1 % (N / q) ∧ Nat.gcd N k = 1 ∧ numF N (sg N k c) ≠ numF N c := by
  obtain ⟨h1, h2⟩ := dvs_le hN
  have P : Pq N q := ⟨h1, h2, hq⟩
  refine Classical.byContradiction fun hno => ?_
  have hfix : ∀ k, k < N → k % (N / q) = 1 % (N / q) → Nat.gcd N k = 1 → ∀ j, j < fi N → val (phiF N) N (sg N k c) j = val (phiF N) N c j := fun k a b g j _ => by
    have : numF N (sg N k c) = numF N c := Classical.byContradiction fun h => hno ⟨k, a, b, g, h⟩
    exact num_inj h1 h2 (Int.le_trans (sg_L1 h1 k c) (by omega)) (by omega) this j
  have h0 := stepF_none hirr q hq
  have := (P.lower c (show L1 N c ≤ 100000000000 by omega)).1 (P.fix hN hfix)
  rw [VV, this] at h0
  cases h0

/-! the powers of a root -/
def k8go (d : Nat) (p r0 : List Int) : Nat → List Int → Bool
  | 0, _ => true
  | k + 1, v => !(v == r0) && k8go d p r0 k (shK d p v (v.getLastD 0))
def k8 (n : Nat) : Bool := let p := phiF n; let d := p.length - 1
  k8go d (p.take d) (RL p 0) (n - d) ((p.take d).map fun x => -x) && (n == 1 || zeroT p (List.replicate n 1))
theorem k8_all : orders.all k8 = true := by decide +kernel
theorem k8go_spec {p : List Int} {d : Nat} (m : Mon p d) : ∀ (t k : Nat), k8go d (p.take d) (RL p 0) t (RL p k) = true → ∀ i, i < t → RL p (k + i) ≠ RL p 0
  | 0, k, _, i, hi => by omega
  | t + 1, k, h, i, hi => by
    rw [k8go, shK_eq m _ (RL_len m k), Bool.and_eq_true] at h
    cases i with
    | zero =>
      intro e
      rw [Nat.add_zero] at e
      rw [e] at h
      simp at h
    | succ i => rw [show k + (i + 1) = k + 1 + i by omega]; exact k8go_spec m t (k + 1) h.2 i (by omega)
theorem root_ne {n k : Nat} (hn : n ∈ orders) (hk0 : k ≠ 0) (hk : k < n) : numF n (dl k 1) ≠ numF n (dl 0 1) := by
  obtain ⟨_, h1, h2⟩ := mem_dvs hn (Nat.dvd_refl n)
  have m := mon h1 h2
  have hf := fi_le h1 h2
  intro he
  have hv : ∀ j, rr (phiF n) k j = rr (phiF n) 0 j := fun j => by
    have := num_inj h1 h2 (by rw [L1_dl hk]; decide) (by rw [L1_dl (by omega)]; decide) he j
    have e : ∀ i, i < n → val (phiF n) n (dl i 1) j = rr (phiF n) i j := fun i hi => by
      rw [val, sm_one hi fun t _ hne => by rw [dl, if_neg hne, Int.zero_mul], dl, if_pos rfl, Int.one_mul]
    rw [e k hk, e 0 (by omega)] at this
    exact this
  by_cases hkd : k < fi n
  · have a := hv k
    rw [rr_unit m k hkd k hkd, rr_unit m 0 (by omega) k hkd, if_pos rfl, if_neg hk0] at a
    omega
  · have h8 := List.all_eq_true.1 k8_all n hn
    have h8 : (k8go (fi n) ((phiF n).take (fi n)) (RL (phiF n) 0) (n - fi n) (((phiF n).take (fi n)).map fun x => -x) && (n == 1 || zeroT (phiF n) (List.replicate n 1))) = true := h8
    rw [Bool.and_eq_true, ← RL_deg m] at h8
    have := k8go_spec m (n - fi n) (fi n) h8.1 (k - fi n) (by omega)
    rw [show fi n + (k - fi n) = k by omega] at this
    exact this (eqD (by rw [RL_len m, RL_len m]) fun j _ => hv j)
theorem root_sum {n : Nat} (hn : n ∈ orders) (hn1 : n ≠ 1) (j : Nat) : val (phiF n) n (fun _ => 1) j = 0 := by
  obtain ⟨_, h1, h2⟩ := mem_dvs hn (Nat.dvd_refl n)
  have h8 := List.all_eq_true.1 k8_all n hn
  have h8 : (k8go (fi n) ((phiF n).take (fi n)) (RL (phiF n) 0) (n - fi n) (((phiF n).take (fi n)).map fun x => -x) && (n == 1 || zeroT (phiF n) (List.replicate n 1))) = true := h8
  rw [Bool.and_eq_true, show (n == 1) = false by simp [hn1], Bool.false_or] at h8
  have := zeroT_val (mon h1 h2) h8.2 j
  rw [List.length_replicate] at this
  refine Eq.trans (sm_congr fun k hk => ?_) this
  show 1 * rr (phiF n) k j = (List.replicate n (1 : Int)).getD k 0 * rr (phiF n) k j
  rw [List.getD_eq_getElem?_getD, List.getElem?_replicate, if_pos hk]; rfl
end
end Go.Proofs.Ythfabknpogbcaaa
/- What the laws CycloRing and CycloGalois ask. -/
namespace Go.Proofs.Ythfabknpogbcaaa
open Go Go.Ay
set_option maxRecDepth 100000
noncomputable section
section
variable {n : Nat} (h1 : 1 ≤ n) (h2 : n ≤ 120)
include h1
/-- A product, summed against a period. -/
theorem conv_sum (a b f : Nat → Int) (hf : ∀ i, f (i % n) = f i) : sm n (fun t => conv n a b t * f t) = sm n (fun i => a i * sm n (fun k => b k * f (i + k))) := by
  have e : sm n (fun t => conv n a b t * f t) = sm n (fun t => sm n (fun i => sm n (fun k => if (i + k) % n = t then a i * b k else 0) * f t)) := sm_congr fun t _ => by rw [conv, sm_mulr]
  rw [e, sm_swap]
  refine sm_congr fun i _ => ?_
  rw [sm_group (fun k => (i + k) % n) (fun k _ => Nat.mod_lt _ (by omega)) (fun k => a i * b k), ← sm_mul]
  exact sm_congr fun k _ => by rw [hf, Int.mul_assoc]
include h2
theorem conv_comm (a b : Nat → Int) (j : Nat) : val (phiF n) n (conv n a b) j = val (phiF n) n (conv n b a) j := by
  rw [val_conv h1 h2, val_conv h1 h2]
  have e : sm n (fun i => a i * sm n (fun k => b k * rr (phiF n) (i + k) j)) = sm n (fun i => sm n (fun k => a i * (b k * rr (phiF n) (i + k) j))) := sm_congr fun i _ => by rw [sm_mul]
  rw [e, sm_swap]
  refine sm_congr fun k _ => ?_
  rw [← sm_mul]
  exact sm_congr fun i _ => by rw [Int.mul_left_comm, Nat.add_comm]
theorem conv_assoc (a b c : Nat → Int) (j : Nat) : val (phiF n) n (conv n (conv n a b) c) j = val (phiF n) n (conv n a (conv n b c)) j := by
  rw [val_conv h1 h2, val_conv h1 h2]
  have p1 : ∀ s i, sm n (fun k => c k * rr (phiF n) (i % n + s + k) j) = sm n (fun k => c k * rr (phiF n) (i + s + k) j) := fun s i => sm_congr fun k _ => by
    rw [← rr_mod h1 h2 (i % n + s + k), Nat.add_assoc (i % n), Nat.mod_add_mod, rr_mod h1 h2, Nat.add_assoc]
  have e1 := conv_sum h1 a b (fun i => sm n (fun k => c k * rr (phiF n) (i + k) j)) (fun i => by
    have := p1 0 i
    simpa using this)
  rw [e1]
  refine sm_congr fun i _ => ?_
  have e2 := conv_sum h1 b c (fun t => rr (phiF n) (i + t) j) (fun t => by rw [← rr_mod h1 h2 (i + t % n), Nat.add_mod_mod, rr_mod h1 h2])
  rw [e2]
  congr 1
  exact sm_congr fun k _ => by
    congr 1
    exact sm_congr fun u _ => by rw [Nat.add_assoc]
theorem conv_add (a b c : Nat → Int) (j : Nat) : val (phiF n) n (conv n a (fun k => b k + c k)) j = val (phiF n) n (fun k => conv n a b k + conv n a c k) j := by
  rw [val_add, val_conv h1 h2, val_conv h1 h2, val_conv h1 h2, ← sm_add]
  refine sm_congr fun i _ => ?_
  rw [← Int.mul_add, ← sm_add]
  congr 1
  exact sm_congr fun k _ => Int.add_mul ..
theorem conv_int (a : Nat → Int) (x : Int) (j : Nat) : val (phiF n) n (conv n a (dl 0 x)) j = val (phiF n) n (fun k => x * a k) j := by
  rw [val_mul, val_conv h1 h2, val, ← sm_mul]
  refine sm_congr fun i _ => ?_
  rw [sm_one (show 0 < n by omega) fun k _ hne => by rw [dl, if_neg hne]; exact Int.zero_mul _, dl, if_pos rfl]
  rw [Nat.add_zero, Int.mul_left_comm]
end
theorem L1_conv_le {n : Nat} (h1 : 1 ≤ n) {a b : Nat → Int} {x y z : Int} (ha : L1 n a ≤ x) (hb : L1 n b ≤ y) (hz : x * y ≤ z) (hx : 0 ≤ x) : L1 n (conv n a b) ≤ z := by
  refine Int.le_trans (conv_L1 h1 a b) (Int.le_trans ?_ hz)
  exact Int.mul_le_mul ha hb (L1_nonneg n b) hx
theorem L1_prod_le {n : Nat} {a b : Nat → Int} {x y z : Int} (ha : L1 n a ≤ x) (hb : L1 n b ≤ y) (hz : x * y ≤ z) (hx : 0 ≤ x) : L1 n a * L1 n b ≤ z := Int.le_trans (Int.mul_le_mul ha hb (L1_nonneg n b) hx) hz
theorem num_len {n : Nat} (h1 : 1 ≤ n) (h2 : n ≤ 120) {c : Nat → Int} (hb : L1 n c ≤ 3000000) : (numF n c).2.length < 1000000 := by
  obtain ⟨N, c', k⟩ := canon n c h1 h2 (by omega)
  have := fi_le k.pos (show N ≤ 120 by have := k.le; omega)
  have := k.le
  rw [k.num]
  show (VV N c').length < 1000000
  rw [VV, vecL_len]; omega
def Ln (X : Int × List Int) : Prop := X.2.length < 1000000

theorem ring_facts {n : Nat} (h1 : 1 ≤ n) (h2 : n ≤ 120) {a b c : Nat → Int} (ha : L1 n a ≤ 72) (hb : L1 n b ≤ 72) (hc : L1 n c ≤ 72) {k : Int} (hk : -99 ≤ k ∧ k ≤ 99) {A B C : Int × List Int} (eA : numF n a = A) (eB : numF n b = B) (eC : numF n c = C) :
    ∃ AB BC ABC S AS AC K KA M Q : Int × List Int, ∃ E : Int, mulF A B = (AB, 0) ∧ mulF B A = (AB, 0) ∧ mulF B C = (BC, 0) ∧ mulF AB C = (ABC, 0) ∧ mulF A BC = (ABC, 0) ∧ addF B C = (S, 0) ∧ addF C B = (S, 0) ∧ mulF A S = (AS, 0) ∧ mulF A C = (AC, 0) ∧ addF AB AC = (AS, 0) ∧
      makeF 1 [k] = (K, 0) ∧ mulF A K = (KA, 0) ∧ scaleF A k = (KA, 0) ∧ scaleF A (-1) = (M, 0) ∧ addF A M = ((1, [0]), 0) ∧ quotF KA k = (Q, E) ∧ (k = 0 ∧ E = 6 ∨ k ≠ 0 ∧ E = 0 ∧ Q = A) ∧
      Ln A ∧ Ln B ∧ Ln C ∧ Ln AB ∧ Ln BC ∧ Ln ABC ∧ Ln S ∧ Ln AS ∧ Ln AC ∧ Ln K ∧ Ln KA ∧ Ln M ∧ Ln Q := by
  subst eA eB eC
  have hab : L1 n (conv n a b) ≤ 5184 := L1_conv_le h1 ha hb (by decide) (by decide)
  have hba : L1 n (conv n b a) ≤ 5184 := L1_conv_le h1 hb ha (by decide) (by decide)
  have hbc : L1 n (conv n b c) ≤ 5184 := L1_conv_le h1 hb hc (by decide) (by decide)
  have hac : L1 n (conv n a c) ≤ 5184 := L1_conv_le h1 ha hc (by decide) (by decide)
  have hs : L1 n (fun i => b i + c i) ≤ 144 := Int.le_trans (L1_add n b c) (by omega)
  have hs' : L1 n (fun i => c i + b i) ≤ 144 := Int.le_trans (L1_add n c b) (by omega)
  have habc : L1 n (conv n (conv n a b) c) ≤ 373248 := L1_conv_le h1 hab hc (by decide) (by decide)
  have has : L1 n (conv n a (fun i => b i + c i)) ≤ 10368 := L1_conv_le h1 ha hs (by decide) (by decide)
  have kk : ab k ≤ 99 := ab_le.2 hk
  have hov : overF k = false := by simp [overF]; omega
  have h0 := L1_nonneg n a
  have hka0 : ab k * L1 n a ≤ 99 * 72 := Int.mul_le_mul kk ha h0 (by decide)
  have hka : L1 n (fun i => k * a i) ≤ 7128 := by rw [L1_mul]; exact hka0
  have hma : L1 n (fun i => -1 * a i) ≤ 72 := by rw [L1_mul]; show 1 * L1 n a ≤ 72; omega
  have hdl : L1 n (dl 0 k) ≤ 99 := by rw [L1_dl (by omega)]; exact kk
  have c1 : numF n (conv n b a) = numF n (conv n a b) := num_congr fun j _ => conv_comm h1 h2 b a j
  have c2 : numF n (conv n a (conv n b c)) = numF n (conv n (conv n a b) c) := num_congr fun j _ => (conv_assoc h1 h2 a b c j).symm
  have c3 : numF n (fun i => c i + b i) = numF n (fun i => b i + c i) := num_same fun i _ => Int.add_comm ..
  have c4 : numF n (fun i => conv n a b i + conv n a c i) = numF n (conv n a (fun i => b i + c i)) := num_congr fun j _ => (conv_add h1 h2 a b c j).symm
  have c5 : numF n (conv n a (dl 0 k)) = numF n (fun i => k * a i) := num_congr fun j _ => conv_int h1 h2 a k j
  have c6 : numF n (fun i => a i + -1 * a i) = (1, [0]) := by
    rw [← num_one 0, ← num_int h1 h2 (x := 0) (by decide)]
    exact num_same fun i _ => by
      show a i + -1 * a i = dl 0 0 i
      rw [dl]; split <;> omega
  have hq : ∃ Q : Int × List Int, ∃ E : Int, quotF (numF n (fun i => k * a i)) k = (Q, E) ∧ (k = 0 ∧ E = 6 ∨ k ≠ 0 ∧ E = 0 ∧ Q = numF n a) ∧ Ln Q := by
    by_cases k0 : k = 0
    · refine ⟨(0, []), 6, ?_, .inl ⟨k0, rfl⟩, by show (0 : Nat) < 1000000; omega⟩
      rw [quotF, if_neg (by rw [num_check h1 h2 (by omega)]; simp), if_pos k0]
    · exact ⟨_, 0, quot_num h1 h2 (by omega) k0 (by omega), .inr ⟨k0, rfl, rfl⟩, num_len h1 h2 (by omega)⟩
  obtain ⟨Q, E, q1, q2, q3⟩ := hq
  refine ⟨numF n (conv n a b), numF n (conv n b c), numF n (conv n (conv n a b) c), numF n (fun i => b i + c i), numF n (conv n a (fun i => b i + c i)), numF n (conv n a c), numF n (dl 0 k), numF n (fun i => k * a i), numF n (fun i => -1 * a i), Q, E, ?_, ?_, ?_, ?_, ?_, ?_, ?_, ?_, ?_, ?_, ?_, ?_, ?_, ?_, ?_, q1, q2, ?_, ?_, ?_, ?_, ?_, ?_, ?_, ?_, ?_, ?_, ?_, ?_, q3⟩
  · exact mul_num h1 h2 (by omega) (by omega) (L1_prod_le ha hb (by decide) (by decide))
  · rw [← c1]; exact mul_num h1 h2 (by omega) (by omega) (L1_prod_le hb ha (by decide) (by decide))
  · exact mul_num h1 h2 (by omega) (by omega) (L1_prod_le hb hc (by decide) (by decide))
  · exact mul_num h1 h2 (by omega) (by omega) (L1_prod_le hab hc (by decide) (by decide))
  · rw [← c2]; exact mul_num h1 h2 (by omega) (by omega) (L1_prod_le ha hbc (by decide) (by decide))
  · exact add_num h1 h2 (by omega)
  · rw [← c3]; exact add_num h1 h2 (by omega)
  · exact mul_num h1 h2 (by omega) (by omega) (L1_prod_le ha hs (by decide) (by decide))
  · exact mul_num h1 h2 (by omega) (by omega) (L1_prod_le ha hc (by decide) (by decide))
  · rw [← c4]; exact add_num h1 h2 (by omega)
  · exact int_num h1 h2 (by omega)
  · rw [← c5]; exact mul_num h1 h2 (by omega) (by omega) (L1_prod_le ha hdl (by decide) (by decide))
  · exact scale_num h1 h2 (by omega) hov (by omega)
  · exact scale_num h1 h2 (by omega) (by decide) (by show 1 * L1 n a ≤ 3000000; omega)
  · rw [← c6]; exact add_num h1 h2 (by omega)
  all_goals exact num_len h1 h2 (by omega)

theorem gcd_pred (n : Nat) (h1 : 1 ≤ n) : Nat.gcd n (n - 1) = 1 := by
  have e : n = (n - 1) + 1 := by omega
  generalize n - 1 = m at e
  subst e
  rw [Nat.gcd_comm, Nat.gcd_rec m (m + 1)]
  rcases m with _ | m
  · rfl
  · rcases m with _ | m
    · rfl
    · rw [show (m + 1 + 1 + 1) % (m + 1 + 1) = 1 from by
        rw [Nat.add_mod_left, Nat.mod_eq_of_lt (by omega)]]
      exact Nat.gcd_one_left _
theorem pred_sq (n : Nat) (h1 : 1 ≤ n) : (n - 1) * (n - 1) % n = 1 % n := by
  have e : n = (n - 1) + 1 := by omega
  generalize n - 1 = m at e
  subst e
  rcases m with _ | m
  · rfl
  · have : (m + 1) * (m + 1) = (m + 1 + 1) * m + 1 := by
      rw [Nat.mul_add, Nat.mul_one, Nat.add_mul (m + 1) 1 m, Nat.one_mul]; omega
    rw [this, Nat.mul_add_mod]

theorem gal_facts {n : Nat} (hn : n ∈ dvs) {a b : Nat → Int} (ha : L1 n a ≤ 72) (hb : L1 n b ≤ 72) {j k : Nat} (hj : Nat.gcd n j = 1) (hk : Nat.gcd n k = 1) {A B : Int × List Int} (eA : numF n a = A) (eB : numF n b = B) :
    ∃ JA JB S P JS JP KJA CA NA : Int × List Int, galF A j = (JA, 0) ∧ galF B j = (JB, 0) ∧ addF A B = (S, 0) ∧ mulF A B = (P, 0) ∧ galF S j = (JS, 0) ∧ galF P j = (JP, 0) ∧ addF JA JB = (JS, 0) ∧ mulF JA JB = (JP, 0) ∧ galF JA k = (KJA, 0) ∧ galF A ((j : Int) * k) = (KJA, 0) ∧ galF A (-1) = (CA, 0) ∧ galF CA (-1) = (A, 0) ∧ mulF A CA = (NA, 0) ∧ galF NA (-1) = (NA, 0) ∧ JA.1 = A.1 ∧
      Ln A ∧ Ln B ∧ Ln JA ∧ Ln JB ∧ Ln S ∧ Ln P ∧ Ln JS ∧ Ln JP ∧ Ln KJA ∧ Ln CA ∧ Ln NA := by
  subst eA eB
  obtain ⟨h1, h2⟩ := dvs_le hn
  have hja : L1 n (sg n j a) ≤ 72 := Int.le_trans (sg_L1 h1 j a) ha
  have hjb : L1 n (sg n j b) ≤ 72 := Int.le_trans (sg_L1 h1 j b) hb
  have hs : L1 n (fun i => a i + b i) ≤ 144 := Int.le_trans (L1_add n a b) (by omega)
  have hp : L1 n (conv n a b) ≤ 5184 := L1_conv_le h1 ha hb (by decide) (by decide)
  have hjs : L1 n (sg n j (fun i => a i + b i)) ≤ 144 := Int.le_trans (sg_L1 h1 j _) hs
  have hjp : L1 n (sg n j (conv n a b)) ≤ 5184 := Int.le_trans (sg_L1 h1 j _) hp
  have hkja : L1 n (sg n k (sg n j a)) ≤ 72 := Int.le_trans (sg_L1 h1 k _) hja
  have hca : L1 n (sg n (n - 1) a) ≤ 72 := Int.le_trans (sg_L1 h1 (n - 1) a) ha
  have hna : L1 n (conv n a (sg n (n - 1) a)) ≤ 5184 := L1_conv_le h1 ha hca (by decide) (by decide)
  have gj : ∃ z : Int, (j : Int) = (j : Int) + n * z := ⟨0, by simp⟩
  have gk : ∃ z : Int, (k : Int) = (k : Int) + n * z := ⟨0, by simp⟩
  have gjk : ∃ z : Int, (j : Int) * k = ((j * k : Nat) : Int) + n * z := ⟨0, by simp⟩
  have gm : ∃ z : Int, (-1 : Int) = ((n - 1 : Nat) : Int) + n * z := ⟨-1, by omega⟩
  have hjk : Nat.gcd n (j * k) = 1 := Nat.Coprime.mul_right hj hk
  have hm := gcd_pred n h1
  have back : ∀ j j' : Nat, j * j' % n = 1 % n → ∀ c u, val (phiF n) n (sg n j' (sg n j c)) u = val (phiF n) n c u := fun j j' hh c u => by
    rw [sg_sg h1 h2, sg_mod h1 h2 hh, sg_one h1 h2]
  have hN : (numF n (sg n j a)).1 = (numF n a).1 := by
    have l1 := (gal_num hn (c := a) (by omega) gj hj).2
    have hjn : Nat.gcd n (j % n) = 1 := by rw [Nat.gcd_comm, ← Nat.gcd_rec]; exact hj
    obtain ⟨j', hj', gj', e⟩ := unit_inv hn (Nat.mod_lt _ (by omega)) hjn
    have l2 := (gal_num hn (c := sg n j a) (by omega) (k := (j' : Int)) ⟨0, by simp⟩ gj').2
    rw [num_congr (c' := a) fun u _ => back j j' (by rw [Nat.mod_mul_mod] at e; exact e) a u] at l2
    omega
  refine ⟨numF n (sg n j a), numF n (sg n j b), numF n (fun i => a i + b i), numF n (conv n a b), numF n (sg n j (fun i => a i + b i)), numF n (sg n j (conv n a b)), numF n (sg n k (sg n j a)), numF n (sg n (n - 1) a), numF n (conv n a (sg n (n - 1) a)), ?_, ?_, ?_, ?_, ?_, ?_, ?_, ?_, ?_, ?_, ?_, ?_, ?_, ?_, hN, ?_, ?_, ?_, ?_, ?_, ?_, ?_, ?_, ?_, ?_, ?_⟩
  · exact (gal_num hn (by omega) gj hj).1
  · exact (gal_num hn (by omega) gj hj).1
  · exact add_num h1 h2 (by omega)
  · exact mul_num h1 h2 (by omega) (by omega) (L1_prod_le ha hb (by decide) (by decide))
  · exact (gal_num hn (by omega) gj hj).1
  · exact (gal_num hn (by omega) gj hj).1
  · rw [num_congr (c' := fun i => sg n j a i + sg n j b i) fun u _ => sg_add h1 h2 j a b u]
    exact add_num h1 h2 (by omega)
  · rw [num_congr (c' := conv n (sg n j a) (sg n j b)) fun u _ => sg_conv h1 h2 j a b u]
    exact mul_num h1 h2 (by omega) (by omega) (L1_prod_le hja hjb (by decide) (by decide))
  · exact (gal_num hn (by omega) gk hk).1
  · rw [num_congr (c := sg n k (sg n j a)) (c' := sg n (j * k) a) fun u _ => sg_sg h1 h2 j k a u]
    exact (gal_num hn (by omega) gjk hjk).1
  · exact (gal_num hn (by omega) gm hm).1
  · have := (gal_num hn (c := sg n (n - 1) a) (by omega) gm hm).1
    rw [num_congr (c := sg n (n - 1) (sg n (n - 1) a)) (c' := a) fun u _ => back (n - 1) (n - 1) (pred_sq n h1) a u] at this
    exact this
  · exact mul_num h1 h2 (by omega) (by omega) (L1_prod_le ha hca (by decide) (by decide))
  · have := (gal_num hn (c := conv n a (sg n (n - 1) a)) (by omega) gm hm).1
    rw [num_congr (c := sg n (n - 1) (conv n a (sg n (n - 1) a))) (c' := conv n a (sg n (n - 1) a)) fun u _ => by
      rw [sg_conv h1 h2, conv_comm h1 h2]
      exact conv_wd h1 h2 (fun v _ => back (n - 1) (n - 1) (pred_sq n h1) a v) (fun v _ => rfl) u] at this
    exact this
  all_goals exact num_len h1 h2 (by omega)
end
end Go.Proofs.Ythfabknpogbcaaa
/- Contracts: the laws' own helpers. -/
namespace Go.Proofs.Ythfabknpogbcaaa
open Go Go.Ay
set_option maxRecDepth 100000
noncomputable section

theorem lawroot_ok (n k : Int) (h : H) : Ev T n_law06_root [.int .i64 n, .int .i64 k] h (fun v h' => CycO h' v (rootF n k).1 h.next ∧ Fr h h') := by
  refine Ev_of t_law06_root rfl ?_
  simp (disch := first | omega | (simp only [Qn] <;> omega)) only [go_sem, c_law06_root, initV_eq]
  have hfa : Fr h (h.new (.cells false [.int .i64 0, .nils])) := (Fr.refl h).new _
  have hga : (h.new (.cells false [.int .i64 0, .nils])).get h.next = some (.cells false [.int .i64 0, .nils]) := H.get_new_same ..
  have hna : (h.new (.cells false [.int .i64 0, .nils])).next = h.next + 1 := H.next_new ..
  generalize h.new (.cells false [.int .i64 0, .nils]) = ha at *
  refine (Root_ok n k ha).mono ?_
  rintro v1 h1 ⟨w, rfl, ⟨u, rfl, hu, hfu⟩, hf1⟩
  generalize rootF n k = R at *
  have hst := fun hh id => stV_agg2 hh id 0 (v := .int .i64 R.1.1) (u := u) rfl hu.what.2.1
  have hn1 := hf1.next
  have hg1 := (hf1.get h.next (by omega)).trans hga
  have hr1 := row_two (h := (h1.new (.cells false [.int .i64 0, .nils])).set h1.next (some (.cells false [.int .i64 R.1.1, u]))) (H.get_set_same ..)
  have hr2 := row_two (h := ((h1.new (.cells false [.int .i64 0, .nils])).set h1.next (some (.cells false [.int .i64 R.1.1, u]))).set h.next (some (.cells false [.int .i64 R.1.1, u]))) (H.get_set_same ..)
  simp (disch := first | omega | (simp only [Qn] <;> omega)) only [go_sem, hst, hr1, hg1, hr2]
  have f2 : Fr h1 ((h1.new (.cells false [.int .i64 0, .nils])).set h1.next (some (.cells false [.int .i64 R.1.1, u]))) := ((Fr.refl h1).new _).set (Nat.le_refl _) _
  have hc : CycO h1 (.agg [.int .i64 R.1.1, u]) R.1 ha.next := ⟨u, rfl, hu, hfu⟩
  exact ⟨((hc.mono f2).set (x := h.next) (by omega) _).le (by omega), ((hfa.trans hf1).trans f2).set (Nat.le_refl _) _⟩

theorem lawsame_ok (va vb : V) (a b : Int × List Int) (h : H) (ha : CycV h va a) (hb : CycV h vb b) (hla : a.2.length < 1000000) (hlb : b.2.length < 1000000) :
    Ev T n_law06_same [va, vb] h (fun v h' => v = .bool (decide (a = b)) ∧ Fr h h') := by
  obtain ⟨u, rfl, hu⟩ := ha
  obtain ⟨w, rfl, hw⟩ := hb
  obtain ⟨N, A⟩ := a
  obtain ⟨M, B⟩ := b
  simp only at hu hw hla hlb
  refine Ev_of t_law06_same rfl ?_
  simp (disch := first | omega | (simp only [Qn] <;> omega)) only [go_sem, c_law06_same, initV_eq, boxV_agg2 h (v := .int .i64 N) rfl hu.what.2.1]
  have hfx : Fr h (h.new (.cells false [.int .i64 N, u])) := (Fr.refl h).new _
  have hgx : (h.new (.cells false [.int .i64 N, u])).get h.next = some (.cells false [.int .i64 N, u]) := H.get_new_same ..
  have hnx : (h.new (.cells false [.int .i64 N, u])).next = h.next + 1 := H.next_new ..
  generalize h.new (.cells false [.int .i64 N, u]) = hx at *
  have x0 : hx.cell h.next 0 = some (.int .i64 N) := by rw [H.cell_of hgx]; rfl
  have x1 : hx.cell h.next 1 = some u := by rw [H.cell_of hgx]; rfl
  simp (disch := first | omega | (simp only [Qn] <;> omega)) only [go_sem, boxV_agg2 hx (v := .int .i64 M) rfl hw.what.2.1, x0, x1]
  have hfy : Fr hx (hx.new (.cells false [.int .i64 M, w])) := (Fr.refl hx).new _
  have hgy : (hx.new (.cells false [.int .i64 M, w])).get hx.next = some (.cells false [.int .i64 M, w]) := H.get_new_same ..
  have c1 : (hx.new (.cells false [.int .i64 M, w])).cell hx.next 1 = some w := by rw [H.cell_of hgy]; rfl
  generalize hx.new (.cells false [.int .i64 M, w]) = hy at *
  have y1 : hy.cell h.next 1 = some u := by rw [hfy.cell (by omega)]; exact x1
  have hF := hfx.trans hfy
  by_cases hNM : N = M
  · rw [decide_eq_true hNM]
    simp (disch := first | omega | (simp only [Qn] <;> omega)) only [go_sem, y1, c1]
    refine (same_ok u w A B hy (hu.mono hF) (hw.mono hF) hla hlb).mono ?_
    rintro v3 h3 ⟨rfl, hf3⟩
    simp (disch := first | omega | (simp only [Qn] <;> omega)) only [go_sem]
    exact ⟨by simp [hNM], hF.trans hf3⟩
  · rw [decide_eq_false hNM]
    simp (disch := first | omega | (simp only [Qn] <;> omega)) only [go_sem]
    exact ⟨by simp [hNM], hF⟩

theorem is_ok (va vc : V) (a : Int × List Int) (e n : Int) (c : List Int) (h : H) (ha : CycV h va a) (hc : SI h vc c) (hla : a.2.length < 1000000) (hlc : c.length < 1000000) :
    Ev T n_law06_is [va, .int .i64 e, .int .i64 n, vc] h (fun v h' => v = .bool (decide (e = 0 ∧ a = (n, c))) ∧ Fr h h') := by
  obtain ⟨u, rfl, hu⟩ := ha
  obtain ⟨N, A⟩ := a
  simp only at hu hla
  refine Ev_of t_law06_is rfl ?_
  simp (disch := first | omega | (simp only [Qn] <;> omega)) only [go_sem, c_law06_is, initV_eq, boxV_agg2 h (v := .int .i64 N) rfl hu.what.2.1]
  have hfx : Fr h (h.new (.cells false [.int .i64 N, u])) := (Fr.refl h).new _
  have hgx : (h.new (.cells false [.int .i64 N, u])).get h.next = some (.cells false [.int .i64 N, u]) := H.get_new_same ..
  generalize h.new (.cells false [.int .i64 N, u]) = hx at *
  by_cases he : e = 0
  · rw [decide_eq_true he]
    have hbl := bldV_two (z1 := .int .i64 0) (z2 := .nils) (v := .int .i64 n) (u := vc) rfl rfl hc.what.1 hc.what.2.1
    simp (disch := first | omega | (simp only [Qn] <;> omega)) only [go_sem, row_two hgx, hbl]
    refine (lawsame_ok _ _ (N, A) (n, c) hx ⟨u, rfl, hu.mono hfx⟩ ⟨vc, rfl, hc.mono hfx⟩ hla hlc).mono ?_
    rintro v3 h3 ⟨rfl, hf3⟩
    simp (disch := first | omega | (simp only [Qn] <;> omega)) only [go_sem]
    exact ⟨by simp [he], hfx.trans hf3⟩
  · rw [decide_eq_false he]
    simp (disch := first | omega | (simp only [Qn] <;> omega)) only [go_sem]
    exact ⟨by simp [he], hfx⟩

theorem bad_ok (va : V) (a : Int × List Int) (e w : Int) (h : H) (ha : CycV h va a) (hla : a.2.length < 1000000) :
    Ev T n_law06_bad [va, .int .i64 e, .int .i64 w] h (fun v h' => v = .bool (decide (e = w ∧ a = (0, []))) ∧ Fr h h') := by
  obtain ⟨u, rfl, hu⟩ := ha
  obtain ⟨N, A⟩ := a
  simp only at hu hla
  refine Ev_of t_law06_bad rfl ?_
  simp (disch := first | omega | (simp only [Qn] <;> omega)) only [go_sem, c_law06_bad, initV_eq, boxV_agg2 h (v := .int .i64 N) rfl hu.what.2.1]
  have hfx : Fr h (h.new (.cells false [.int .i64 N, u])) := (Fr.refl h).new _
  have hgx : (h.new (.cells false [.int .i64 N, u])).get h.next = some (.cells false [.int .i64 N, u]) := H.get_new_same ..
  generalize h.new (.cells false [.int .i64 N, u]) = hx at *
  have x0 : hx.cell h.next 0 = some (.int .i64 N) := by rw [H.cell_of hgx]; rfl
  have x1 : hx.cell h.next 1 = some u := by rw [H.cell_of hgx]; rfl
  by_cases he : e = w
  · rw [decide_eq_true he]
    simp (disch := first | omega | (simp only [Qn] <;> omega)) only [go_sem, x0]
    by_cases hN : N = 0
    · rw [decide_eq_true hN]
      simp (disch := first | omega | (simp only [Qn] <;> omega)) only [go_sem, x1, (hu.mono hfx).lens]
      refine ⟨?_, hfx⟩
      congr 1
      rw [Bool.eq_iff_iff]
      simp only [decide_eq_true_eq, he, hN, true_and, Prod.mk.injEq]
      constructor
      · intro h; exact List.eq_nil_of_length_eq_zero (by omega)
      · intro h; rw [h]; rfl
    · rw [decide_eq_false hN]
      simp (disch := first | omega | (simp only [Qn] <;> omega)) only [go_sem]
      exact ⟨by simp [hN], hfx⟩
  · rw [decide_eq_false he]
    simp (disch := first | omega | (simp only [Qn] <;> omega)) only [go_sem]
    exact ⟨by simp [he], hfx⟩

/-! boxes of numbers -/
def Bx (h : H) (id : Nat) (a : Int × List Int) : Prop := ∃ u, h.get id = some (.cells false [.int .i64 a.1, u]) ∧ SI h u a.2 ∧ id < h.next
theorem Bx.mono {h h' : H} {id : Nat} {a : Int × List Int} (b : Bx h id a) (f : Fr h h') : Bx h' id a := by
  obtain ⟨u, h1, h2, h3⟩ := b; exact ⟨u, by rw [f.get id h3]; exact h1, h2.mono f, Nat.lt_of_lt_of_le h3 f.next⟩
def Bxs (h : H) (L : List (Nat × (Int × List Int))) : Prop := ∀ (i : Nat) (p : Nat × (Int × List Int)), L[i]? = some p → Bx h p.1 p.2
theorem Bxs.nil (h : H) : Bxs h [] := fun i p e => by cases e
theorem Bxs.mono {h h' : H} {L : List (Nat × (Int × List Int))} (b : Bxs h L) (f : Fr h h') : Bxs h' L := fun i p e => (b i p e).mono f
theorem Bxs.snoc {h : H} {L : List (Nat × (Int × List Int))} (b : Bxs h L) {id : Nat} {a : Int × List Int} (x : Bx h id a) : Bxs h (L ++ [(id, a)]) := fun i p e => by
  rw [List.getElem?_append] at e
  split at e
  · exact b i p e
  · rename_i hi
    cases hk : i - L.length with
    | zero => rw [hk] at e; cases e; exact x
    | succ k => rw [hk] at e; cases e
/-- A new box, filled. -/
def bxH (h : H) (N : Int) (u : V) : H := (h.new (.cells false [.int .i64 0, .nils])).set h.next (some (.cells false [.int .i64 N, u]))
theorem bxH_eq (h : H) (N : Int) (u : V) : (h.new (.cells false [.int .i64 0, .nils])).set h.next (some (.cells false [.int .i64 N, u])) = bxH h N u := rfl
theorem bxH_fr (h : H) (N : Int) (u : V) : Fr h (bxH h N u) := ((Fr.refl h).new _).set (Nat.le_refl _) _
theorem bxH_bx (h : H) {N : Int} {A : List Int} {u : V} (s : SI h u A) : Bx (bxH h N u) h.next (N, A) := ⟨u, H.get_set_same .., s.mono (bxH_fr h N u), by rw [bxH, H.next_set, H.next_new]; omega⟩
theorem Bx.cv {h : H} {id : Nat} {a : Int × List Int} (b : Bx h id a) : ∃ u, h.row id 0 2 = some [.int .i64 a.1, u] ∧ CycV h (.agg [.int .i64 a.1, u]) a := by
  obtain ⟨u, h1, h2, _⟩ := b; exact ⟨u, row_two h1, u, rfl, h2⟩
end
end Go.Proofs.Ythfabknpogbcaaa
/- Literals and boxes for straight walks. -/
namespace Go.Proofs.Ythfabknpogbcaaa
open Go Go.Ay
set_option maxRecDepth 100000
noncomputable section

theorem bls_one (h : H) (a : Int) : blsV h 1 [.int .i64 0] 1 [(0, 1, .int .i64 a)] = some (.sl h.next 0 1 (.kn 1), h.new (.cells false (ints [a]))) := rfl
theorem bls_two (h : H) (a b : Int) : blsV h 1 [.int .i64 0] 2 [(0, 1, .int .i64 a), (1, 1, .int .i64 b)] = some (.sl h.next 0 2 (.kn 2), h.new (.cells false (ints [a, b]))) := rfl
theorem bls_four (h : H) (a b c d : Int) : blsV h 1 [.int .i64 0] 4 [(0, 1, .int .i64 a), (1, 1, .int .i64 b), (2, 1, .int .i64 c), (3, 1, .int .i64 d)] = some (.sl h.next 0 4 (.kn 4), h.new (.cells false (ints [a, b, c, d]))) := rfl
theorem bls_five (h : H) (a b c d e : Int) : blsV h 1 [.int .i64 0] 5 [(0, 1, .int .i64 a), (1, 1, .int .i64 b), (2, 1, .int .i64 c), (3, 1, .int .i64 d), (4, 1, .int .i64 e)] = some (.sl h.next 0 5 (.kn 5), h.new (.cells false (ints [a, b, c, d, e]))) := rfl
theorem bls_six (h : H) (a b c d e f : Int) : blsV h 1 [.int .i64 0] 6 [(0, 1, .int .i64 a), (1, 1, .int .i64 b), (2, 1, .int .i64 c), (3, 1, .int .i64 d), (4, 1, .int .i64 e), (5, 1, .int .i64 f)] = some (.sl h.next 0 6 (.kn 6), h.new (.cells false (ints [a, b, c, d, e, f]))) := rfl
/-- A literal list. -/
theorem lit_si (h : H) (l : List Int) (n : Nat) (hn : l.length = n) : SI (h.new (.cells false (ints l))) (.sl h.next 0 n (.kn n)) l := by
  subst hn; exact SI.own (h := h.new (.cells false (ints l))) (id := h.next) (by rw [H.next_new]; omega) (H.get_new_same ..) _
theorem lit_fr (h : H) (l : List Int) : Fr h (h.new (.cells false (ints l))) := (Fr.refl h).new _
theorem Bx.cv' {h : H} {id : Nat} {N : Int} {A : List Int} (b : Bx h id (N, A)) : ∃ u, h.row id 0 2 = some [.int .i64 N, u] ∧ CycV h (.agg [.int .i64 N, u]) (N, A) := b.cv
theorem Bxs.at {h : H} {L : List (Nat × (Int × List Int))} (b : Bxs h L) (i id : Nat) (N : Int) (A : List Int) (e : L[i]? = some (id, (N, A))) : ∃ u, h.row id 0 2 = some [.int .i64 N, u] ∧ CycV h (.agg [.int .i64 N, u]) (N, A) := (b i _ e).cv'
/-- A literal struct. -/
theorem lit_bld (n : Int) (vc : V) {h : H} {l : List Int} (hc : SI h vc l) : bldV [.int .i64 0, .nils] [(0, 1, .int .i64 n), (1, 1, vc)] = some (.agg [.int .i64 n, vc]) :=
  bldV_two (z1 := .int .i64 0) (z2 := .nils) (v := .int .i64 n) (u := vc) rfl rfl hc.what.1 hc.what.2.1
theorem nil_bld : bldV [.int .i64 0, .nils] [] = some (.agg [.int .i64 0, .nils]) := rfl
end
end Go.Proofs.Ythfabknpogbcaaa
/- Contracts: the chapter's examples. -/
namespace Go.Proofs.Ythfabknpogbcaaa
open Go Go.Ay
set_option maxRecDepth 100000
noncomputable section
theorem lives_val0 : rootF 6 1 = ((3, [1, 1]), 0) := by decide +kernel
theorem lives_val1 : rootF 8 1 = ((8, [0, 1, 0, 0]), 0) := by decide +kernel
theorem lives_val2 : rootF 8 7 = ((8, [0, 0, 0, -1]), 0) := by decide +kernel
theorem lives_val3 : addF (8, [0, 1, 0, 0]) (8, [0, 0, 0, -1]) = ((8, [0, 1, 0, -1]), 0) := by decide +kernel
theorem lives_val4 : mulF (8, [0, 1, 0, -1]) (8, [0, 1, 0, -1]) = ((1, [2]), 0) := by decide +kernel

set_option maxHeartbeats 8000000 in
theorem lives_ok (h : H) : Ev T n_law06_lives [] h (fun v h' => v = .bool true ∧ Fr h h') := by
  refine Ev_of t_law06_lives rfl ?_
  simp (disch := first | omega | (simp only [Qn] <;> omega)) only [go_sem, c_law06_lives, initV_eq]
  have g := Fr.refl h
  have b := Bxs.nil h
  refine (Root_ok 6 1 h).mono ?_
  rintro v1 h1 ⟨w, rfl, ⟨u1, rfl, hu1, -⟩, f1⟩
  simp only [lives_val0] at hu1 ⊢
  have st := fun hh id => stV_agg2 hh id 0 (v := .int .i64 3) (u := u1) rfl hu1.what.2.1
  simp (disch := first | omega | (simp only [Qn] <;> omega)) only [go_sem, decide_true, st, bxH_eq]
  have fx := f1.trans (bxH_fr h1 3 u1)
  replace b := b.mono (fx)
  replace g := g.trans (fx)
  replace b := b.snoc (bxH_bx h1 (N := 3) hu1)
  clear fx st hu1
  generalize h1.next = i1 at *
  generalize bxH h1 3 u1 = k1 at *
  refine (lawroot_ok 8 1 _).mono ?_
  rintro w2 k2 ⟨c2, f2⟩
  rw [lives_val1] at c2
  replace b := b.mono (f2)
  replace g := g.trans (f2)
  simp (disch := first | omega | (simp only [Qn] <;> omega)) only [go_sem, decide_true]
  refine (lawroot_ok 8 7 _).mono ?_
  rintro w3 k3 ⟨c3, f3⟩
  rw [lives_val2] at c3
  replace b := b.mono (f3)
  replace g := g.trans (f3)
  simp (disch := first | omega | (simp only [Qn] <;> omega)) only [go_sem, decide_true]
  refine (add_ok w2 w3 _ _ k3 (c2.mono f3).cv c3.cv (by decide) (by decide)).mono ?_
  rintro v4 h4 ⟨w, rfl, ⟨u4, rfl, hu4, -⟩, f4⟩
  simp only [lives_val3] at hu4 ⊢
  have st := fun hh id => stV_agg2 hh id 0 (v := .int .i64 8) (u := u4) rfl hu4.what.2.1
  simp (disch := first | omega | (simp only [Qn] <;> omega)) only [go_sem, decide_true, st, bxH_eq]
  have fx := f4.trans (bxH_fr h4 8 u4)
  replace b := b.mono (fx)
  replace g := g.trans (fx)
  replace b := b.snoc (bxH_bx h4 (N := 8) hu4)
  clear fx st hu4
  generalize h4.next = i4 at *
  generalize bxH h4 8 u4 = k4 at *
  obtain ⟨u5, r5, c5⟩ := b.at 1 i4 8 [0, 1, 0, -1] rfl
  simp (disch := first | omega | (simp only [Qn] <;> omega)) only [go_sem, decide_true, r5]
  refine (mul_ok _ _ _ _ _ c5 c5 (by decide) (by decide)).mono ?_
  rintro v6 h6 ⟨w, rfl, ⟨u6, rfl, hu6, -⟩, f6⟩
  simp only [lives_val4] at hu6 ⊢
  have st := fun hh id => stV_agg2 hh id 0 (v := .int .i64 1) (u := u6) rfl hu6.what.2.1
  simp (disch := first | omega | (simp only [Qn] <;> omega)) only [go_sem, decide_true, st, bxH_eq]
  have fx := f6.trans (bxH_fr h6 1 u6)
  replace b := b.mono (fx)
  replace g := g.trans (fx)
  replace b := b.snoc (bxH_bx h6 (N := 1) hu6)
  clear fx st hu6
  generalize h6.next = i6 at *
  generalize bxH h6 1 u6 = k6 at *
  obtain ⟨u7, r7, c7⟩ := b.at 0 i1 3 [1, 1] rfl
  simp (disch := first | omega | (simp only [Qn] <;> omega)) only [go_sem, decide_true, r7, bls_two]
  refine (is_ok _ _ _ 0 3 [1, 1] _ (c7.mono (lit_fr _ [1, 1])) (lit_si _ [1, 1] 2 rfl) (by decide) (by decide)).mono ?_
  rintro v8 k8 ⟨rfl, f8⟩
  rw [show decide ((0 : Int) = 0 ∧ ((3, [1, 1]) : Int × List Int) = (3, [1, 1])) = true from by decide]
  replace b := b.mono ((lit_fr _ [1, 1]).trans f8)
  replace g := g.trans ((lit_fr _ [1, 1]).trans f8)
  obtain ⟨u9, r9, c9⟩ := b.at 1 i4 8 [0, 1, 0, -1] rfl
  simp (disch := first | omega | (simp only [Qn] <;> omega)) only [go_sem, decide_true, r9, bls_four]
  refine (is_ok _ _ _ 0 8 [0, 1, 0, -1] _ (c9.mono (lit_fr _ [0, 1, 0, -1])) (lit_si _ [0, 1, 0, -1] 4 rfl) (by decide) (by decide)).mono ?_
  rintro v10 k10 ⟨rfl, f10⟩
  rw [show decide ((0 : Int) = 0 ∧ ((8, [0, 1, 0, -1]) : Int × List Int) = (8, [0, 1, 0, -1])) = true from by decide]
  replace b := b.mono ((lit_fr _ [0, 1, 0, -1]).trans f10)
  replace g := g.trans ((lit_fr _ [0, 1, 0, -1]).trans f10)
  obtain ⟨u11, r11, c11⟩ := b.at 2 i6 1 [2] rfl
  simp (disch := first | omega | (simp only [Qn] <;> omega)) only [go_sem, decide_true, r11, bls_one]
  refine (is_ok _ _ _ 0 1 [2] _ (c11.mono (lit_fr _ [2])) (lit_si _ [2] 1 rfl) (by decide) (by decide)).mono ?_
  rintro v12 k12 ⟨rfl, f12⟩
  rw [show decide ((0 : Int) = 0 ∧ ((1, [2]) : Int × List Int) = (1, [2])) = true from by decide]
  replace b := b.mono ((lit_fr _ [2]).trans f12)
  replace g := g.trans ((lit_fr _ [2]).trans f12)
  simp (disch := first | omega | (simp only [Qn] <;> omega)) only [go_sem, decide_true]
  exact g
end
end Go.Proofs.Ythfabknpogbcaaa
/- Contracts: the helpers of the laws. -/
namespace Go.Proofs.Ythfabknpogbcaaa
open Go Go.Ay
set_option maxRecDepth 100000
noncomputable section

/-- One object alone may have changed. -/
structure Fx (x : Nat) (h h' : H) : Prop where
  next : h.next ≤ h'.next
  get : ∀ id, id < h.next → id ≠ x → h'.get id = h.get id
theorem Fx.refl (x : Nat) (h : H) : Fx x h h := ⟨Nat.le_refl _, fun _ _ _ => rfl⟩
theorem Fx.of {x : Nat} {h h' : H} (f : Fr h h') : Fx x h h' := ⟨f.next, fun id hid _ => f.get id hid⟩
theorem Fx.trans {x : Nat} {a b c : H} (f : Fx x a b) (g : Fx x b c) : Fx x a c := ⟨Nat.le_trans f.next g.next, fun id hid hx => (g.get id (Nat.lt_of_lt_of_le hid f.next) hx).trans (f.get id hid hx)⟩
theorem Fx.set {x : Nat} {a b : H} (f : Fx x a b) (o : Option Ob) : Fx x a (b.set x o) := ⟨f.next, fun id hid hx => (H.get_set_ne b hx o).trans (f.get id hid hx)⟩
theorem Fx.setf {x : Nat} {a b : H} (f : Fx x a b) {y : Nat} (hy : a.next ≤ y) (o : Option Ob) : Fx x a (b.set y o) := ⟨f.next, fun id hid hx => (H.get_set_ne b (by omega) o).trans (f.get id hid hx)⟩
/-- Below the object, nothing has. -/
theorem Fx.fr {x : Nat} {a b c : H} (f : Fr a b) (hx : a.next ≤ x) (g : Fx x b c) : Fr a c := ⟨Nat.le_trans f.next g.next, fun id hid => (g.get id (Nat.lt_of_lt_of_le hid f.next) (by omega)).trans (f.get id hid)⟩
theorem SI.fx {h h' : H} {x lo : Nat} {u : V} {l : List Int} (s : SI h u l) (fs : Frs u lo) (hx : x < lo) (f : Fx x h h') : SI h' u l := by
  rcases s with s | ⟨id, off, len, cap, ro, vs, rfl, h2, h3, h4, h5, h6⟩
  · exact .inl s
  · have hid := fs _ _ _ _ rfl
    exact .inr ⟨id, off, len, cap, ro, vs, rfl, h2, Nat.lt_of_lt_of_le h3 f.next, by rw [f.get id h3 (by omega)]; exact h4, h5, h6⟩

/-- A taker of numbers. -/
def Tk (h : H) (x : Nat) (l : List Int) : Prop := ∃ vl, ∃ a : Nat, h.get x = some (.cells false [vl, .int .i64 (a : Int)]) ∧ SI h vl l ∧ (∀ id off len c, vl = .sl id off len c → id < x) ∧ a ≤ l.length ∧ x < h.next
theorem Tk.mono {h h' : H} {x : Nat} {l : List Int} (t : Tk h x l) (f : Fr h h') : Tk h' x l := by
  obtain ⟨vl, a, h1, h2, h3, h4, h5⟩ := t
  exact ⟨vl, a, (f.get x h5).trans h1, h2.mono f, h3, h4, Nat.lt_of_lt_of_le h5 f.next⟩
/-- What lies up to the taker is as it was. -/
theorem Tk.low {h h' : H} {x : Nat} {l : List Int} (t : Tk h x l) (hn : h.next ≤ h'.next) (hg : ∀ id, id ≤ x → h'.get id = h.get id) : Tk h' x l := by
  obtain ⟨vl, a, h1, h2, h3, h4, h5⟩ := t
  refine ⟨vl, a, (hg x (Nat.le_refl _)).trans h1, ?_, h3, h4, Nat.lt_of_lt_of_le h5 hn⟩
  rcases h2 with h0 | ⟨id, off, len, cap, ro, vs, e, q2, q3, q4, q5, q6⟩
  · exact .inl h0
  · have := h3 _ _ _ _ e
    exact .inr ⟨id, off, len, cap, ro, vs, e, q2, Nat.lt_of_lt_of_le q3 hn, (hg id (by omega)).trans q4, q5, q6⟩
theorem Tk.set {h : H} {x y : Nat} {l : List Int} (t : Tk h x l) (hy : h.next ≤ y) (o : Option Ob) : Tk (h.set y o) x l := t.mono ((Fr.refl h).set hy o)

theorem tmod_range (a : Int) {n : Int} (hn : 0 < n) : 0 ≤ a % n ∧ a % n < n := ⟨Int.emod_nonneg a (by omega), Int.emod_lt_of_pos a hn⟩

set_option maxHeartbeats 1000000 in
theorem take_ok (x : Nat) (l : List Int) (n : Int) (h : H) (ht : Tk h x l) (hl : l.length < 1000000) (hn : 1 ≤ n) (hn2 : n < 1000000000) :
    Ev T n_kit_Taker_Take [.ptr x 0, .int .i64 n] h (fun v h' => ∃ z, v = .int .i64 z ∧ 0 ≤ z ∧ z < n ∧ Tk h' x l ∧ Fx x h h') := by
  obtain ⟨vl, a, hg, hs, hne, ha, hx⟩ := ht
  refine Ev_of t_kit_Taker_Take rfl ?_
  have g0 : h.cell x 0 = some vl := by rw [H.cell_of hg]; rfl
  have g1 : h.cell x 1 = some (.int .i64 (a : Int)) := by rw [H.cell_of hg]; rfl
  have ev : eqV vl vl = true := SV.eqV hs
  obtain ⟨id, off, hsl, hid, hc⟩ := hs.open
  simp (disch := first | omega | (simp only [Qn] <;> omega)) only [go_sem, c_kit_Taker_Take, initV_eq, g0, g1, hs.lens, ev]
  by_cases hal : (l.length : Int) ≤ (a : Int)
  · rw [decide_eq_true hal]
    simp (disch := first | omega | (simp only [Qn] <;> omega)) only [go_sem]
    exact ⟨0, rfl, by omega, by omega, ⟨vl, a, hg, hs.mono ((Fr.refl h).bump (by omega)), hne, ha, by show x < h.next + 14; omega⟩, Fx.of ((Fr.refl h).bump (by omega))⟩
  · rw [decide_eq_false hal]
    simp (disch := first | omega | (simp only [Qn] <;> omega)) only [go_sem]
    rw [decide_eq_false (show ¬ n < 1 by omega)]
    simp (disch := first | omega | (simp only [Qn] <;> omega)) only [go_sem, g1, hg]
    have hne2 : id ≠ x := by
      intro e
      have := hsl.ixa .i64 0 (by omega) (by omega)
      rcases hs with ⟨rfl, h0⟩ | ⟨id', o', len', cap', _, _, rfl, _⟩
      · have : (ints l).length = 0 := by rw [h0]; rfl
        rw [ints_length] at this; omega
      · have hll : len' = l.length := Option.some.inj hsl.len
        rw [ixaV_sl (by omega) (by omega)] at this
        simp only [Option.some.injEq, V.ptr.injEq] at this
        have := hne _ _ _ _ rfl; omega
    have c0 : h.cell id (off + a) = some (.int .i64 (l.getD a 0)) := hc a (by omega)
    have ea : ((a : Int) + 1 - 1).toNat = a := by omega
    simp (disch := first | omega | (simp only [Qn] <;> omega)) only [go_sem, g0, g1, hg, hsl.ixa, c0, ev, ea]
    have hgg : ∀ m, (H.mk ((H.mk h.tr (h.next + 14)).set x (some (.cells false [vl, .int .i64 ((a : Int) + 1)]))).tr m).get x = some (.cells false [vl, .int .i64 ((a : Int) + 1)]) := fun m => H.get_set_same ..
    have hfx : Fx x h (H.mk ((H.mk h.tr (h.next + 14)).set x (some (.cells false [vl, .int .i64 ((a : Int) + 1)]))).tr (h.next + 14 + 14)) := ⟨by show h.next ≤ h.next + 14 + 14; omega, fun id hid hne => H.get_set_ne _ hne _⟩
    have hnn : (H.mk ((H.mk h.tr (h.next + 14)).set x (some (.cells false [vl, .int .i64 ((a : Int) + 1)]))).tr (h.next + 14 + 14)).next = h.next + 14 + 14 := rfl
    have hgx := hgg (h.next + 14 + 14)
    generalize H.mk ((H.mk h.tr (h.next + 14)).set x (some (.cells false [vl, .int .i64 ((a : Int) + 1)]))).tr (h.next + 14 + 14) = h2 at *
    refine (pick_ok (l.getD a 0) n h2 (by omega) hn2).mono ?_
    rintro v h3 ⟨rfl, rfl⟩
    have k0 : h3.cell x 0 = some vl := by rw [H.cell_of hgx]; rfl
    have k1 : h3.cell x 1 = some (.int .i64 ((a : Int) + 1)) := by rw [H.cell_of hgx]; rfl
    simp (disch := first | omega | (simp only [Qn] <;> omega)) only [go_sem, k0, k1, ev]
    have hr := tmod_range (l.getD a 0) (show 0 < n by omega)
    refine ⟨_, rfl, hr.1, hr.2, ⟨vl, a + 1, ?_, ?_, hne, by omega, by omega⟩, hfx⟩
    · rw [hgx]; simp
    · rcases hs with h0 | ⟨id', o', len', cap', ro, vs, rfl, q2, q3, q4, q5, q6⟩
      · exact .inl h0
      · exact .inr ⟨id', o', len', cap', ro, vs, rfl, q2, by omega, (hfx.get id' q3 (fun e => by have := hne _ _ _ _ rfl; omega)).trans q4, q5, q6⟩

set_option maxHeartbeats 2000000 in
theorem small_ok (x : Nat) (l : List Int) (n : Nat) (h : H) (ht : Tk h x l) (hl : l.length < 1000000) (h1 : 1 ≤ n) (h2 : n ≤ 120) :
    Ev T n_law06_small [.ptr x 0, .int .i64 (n : Int)] h (fun v h' => ∃ c, L1 n c ≤ 72 ∧ ∃ w, v = .tup [w, .int .i64 0] ∧ CycO h' w (numF n c) h.next ∧ Tk h' x l ∧ Fx x h h') := by
  refine Ev_of t_law06_small rfl ?_
  have hxl : x < h.next := by obtain ⟨_, _, _, _, _, _, h⟩ := ht; exact h
  simp (disch := first | omega | (simp only [Qn] <;> omega)) only [go_sem, c_law06_small, initV_eq]
  have hfa : Fr h (h.new (.cells false [.int .i64 0, .nils])) := (Fr.refl h).new _
  have hga : (h.new (.cells false [.int .i64 0, .nils])).get h.next = some (.cells false [.int .i64 0, .nils]) := H.get_new_same ..
  have hna : (h.new (.cells false [.int .i64 0, .nils])).next = h.next + 1 := H.next_new ..
  generalize h.new (.cells false [.int .i64 0, .nils]) = ha at *
  have hta := ht.mono hfa
  refine Wp_loop (fun k' vars h3 => ∃ (i : Nat) (u : V) (c : List Int), (∃ g : Nat → V, vars = [.ptr x 0, .int .i64 (n : Int), .ptr h.next 0, g 3, u, .int .i64 (i : Int), g 6]) ∧ i ≤ n ∧ i ≤ 8 ∧ c.length = i ∧ (∀ z ∈ c, -9 ≤ z ∧ z ≤ 9) ∧ Own h3 u 1 (ints c) (h.next + 1) ∧ Tk h3 x l ∧ Fx x ha h3 ∧ k' = 8 - i) 8
    ⟨0, .nils, [], ex_junk rfl, Nat.zero_le _, Nat.zero_le _, rfl, by simp, Own.nils _ _ _, hta, Fx.refl x ha, rfl⟩ ?_
  rintro k' vars h3 ⟨i, u, c, ⟨g, rfl⟩, hin, hi8, hcl, hcz, ho, ht3, hf3, rfl⟩
  have hn3 := hf3.next
  simp (disch := first | omega | (simp only [Qn] <;> omega)) only [go_sem]
  have main : ∀ (hi : i = n ∨ i = 8), SI h3 u c → Ev T n_cyclo_Make [.int .i64 (n : Int), u] h3 (fun v h' => ∃ d, L1 n d ≤ 72 ∧ ∃ w, v = .tup [w, .int .i64 0] ∧ CycO h' w (numF n d) h3.next ∧ Fr h3 h') := fun hi hs => by
    refine (make_ok n u c h3 hs (by omega)).mono ?_
    rintro v h4 ⟨w, rfl, hw, hf4⟩
    have hL : L1 n (fun k => c.getD k 0) ≤ 72 := by
      have hsm : L1 n (fun k => c.getD k 0) = sm c.length (fun k => ab (c.getD k 0)) := sm_more (by omega) fun k a b => by
        show ab (c.getD k 0) = 0
        rw [List.getD_eq_getElem?_getD, List.getElem?_eq_none (by omega)]; rfl
      rw [hsm]
      have := sm_const_le (n := c.length) (f := fun k => ab (c.getD k 0)) (K := 9) fun k hk => by
        rw [ab_le]
        refine hcz _ ?_
        rw [List.getD_eq_getElem?_getD, List.getElem?_eq_getElem hk]
        exact List.getElem_mem _
      omega
    have hmk : makeF (n : Int) c = (numF n (fun k => c.getD k 0), 0) := make_num h1 h2 (by omega) (by
      rw [List.any_eq_false]
      intro z hz
      have := hcz z hz
      simp [overF]; omega) (fun j _ => by
        refine (sm_more (by omega) fun k a b => ?_).symm
        show c.getD k 0 * _ = 0
        rw [List.getD_eq_getElem?_getD, List.getElem?_eq_none (by omega)]; exact Int.zero_mul _) (by omega)
    rw [hmk] at hw
    exact ⟨_, hL, w, by rw [hmk], hw, hf4⟩
  have hxa : x ≠ h.next := by omega
  have fin : ∀ (hi : i = n ∨ i = 8), Ev T n_cyclo_Make [.int .i64 (n : Int), u] h3 (fun v h' => ∃ d, L1 n d ≤ 72 ∧ ∃ w, v = .tup [.agg [.int .i64 (numF n d).1, w], .int .i64 0] ∧ SI h' w (numF n d).2 ∧ Frs w h3.next ∧ Tk h' x l ∧ Fx x ha h' ∧ h'.get h.next = some (.cells false [.int .i64 0, .nils])) := fun hi => by
    refine (main hi ho.sv).mono ?_
    rintro v h4 ⟨d, hd, w, rfl, ⟨w', rfl, hw1, hw2⟩, hf4⟩
    refine ⟨d, hd, w', rfl, hw1, hw2, ht3.mono hf4, hf3.trans (Fx.of hf4), ?_⟩
    rw [(hf3.trans (Fx.of hf4)).get h.next (by omega) (by omega)]; exact hga
  by_cases hin2 : (i : Int) < (n : Int)
  · rw [decide_eq_true hin2]
    simp (disch := first | omega | (simp only [Qn] <;> omega)) only [go_sem]
    refine iteW_dec (fun hi => ?_) (fun hi => ?_)
    · simp (disch := first | omega | (simp only [Qn] <;> omega)) only [go_sem]
      refine (take_ok x l 19 h3 ht3 hl (by omega) (by omega)).mono ?_
      rintro v h4 ⟨z, rfl, hz0, hz1, ht4, hf4⟩
      have hn4 := hf4.next
      simp (disch := first | omega | (simp only [Qn] <;> omega)) only [go_sem, bls_int1]
      have ho4 : Own h4 u 1 (ints c) (h.next + 1) := ho.mono hf4.next fun id _ _ _ _ h5 h6 => hf4.get id h6 (by omega)
      obtain ⟨v6, h6, e6, a6⟩ := (ho4.fr ((Fr.refl h4).new (.cells false (ints [z - 9])))).app (bytes := 8) (n := i) (m := 1) (us := ints [z - 9]) (y := .sl h4.next 0 1 (.kn 1)) (by rw [H.next_new]; omega) (Own.new h4 1 1 0 (ints [z - 9]) rfl (Nat.zero_le _)).sv (by rw [ints_length]; omega) rfl (by omega) (by omega)
      simp (disch := first | omega | (simp only [Qn] <;> omega)) only [go_sem, e6]
      have ho6 := a6.own
      rw [← ints_append] at ho6
      have hn6 := a6.next
      rw [H.next_new] at hn6
      have hlow : ∀ id, id < h.next + 1 → h6.get id = h4.get id := fun id hid => by
        have hap : Apart u id := by
          rcases ho4 with ⟨r1, _⟩ | ⟨id', _, _, _, r1, _, _, r2, _⟩
          · rw [r1]; exact Apart.nils _
          · rw [r1]; exact Apart.sl (by omega)
        rw [a6.get id (by rw [H.next_new]; omega) hap, H.get_new_ne _ (by omega)]
      rw [show (i : Int) + 1 = ((i + 1 : Nat) : Int) from by omega]
      refine ⟨8 - (i + 1), by omega, i + 1, v6, _, ex_junk rfl, by omega, by omega, by rw [List.length_append, hcl]; rfl, fun y hy => ?_, ho6, ht4.low (by omega) (fun id hid => hlow id (by omega)), ⟨by omega, fun id hid hne => ?_⟩, rfl⟩
      · rcases List.mem_append.1 hy with hy | hy
        · exact hcz y hy
        · simp at hy; omega
      · rw [hlow id (by omega)]
        exact (hf3.trans hf4).get id hid hne
    · simp (disch := first | omega | (simp only [Qn] <;> omega)) only [go_sem]
      refine (fin (.inr (by omega))).mono ?_
      rintro v h4 ⟨d, hd, w, rfl, hw1, hw2, ht4, hf4, hg4⟩
      have hst3 := fun hh => stV_agg2 hh h.next 0 (v := .int .i64 (numF n d).1) (u := w) rfl hw1.what.2.1
      have hrow := row_two (h := h4.set h.next (some (.cells false [.int .i64 (numF n d).1, w]))) (H.get_set_same ..)
      simp (disch := first | omega | (simp only [Qn] <;> omega)) only [go_sem, hst3, hg4, hrow, List.getElem?_cons_zero, List.getElem?_cons_succ]
      refine ⟨d, hd, _, rfl, ⟨w, rfl, SI.set_frs hw1 (hw2.le (show h.next + 1 ≤ h3.next by omega)) (by omega) _, hw2.le (by omega)⟩, ht4.low (Nat.le_refl _) (fun id hid => H.get_set_ne _ (by omega) _), ((Fx.of hfa).trans hf4).setf (Nat.le_refl _) _⟩
  · rw [decide_eq_false hin2]
    simp (disch := first | omega | (simp only [Qn] <;> omega)) only [go_sem]
    refine (fin (.inl (by omega))).mono ?_
    rintro v h4 ⟨d, hd, w, rfl, hw1, hw2, ht4, hf4, hg4⟩
    have hst3 := fun hh => stV_agg2 hh h.next 0 (v := .int .i64 (numF n d).1) (u := w) rfl hw1.what.2.1
    have hrow := row_two (h := h4.set h.next (some (.cells false [.int .i64 (numF n d).1, w]))) (H.get_set_same ..)
    simp (disch := first | omega | (simp only [Qn] <;> omega)) only [go_sem, hst3, hg4, hrow, List.getElem?_cons_zero, List.getElem?_cons_succ]
    refine ⟨d, hd, _, rfl, ⟨w, rfl, SI.set_frs hw1 (hw2.le (show h.next + 1 ≤ h3.next by omega)) (by omega) _, hw2.le (by omega)⟩, ht4.low (Nat.le_refl _) (fun id hid => H.get_set_ne _ (by omega) _), ((Fx.of hfa).trans hf4).setf (Nat.le_refl _) _⟩

theorem order_ok (k : Int) (h : H) : Ev T n_law06_order [.int .i64 k] h (fun v h' => ∃ n : Nat, v = .int .i64 (n : Int) ∧ n ∈ orders ∧ Fr h h') := by
  refine Ev_of t_law06_order rfl ?_
  have hb : blsV h 1 [.int .i64 0] 26 [(0, 1, .int .i64 1), (1, 1, .int .i64 2), (2, 1, .int .i64 3), (3, 1, .int .i64 4), (4, 1, .int .i64 5), (5, 1, .int .i64 6), (6, 1, .int .i64 7), (7, 1, .int .i64 8), (8, 1, .int .i64 9), (9, 1, .int .i64 10), (10, 1, .int .i64 12), (11, 1, .int .i64 15), (12, 1, .int .i64 16), (13, 1, .int .i64 18), (14, 1, .int .i64 20), (15, 1, .int .i64 21), (16, 1, .int .i64 24), (17, 1, .int .i64 30), (18, 1, .int .i64 35), (19, 1, .int .i64 36), (20, 1, .int .i64 40), (21, 1, .int .i64 45), (22, 1, .int .i64 60), (23, 1, .int .i64 84), (24, 1, .int .i64 105), (25, 1, .int .i64 120)] = some (.sl h.next 0 26 (.kn 26), h.new (.cells false (ints (orders.map Int.ofNat)))) := rfl
  simp (disch := first | omega | (simp only [Qn] <;> omega)) only [go_sem, c_law06_order, initV_eq, hb]
  have hfa : Fr h (h.new (.cells false (ints (orders.map Int.ofNat)))) := (Fr.refl h).new _
  have hga : (h.new (.cells false (ints (orders.map Int.ofNat)))).get h.next = some (.cells false (ints (orders.map Int.ofNat))) := H.get_new_same ..
  have hna : (h.new (.cells false (ints (orders.map Int.ofNat)))).next = h.next + 1 := H.next_new ..
  generalize h.new (.cells false (ints (orders.map Int.ofNat))) = ha at *
  refine (pick_ok k 26 ha (by omega) (by omega)).mono ?_
  rintro v h2 ⟨rfl, rfl⟩
  have hr := tmod_range k (show (0 : Int) < 26 by omega)
  obtain ⟨r, hrr⟩ : ∃ r : Nat, k % 26 = (r : Int) := ⟨(k % 26).toNat, by omega⟩
  rw [hrr] at hr ⊢
  have hol : (orders.map Int.ofNat).length = 26 := rfl
  have hc := own_cell hga r (by omega)
  simp (disch := first | omega | (simp only [Qn] <;> omega)) only [go_sem, hc]
  have hlt : r < orders.length := by show r < 26; omega
  refine ⟨orders[r], ?_, List.getElem_mem _, hfa⟩
  rw [List.getD_eq_getElem?_getD, List.getElem?_map, List.getElem?_eq_getElem hlt]; rfl

set_option maxHeartbeats 1000000 in
theorem prime_ok (n : Nat) (k : Int) (h : H) (h1 : 1 ≤ n) (h2 : n ≤ 120) : Ev T n_law06_prime [.int .i64 (n : Int), .int .i64 k] h (fun v h' => ∃ k' : Nat, v = .int .i64 (k' : Int) ∧ Nat.gcd n k' = 1 ∧ k' ≤ 120001 ∧ Fr h h') := by
  refine Ev_of t_law06_prime rfl ?_
  simp (disch := first | omega | (simp only [Qn] <;> omega)) only [go_sem, c_law06_prime, initV_eq]
  refine (pick_ok k 1000 h (by omega) (by omega)).mono ?_
  rintro v h2' ⟨rfl, rfl⟩
  have hr := tmod_range k (show (0 : Int) < 1000 by omega)
  obtain ⟨r, hrr⟩ : ∃ r : Nat, k % 1000 = (r : Int) := ⟨(k % 1000).toNat, by omega⟩
  rw [hrr] at hr ⊢
  have hK : r ≤ n * r + 1 := by
    have := Nat.mul_le_mul_right r h1
    omega
  have hKb : n * r + 1 ≤ 120001 := by
    have := Nat.mul_le_mul h2 (show r ≤ 1000 by omega)
    omega
  have hKg : Nat.gcd n (n * r + 1) = 1 := by
    rw [show n * r + 1 = r * n + 1 by rw [Nat.mul_comm], Nat.gcd_mul_right_add_right]; simp
  generalize n * r + 1 = K at *
  simp (disch := first | omega | (simp only [Qn] <;> omega)) only [go_sem]
  refine Wp_loop (fun m vars h3 => ∃ (x : Nat), (∃ g : Nat → V, vars = [.int .i64 (n : Int), .int .i64 (x : Int), g 2, g 3, g 4, g 5, g 6]) ∧ x ≤ K ∧ Fr h2' h3 ∧ m = K - x) (K - r)
    ⟨r, ex_junk rfl, hK, Fr.refl h2', rfl⟩ ?_
  rintro m vars h3 ⟨x, ⟨g, rfl⟩, hx, hf3, rfl⟩
  simp (disch := first | omega | (simp only [Qn] <;> omega)) only [go_sem]
  refine Wp_loop (fun m vars h4 => ∃ a b : Nat, (∃ g : Nat → V, vars = [.int .i64 (n : Int), .int .i64 (x : Int), g 2, .int .i64 (a : Int), .int .i64 (b : Int), g 5, g 6]) ∧ Nat.gcd a b = Nat.gcd n x ∧ Fr h2' h4 ∧ m = b) x
    ⟨n, x, ex_junk rfl, rfl, hf3, rfl⟩ ?_
  rintro m vars h4 ⟨a, b, ⟨g, rfl⟩, hgc, hf4, rfl⟩
  simp (disch := first | omega | (simp only [Qn] <;> omega)) only [go_sem]
  refine iteW_dec (fun hb => ?_) (fun hb => ?_)
  · have em : (a : Int).tmod (m : Int) = ((a % m : Nat) : Int) := tmod_nat ..
    simp (disch := first | omega | (simp only [Qn] <;> omega)) only [go_sem, em]
    exact ⟨a % m, Nat.mod_lt _ (by omega), m, a % m, ex_junk rfl, by rw [← hgc, Nat.gcd_comm a m, Nat.gcd_rec m a, Nat.gcd_comm], hf4.bump (by omega), rfl⟩
  · have hb0 : m = 0 := by omega
    subst hb0
    rw [Nat.gcd_zero_right] at hgc
    simp (disch := first | omega | (simp only [Qn] <;> omega)) only [go_sem]
    refine iteW_dec (fun ha => ?_) (fun ha => ?_)
    · simp (disch := first | omega | (simp only [Qn] <;> omega)) only [go_sem]
      exact ⟨x, rfl, by omega, by omega, hf4⟩
    · simp (disch := first | omega | (simp only [Qn] <;> omega)) only [go_sem]
      have hne : x ≠ K := fun e => by rw [e, hKg] at hgc; omega
      rw [show (x : Int) + 1 = ((x + 1 : Nat) : Int) from by omega]
      exact ⟨K - (x + 1), by omega, x + 1, ex_junk rfl, by omega, hf4, rfl⟩

/-- No divisor up to the root. -/
def oddG (q : Nat) : Nat → Nat → Bool
  | 0, _ => true
  | f + 1, d => if d * d ≤ q then (if q % d = 0 then false else oddG q f (d + 1)) else true
def oddF (q : Nat) : Bool := oddG q 125 2
def oddB (n : Nat) : Bool := (List.range (n + 1)).all fun q => Nat.blt q 2 || n % q != 0 || (oddF q == (prOf n).contains q)
theorem odd_all : (List.range 121).all oddB = true := by decide +kernel
theorem odd_pr {n q : Nat} (h1 : 1 ≤ n) (h2 : n ≤ 120) (hq : 2 ≤ q) (hqn : q ≤ n) (hd : n % q = 0) (ho : oddF q = true) : q ∈ prOf n := by
  have h := List.all_eq_true.1 (List.all_eq_true.1 odd_all n (List.mem_range.2 (by omega))) q (List.mem_range.2 (by omega))
  have a : Nat.blt q 2 = false := by
    cases hh : Nat.blt q 2 with
    | false => rfl
    | true => rw [Nat.blt_eq] at hh; omega
  have b : (n % q != 0) = false := by rw [hd]; rfl
  rw [a, b, Bool.false_or, Bool.false_or, ho] at h
  simpa using h
theorem odd_ok (q : Nat) (h : H) (h2 : q ≤ 120) : Ev T n_law06_odd [.int .i64 (q : Int)] h (fun v h' => v = .bool (oddF q) ∧ h' = h) := by
  refine Ev_of t_law06_odd rfl ?_
  simp (disch := first | omega | (simp only [Qn] <;> omega)) only [go_sem, c_law06_odd, initV_eq]
  refine Wp_loop (fun m vars h3 => ∃ (d : Nat), (∃ g : Nat → V, vars = [.int .i64 (q : Int), g 1, .int .i64 (d : Int), g 3, g 4]) ∧ 2 ≤ d ∧ d + m = 127 ∧ oddG q m d = oddF q ∧ h3 = h) 125
    ⟨2, ex_junk rfl, Nat.le_refl _, rfl, rfl, rfl⟩ ?_
  rintro m vars h3 ⟨d, ⟨g, rfl⟩, hd2, hdm, hod, rfl⟩
  have hdd : d * d ≤ 127 * 127 := Nat.mul_le_mul (by omega) (by omega)
  have em0 : (d : Int) * (d : Int) = ((d * d : Nat) : Int) := (Int.natCast_mul ..).symm
  have hsq : d ≤ d * d := Nat.le_mul_of_pos_left d (by omega)
  have em : (q : Int).tmod (d : Int) = ((q % d : Nat) : Int) := tmod_nat ..
  cases m with
  | zero =>
    have hgt : ¬ d * d ≤ q := by
      have hd' : d = 127 := by omega
      subst hd'; omega
    generalize d * d = dd at *
    simp (disch := first | omega | (simp only [Qn] <;> omega)) only [go_sem, em0]
    rw [decide_eq_false (show ¬ (dd : Int) ≤ (q : Int) by omega)]
    simp (disch := first | omega | (simp only [Qn] <;> omega)) only [go_sem]
    exact ⟨by rw [← hod]; rfl, trivial⟩
  | succ m =>
    rw [oddG] at hod
    generalize d * d = dd at *
    simp (disch := first | omega | (simp only [Qn] <;> omega)) only [go_sem, em0]
    refine iteW_dec (fun hle => ?_) (fun hgt => ?_)
    · rw [if_pos (by omega)] at hod
      simp (disch := first | omega | (simp only [Qn] <;> omega)) only [go_sem, em]
      refine iteW_dec (fun hz => ?_) (fun hz => ?_)
      · rw [if_pos (by omega)] at hod
        simp (disch := first | omega | (simp only [Qn] <;> omega)) only [go_sem]
        exact ⟨by rw [← hod], trivial⟩
      · rw [if_neg (by omega)] at hod
        simp (disch := first | omega | (simp only [Qn] <;> omega)) only [go_sem]
        rw [show (d : Int) + 1 = ((d + 1 : Nat) : Int) from by omega]
        exact ⟨m, by omega, d + 1, ex_junk rfl, by omega, by omega, hod, trivial⟩
    · rw [if_neg (by omega)] at hod
      simp (disch := first | omega | (simp only [Qn] <;> omega)) only [go_sem]
      exact ⟨by rw [← hod], trivial⟩
end
end Go.Proofs.Ythfabknpogbcaaa
