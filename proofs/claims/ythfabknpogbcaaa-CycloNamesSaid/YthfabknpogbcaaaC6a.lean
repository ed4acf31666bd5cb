/- Contracts: small functions. -/
import Derived.Test.YthfabknpogbcaaaC6code
import Derived.Test.YthfabknpogbcaaaC6s
namespace Go.Proofs.Ythfabknpogbcaaa
open Go Go.Ay
set_option maxRecDepth 100000

theorem gcd_step (a b : Int) (ha : 0 ≤ a) : Int.gcd b (a.tmod b) = Int.gcd a b := by
  rw [Int.tmod_eq_emod_of_nonneg ha, Int.emod_def, Int.gcd_sub_mul_left_right, Int.gcd_comm]

theorem gcd_ok (a b : Int) (h : H) (ha : 0 ≤ a) (hb : 0 ≤ b) : Ev T n_cyclo_gcd [.int .i64 a, .int .i64 b] h (fun v h' => v = .int .i64 (Int.gcd a b) ∧ Fr h h') := by
  refine Ev_of t_cyclo_gcd rfl ?_
  simp only [c_cyclo_gcd, initV_eq, go_sem]
  refine Wp_loop (fun k vars h1 => ∃ x y u : V, ∃ a' b' : Int, vars = [.int .i64 a', .int .i64 b', x, y] ∧ 0 ≤ a' ∧ 0 ≤ b' ∧ Int.gcd a' b' = Int.gcd a b ∧ Fr h h1 ∧ k = b'.toNat) _ ⟨_, _, .undef, _, _, rfl, ha, hb, rfl, Fr.refl h, rfl⟩ ?_
  rintro k vars h1 ⟨x, y, u, a', b', rfl, ha', hb', hg, hfr, rfl⟩
  simp only [go_sem]
  refine iteW_dec (fun hlt => ?_) (fun hge => ?_)
  · simp (disch := omega) only [go_sem]
    have h3 := Int.tmod_eq_emod_of_nonneg ha' (b := b')
    have h4 := Int.emod_nonneg a' (show b' ≠ 0 by omega)
    have h5 := Int.emod_lt_of_pos a' hlt
    exact ⟨_, (by rw [h3]; omega), _, _, .undef, _, _, rfl, hb', by rw [h3]; exact h4, by rw [gcd_step _ _ ha', hg], hfr.bump (by omega), rfl⟩
  · simp (disch := omega) only [go_sem]
    have : b' = 0 := by omega
    subst this
    refine ⟨?_, hfr⟩
    rw [← hg, Int.gcd_zero_right]
    congr 1; omega

/-- A copy: a block of its own. -/
def Copy (h : H) (l : List Int) (v : V) (h' : H) : Prop := Own h' v 1 (ints l) h.next ∧ Fr h h' ∧ (0 < l.length → ∃ id, v = .sl id 0 l.length (.un 1) ∧ h.next ≤ id ∧ id < h'.next ∧ h'.get id = some (.cells false (ints l)))
theorem copy_of {h : H} {l : List Int} {v : V} (hs : SI h v l) (hl : l.length < 1000000) : ∃ v' h', appP (h.new (.cells false [])) 1 8 (.sl h.next 0 0 (.kn 0)) v = some (v', h') ∧ Copy h l v' h' := by
  obtain ⟨v', h', e, a⟩ := (Own.new h 1 0 h.next [] rfl (Nat.le_refl _)).app (bytes := 8) (n := 0) (by rw [H.next_new]; omega) (SV.mono hs ((Fr.refl h).new _)) (m := l.length) rfl (by rw [ints_length, Nat.mul_one]) (by omega) (by omega)
  refine ⟨v', h', e, a.own, a.fr h ((Fr.refl h).new _) (Nat.le_refl _), fun h0 => ?_⟩
  rcases a.what with ⟨h1, _⟩ | ⟨id, h1, h2, h3, h4⟩
  · omega
  · exact ⟨id, by rw [h1, Nat.zero_add], h2, h3, h4⟩
theorem clone_ok (v : V) (l : List Int) (h : H) (hs : SI h v l) (hl : l.length < 1000000) : Ev T n_slices_Clone_int_int [v] h (Copy h l) := by
  refine Ev_of t_slices_Clone_int_int rfl ?_
  rcases id hs with ⟨rfl, h0⟩ | ⟨id, off, len, cap, ro, vs, rfl, hlen, hid, hg, hle, he⟩
  · have : l = [] := by cases l <;> simp_all [ints]
    subst this
    simp only [c_slices_Clone_int_int, initV_eq, go_sem]
    exact ⟨Own.nils _ _ _, Fr.refl h, fun h => by simp at h⟩
  · simp only [c_slices_Clone_int_int, initV_eq, go_sem]
    obtain ⟨v', h', e, c⟩ := copy_of hs hl
    simp only [e, go_sem]
    exact c
theorem own_ok (v : V) (l : List Int) (h : H) (hs : SI h v l) (hl : l.length < 1000000) : Ev T n_kit_Own_int [v] h (Copy h l) := by
  refine Ev_of t_kit_Own_int rfl ?_
  simp only [c_kit_Own_int, initV_eq, go_sem]
  obtain ⟨v', h', e, c⟩ := copy_of hs hl
  simp only [e, go_sem]
  exact c

theorem take_succ_getD (l : List Int) (k : Nat) (hk : k < l.length) : l.take (k + 1) = l.take k ++ [l.getD k 0] := by
  rw [List.take_succ_eq_append_getElem hk, List.getD_eq_getElem?_getD, List.getElem?_eq_getElem hk]; rfl

set_option maxHeartbeats 1000000 in
theorem divide_okS (va vb : V) (a b : List Int) (h : H) (ha : SI h va a) (hb : SI h vb b) (ha1 : a.length < 1000000) (hb0 : 0 < b.length) (hb1 : b.length < 1000000) :
    Ev T n_cyclo_divide_int [va, vb] h (fun v h' => ∃ q r, v = .tup [q, r] ∧ Fr h h' ∧ SI h' q (divS a b).1 ∧ Own h' r 1 (ints (divS a b).2) h.next ∧ (∀ id off n c, q = .sl id off n c → h.next ≤ id)) := by
  refine Ev_of t_cyclo_divide_int rfl ?_
  have hlb := hb.lens
  have hla := ha.lens
  simp (disch := omega) only [c_cyclo_divide_int, initV_eq, go_sem, hlb]
  refine (clone_ok va a h ha ha1).mono ?_
  rintro r0 h1 ⟨ho1, hf1, hcap⟩
  simp (disch := omega) only [go_sem, hla]
  obtain ⟨bid, boff, hbs, hbid, hbc⟩ := hb.open
  obtain ⟨d, hd1⟩ : ∃ d : Nat, b.length = d + 1 := ⟨b.length - 1, by omega⟩
  have eb : (b.length : Int) - 1 = (d : Int) := by omega
  rw [eb]
  by_cases hd : (d : Int) < a.length
  · rw [decide_eq_true hd]
    obtain ⟨rid, rfl, hrid, hrid2, hrg⟩ := hcap (by omega)
    simp (disch := omega) only [go_sem, hla]
    obtain ⟨n, hn⟩ : ∃ n : Nat, a.length = n + d := ⟨a.length - d, by omega⟩
    have en : ((a.length : Int) - (d : Int)).toNat = n := by omega
    have en2 : (a.length : Int) - 1 - (d : Int) = (n : Int) - 1 := by omega
    rw [en, en2]
    refine Wp_loop (fun k vars h2 => ∃ (q r : List Int) (x6 x7 x8 x9 x10 x11 x12 x13 x14 : V), vars = [va, vb, .sl h1.next 0 n (.kn n), .sl rid 0 a.length (.un 1), .int .i64 d, .int .i64 ((k : Int) - 1), x6, x7, x8, x9, x10, x11, x12, x13, x14] ∧ k ≤ n ∧ q.length = n ∧ r.length = a.length ∧
      h2.get h1.next = some (.cells false (ints q)) ∧ h2.get rid = some (.cells false (ints r)) ∧ Fr h h2 ∧ h1.next < h2.next ∧ divGo d b k q r = divGo d b n (List.replicate n 0) a) n
      ⟨_, a, _, _, _, _, _, _, _, _, _, rfl, Nat.le_refl _, List.length_replicate, rfl, H.get_new_same .., by rw [H.get_new_ne _ (by omega)]; exact hrg, hf1.new _, by rw [H.next_new]; omega, rfl⟩ ?_
    rintro k vars h2 ⟨q, r, x6, x7, x8, x9, x10, x11, x12, x13, x14, rfl, hN, hq, hr, hqg, hrg2, hf2, hnx, hdiv⟩
    simp (disch := omega) only [go_sem]
    refine iteW_dec (fun hge => ?_) (fun hlt => ?_)
    · obtain ⟨M, rfl⟩ : ∃ M, k = M + 1 := ⟨k - 1, by omega⟩
      have eM : ((M + 1 : Nat) : Int) - 1 = (M : Int) := by omega
      rw [eM]
      have ei : ((M : Int) + (d : Int)).toNat = M + d := by omega
      simp (disch := omega) only [go_sem, own_cell hrg2, hqg, ei, Int.toNat_natCast, hlb]
      refine Wp_loop (fun k3 vars h3 => ∃ (r3 : List Int) (k : Nat) (x7 x8 x9 x10 x14 : V), vars = [va, vb, .sl h1.next 0 n (.kn n), .sl rid 0 a.length (.un 1), .int .i64 d, .int .i64 (M : Int), .int .i64 (r.getD (M + d) 0), x7, x8, x9, x10, vb, .int .i64 (b.length : Int), .int .i64 (k : Int), x14] ∧ k ≤ b.length ∧
        h3.get h1.next = some (.cells false (ints (q.set M (r.getD (M + d) 0)))) ∧ h3.get rid = some (.cells false (ints r3)) ∧ r3 = subAt (r.getD (M + d) 0) M (b.take k) r ∧ Fr h h3 ∧ h1.next < h3.next ∧ k3 = b.length - k) b.length
        ⟨r, 0, _, _, _, _, _, rfl, Nat.zero_le _, H.get_set_same .., by rw [H.get_set_ne _ (by omega)]; exact hrg2, rfl, hf2.set (by have := hf1.next; omega) _, hnx, rfl⟩ ?_
      rintro k3 vars h3 ⟨r3, k, y7, y8, y9, y10, y14, rfl, hk, hqg3, hrg3, hr3, hf3, hnx3, rfl⟩
      have hlr3 : r3.length = a.length := by rw [hr3, subAt_len, hr]
      simp (disch := omega) only [go_sem]
      by_cases hkl : (k : Int) < (b.length : Int)
      · rw [decide_eq_true hkl]
        have hcb := cells_fr hf3 hbid hbc
        have ek : ((M : Int) + (k : Int)).toNat = M + k := by omega
        simp (disch := omega) only [go_sem, hbs.ixa, hcb, own_cell hrg3, hrg3, ek, Int.toNat_natCast]
        refine ⟨_, ?_, _, k + 1, _, _, _, _, _, rfl, by omega, hqg3, rfl, ?_, hf3.set (by omega) _, hnx3, rfl⟩
        · omega
        · rw [take_succ_getD _ _ (by omega), subAt_snoc, List.length_take, Nat.min_eq_left (by omega), ← hr3]
      · rw [decide_eq_false hkl]
        have hk2 : k = b.length := by omega
        subst hk2
        rw [List.take_length] at hr3
        simp (disch := omega) only [go_sem]
        refine ⟨M, by omega, _, _, _, _, _, _, _, _, _, _, _, rfl, by omega, by rw [List.length_set, hq], hlr3, hqg3, hrg3, hf3, hnx3, ?_⟩
        rw [← hdiv, divGo, hr3]
    · have hk0 : k = 0 := by omega
      subst hk0
      simp (disch := omega) only [go_sem, hqg, hrg2]
      rw [show (if (a.length : Int) < (d : Int) then (a.length : Int) else d) = (d : Int) from if_neg (by omega), slc_un (by omega) (by omega)]
      simp (disch := omega) only [go_sem]
      have hDF : divS a b = (q, r.take d) := by
        have : b.length - 1 = d := by omega
        simp only [divS, this, show a.length - d = n by omega, ← hdiv, divGo, Nat.min_eq_left (show d ≤ a.length by omega)]
      rw [hDF]
      refine ⟨_, _, rfl, hf2.bump (by omega), ?_, ?_, fun _ _ _ _ e => by cases e; exact hf1.next⟩
      · have := SI.own (h := (H.mk h2.tr (h2.next + 9))) (id := h1.next) (l := q) (ro := false) (by show h1.next < h2.next + 9; omega) hqg (.kn n)
        rw [hq] at this; exact this
      · refine .inr ⟨rid, d, _, ints (r.drop d), rfl, by rw [ints_length, List.length_take]; omega, .inl rfl, hrid, by show rid < h2.next + 9; omega, ?_⟩
        rw [← ints_append, List.take_append_drop]
        exact hrg2
  · rw [decide_eq_false hd]
    simp (disch := omega) only [go_sem, hla]
    refine Wp_loop_unroll ?_
    simp (disch := omega) only [go_sem, hla]
    rw [iteW_neg (by omega)]
    have hlr : lensV r0 = some (.int .i64 (a.length : Int)) := SI.lens (h := h1) ho1.sv
    simp (disch := omega) only [go_sem, hlr]
    obtain ⟨r1, e1, o1⟩ := own_slc_all ho1
    have hmin : (if (a.length : Int) < (d : Int) then (a.length : Int) else d) = (a.length : Int) := by split <;> omega
    rw [hmin, e1]
    simp (disch := omega) only [go_sem]
    have hDF : divS a b = ([], a) := by
      have : b.length - 1 = d := by omega
      simp only [divS, this, show a.length - d = 0 by omega, divGo, List.replicate_zero, Nat.min_eq_right (show a.length ≤ d by omega), List.take_length]
    rw [hDF]
    exact ⟨_, _, rfl, hf1.bump (by omega), SI.nils _, o1.fr ((Fr.refl h1).bump (by omega)), fun _ _ _ _ e => by cases e⟩
theorem divide_ok (va vb : V) (a b : List Int) (h : H) (ha : SI h va a) (hb : SI h vb b) (ha1 : a.length < 1000000) (hb0 : 0 < b.length) (hb1 : b.length < 1000000) :
    Ev T n_cyclo_divide_int [va, vb] h (fun v h' => ∃ q r, v = .tup [q, r] ∧ Fr h h' ∧ SI h' q (divF a b).1 ∧ Own h' r 1 (ints (divF a b).2) h.next ∧ (∀ id off n c, q = .sl id off n c → h.next ≤ id)) := by
  rw [← divS_eq a b hb0]
  exact divide_okS va vb a b h ha hb ha1 hb0 hb1
end Go.Proofs.Ythfabknpogbcaaa
