/- Layer 4: the reference's Poly. Layer 4: powers. Layer 4: determinants, inverses and powers of valid square matrices. Layer 4: what MatrixPoly needs. Layer 4: the reference's Det. Layer 4: the reference's size. Layer 4: rows in places, appended one by one. Layer 4: the reference's Inv. -/
import Derived.Test.YtonhijbeddcmpaaM4rftoDt9
import Derived.Test.YtonhijbeddcmpaaAy34
/- Layer 4: the reference's Poly.
-/
namespace Go.Proofs.Ytonhijbeddcmpaa
open Go Go.Ay
set_option maxRecDepth 100000
theorem kn_slc {v : V} {l : List Int} {h : H} (s : SI h v l) (c : Kn v) {k : Nat} (hk : k ≤ l.length) (h0 : 0 < l.length) : ∃ v', slcV 1 v none (some (.int .i64 (k : Int))) none = some v' ∧ SI h v' (l.take k) := by
  rcases s with ⟨_, e⟩ | ⟨id, off, len, cap, ro, vs, rfl, h2, h3, h4, h5, h6⟩
  · have : (ints l).length = 0 := by rw [e]; rfl
    rw [ints_length] at this; omega
  · obtain ⟨q, rfl, hq⟩ := c id off len cap rfl
    rw [ints_length, Nat.mul_one] at h2
    refine ⟨_, slc_kn (by omega) (by omega), ?_⟩
    rw [Int.toNat_natCast]
    refine .inr ⟨id, off, k, _, ro, vs, rfl, by rw [ints_length, List.length_take]; omega, h3, h4, by omega, ?_⟩
    rw [Nat.mul_one] at h6 ⊢
    rw [← ints_take, ← h6, List.take_take, Nat.min_eq_left (by omega)]
theorem rd_of {h : H} {u : V} {A : List (List Int)} {ws : List V} (s : SV h u 1 ws) (hall : All2 (SI h) ws A) {c : Nat} (hc : ∀ i, i < A.length → (A.getD i []).length = c) : ∃ id off ρ o, Rd h u A c id off ws ρ o := by
  have hl := hall.length
  obtain ⟨id, off, sl, hid, h3⟩ := s.shape A.length (by rw [hl, Nat.mul_one]) (by omega)
  have hcA : ∀ i : Nat, i < A.length → h.cell id (off + i) = some (ws.getD i .undef) := fun i i1 => by
    rw [h3 i (by omega), List.getD_eq_getElem?_getD, List.getElem?_eq_getElem (by omega)]; rfl
  have key : ∀ i, ∃ r : Nat × Nat, i < A.length → Sl (ws.getD i .undef) 1 c r.1 r.2 ∧ (0 < c → r.1 < h.next) ∧ ∀ k : Nat, k < c → h.cell r.1 (r.2 + k) = some (.int .i64 ((A.getD i []).getD k 0)) := fun i => by
    by_cases hi : i < A.length
    · obtain ⟨x, y, h1, h2, h3⟩ := (row_at hall hi).open
      rw [hc i hi] at h1 h2 h3
      exact ⟨(x, y), fun _ => ⟨h1, h2, h3⟩⟩
    · exact ⟨(0, 0), fun h => absurd h hi⟩
  exact ⟨id, off, fun i => (key i).choose.1, fun i => (key i).choose.2, sl, fun i hi => hid (by omega), hcA, fun i hi => row_at hall hi, fun i hi => ((key i).choose_spec hi).1, fun i k hi hk => ((key i).choose_spec hi).2.1 (by omega), fun i k hi hk => ((key i).choose_spec hi).2.2 k hk⟩
theorem bls_i2 (h : H) (x y : Int) : blsV h 1 [.int .i64 0] 2 [(0, 1, .int .i64 x), (1, 1, .int .i64 y)] = some (.sl h.next 0 2 (.kn 2), h.new (.cells false (ints [x, y]))) := by
  have e : zerosV [V.int .i64 0] 2 = [.int .i64 0, .int .i64 0] := rfl
  simp [blsV, fillV, e, putAt, V.cells, V.one, ints]
/-- A matrix that came in. -/
def MatK (h : H) (v : V) (a : Mat) : Prop := ∃ u, v = .agg [.int .i64 a.1, u] ∧ SRk h u a.2
set_option maxHeartbeats 16000000 in
theorem ref_Poly_ok (va : V) (a : Mat) (h : H) (ha : MatK h va a) (la : (a.2.length : Int) ≤ 2 ^ 63 - 1) : Ev T n_ref04_Poly [va] h (fun v h' => ∃ w, v = .tup [w, .int .i64 (PolyF a).2] ∧ SI h' w (PolyF a).1 ∧ Fr h h') := by
  obtain ⟨ua, rfl, huk⟩ := ha
  have hua := huk.sr
  refine Ev_of t_ref04_Poly rfl ?_
  have wa := SV.what hua.choose_spec.1
  simp (disch := first | omega | (simp only [Qn] <;> omega)) only [go_sem, c_ref04_Poly, initV_eq, boxV_agg2 h (v := .int .i64 a.1) rfl wa.2.1]
  have hfx : Fr h (h.new (.cells false [.int .i64 a.1, ua])) := (Fr.refl h).new _
  have hgx : (h.new (.cells false [.int .i64 a.1, ua])).get h.next = some (.cells false [.int .i64 a.1, ua]) := H.get_new_same ..
  have hnx : (h.new (.cells false [.int .i64 a.1, ua])).next = h.next + 1 := H.next_new ..
  generalize h.new (.cells false [.int .i64 a.1, ua]) = hx at *
  simp (disch := first | omega | (simp only [Qn] <;> omega)) only [go_sem, row_two hgx]
  refine (ref_square_ok _ a hx ⟨ua, rfl, hua.mono hfx⟩ la).mono ?_
  rintro v h5 ⟨rfl, f5⟩
  have F5 := hfx.trans f5
  have gx5 := (f5.get h.next (by omega)).trans hgx
  have n5 := f5.next
  simp (disch := first | omega | (simp only [Qn] <;> omega)) only [go_sem]
  refine iteW_dec (fun he => ?_) (fun he => ?_)
  · simp (disch := first | omega | (simp only [Qn] <;> omega)) only [go_sem]
    have e : PolyF a = ([], sqF a) := by rw [PolyF, if_pos he]
    rw [e]
    exact ⟨_, rfl, SI.nils _, F5⟩
  have hz : sqF a = 0 := Classical.byContradiction he
  have da := sq_vd hz
  have hp := fieldF_range da.p
  have hn1 := da.r1
  have hn2 := da.r2
  obtain ⟨n, hn⟩ : ∃ n, a.2.length = n := ⟨_, rfl⟩
  rw [hn] at hn1 hn2
  obtain ⟨p, hpe⟩ : ∃ p, a.1 = p := ⟨_, rfl⟩
  rw [hpe] at hp
  obtain ⟨A, hA⟩ : ∃ A, ent a.2 = A := ⟨_, rfl⟩
  have fb : Fr h5 (H.mk h5.tr (h5.next + 7)) := (Fr.refl h5).bump (by omega)
  have x0 : h5.cell h.next 0 = some (.int .i64 p) := by rw [H.cell_of gx5, ← hpe]; rfl
  have x1 : h5.cell h.next 1 = some ua := by rw [H.cell_of gx5]; rfl
  have lu := hua.lens
  rw [hn] at lu
  have e1 : (1 : Int).tmod p = 1 := by rw [nonneg_tmod (by omega)]; exact Int.emod_eq_of_lt (by omega) (by omega)
  simp (disch := first | omega | (simp only [Qn] <;> omega)) only [go_sem, x0, x1, lu, e1, bls_i1]
  have n6 : (H.mk h5.tr (h5.next + 7)).next = h5.next + 7 := rfl
  generalize H.mk h5.tr (h5.next + 7) = h6 at *
  rw [← n6]
  have hf7 : Fr h6 (h6.new (.cells false (ints [1]))) := (Fr.refl h6).new _
  have hg7 : (h6.new (.cells false (ints [1]))).get h6.next = some (.cells false (ints [1])) := H.get_new_same ..
  have hn7 : (h6.new (.cells false (ints [1]))).next = h6.next + 1 := H.next_new ..
  generalize h6.new (.cells false (ints [1])) = h7 at *
  have f57 := fb.trans hf7
  have ltx : h.next < h5.next := by omega
  obtain ⟨wsa, svA, al, hkn⟩ := huk
  have hra := da.row
  have hlo := da.lo
  have hhi := da.hi
  simp only [hn, hpe, hA] at hra hlo hhi
  obtain ⟨ida, offa, ρa, oa, RA0⟩ := rd_of (svA.mono F5) (al.mono fun _ _ r => r.mono F5) (c := n) fun i hi => by rw [hn] at hi; exact hra i hi
  refine Wp_loop (fun k' vars hh => ∃ (k : Nat) (vc : V), (∃ g : Nat → V, vars = [g 0, .ptr h.next 0, g 2, g 3, g 4, .int .i64 (n : Int), .int .i64 p, vc, .int .i64 (k : Int), g 9, g 10, g 11, g 12, g 13, g 14, g 15, g 16, g 17, g 18, g 19, g 20, g 21, g 22, g 23, g 24, g 25, g 26, g 27, g 28, g 29, g 30]) ∧ k ≤ n ∧ SI hh vc (mkV (k + 1) (fun i => chp k A (k - i) % p)) ∧ Fr h5 hh ∧ k' = n - k) n
    ⟨0, _, ex_junk rfl, Nat.zero_le _, ?_, f57, rfl⟩ ?_
  · have e : mkV (0 + 1) (fun i => chp 0 A (0 - i) % p) = [1] := by
      show [chp 0 A 0 % p] = [1]
      rw [chp_zero, if_pos rfl, one_mod (by omega)]
    rw [e]
    exact SI.own (l := [1]) (by omega) hg7 _
  clear hg7 hn7 f57 hf7 fb
  rintro k' vars h8 ⟨k, vc, ⟨g, rfl⟩, hk, sc, f8, rfl⟩
  have y0 : h8.cell h.next 0 = some (.int .i64 p) := by rw [f8.cell ltx]; exact x0
  have y1 : h8.cell h.next 1 = some ua := by rw [f8.cell ltx]; exact x1
  simp (disch := first | omega | (simp only [Qn] <;> omega)) only [go_sem]
  by_cases hkn' : (k : Int) < (n : Int)
  · rw [decide_eq_true hkn']
    have hk' : k < n := by omega
    have kl : k < a.2.length := by omega
    have RA := RA0.fr f8
    have ek := RA.ent k k kl hk'
    rw [hA] at ek
    have b1 := hlo k k hk' hk'
    have b2 := hhi k k hk' hk'
    have em1 := nonneg_tmod (a := p - A k k) (p := p) (by omega)
    have hwl := al.length
    have knk : Kn (wsa.getD k .undef) := hkn _ (by rw [List.getD_eq_getElem?_getD, List.getElem?_eq_getElem (by omega)]; exact List.getElem_mem _)
    have lk : (a.2.getD k []).length = n := hra k hk'
    have z0 : (H.mk h8.tr (h8.next + 14)).next = h8.next + 14 := rfl
    simp (disch := first | omega | (simp only [Qn] <;> omega)) only [go_sem, y0, y1, e1, RA.sl.ixa, RA.at_ k kl, (RA.rsl k kl).ixa, ek, em1, bls_i2, evAtO_some, litI_eq]
    obtain ⟨O, hO⟩ : ∃ O, h8.next + 14 = O := ⟨_, rfl⟩
    rw [hO]
    have gO := litI_get h8 O [1, (p - A k k) % p] (h8.next + 16)
    have gn := fun q (hq : q ≠ O) => litI_ne h8 [1, (p - A k k) % p] (h8.next + 16) hq
    have nB : (litI h8 O [1, (p - A k k) % p] (h8.next + 16)).next = h8.next + 16 := rfl
    generalize litI h8 O [1, (p - A k k) % p] (h8.next + 16) = h9 at *
    have f9 : Fr h8 h9 := ⟨by omega, fun q hq => gn q (by omega)⟩
    have RA9 := RA.fr f9
    have y19 : h9.cell h.next 1 = some ua := by rw [(f8.trans f9).cell ltx]; exact x1
    obtain ⟨vs, evs, svs⟩ := kn_slc (RA9.row k kl) knk (k := k) (by omega) (by omega)
    try simp (disch := first | omega | (simp only [Qn] <;> omega)) only [go_sem, y19, RA9.sl.ixa, RA9.at_ k kl, evs]
    refine (own_ok vs _ h9 svs (by rw [List.length_take, lk]; omega)).mono ?_
    rintro vv h10 ⟨ov, f10, _⟩
    have el : (a.2.getD k []).take k = mkV k (fun j => vkB k A 0 j % p) := mkV_eq (by rw [List.length_take, lk]; omega) fun j hj => by
      have c1 := hlo k j hk' (by omega)
      have c2 := hhi k j hk' (by omega)
      rw [List.getD_eq_getElem?_getD, List.getElem?_take_of_lt hj, ← List.getD_eq_getElem?_getD, vkB, Int.emod_eq_of_lt c1 c2, ← hA]; rfl
    rw [el] at ov
    have t9 : Own h9 (.sl O 0 2 (.kn 2)) 1 (ints (mkV 2 (fun q => tzB k A q % p))) h8.next := by
      have e : mkV 2 (fun q => tzB k A q % p) = [1, (p - A k k) % p] := by
        show [tzB k A 0 % p, tzB k A 1 % p] = _
        simp only [tzB]
        rw [one_mod (by omega), show p - A k k = -A k k + p * 1 by omega, Int.add_mul_emod_self_left]
      rw [e]
      exact .inr ⟨O, 2, _, [], rfl, rfl, .inr ⟨rfl, rfl⟩, by omega, by omega, by rw [List.append_nil]; exact gO⟩
    have t10 := t9.fr f10
    have d10 := Own.dis t9 ov
    have f810 := f9.trans f10
    have sv10 : SI h10 vv (mkV k (fun j => vkB k A 0 j % p)) := ov.sv
    clear gO gn RA9 y19 evs svs t9 f9 f10 ov el em1 z0 b1 b2 ek
    simp (disch := first | omega | (simp only [Qn] <;> omega)) only [go_sem]
    refine Wp_loop (fun k' vars hh => ∃ (i : Nat) (vt vv : V), (∃ g : Nat → V, vars = [g 0, .ptr h.next 0, g 2, g 3, g 4, .int .i64 (n : Int), .int .i64 p, vc, .int .i64 (k : Int), vt, vv, .int .i64 (i : Int), g 12, g 13, g 14, g 15, g 16, g 17, g 18, g 19, g 20, g 21, g 22, g 23, g 24, g 25, g 26, g 27, g 28, g 29, g 30]) ∧ i ≤ k ∧ Own hh vt 1 (ints (mkV (i + 2) (fun q => tzB k A q % p))) h8.next ∧ SI hh vv (mkV k (fun j => vkB k A i j % p)) ∧ Dis vt vv ∧ Fr h8 hh ∧ k' = k - i) k
      ⟨0, _, vv, ex_junk rfl, Nat.zero_le _, t10, sv10, d10, f810, rfl⟩ ?_
    clear t10 sv10 d10 f810
    rintro k' vars h11 ⟨i, vt, vv, ⟨g, rfl⟩, hi, tO, sv, dis, f11, rfl⟩
    simp (disch := first | omega | (simp only [Qn] <;> omega)) only [go_sem]
    by_cases hik : (i : Int) < (k : Int)
    · rw [decide_eq_true hik]
      simp (disch := first | omega | (simp only [Qn] <;> omega)) only [go_sem]
      obtain ⟨idv, offv, shv, hidv, hcv⟩ := sv.open
      rw [mkV_len] at shv hidv hcv
      refine Wp_loop (fun k' vars hh => ∃ (j : Nat) (S : Int), (∃ g : Nat → V, vars = [g 0, .ptr h.next 0, g 2, g 3, g 4, .int .i64 (n : Int), .int .i64 p, vc, .int .i64 (k : Int), vt, vv, .int .i64 (i : Int), .int .i64 S, .int .i64 (j : Int), g 14, g 15, g 16, g 17, g 18, g 19, g 20, g 21, g 22, g 23, g 24, g 25, g 26, g 27, g 28, g 29, g 30]) ∧ j ≤ k ∧ S = sm j (fun j => vkB k A i j * A j k) % p ∧ Fr h11 hh ∧ k' = k - j) k
        ⟨0, 0, ex_junk rfl, Nat.zero_le _, by simp [sm], Fr.refl h11, rfl⟩ ?_
      rintro k' vars h12 ⟨j, S, ⟨g, rfl⟩, hj, hS, f12, rfl⟩
      simp (disch := first | omega | (simp only [Qn] <;> omega)) only [go_sem]
      by_cases hjk : (j : Int) < (k : Int)
      · rw [decide_eq_true hjk]
        have jl : j < a.2.length := by omega
        have RA12 := RA0.fr ((f8.trans f11).trans f12)
        have y112 : h12.cell h.next 1 = some ua := by rw [((f8.trans f11).trans f12).cell ltx]; exact x1
        have ej := RA12.ent j k jl hk'
        rw [hA] at ej
        have cj : h12.cell idv (offv + j) = some (.int .i64 (vkB k A i j % p)) := by
          rw [f12.cell (hidv (by omega)), hcv j (by omega), mkV_get _ (by omega)]
        have r1 := tmod_range (vkB k A i j) (show 0 < p by omega)
        have m1 := mul_bound r1.1 r1.2 (hlo j k (by omega) hk') (hhi j k (by omega) hk') hp.2
        have rS := tmod_range (sm j (fun j => vkB k A i j * A j k)) (show 0 < p by omega)
        rw [← hS] at rS
        have em := nonneg_tmod (a := S + vkB k A i j % p * A j k) (p := p) (by omega)
        simp (disch := first | omega | (simp only [Qn] <;> omega)) only [go_sem, y112, RA12.sl.ixa, RA12.at_ j jl, (RA12.rsl j jl).ixa, ej, shv.ixa, cj, em]
        rw [show (j : Int) + 1 = ((j + 1 : Nat) : Int) from by omega]
        refine ⟨k - (j + 1), by omega, j + 1, _, ex_junk rfl, by omega, ?_, f12.bump (by omega), rfl⟩
        rw [sm_succ, hS]
        exact add_mod' (Int.emod_emod_of_dvd _ (Int.dvd_refl p)) (mul_mod (Int.emod_emod_of_dvd _ (Int.dvd_refl p)) rfl)
      rw [decide_eq_false hjk]
      obtain rfl : k = j := by omega
      have rS := tmod_range (sm k (fun j => vkB k A i j * A j k)) (show 0 < p by omega)
      rw [← hS] at rS
      have em := nonneg_tmod (a := p - S) (p := p) (by omega)
      simp (disch := first | omega | (simp only [Qn] <;> omega)) only [go_sem, em, bls_i1]
      have hf13 : Fr h12 (h12.new (.cells false (ints [(p - S) % p]))) := (Fr.refl h12).new _
      have hg13 : (h12.new (.cells false (ints [(p - S) % p]))).get h12.next = some (.cells false (ints [(p - S) % p])) := H.get_new_same ..
      have hn13 : (h12.new (.cells false (ints [(p - S) % p]))).next = h12.next + 1 := H.next_new ..
      generalize h12.new (.cells false (ints [(p - S) % p])) = h13 at *
      have f13 := f12.trans hf13
      have ex : [(p - S) % p] = [tzB k A (i + 2) % p] := by
        rw [tzB, hS, show p - sm k (fun j => vkB k A i j * A j k) % p = -(sm k (fun j => vkB k A i j * A j k) % p) + p * 1 by omega, Int.add_mul_emod_self_left]
        congr 1
        rw [Int.neg_emod_eq_sub_emod, Int.neg_emod_eq_sub_emod, Int.sub_emod, Int.emod_emod_of_dvd _ (Int.dvd_refl p), ← Int.sub_emod]
      have sx : SV h13 (.sl h12.next 0 1 (.kn 1)) 1 (ints [tzB k A (i + 2) % p]) := by rw [← ex]; exact SV.all rfl (by omega) hg13 _
      obtain ⟨vt2, h14, e14, a14⟩ := (tO.fr f13).app (bytes := 8) (n := i + 2) (m := 1) (by have := f11.next; have := f13.next; omega) sx (by rw [ints_length, mkV_len, Nat.mul_one]) rfl (by omega) (by omega)
      have sv14 : SI h14 vv (mkV k (fun j => vkB k A i j % p)) := SI.keep (sv.mono f13) a14.next fun id off m c e => a14.get id (SI.lt (sv.mono f13) e) fun i' o' n' c' e' h0 => dis _ _ _ _ e' _ _ _ _ e h0.symm
      have f14 : Fr h8 h14 := a14.fr h8 (f11.trans f13) (Nat.le_refl _)
      have t14 := a14.own
      rw [← ints_append, ← mkV_succ] at t14
      have emk : mksV h14 1 8 [.int .i64 0] (.int .i64 (k : Int)) (.int .i64 (k : Int)) = some (.sl h14.next 0 k (.kn k), h14.new (.cells false (ints (List.replicate k 0)))) := by
        rw [mksV_int (by omega) (Int.le_refl _) (by omega) (by omega), Int.toNat_natCast, Nat.mul_one, zeros_int]
      obtain ⟨Z, hZ⟩ : ∃ Z, List.replicate k (0 : Int) = Z := ⟨_, rfl⟩
      rw [hZ] at emk
      have lZ : Z.length = k := by rw [← hZ, List.length_replicate]
      have vZ : ∀ q, q < k → Z.getD q 0 = 0 := fun q hq => by rw [← hZ, List.getD_eq_getElem?_getD, List.getElem?_replicate, if_pos hq]; rfl
      simp (disch := first | omega | (simp only [Qn] <;> omega)) only [go_sem, e14, emk]
      have hf15 : Fr h14 (h14.new (.cells false (ints Z))) := (Fr.refl h14).new _
      have hg15 : (h14.new (.cells false (ints Z))).get h14.next = some (.cells false (ints Z)) := H.get_new_same ..
      have hn15 : (h14.new (.cells false (ints Z))).next = h14.next + 1 := H.next_new ..
      generalize h14.new (.cells false (ints Z)) = h15 at *
      obtain ⟨W, hW⟩ : ∃ W, h14.next = W := ⟨_, rfl⟩
      rw [hW] at hg15 hn15
      rw [hW]
      clear a14 e14 emk sx ex hg13 hn13 hf13 tO sv dis shv hidv hcv hS rS em f12 f13
      obtain ⟨idv, offv, shv, hidv, hcv⟩ := sv14.open
      rw [mkV_len] at shv hidv hcv
      refine Wp_loop (fun k' vars hh => ∃ (j : Nat) (o : List Int), (∃ g : Nat → V, vars = [g 0, .ptr h.next 0, g 2, g 3, g 4, .int .i64 (n : Int), .int .i64 p, vc, .int .i64 (k : Int), vt2, vv, .int .i64 (i : Int), g 12, g 13, .sl W 0 k (.kn k), .int .i64 (j : Int), g 16, g 17, g 18, g 19, g 20, g 21, g 22, g 23, g 24, g 25, g 26, g 27, g 28, g 29, g 30]) ∧ j ≤ k ∧ o.length = k ∧ (∀ q, q < k → o.getD q 0 = if q < j then vkB k A (i + 1) q % p else 0) ∧ hh.get W = some (.cells false (ints o)) ∧ W + 1 ≤ hh.next ∧ Fr h14 hh ∧ k' = k - j) k
        ⟨0, Z, ex_junk rfl, Nat.zero_le _, lZ, fun q hq => by rw [vZ q hq, if_neg (Nat.not_lt_zero q)], hg15, by omega, hf15, rfl⟩ ?_
      clear hg15 hn15 hf15 lZ vZ hZ
      rintro k' vars h16 ⟨j, o, ⟨g, rfl⟩, hj, lo, vo, g16, n16, f16, rfl⟩
      simp (disch := first | omega | (simp only [Qn] <;> omega)) only [go_sem]
      by_cases hjk : (j : Int) < (k : Int)
      · rw [decide_eq_true hjk]
        simp (disch := first | omega | (simp only [Qn] <;> omega)) only [go_sem]
        refine Wp_loop (fun k' vars hh => ∃ (m : Nat) (o : List Int), (∃ g : Nat → V, vars = [g 0, .ptr h.next 0, g 2, g 3, g 4, .int .i64 (n : Int), .int .i64 p, vc, .int .i64 (k : Int), vt2, vv, .int .i64 (i : Int), g 12, g 13, .sl W 0 k (.kn k), .int .i64 (j : Int), .int .i64 (m : Int), g 17, g 18, g 19, g 20, g 21, g 22, g 23, g 24, g 25, g 26, g 27, g 28, g 29, g 30]) ∧ m ≤ k ∧ o.length = k ∧ (∀ q, q < k → o.getD q 0 = if q < j then vkB k A (i + 1) q % p else if q = j then sm m (fun m => vkB k A i m * A m j) % p else 0) ∧ hh.get W = some (.cells false (ints o)) ∧ W + 1 ≤ hh.next ∧ Fr h14 hh ∧ k' = k - m) k
          ⟨0, o, ex_junk rfl, Nat.zero_le _, lo, fun q hq => by
            rw [vo q hq]
            by_cases e : q < j
            · rw [if_pos e, if_pos e]
            · rw [if_neg e, if_neg e]; simp [sm], g16, n16, f16, rfl⟩ ?_
        clear g16 n16 f16 lo vo
        rintro k' vars h17 ⟨m, o, ⟨g, rfl⟩, hm, lo, vo, g17, n17, f17, rfl⟩
        simp (disch := first | omega | (simp only [Qn] <;> omega)) only [go_sem]
        by_cases hmk : (m : Int) < (k : Int)
        · rw [decide_eq_true hmk]
          have ml : m < a.2.length := by omega
          have F17 := f14.trans f17
          have RA17 := RA0.fr (f8.trans F17)
          have y117 : h17.cell h.next 1 = some ua := by rw [(f8.trans F17).cell ltx]; exact x1
          have ej := RA17.ent m j ml (by omega)
          rw [hA] at ej
          have cm : h17.cell idv (offv + m) = some (.int .i64 (vkB k A i m % p)) := by
            rw [f17.cell (hidv (by omega)), hcv m (by omega), mkV_get _ (by omega)]
          have oj : h17.cell W j = some (.int .i64 (o.getD j 0)) := by rw [H.cell_of g17, ints_getD (by omega)]
          have vj := vo j (by omega)
          rw [if_neg (Nat.lt_irrefl j), if_pos rfl] at vj
          have r1 := tmod_range (vkB k A i m) (show 0 < p by omega)
          have m1 := mul_bound r1.1 r1.2 (hlo m j (by omega) (by omega)) (hhi m j (by omega) (by omega)) hp.2
          have rj := tmod_range (sm m (fun m => vkB k A i m * A m j)) (show 0 < p by omega)
          rw [← vj] at rj
          have em := nonneg_tmod (a := o.getD j 0 + vkB k A i m % p * A m j) (p := p) (by omega)
          have fb17 : Fr h17 (H.mk h17.tr (h17.next + 24)) := (Fr.refl h17).bump (by omega)
          simp (disch := first | omega | (simp only [Qn] <;> omega)) only [go_sem, y117, RA17.sl.ixa, RA17.at_ m ml, (RA17.rsl m ml).ixa, ej, shv.ixa, cm, oj, em, g17]
          rw [show (m : Int) + 1 = ((m + 1 : Nat) : Int) from by omega]
          refine ⟨k - (m + 1), by omega, m + 1, o.set j ((o.getD j 0 + vkB k A i m % p * A m j) % p), ex_junk rfl, by omega, by rw [List.length_set]; exact lo, fun q hq => ?_, rfl, by omega, (f17.trans fb17).set (by omega) _, rfl⟩
          rw [getD_set]
          by_cases e : j = q
          · subst e
            rw [if_pos rfl, if_pos (by omega), if_neg (Nat.lt_irrefl j), if_pos rfl, vj, sm_succ]
            exact add_mod' (Int.emod_emod_of_dvd _ (Int.dvd_refl p)) (mul_mod (Int.emod_emod_of_dvd _ (Int.dvd_refl p)) rfl)
          · rw [if_neg e, vo q hq, if_neg (Ne.symm e), if_neg (Ne.symm e)]
        rw [decide_eq_false hmk]
        obtain rfl : k = m := by omega
        simp (disch := first | omega | (simp only [Qn] <;> omega)) only [go_sem]
        rw [show (j : Int) + 1 = ((j + 1 : Nat) : Int) from by omega]
        refine ⟨k - (j + 1), by omega, j + 1, o, ex_junk rfl, by omega, lo, fun q hq => ?_, g17, n17, f17, rfl⟩
        rw [vo q hq]
        by_cases e : q < j
        · rw [if_pos e, if_pos (by omega)]
        · rw [if_neg e]
          by_cases e2 : q = j
          · rw [if_pos e2, if_pos (by omega), e2, vkB]
          · rw [if_neg e2, if_neg (by omega)]
      rw [decide_eq_false hjk]
      obtain rfl : k = j := by omega
      simp (disch := first | omega | (simp only [Qn] <;> omega)) only [go_sem]
      rw [show (i : Int) + 1 = ((i + 1 : Nat) : Int) from by omega]
      have eo : o = mkV k (fun j => vkB k A (i + 1) j % p) := mkV_eq lo fun q hq => by rw [vo q hq, if_pos hq]
      subst eo
      have ow : Own h16 (.sl W 0 k (.kn k)) 1 (ints (mkV k (fun j => vkB k A (i + 1) j % p))) h14.next := .inr ⟨W, k, _, [], rfl, by rw [ints_length, mkV_len, Nat.mul_one], .inr ⟨rfl, rfl⟩, by omega, by omega, by rw [List.append_nil]; exact g16⟩
      exact ⟨k - (i + 1), by omega, i + 1, vt2, _, ex_junk rfl, by omega, t14.fr f16, ow.sv, Own.dis t14 ow, f14.trans f16, rfl⟩
    rw [decide_eq_false hik]
    obtain rfl : k = i := by omega
    have emk2 : mksV h11 1 8 [.int .i64 0] (.int .i64 ((k : Int) + 2)) (.int .i64 ((k : Int) + 2)) = some (.sl h11.next 0 (k + 2) (.kn (k + 2)), h11.new (.cells false (ints (List.replicate (k + 2) 0)))) := by
      rw [show (k : Int) + 2 = ((k + 2 : Nat) : Int) from by omega, mksV_int (by omega) (Int.le_refl _) (by omega) (by omega), Int.toNat_natCast, Nat.mul_one, zeros_int]
    obtain ⟨Z, hZ⟩ : ∃ Z, List.replicate (k + 2) (0 : Int) = Z := ⟨_, rfl⟩
    rw [hZ] at emk2
    have lZ : Z.length = k + 2 := by rw [← hZ, List.length_replicate]
    have vZ : ∀ q, q < k + 2 → Z.getD q 0 = 0 := fun q hq => by rw [← hZ, List.getD_eq_getElem?_getD, List.getElem?_replicate, if_pos hq]; rfl
    simp (disch := first | omega | (simp only [Qn] <;> omega)) only [go_sem, emk2]
    have hf20 : Fr h11 (h11.new (.cells false (ints Z))) := (Fr.refl h11).new _
    have hg20 : (h11.new (.cells false (ints Z))).get h11.next = some (.cells false (ints Z)) := H.get_new_same ..
    have hn20 : (h11.new (.cells false (ints Z))).next = h11.next + 1 := H.next_new ..
    generalize h11.new (.cells false (ints Z)) = h20 at *
    obtain ⟨N, hN⟩ : ∃ N, h11.next = N := ⟨_, rfl⟩
    rw [hN] at hg20 hn20
    rw [hN]
    obtain ⟨idt, offt, sht, hidt, hct⟩ := (show SI h11 vt (mkV (k + 2) (fun q => tzB k A q % p)) from tO.sv).open
    rw [mkV_len] at sht hidt hct
    have sc11 := sc.mono f11
    have lenc := sc11.lens
    rw [mkV_len] at lenc
    obtain ⟨idc, offc, shc, hidc, hcc⟩ := sc11.open
    rw [mkV_len] at shc hidc hcc
    obtain ⟨F, hF⟩ : ∃ F : Nat → Nat → Int, F = fun i j => if j ≤ k then tzB k A (i - j) * chp k A (k - j) else 0 := ⟨_, rfl⟩
    have eF : ∀ i j, j ≤ k → F i j = tzB k A (i - j) * chp k A (k - j) := fun i j hj => by rw [hF]; exact if_pos hj
    refine Wp_loop (fun k' vars hh => ∃ (i : Nat) (o : List Int), (∃ g : Nat → V, vars = [g 0, .ptr h.next 0, g 2, g 3, g 4, .int .i64 (n : Int), .int .i64 p, vc, .int .i64 (k : Int), vt, g 10, g 11, g 12, g 13, g 14, g 15, g 16, .sl N 0 (k + 2) (.kn (k + 2)), .int .i64 (i : Int), g 19, g 20, g 21, g 22, g 23, g 24, g 25, g 26, g 27, g 28, g 29, g 30]) ∧ i ≤ k + 2 ∧ o.length = k + 2 ∧ (∀ q, q < k + 2 → o.getD q 0 = if q < i then chp (k + 1) A (k + 1 - q) % p else 0) ∧ hh.get N = some (.cells false (ints o)) ∧ N + 1 ≤ hh.next ∧ Fr h11 hh ∧ k' = k + 2 - i) (k + 2)
      ⟨0, Z, ex_junk rfl, Nat.zero_le _, lZ, fun q hq => by rw [vZ q hq, if_neg (Nat.not_lt_zero q)], hg20, by omega, hf20, rfl⟩ ?_
    clear hg20 hn20 hf20 lZ vZ hZ emk2
    rintro k' vars h21 ⟨i, o, ⟨g, rfl⟩, hi, lo, vo, g21, n21, f21, rfl⟩
    simp (disch := first | omega | (simp only [Qn] <;> omega)) only [go_sem]
    by_cases hik2 : (i : Int) < (k : Int) + 2
    · rw [decide_eq_true hik2]
      simp (disch := first | omega | (simp only [Qn] <;> omega)) only [go_sem]
      refine Wp_loop (fun k' vars hh => ∃ (j : Nat) (o : List Int), (∃ g : Nat → V, vars = [g 0, .ptr h.next 0, g 2, g 3, g 4, .int .i64 (n : Int), .int .i64 p, vc, .int .i64 (k : Int), vt, g 10, g 11, g 12, g 13, g 14, g 15, g 16, .sl N 0 (k + 2) (.kn (k + 2)), .int .i64 (i : Int), .int .i64 (j : Int), g 20, g 21, g 22, g 23, g 24, g 25, g 26, g 27, g 28, g 29, g 30]) ∧ j ≤ k + 1 ∧ j ≤ i + 1 ∧ o.length = k + 2 ∧ (∀ q, q < k + 2 → o.getD q 0 = if q < i then chp (k + 1) A (k + 1 - q) % p else if q = i then sm j (F i) % p else 0) ∧ hh.get N = some (.cells false (ints o)) ∧ N + 1 ≤ hh.next ∧ Fr h11 hh ∧ k' = k + 1 - j) (k + 1)
        ⟨0, o, ex_junk rfl, Nat.zero_le _, Nat.zero_le _, lo, fun q hq => by
          rw [vo q hq]
          by_cases e : q < i
          · rw [if_pos e, if_pos e]
          · rw [if_neg e, if_neg e]; simp [sm], g21, n21, f21, rfl⟩ ?_
      clear g21 n21 f21 lo vo
      rintro k' vars h22 ⟨j, o, ⟨g, rfl⟩, hj, hji, lo, vo, g22, n22, f22, rfl⟩
      have fin : ∀ (hJ : j = k + 1 ∨ j = i + 1) (q : Nat), q < k + 2 → o.getD q 0 = if q < i + 1 then chp (k + 1) A (k + 1 - q) % p else 0 := fun hJ q hq => by
        rw [vo q hq]
        by_cases e : q < i
        · rw [if_pos e, if_pos (by omega)]
        · rw [if_neg e]
          by_cases e2 : q = i
          · rw [if_pos e2, if_pos (by omega), e2, chp_conv k A i (by omega)]
            congr 1
            rcases hJ with e3 | e3
            · have e4 : sm (i + 1) (F i) = sm j (F i) := sm_more hji fun q h1 h2 => by rw [hF]; exact if_neg (by omega)
              rw [← e4, hF]
            · rw [e3, hF]
          · rw [if_neg e2, if_neg (by omega)]
      simp (disch := first | omega | (simp only [Qn] <;> omega)) only [go_sem]
      by_cases hle : (j : Int) ≤ (i : Int)
      · rw [decide_eq_true hle]
        simp (disch := first | omega | (simp only [Qn] <;> omega)) only [go_sem, lenc]
        by_cases hlc : (j : Int) < ((k + 1 : Nat) : Int)
        · rw [decide_eq_true hlc]
          obtain ⟨d, hd⟩ : ∃ d : Nat, (i : Int) - (j : Int) = (d : Int) := ⟨i - j, by omega⟩
          have ct : h22.cell idt (offt + d) = some (.int .i64 (tzB k A d % p)) := by
            rw [f22.cell (hidt (by omega)), hct d (by omega), mkV_get _ (by omega)]
          have cc : h22.cell idc (offc + j) = some (.int .i64 (chp k A (k - j) % p)) := by
            rw [f22.cell (hidc (by omega)), hcc j (by omega), mkV_get _ (by omega)]
          have oi : h22.cell N i = some (.int .i64 (o.getD i 0)) := by rw [H.cell_of g22, ints_getD (by omega)]
          have vi := vo i (by omega)
          rw [if_neg (Nat.lt_irrefl i), if_pos rfl] at vi
          have r1 := tmod_range (tzB k A d) (show 0 < p by omega)
          have r2 := tmod_range (chp k A (k - j)) (show 0 < p by omega)
          have m1 := mul_bound r1.1 r1.2 r2.1 r2.2 hp.2
          have rj := tmod_range (sm j (F i)) (show 0 < p by omega)
          rw [← vi] at rj
          have em := nonneg_tmod (a := o.getD i 0 + tzB k A d % p * (chp k A (k - j) % p)) (p := p) (by omega)
          have fb22 : Fr h22 (H.mk h22.tr (h22.next + 22)) := (Fr.refl h22).bump (by omega)
          simp (disch := first | omega | (simp only [Qn] <;> omega)) only [go_sem, hd, sht.ixa, ct, shc.ixa, cc, oi, em, g22]
          rw [show (j : Int) + 1 = ((j + 1 : Nat) : Int) from by omega]
          refine ⟨k + 1 - (j + 1), by omega, j + 1, o.set i ((o.getD i 0 + tzB k A d % p * (chp k A (k - j) % p)) % p), ex_junk rfl, by omega, by omega, by rw [List.length_set]; exact lo, fun q hq => ?_, rfl, by omega, (f22.trans fb22).set (by omega) _, rfl⟩
          rw [getD_set]
          by_cases e : i = q
          · subst e
            rw [if_pos rfl, if_pos (by omega), if_neg (Nat.lt_irrefl i), if_pos rfl, vi, sm_succ, eF i j (by omega), show i - j = d by omega]
            exact add_mod' (Int.emod_emod_of_dvd _ (Int.dvd_refl p)) (mul_mod (Int.emod_emod_of_dvd _ (Int.dvd_refl p)) (Int.emod_emod_of_dvd _ (Int.dvd_refl p)))
          · rw [if_neg e, vo q hq, if_neg (Ne.symm e), if_neg (Ne.symm e)]
        rw [decide_eq_false hlc]
        simp (disch := first | omega | (simp only [Qn] <;> omega)) only [go_sem]
        rw [show (i : Int) + 1 = ((i + 1 : Nat) : Int) from by omega]
        exact ⟨k + 2 - (i + 1), by omega, i + 1, o, ex_junk rfl, by omega, lo, fin (.inl (by omega)), g22, n22, f22, rfl⟩
      rw [decide_eq_false hle]
      simp (disch := first | omega | (simp only [Qn] <;> omega)) only [go_sem]
      rw [show (i : Int) + 1 = ((i + 1 : Nat) : Int) from by omega]
      exact ⟨k + 2 - (i + 1), by omega, i + 1, o, ex_junk rfl, by omega, lo, fin (.inr (by omega)), g22, n22, f22, rfl⟩
    rw [decide_eq_false hik2]
    obtain rfl : i = k + 2 := by omega
    simp (disch := first | omega | (simp only [Qn] <;> omega)) only [go_sem]
    rw [show (k : Int) + 1 = ((k + 1 : Nat) : Int) from by omega]
    have eo : o = mkV (k + 1 + 1) (fun i => chp (k + 1) A (k + 1 - i) % p) := mkV_eq lo fun q hq => by rw [vo q (by omega), if_pos (by omega)]
    have so : SI h21 (.sl N 0 (k + 2) (.kn (k + 2))) (mkV (k + 1 + 1) (fun i => chp (k + 1) A (k + 1 - i) % p)) := by
      rw [← eo]
      have := SI.own (h := h21) (id := N) (by omega) g21 (.kn (k + 2))
      rw [lo] at this; exact this
    exact ⟨n - (k + 1), by omega, k + 1, _, ex_junk rfl, by omega, so, f8.trans (f11.trans f21), rfl⟩
  rw [decide_eq_false hkn']
  obtain rfl : n = k := by omega
  simp (disch := first | omega | (simp only [Qn] <;> omega)) only [go_sem]
  obtain ⟨idc, offc, shc, hidc, hcc⟩ := sc.open
  rw [mkV_len] at shc hidc hcc
  refine Wp_loop (fun k' vars hh => ∃ (d : Nat) (kk : Int) (vo : V), (∃ g : Nat → V, vars = [g 0, g 1, g 2, g 3, g 4, g 5, g 6, vc, g 8, g 9, g 10, g 11, g 12, g 13, g 14, g 15, g 16, g 17, g 18, g 19, vo, .int .i64 kk, g 22, g 23, g 24, g 25, g 26, g 27, g 28, g 29, g 30]) ∧ kk = (n : Int) - (d : Int) ∧ d ≤ n + 1 ∧ Own hh vo 1 (ints (mkV d (fun q => chp n A q % p))) h8.next ∧ Fr h8 hh ∧ k' = n + 1 - d) (n + 1)
    ⟨0, _, .nils, ex_junk rfl, by omega, Nat.zero_le _, Own.nils _ _ _, Fr.refl h8, rfl⟩ ?_
  rintro k' vars h30 ⟨d, kk, vo, ⟨g, rfl⟩, hkk, hd, oO, f30, rfl⟩
  simp (disch := first | omega | (simp only [Qn] <;> omega)) only [go_sem]
  by_cases h0 : 0 ≤ kk
  · rw [decide_eq_true h0]
    obtain ⟨q, hq⟩ : ∃ q : Nat, kk = (q : Int) := ⟨kk.toNat, by omega⟩
    subst hq
    have cq : h30.cell idc (offc + q) = some (.int .i64 (chp n A d % p)) := by
      rw [f30.cell (hidc (by omega)), hcc q (by omega), mkV_get _ (by omega), show n - q = d by omega]
    simp (disch := first | omega | (simp only [Qn] <;> omega)) only [go_sem, shc.ixa, cq, bls_i1]
    have hf31 : Fr h30 (h30.new (.cells false (ints [chp n A d % p]))) := (Fr.refl h30).new _
    have hg31 : (h30.new (.cells false (ints [chp n A d % p]))).get h30.next = some (.cells false (ints [chp n A d % p])) := H.get_new_same ..
    have hn31 : (h30.new (.cells false (ints [chp n A d % p]))).next = h30.next + 1 := H.next_new ..
    generalize h30.new (.cells false (ints [chp n A d % p])) = h31 at *
    have sx : SV h31 (.sl h30.next 0 1 (.kn 1)) 1 (ints [chp n A d % p]) := SV.all rfl (by omega) hg31 _
    have nx := f30.next
    obtain ⟨v2, h32, e32, a32⟩ := (oO.fr hf31).app (bytes := 8) (n := d) (m := 1) (by omega) sx (by rw [ints_length, mkV_len, Nat.mul_one]) rfl (by omega) (by omega)
    simp (disch := first | omega | (simp only [Qn] <;> omega)) only [go_sem, e32]
    have t32 := a32.own
    rw [← ints_append, ← mkV_succ] at t32
    exact ⟨n + 1 - (d + 1), by omega, d + 1, _, v2, ex_junk rfl, by omega, by omega, t32, a32.fr h8 (f30.trans hf31) (Nat.le_refl _), rfl⟩
  rw [decide_eq_false h0]
  obtain rfl : d = n + 1 := by omega
  simp (disch := first | omega | (simp only [Qn] <;> omega)) only [go_sem]
  have e : PolyF a = (mkV (n + 1) (fun q => chp n A q % p), 0) := by
    rw [PolyF, if_neg (by simp [hz]), hn, hpe, hA]
  rw [e]
  exact ⟨_, rfl, oO.sv, (F5.trans f8).trans f30⟩
end Go.Proofs.Ytonhijbeddcmpaa

/- Layer 4: powers. -/
namespace Go.Proofs.Ytonhijbeddcmpaa
open Go Go.Ay
set_option maxRecDepth 100000
theorem wrap_u64 {n : Int} (h1 : 0 ≤ n) (h2 : n < 18446744073709551616) : IntKind.u64.wrap n = n := by
  have : IntKind.u64.wrap n = n % 18446744073709551616 := by
    simp [IntKind.wrap, IntKind.bits, IntKind.signed]
  rw [this, Int.emod_eq_of_lt h1 h2]
theorem wrap_u64_neg {n : Int} (h1 : -18446744073709551616 ≤ n) (h2 : n < 0) : IntKind.u64.wrap n = n + 18446744073709551616 := by
  have : IntKind.u64.wrap n = n % 18446744073709551616 := by
    simp [IntKind.wrap, IntKind.bits, IntKind.signed]
  rw [this, ← Int.add_emod_right, Int.emod_eq_of_lt (by omega) (by omega)]
def pwG (n : Nat) : Nat → Mat → Mat → Nat → Mat
  | 0, out, _, _ => out
  | f + 1, out, x, left => if left = 0 then out else pwG n f (if left % 2 = 1 then mulF out x n n else out) (mulF x x n n) (left / 2)
noncomputable def PowF (a : Mat) (k : Int) : Mat × Int :=
  if sqF a ≠ 0 then ((0, []), sqF a)
  else if k < 0 ∧ (InvF a).2 ≠ 0 then ((0, []), (InvF a).2)
  else (pwG a.2.length 64 (oneF a.2.length a.1) (if k < 0 then (InvF a).1 else a) k.natAbs, 0)
/-- A unit has an inverse. -/
theorem inv_ex {p : Int} (hp : isP p = true) {m : Nat} {A : Mx} (hd : det (m + 1) A % p ≠ 0) : ∃ X, IsInv p (m + 1) A X := by
  have P := isP_pr hp
  have h2 := P.two
  have hr := tmod_range (det (m + 1) A) (show 0 < p by omega)
  have f := fermat P (a := det (m + 1) A % p) (by omega) (by omega)
  rw [show (p.toNat : Int) = p by omega] at f
  obtain ⟨e, he⟩ : ∃ e, (det (m + 1) A % p) ^ (p.toNat - 2) = e := ⟨_, rfl⟩
  rw [he] at f
  have em : ∀ a : Int, a % p % p = a % p := fun a => Int.emod_emod_of_dvd _ (Int.dvd_refl p)
  have f2 : e * det (m + 1) A % p = 1 := by
    rw [Int.mul_comm, mul_mod (em (det (m + 1) A)).symm (rfl : e % p = e % p)]; exact f
  refine ⟨fun i j => e * adjM m A i j % p, fun i j _ _ => (tmod_range _ (by omega)).1, fun i j _ _ => (tmod_range _ (by omega)).2, fun i j hi hj => ?_⟩
  rw [mulM_mod (A' := fun i j => e * adjM m A i j) (B' := A) (fun k _ => em _) (fun _ _ => rfl)]
  have e1 : mulM (m + 1) (fun i j => e * adjM m A i j) A i j = e * mulM (m + 1) (adjM m A) A i j := by
    simp only [mulM]
    rw [← sm_mul]
    exact sm_congr fun k _ => by rw [Int.mul_assoc]
  rw [e1, adj_mul A hi hj]
  simp only [idM]
  split
  · rw [f2]; exact (one_mod (by omega)).symm
  · rw [Int.mul_zero]
theorem inv_vd {a : Mat} (h : (InvF a).2 = 0) : ∃ X, IsInv a.1 a.2.length (ent a.2) X ∧ (InvF a).1 = (a.1, mkR a.2.length a.2.length X) ∧ InP a.1 a.2.length X := by
  have hz := inv_sq h
  have da := sq_vd hz
  have hd : ¬ det a.2.length (ent a.2) % a.1 = 0 := fun e => by
    rw [InvF, if_neg (by simp [hz]), if_pos e] at h
    cases h
  obtain ⟨m, hm⟩ : ∃ m, a.2.length = m + 1 := ⟨a.2.length - 1, by have := da.r1; omega⟩
  have hP : isP a.1 = true := by
    have := da.p
    simp only [fieldF, Bool.and_eq_true] at this; exact this.2
  rw [InvF, if_neg (by simp [hz]), if_neg hd]
  rw [hm] at hd ⊢
  obtain ⟨X, hX⟩ := inv_ex hP hd
  exact ⟨X, hX, by rw [invX_eq hX], fun i k hi hk => ⟨hX.lo i k hi hk, hX.hi i k hi hk⟩⟩
/-- A slice in no block of the list. -/
def Away (bad : List Nat) (v : V) : Prop := ∀ id off n c, v = .sl id off n c → id ∉ bad
/-- Rows in no block of the list. -/
def SRa (h : H) (u : V) (ll : List (List Int)) (bad : List Nat) : Prop := ∃ ws, SV h u 1 ws ∧ All2 (SI h) ws ll ∧ Away bad u ∧ ∀ w ∈ ws, Away bad w
theorem SRa.sr {h : H} {u : V} {ll : List (List Int)} {bad : List Nat} (s : SRa h u ll bad) : SR h u ll := by
  obtain ⟨ws, h1, h2, _⟩ := s; exact ⟨ws, h1, h2⟩
theorem SRa.fr {h h' : H} {u : V} {ll : List (List Int)} {bad : List Nat} (s : SRa h u ll bad) (f : Fr h h') : SRa h' u ll bad := by
  obtain ⟨ws, h1, h2, h3, h4⟩ := s
  exact ⟨ws, h1.mono f, h2.mono fun _ _ x => x.mono f, h3, h4⟩
theorem SRa.set {h : H} {u : V} {ll : List (List Int)} {bad : List Nat} (s : SRa h u ll bad) {x : Nat} (hx : x ∈ bad) (o : Option Ob) : SRa (h.set x o) u ll bad := by
  obtain ⟨ws, h1, h2, h3, h4⟩ := s
  refine ⟨ws, ?_, All2.keep h2 fun w hw _ q => SI.keep q (Nat.le_refl _) fun id off n c e => H.get_set_ne h (fun e2 => h4 w hw _ _ _ _ e (by rw [e2]; exact hx)) o, h3, h4⟩
  rcases h1 with h1 | ⟨id, off, len, cap, ro, vs, q1, q2, q3, q4, q5, q6⟩
  · exact .inl h1
  · exact .inr ⟨id, off, len, cap, ro, vs, q1, q2, q3, by rw [H.get_set_ne h (fun e2 => h3 _ _ _ _ q1 (by rw [e2]; exact hx))]; exact q4, q5, q6⟩
theorem SV.lt {h : H} {v : V} {sz : Nat} {ws : List V} (s : SV h v sz ws) {id off n : Nat} {c : Cap} (e : v = .sl id off n c) : id < h.next := by
  rcases s with ⟨h1 | ⟨_, h1⟩, _⟩ | ⟨id', o', l', c', _, _, h1, _, h3, _⟩
  · rw [h1] at e; cases e
  · rw [h1] at e; cases e
  · rw [h1] at e; cases e; exact h3
theorem all2_lt {h : H} {ws : List V} {ll : List (List Int)} (a : All2 (SI h) ws ll) {w : V} (hw : w ∈ ws) {id off n : Nat} {c : Cap} (e : w = .sl id off n c) : id < h.next := by
  obtain ⟨i, hi, rfl⟩ := List.mem_iff_getElem.1 hw
  exact SI.lt (a.get i hi (by rw [← a.length]; exact hi)) e
/-- From of old. -/
theorem SRa.old {h : H} {u : V} {ll : List (List Int)} {bad : List Nat} (s : SR h u ll) (hb : ∀ b ∈ bad, h.next ≤ b) : SRa h u ll bad := by
  obtain ⟨ws, h1, h2⟩ := s
  exact ⟨ws, h1, h2, fun id off n c e hm => by have := SV.lt h1 e; have := hb id hm; omega, fun w hw id off n c e hm => by have := all2_lt h2 hw e; have := hb id hm; omega⟩
/-- New. -/
theorem SRa.new {h : H} {u : V} {ws : List V} {ll : List (List Int)} {lo : Nat} {bad : List Nat} (r : Rws h u ws ll lo) (hb : ∀ b ∈ bad, b < lo ∨ h.next ≤ b) : SRa h u ll bad :=
  ⟨ws, r.own.sv, r.row, fun id off n c e hm => by
    have := SV.lt r.own.sv e
    have := Frs.own r.own _ _ _ _ e
    have := hb id hm; omega, fun w hw id off n c e hm => by
    have := all2_lt r.row hw e
    have := r.frs w hw _ _ _ _ e
    have := hb id hm; omega⟩
structure PI0 (p : Int) (n : Nat) (rc : LRec) (L6 O9 XB LID A3 : Nat) (base : H) (left : Nat) (out x : Mat) (uo ux : V) (hh : H) : Prop where
  gL : hh.get LID = some (.loop rc)
  g6 : hh.get L6 = some (.cells false [.int .u64 (left : Int)])
  g9 : hh.get O9 = some (.cells false [.int .i64 p, uo])
  gX : hh.get XB = some (.cells false [.int .i64 p, ux])
  so : SRa hh uo out.2 [L6, O9, XB, LID, A3]
  sx : SRa hh ux x.2 [L6, O9, XB, LID, A3]
  o1 : out.1 = p
  x1 : x.1 = p
  vo : Vd out n
  vx : Vd x n
  lo : out.2.length = n
  lx : x.2.length = n
  lt : LID < hh.next
  fr : Fr base hh
def DN (p : Int) (rc : LRec) (O9 LID : Nat) (RES : Mat) (base : H) (L6 XB A3 : Nat) (hh : H) : Prop := ∃ uo, hh.get LID = some (.loop { rc with st := .done, pend := some (.exit 0) }) ∧ hh.get O9 = some (.cells false [.int .i64 p, uo]) ∧ SRa hh uo RES.2 [L6, O9, XB, LID, A3] ∧ Fr base hh ∧ RES.1 = p
theorem PI0.set {p : Int} {n : Nat} {rc : LRec} {L6 O9 XB LID A3 : Nat} {base : H} {left : Nat} {out x : Mat} {uo ux : V} {hh : H} (k : PI0 p n rc L6 O9 XB LID A3 base left out x uo ux hh) (hs : base.next ≤ L6 ∧ L6 < O9 ∧ O9 < XB ∧ XB < LID) (rc' : LRec) : PI0 p n rc' L6 O9 XB LID A3 base left out x uo ux (hh.set LID (some (.loop rc'))) :=
  ⟨H.get_set_same .., by rw [H.get_set_ne _ (by omega)]; exact k.g6, by rw [H.get_set_ne _ (by omega)]; exact k.g9, by rw [H.get_set_ne _ (by omega)]; exact k.gX, k.so.set (by simp) _, k.sx.set (by simp) _, k.o1, k.x1, k.vo, k.vx, k.lo, k.lx, k.lt, k.fr.set (by omega) _⟩
theorem SRa.ext {h : H} {u : V} {ll : List (List Int)} {bad bad' : List Nat} (s : SRa h u ll bad) (hb : ∀ b ∈ bad', b ∈ bad ∨ h.next ≤ b) : SRa h u ll bad' := by
  obtain ⟨ws, h1, h2, h3, h4⟩ := s
  refine ⟨ws, h1, h2, fun id off n c e hm => ?_, fun w hw id off n c e hm => ?_⟩
  · rcases hb id hm with q | q
    · exact h3 _ _ _ _ e q
    · have := SV.lt h1 e; omega
  · rcases hb id hm with q | q
    · exact h4 w hw _ _ _ _ e q
    · have := all2_lt h2 hw e; omega
theorem iteW_then {p : Nat → Option Ay.Fn} {rd : Option Nat} {a b c : C} {vars : List V} {h : H} {Q : E → List V → H → Prop} {v : V} (J : List V → H → Prop) (h1 : iteW p rd a b vars h (fun e vs h' => e = .norm ∧ J vs h' ∨ e ≠ .norm ∧ Q e vs h') v) (h2 : ∀ vs h', J vs h' → Wp p rd c vs h' Q) : iteW p rd a b vars h (thenP p rd c Q) v := by
  have key : ∀ e vs h', (e = .norm ∧ J vs h' ∨ e ≠ .norm ∧ Q e vs h') → thenP p rd c Q e vs h' := fun e vs h' q => by
    rcases q with ⟨rfl, q⟩ | ⟨hne, q⟩
    · exact h2 vs h' q
    · cases e
      · exact absurd rfl hne
      · exact q
      · exact q
  cases v with
  | bool t =>
    cases t
    · exact Wp.mono (show Wp p rd b vars h _ from h1) key
    · exact Wp.mono (show Wp p rd a vars h _ from h1) key
  | _ => exact (show False from h1).elim
theorem PI0.frm {p : Int} {n : Nat} {rc : LRec} {L6 O9 XB LID A3 : Nat} {base : H} {left : Nat} {out x : Mat} {uo ux : V} {hh h' : H} (k : PI0 p n rc L6 O9 XB LID A3 base left out x uo ux hh) (hs : base.next ≤ L6 ∧ L6 < O9 ∧ O9 < XB ∧ XB < LID) (f : Fr hh h') : PI0 p n rc L6 O9 XB LID A3 base left out x uo ux h' := by
  have ltL := k.lt
  exact ⟨(f.get _ (by omega)).trans k.gL, (f.get _ (by omega)).trans k.g6, (f.get _ (by omega)).trans k.g9, (f.get _ (by omega)).trans k.gX, k.so.fr f, k.sx.fr f, k.o1, k.x1, k.vo, k.vx, k.lo, k.lx, Nat.lt_of_lt_of_le k.lt f.next, k.fr.trans f⟩
theorem PI0.setO {p : Int} {n : Nat} {rc : LRec} {L6 O9 XB LID A3 : Nat} {base : H} {left : Nat} {out x out' : Mat} {uo ux uo' : V} {hh : H} (k : PI0 p n rc L6 O9 XB LID A3 base left out x uo ux hh) (hs : base.next ≤ L6 ∧ L6 < O9 ∧ O9 < XB ∧ XB < LID) (so : SRa hh uo' out'.2 [L6, O9, XB, LID, A3]) (o1 : out'.1 = p) (vo : Vd out' n) (lo : out'.2.length = n) : PI0 p n rc L6 O9 XB LID A3 base left out' x uo' ux (hh.set O9 (some (.cells false [.int .i64 p, uo']))) :=
  ⟨by rw [H.get_set_ne _ (by omega)]; exact k.gL, by rw [H.get_set_ne _ (by omega)]; exact k.g6, H.get_set_same .., by rw [H.get_set_ne _ (by omega)]; exact k.gX, so.set (by simp) _, k.sx.set (by simp) _, o1, k.x1, vo, k.vx, lo, k.lx, k.lt, k.fr.set (by omega) _⟩
theorem PI0.setX {p : Int} {n : Nat} {rc : LRec} {L6 O9 XB LID A3 : Nat} {base : H} {left : Nat} {out x x' : Mat} {uo ux ux' : V} {hh : H} (k : PI0 p n rc L6 O9 XB LID A3 base left out x uo ux hh) (hs : base.next ≤ L6 ∧ L6 < O9 ∧ O9 < XB ∧ XB < LID) (sx : SRa hh ux' x'.2 [L6, O9, XB, LID, A3]) (x1 : x'.1 = p) (vx : Vd x' n) (lx : x'.2.length = n) : PI0 p n rc L6 O9 XB LID A3 base left out x' uo ux' (hh.set XB (some (.cells false [.int .i64 p, ux']))) :=
  ⟨by rw [H.get_set_ne _ (by omega)]; exact k.gL, by rw [H.get_set_ne _ (by omega)]; exact k.g6, by rw [H.get_set_ne _ (by omega)]; exact k.g9, H.get_set_same .., k.so.set (by simp) _, sx.set (by simp) _, k.o1, x1, k.vo, vx, k.lo, lx, k.lt, k.fr.set (by omega) _⟩
theorem PI0.setL {p : Int} {n : Nat} {rc : LRec} {L6 O9 XB LID A3 : Nat} {base : H} {left : Nat} {out x : Mat} {uo ux : V} {hh : H} (k : PI0 p n rc L6 O9 XB LID A3 base left out x uo ux hh) (hs : base.next ≤ L6 ∧ L6 < O9 ∧ O9 < XB ∧ XB < LID) (left' : Nat) : PI0 p n rc L6 O9 XB LID A3 base left' out x uo ux (hh.set L6 (some (.cells false [.int .u64 (left' : Int)]))) :=
  ⟨by rw [H.get_set_ne _ (by omega)]; exact k.gL, H.get_set_same .., by rw [H.get_set_ne _ (by omega)]; exact k.g9, by rw [H.get_set_ne _ (by omega)]; exact k.gX, k.so.set (by simp) _, k.sx.set (by simp) _, k.o1, k.x1, k.vo, k.vx, k.lo, k.lx, k.lt, k.fr.set (by omega) _⟩
theorem squares_ok (p : Int) (u : V) (h : H) (hu : u.one = true) : Ev T n_matrix_squares [.agg [.int .i64 p, u]] h (fun v h' => v = .fn 87 [] [.ptr h.next 0] ∧ h' = h.new (.cells false [.int .i64 p, u])) := by
  refine Ev_of t_matrix_squares rfl ?_
  simp (disch := first | omega | (simp only [Qn] <;> omega)) only [go_sem, c_matrix_squares, initV_eq, boxV_agg2 h (v := .int .i64 p) rfl hu]
set_option maxHeartbeats 16000000 in
theorem Pow_ok (va : V) (a : Mat) (k : Int) (h : H) (ha : MatV h va a) (la : (a.2.length : Int) ≤ 2 ^ 63 - 1) (hk : -9223372036854775808 ≤ k ∧ k < 9223372036854775808) :
    Ev T n_matrix_Pow [va, .int .i64 k] h (fun v h' => ∃ w, v = .tup [w, .int .i64 (PowF a k).2] ∧ MatV h' w (PowF a k).1 ∧ Fr h h') := by
  obtain ⟨ua, rfl, hua⟩ := ha
  refine Ev_of t_matrix_Pow rfl ?_
  have wa := SV.what hua.choose_spec.1
  simp (disch := first | omega | (simp only [Qn] <;> omega)) only [go_sem, c_matrix_Pow, initV_eq, boxV_agg2 h (v := .int .i64 a.1) rfl wa.2.1]
  have hfx : Fr h (h.new (.cells false [.int .i64 a.1, ua])) := (Fr.refl h).new _
  have hgx : (h.new (.cells false [.int .i64 a.1, ua])).get h.next = some (.cells false [.int .i64 a.1, ua]) := H.get_new_same ..
  have hnx : (h.new (.cells false [.int .i64 a.1, ua])).next = h.next + 1 := H.next_new ..
  generalize h.new (.cells false [.int .i64 a.1, ua]) = hx at *
  have hfy : Fr hx (hx.new (.cells false [.int .i64 0, .nils])) := (Fr.refl hx).new _
  have hgy : (hx.new (.cells false [.int .i64 0, .nils])).get hx.next = some (.cells false [.int .i64 0, .nils]) := H.get_new_same ..
  have hny : (hx.new (.cells false [.int .i64 0, .nils])).next = hx.next + 1 := H.next_new ..
  generalize hx.new (.cells false [.int .i64 0, .nils]) = hy at *
  have F := hfx.trans hfy
  have gx := (hfy.get h.next (by omega)).trans hgx
  simp (disch := first | omega | (simp only [Qn] <;> omega)) only [go_sem, row_two gx]
  refine (square_ok _ a hy ⟨ua, rfl, hua.mono F⟩ la).mono ?_
  rintro v h5 ⟨rfl, f5⟩
  have F5 := F.trans f5
  have gx5 := (f5.get h.next (by omega)).trans gx
  have gy5 := (f5.get hx.next (by omega)).trans hgy
  have n5 := f5.next
  rw [← hnx]
  obtain ⟨A2, hA2⟩ : ∃ A2, h.next = A2 := ⟨_, rfl⟩
  obtain ⟨A3, hA3⟩ : ∃ A3, hx.next = A3 := ⟨_, rfl⟩
  rw [hA2] at gx5
  rw [hA3] at gy5
  rw [hA2, hA3]
  have hst0 := fun hh => stV_agg2 hh A3 0 (v := .int .i64 0) (u := .nils) rfl rfl
  simp (disch := first | omega | (simp only [Qn] <;> omega)) only [go_sem]
  refine iteW_dec (fun he => ?_) (fun he => ?_)
  · have hrow := row_two (h := h5.set A3 (some (.cells false [.int .i64 0, .nils]))) (H.get_set_same ..)
    simp (disch := first | omega | (simp only [Qn] <;> omega)) only [go_sem, bldV_nil, hst0, gy5, hrow]
    have e : PowF a k = ((0, []), sqF a) := by rw [PowF, if_pos he]
    rw [e]
    exact ⟨_, rfl, ⟨.nils, rfl, SR.nils _⟩, F5.set (by omega) _⟩
  have hz : sqF a = 0 := Classical.byContradiction he
  have da := sq_vd hz
  obtain ⟨n, hn⟩ : ∃ n, a.2.length = n := ⟨_, rfl⟩
  rw [hn] at da
  have hr1 := da.r1
  have hr2 := da.r2
  rw [hn] at hr1 hr2
  have hp := fieldF_range da.p
  have hst6 := fun hh id (z : Int) => stV_one (y := .int .u64 z) rfl rfl hh id 0
  simp (disch := first | omega | (simp only [Qn] <;> omega)) only [go_sem]
  obtain ⟨L6, hL6⟩ : ∃ L6, h5.next = L6 := ⟨_, rfl⟩
  obtain ⟨w, hw⟩ : ∃ w, IntKind.u64.wrap k = w := ⟨_, rfl⟩
  rw [hL6, hw]
  have fB : Fr h5 ((h5.new (.cells false [.int .u64 0])).set L6 (some (.cells false [.int .u64 w]))) := ((Fr.refl h5).new _).set (by omega) _
  have gB : ((h5.new (.cells false [.int .u64 0])).set L6 (some (.cells false [.int .u64 w]))).get L6 = some (.cells false [.int .u64 w]) := H.get_set_same ..
  have nB : ((h5.new (.cells false [.int .u64 0])).set L6 (some (.cells false [.int .u64 w]))).next = L6 + 1 := by rw [H.next_set, H.next_new, hL6]
  generalize (h5.new (.cells false [.int .u64 0])).set L6 (some (.cells false [.int .u64 w])) = hB at *
  have gxB := (fB.get A2 (by omega)).trans gx5
  have gyB := (fB.get A3 (by omega)).trans gy5
  have sB := hua.mono (F5.trans fB)
  refine iteW_then (fun vs h7 => ∃ (b : Mat) (ub : V) (m : Nat), (∃ g : Nat → V, vs = [g 0, g 1, .ptr A2 0, .ptr A3 0, g 4, g 5, .ptr L6 0, g 7, g 8, g 9, g 10, g 11, g 12, g 13, g 14, g 15, g 16, g 17]) ∧ h7.get A2 = some (.cells false [.int .i64 a.1, ub]) ∧ h7.get L6 = some (.cells false [.int .u64 (m : Int)]) ∧ h7.get A3 = some (.cells false [.int .i64 0, .nils]) ∧ SRa h7 ub b.2 [A2, A3, L6] ∧ Vd b n ∧ b.1 = a.1 ∧ b.2.length = n ∧ m ≤ 9223372036854775808 ∧ Fr h h7 ∧ L6 < h7.next ∧ PowF a k = (pwG n 64 (oneF n a.1) b m, 0)) ?_ ?_
  · refine iteW_dec (fun hneg => ?_) (fun hneg => ?_)
    · simp (disch := first | omega | (simp only [Qn] <;> omega)) only [go_sem, row_two gxB]
      refine (Inv_ok _ a hB ⟨ua, rfl, sB⟩ la).mono ?_
      rintro v h7 ⟨wi, rfl, ⟨ui, wsi, rfl, RI⟩, f7⟩
      have vi := SV.what RI.own.sv
      have hst7 := fun hh id => stV_agg2 hh id 0 (v := .int .i64 (InvF a).1.1) (u := ui) rfl vi.2.1
      simp (disch := first | omega | (simp only [Qn] <;> omega)) only [go_sem, hst7, bxH_eq]
      have fC := bxH_fr h7 (InvF a).1.1 ui
      have gC := bxH_get h7 (InvF a).1.1 ui
      have nC := bxH_next h7 (InvF a).1.1 ui
      have RC := RI.fr fC
      generalize bxH h7 (InvF a).1.1 ui = hC at *
      have fBC := f7.trans fC
      have n7 := f7.next
      have gyC := (fBC.get A3 (by omega)).trans gyB
      have gxC := (fBC.get A2 (by omega)).trans gxB
      have g6C := (fBC.get L6 (by omega)).trans gB
      refine iteW_dec (fun he1 => ?_) (fun he1 => ?_)
      · have hrow := row_two (h := hC.set A3 (some (.cells false [.int .i64 0, .nils]))) (H.get_set_same ..)
        simp (disch := first | omega | (simp only [Qn] <;> omega)) only [go_sem, bldV_nil, hst0, gyC]
        have e : PowF a k = ((0, []), (InvF a).2) := by rw [PowF, if_neg (by simp [hz]), if_pos ⟨hneg, he1⟩]
        have hrow := row_two (h := hC.set A3 (some (.cells false [.int .i64 0, .nils]))) (H.get_set_same ..)
        refine .inr ⟨(fun q => nomatch q), ?_⟩
        simp (disch := first | omega | (simp only [Qn] <;> omega)) only [go_sem, hrow]
        rw [e]
        exact ⟨_, rfl, ⟨.nils, rfl, SR.nils _⟩, ((F5.trans fB).trans fBC).set (by omega) _⟩
      · have rC := row_two gC
        have hstA := fun hh => stV_agg2 hh A2 0 (v := .int .i64 (InvF a).1.1) (u := ui) rfl vi.2.1
        have rCb : (H.mk hC.tr (hC.next + 5)).row h7.next 0 2 = some [.int .i64 (InvF a).1.1, ui] := rC
        have c6 : hC.cell L6 0 = some (.int .u64 w) := by rw [H.cell_of g6C]; rfl
        have hw2 : w = k + 18446744073709551616 := by rw [← hw, wrap_u64_neg (by omega) (by omega)]
        have hwn : IntKind.u64.wrap (0 - w) = -k := by rw [wrap_u64_neg (by omega) (by omega)]; omega
        have hstm := fun hh (z : Int) => stV_one (y := .int .u64 z) rfl rfl hh L6 0
        have hpm := fun (hh : H) (z : Int) => putO_one (vs := [.int .u64 w]) (off := 0) (by simp) hh L6 (.int .u64 z)
        have hi0 : (InvF a).2 = 0 := Classical.byContradiction he1
        obtain ⟨X, hX, eX, iX⟩ := inv_vd hi0
        rw [hn] at hX eX iX
        have sq : Sq a.1 n := ⟨da.p, hr1, hr2⟩
        have fD : Fr h (((H.mk hC.tr (hC.next + 5)).set A2 (some (.cells false [.int .i64 (InvF a).1.1, ui]))).set L6 (some (.cells false [.int .u64 (-k)]))) := (((((F5.trans fB).trans fBC).bump (by omega)).set (by omega) _).set (by omega) _)
        have RD : SRa (((H.mk hC.tr (hC.next + 5)).set A2 (some (.cells false [.int .i64 (InvF a).1.1, ui]))).set L6 (some (.cells false [.int .u64 (-k)]))) ui (InvF a).1.2 [A2, A3, L6] := (((SRa.new (bad := [A2, A3, L6]) RC fun b hb => by
          simp only [List.mem_cons, List.not_mem_nil, or_false] at hb
          omega).fr ((Fr.refl hC).bump (n := hC.next + 5) (by omega))).set (by simp) _).set (by simp) _
        simp (disch := first | omega | (simp only [Qn] <;> omega)) only [go_sem, rCb, c6, hstA, gxC, eqV_int, hwn, hstm, g6C, hpm]
        refine .inl ⟨(InvF a).1, ui, k.natAbs, ex_junk rfl, by rw [eX], by rw [show (k.natAbs : Int) = -k by omega], gyC, RD, by rw [eX]; exact sq.vd iX, by rw [eX], by rw [eX]; exact mkR_len .., by omega, fD, by omega, ?_⟩
        rw [PowF, if_neg (by simp [hz]), if_neg (by simp [hi0]), if_pos hneg, hn]
    · simp (disch := first | omega | (simp only [Qn] <;> omega)) only [go_sem]
      refine .inl ⟨a, ua, k.natAbs, ex_junk rfl, gxB, ?_, gyB, ?_, da, rfl, hn, by omega, F5.trans fB, by omega, ?_⟩
      · rw [gB, ← hw, wrap_u64 (by omega) (by omega), show (k.natAbs : Int) = k by omega]
      · exact (SRa.old (bad := [A2, A3, L6]) hua fun b hb => by
          simp only [List.mem_cons, List.not_mem_nil, or_false] at hb
          have := F5.next
          omega).fr (F5.trans fB)
      · rw [PowF, if_neg (by simp [hz]), if_neg (fun q => hneg q.1), if_neg hneg, hn]
  · rintro vs h7 ⟨b, ub, m, ⟨g, rfl⟩, gA2, g6, gA3, sb, db, hb1, hbn, hm, F7, l6, hres⟩
    clear gxB gyB sB gB nB fB hst6 hw
    have x0 : h7.cell A2 0 = some (.int .i64 a.1) := by rw [H.cell_of gA2]; rfl
    have x1 : h7.cell A2 1 = some ub := by rw [H.cell_of gA2]; rfl
    have lB : lensV ub = some (.int .i64 (n : Int)) := by rw [← hbn]; exact sb.sr.lens
    simp (disch := first | omega | (simp only [Qn] <;> omega)) only [go_sem, x0, x1, lB]
    refine (one_ok n a.1 h7 hr1 hr2).mono ?_
    rintro v h8 ⟨⟨u8, ws8, rfl, R8⟩, f8⟩
    have v8 := SV.what R8.own.sv
    have hst8 := fun hh id => stV_agg2 hh id 0 (v := .int .i64 (oneF n a.1).1) (u := u8) rfl v8.2.1
    simp (disch := first | omega | (simp only [Qn] <;> omega)) only [go_sem, hst8, bxH_eq]
    have fC := bxH_fr h8 (oneF n a.1).1 u8
    have gC := bxH_get h8 (oneF n a.1).1 u8
    have nC := bxH_next h8 (oneF n a.1).1 u8
    have RC := R8.fr fC
    generalize bxH h8 (oneF n a.1).1 u8 = hC at *
    obtain ⟨O9, hO9⟩ : ∃ O9, h8.next = O9 := ⟨_, rfl⟩
    rw [hO9] at gC nC
    rw [hO9]
    have n8 := f8.next
    have fC7 := f8.trans fC
    have gA2C := (fC7.get A2 (by omega)).trans gA2
    have gA3C := (fC7.get A3 (by omega)).trans gA3
    have g6C := (fC7.get L6 (by omega)).trans g6
    have sbC := sb.fr fC7
    simp (disch := first | omega | (simp only [Qn] <;> omega)) only [go_sem, row_two gA2C]
    refine (squares_ok a.1 ub hC (SV.what sbC.sr.choose_spec.1).2.1).mono ?_
    rintro v h9 ⟨rfl, rfl⟩
    have hfx9 : Fr hC (hC.new (.cells false [.int .i64 a.1, ub])) := (Fr.refl hC).new _
    have hgx9 : (hC.new (.cells false [.int .i64 a.1, ub])).get hC.next = some (.cells false [.int .i64 a.1, ub]) := H.get_new_same ..
    have hnx9 : (hC.new (.cells false [.int .i64 a.1, ub])).next = hC.next + 1 := H.next_new ..
    generalize hC.new (.cells false [.int .i64 a.1, ub]) = hX at *
    obtain ⟨XB, hXB⟩ : ∃ XB, hC.next = XB := ⟨_, rfl⟩
    rw [hXB] at hgx9 hnx9
    rw [hXB]
    obtain ⟨LID, hLID⟩ : ∃ LID, hX.next = LID := ⟨_, rfl⟩
    simp (disch := first | omega | (simp only [Qn] <;> omega)) only [go_sem]
    rw [hLID]
    generalize hrc : LRec.mk _ _ _ _ _ _ = rc
    refine ⟨rfl, ?_⟩
    obtain ⟨base, hbase⟩ : ∃ base, base = H.mk h7.tr L6 := ⟨_, rfl⟩
    have nb : base.next = L6 := by rw [hbase]
    have gb : ∀ id, base.get id = h7.get id := fun id => by rw [hbase]; rfl
    have f57 := F5.next
    have Fb : Fr h base := ⟨by omega, fun id hid => (gb id).trans (F7.get id hid)⟩
    have Fb7 : Fr base h7 := ⟨by omega, fun id hid => (gb id).symm⟩
    have hs : base.next ≤ L6 ∧ L6 < O9 ∧ O9 < XB ∧ XB < LID := ⟨by omega, by omega, by omega, by omega⟩
    have nLX : LID ≠ L6 ∧ LID ≠ O9 ∧ LID ≠ XB := ⟨by omega, by omega, by omega⟩
    obtain ⟨RES, hRES⟩ : ∃ R, pwG n 64 (oneF n a.1) b m = R := ⟨_, rfl⟩
    have hRp : ∀ f out x left, out.1 = a.1 → (pwG n f out x left).1 = a.1 := fun f => by
      induction f with
      | zero => intro out x left h; exact h
      | succ f ih =>
        intro out x left h
        rw [pwG]
        split
        · exact h
        · apply ih
          split
          · exact h
          · exact h
    have hY : ∀ f left out x uo ux hh, PI0 a.1 n rc L6 O9 XB LID A3 base left out x uo ux hh → left < 2 ^ f → left ≤ 9223372036854775808 → pwG n f out x left = RES →
        Ey T LID [.agg [.int .i64 a.1, ux]] hh (fun v hh' => (v = .bool true ∧ ∃ f' left' out' uo', f = f' + 1 ∧ PI0 a.1 n rc L6 O9 XB LID A3 base left' out' x uo' ux hh' ∧ left' < 2 ^ f' ∧ left' ≤ 9223372036854775808 ∧ pwG n f' out' (mulF x x n n) left' = RES) ∨ (v = .bool false ∧ DN a.1 rc O9 LID RES base L6 XB A3 hh')) := by
      intro f left out x uo ux hh K hlf hl63 hpw
      refine Ey_of K.gL (by rw [← hrc]; rfl) ?_
      have hux := SV.what K.sx.sr.choose_spec.1
      have hstx := fun hh id => stV_agg2 hh id 0 (v := .int .i64 a.1) (u := ux) rfl hux.2.1
      have ltL := K.lt
      have K1 : PI0 a.1 n rc L6 O9 XB LID A3 base left out x uo ux (bxH hh a.1 ux) := by
        have f := bxH_fr hh a.1 ux
        exact ⟨(f.get _ (by omega)).trans K.gL, (f.get _ (by omega)).trans K.g6, (f.get _ (by omega)).trans K.g9, (f.get _ (by omega)).trans K.gX, K.so.fr f, K.sx.fr f, K.o1, K.x1, K.vo, K.vx, K.lo, K.lx, by rw [bxH_next]; omega, K.fr.trans f⟩
      have gbx := bxH_get hh a.1 ux
      have nbx := bxH_next hh a.1 ux
      subst hrc
      simp (disch := first | omega | (simp only [Qn] <;> omega)) only [go_sem, List.zip_cons_cons, List.zip_nil_left, hstx, bxH_eq]
      refine ⟨_, K1.gL, rfl, ?_⟩
      generalize bxH hh a.1 ux = h1 at *
      have K2 := fun rc' => K1.set hs rc'
      generalize hrb : LRec.mk _ _ _ _ LSt.busy _ = rb
      have K3 := K2 rb
      have gbx2 : (h1.set LID (some (.loop rb))).get hh.next = some (.cells false [.int .i64 a.1, ux]) := by rw [H.get_set_ne _ (by omega)]; exact gbx
      have n2 : (h1.set LID (some (.loop rb))).next = h1.next := rfl
      generalize h1.set LID (some (.loop rb)) = h2 at *
      clear K2
      have c6 : h2.cell L6 0 = some (.int .u64 (left : Int)) := by rw [H.cell_of K3.g6]; rfl
      have c61 : h1.cell L6 0 = some (.int .u64 (left : Int)) := by rw [H.cell_of K1.g6]; rfl
      simp (disch := first | omega | (simp only [Qn] <;> omega)) only [go_sem, c61]
      by_cases h0 : (left : Int) = 0
      · rw [decide_eq_true h0]
        simp (disch := first | omega | (simp only [Qn] <;> omega)) only [go_sem]
        refine ⟨_, K3.gL, ?_⟩
        have K4 := fun rc' => K3.set hs rc'
        refine .inr ⟨rfl, uo, ?_, (K4 _).g9, ?_, (K4 _).fr, ?_⟩
        · rw [← hrb]; exact H.get_set_same ..
        · have e : RES = out := by
            rw [← hpw]
            cases f with
            | zero => rfl
            | succ f => rw [pwG, if_pos (by omega)]
          rw [e]
          exact (K4 _).so
        · rw [← hpw]; exact hRp _ _ _ _ K.o1
      · rw [decide_eq_false h0]
        obtain ⟨f', rfl⟩ : ∃ f', f = f' + 1 := by
          cases f with
          | zero => simp at hlf; omega
          | succ f => exact ⟨f, rfl⟩
        rw [pwG, if_neg (by omega)] at hpw
        have hlf2 : left / 2 < 2 ^ f' := by rw [Nat.pow_succ] at hlf; omega
        have em : (left : Int).tmod 2 = ((left % 2 : Nat) : Int) := tmod_nat left 2
        have ed : (left : Int).tdiv 2 = ((left / 2 : Nat) : Int) := rfl
        have ew : IntKind.u64.wrap ((left / 2 : Nat) : Int) = ((left / 2 : Nat) : Int) := wrap_u64 (by omega) (by omega)
        have hst6 := fun hh (z : Int) => stV_one (y := .int .u64 z) rfl rfl hh L6 0
        have hpm := fun (hh : H) (z : Int) => putO_one (vs := [.int .u64 (left : Int)]) (off := 0) (by simp) hh L6 (.int .u64 z)
        simp (disch := first | omega | (simp only [Qn] <;> omega)) only [go_sem, c6, em]
        by_cases hodd : ((left % 2 : Nat) : Int) = 1
        · rw [decide_eq_true hodd]
          rw [if_pos (by omega)] at hpw
          have n1 : LID < h2.next := K3.lt
          simp (disch := first | omega | (simp only [Qn] <;> omega)) only [go_sem, row_two K3.g9, row_two gbx2]
          refine (mul_ok _ _ out x n n h2 ⟨uo, by rw [K3.o1], K3.so.sr⟩ ⟨ux, by rw [K3.x1], K3.sx.sr⟩ K3.vo K3.vx (by rw [K3.o1, K3.x1]) K3.lx.symm).mono ?_
          rintro v h3 ⟨⟨um, wsm, rfl, RM⟩, f3⟩
          have vm := SV.what RM.own.sv
          have e1 : (mulF out x n n).1 = a.1 := K3.o1
          have hstm := fun hh id => stV_agg2 hh id 0 (v := .int .i64 (mulF out x n n).1) (u := um) rfl vm.2.1
          rw [e1] at hstm
          rw [e1]
          have K4 := (K3.frm hs f3).setO hs (SRa.new (bad := [L6, O9, XB, LID, A3]) RM fun b hb => by
            simp only [List.mem_cons, List.not_mem_nil, or_false] at hb
            omega) e1 (K3.vo.mul K3.vx) (by rw [mulF, mkR_len]; exact K3.lo)
          have g93 := (K3.frm hs f3).g9
          have g63 := (K3.frm hs f3).g6
          have c63 : h3.cell L6 0 = some (.int .u64 (left : Int)) := by rw [H.cell_of g63]; rfl
          have K5 := K4.setL hs (left / 2)
          simp (disch := first | omega | (simp only [Qn] <;> omega)) only [go_sem, hstm, g93, c63, ed, ew, hst6, g63, hpm]
          generalize (h3.set O9 (some (.cells false [.int .i64 a.1, um]))).set L6 (some (.cells false [.int .u64 ((left / 2 : Nat) : Int)])) = h5 at *
          refine ⟨rb, K5.gL, .inl ⟨rfl, f', left / 2, mulF out x n n, um, rfl, ?_, hlf2, by omega, hpw⟩⟩
          subst hrb
          exact K5.set hs _
        · rw [decide_eq_false hodd]
          rw [if_neg (by omega)] at hpw
          have K5 := K3.setL hs (left / 2)
          simp (disch := first | omega | (simp only [Qn] <;> omega)) only [go_sem, c6, ed, ew, hst6, K3.g6, hpm]
          generalize h2.set L6 (some (.cells false [.int .u64 ((left / 2 : Nat) : Int)])) = h5 at *
          refine ⟨rb, K5.gL, .inl ⟨rfl, f', left / 2, out, uo, rfl, ?_, hlf2, by omega, hpw⟩⟩
          subst hrb
          exact K5.set hs _
    have K0 : PI0 a.1 n rc L6 O9 XB LID A3 base m (oneF n a.1) b u8 ub (hX.new (.loop rc)) := by
      have fN : Fr hC (hX.new (.loop rc)) := hfx9.new _
      have gN : ∀ id, id < XB → (hX.new (.loop rc)).get id = hC.get id := fun id hid => fN.get id (by omega)
      refine ⟨by rw [← hLID]; exact H.get_new_same .., (gN _ (by omega)).trans g6C, (gN _ (by omega)).trans gC, ?_, ?_, ?_, rfl, hb1, ?_, db, by simp only [oneF, mkR_len], hbn, by rw [H.next_new]; omega, (Fb7.trans fC7).trans fN⟩
      · rw [H.get_new_ne _ (by omega)]; exact hgx9
      · exact (SRa.new (bad := [L6, O9, XB, LID, A3]) R8 fun q hq => by
          simp only [List.mem_cons, List.not_mem_nil, or_false] at hq
          omega).fr (fC.trans fN)
      · exact (sb.ext (bad' := [L6, O9, XB, LID, A3]) fun q hq => by
          simp only [List.mem_cons, List.not_mem_nil, or_false] at hq ⊢
          omega).fr (fC7.trans fN)
      · have sq : Sq a.1 n := ⟨da.p, hr1, hr2⟩
        exact sq.vd sq.on
    have hpw0 : m < 2 ^ 64 := by omega
    have loop : Ev T 87 [.yl LID, .ptr XB 0] (hX.new (.loop rc)) (fun _ hh => DN a.1 rc O9 LID RES base L6 XB A3 hh) := by
      refine Ev_of t_matrix_squares_1 rfl ?_
      simp (disch := first | omega | (simp only [Qn] <;> omega)) only [go_sem, c_matrix_squares_1, initV_eq]
      refine Wp_loop (fun f vars hh => ∃ (left : Nat) (out x : Mat) (uo ux : V), (∃ g : Nat → V, vars = [.yl LID, .ptr XB 0, g 2]) ∧ PI0 a.1 n rc L6 O9 XB LID A3 base left out x uo ux hh ∧ left < 2 ^ f ∧ left ≤ 9223372036854775808 ∧ pwG n f out x left = RES) 64
        ⟨m, _, b, _, _, ex_junk rfl, K0, hpw0, hm, hRES⟩ ?_
      rintro f vars hh ⟨left, out, x, uo, ux, ⟨g, rfl⟩, K, hlf, hl63, hpw⟩
      simp (disch := first | omega | (simp only [Qn] <;> omega)) only [go_sem, row_two K.gX]
      refine (hY f left out x uo ux hh K hlf hl63 hpw).mono ?_
      rintro v h3 (⟨rfl, f', left', out', uo', rfl, K3, hlf', hl63', hpw'⟩ | ⟨rfl, hd⟩)
      · have n1 : LID < h3.next := K3.lt
        simp (disch := first | omega | (simp only [Qn] <;> omega)) only [go_sem, row_two K3.gX]
        refine (mul_ok _ _ x x n n h3 ⟨ux, by rw [K3.x1], K3.sx.sr⟩ ⟨ux, by rw [K3.x1], K3.sx.sr⟩ K3.vx K3.vx rfl K3.lx.symm).mono ?_
        rintro v h4 ⟨⟨um, wsm, rfl, RM⟩, f4⟩
        have vm := SV.what RM.own.sv
        have e1 : (mulF x x n n).1 = a.1 := K3.x1
        have hstm := fun hh id => stV_agg2 hh id 0 (v := .int .i64 (mulF x x n n).1) (u := um) rfl vm.2.1
        rw [e1] at hstm
        rw [e1]
        have gX4 := (K3.frm hs f4).gX
        have K4 := (K3.frm hs f4).setX hs (x' := mulF x x n n) (SRa.new (bad := [L6, O9, XB, LID, A3]) RM fun b hb => by
            simp only [List.mem_cons, List.not_mem_nil, or_false] at hb
            omega) e1 (K3.vx.mul K3.vx) (by rw [mulF, mkR_len]; exact K3.lx)
        simp (disch := first | omega | (simp only [Qn] <;> omega)) only [go_sem, hstm, gX4]
        exact ⟨f', by omega, left', out', mulF x x n n, uo', um, ex_junk rfl, K4, hlf', hl63', hpw'⟩
      · simp (disch := first | omega | (simp only [Qn] <;> omega)) only [go_sem]
        exact hd
    refine loop.mono ?_
    rintro _ h10 ⟨uo, gL, g9, so, f10, hR1⟩
    refine ⟨_, gL, by simp, ?_⟩
    have g3b : base.get A3 = some (.cells false [.int .i64 0, .nils]) := (gb A3).trans gA3
    have g310 := (f10.get A3 (by omega)).trans g3b
    have vo := SV.what so.sr.choose_spec.1
    have hst9 := fun hh id => stV_agg2 hh id 0 (v := .int .i64 a.1) (u := uo) rfl vo.2.1
    simp only [Option.getD_some]
    generalize hrb2 : Ob.loop _ = rb2
    have nl3 : LID ≠ A3 := by omega
    have r9 := row_two (h := h10.set LID (some rb2)) (id := O9) (ro := false) (v := .int .i64 a.1) (u := uo) (by rw [H.get_set_ne _ (by omega)]; exact g9)
    have hrow := row_two (h := (h10.set LID (some rb2)).set A3 (some (.cells false [.int .i64 a.1, uo]))) (H.get_set_same ..)
    simp (disch := first | omega | (simp only [Qn] <;> omega)) only [go_sem, r9, hst9, g310, hrow]
    rw [hres, hRES]
    have sF : SR ((h10.set LID (some rb2)).set A3 (some (.cells false [.int .i64 a.1, uo]))) uo RES.2 := ((so.set (by simp) _).set (by simp) _).sr
    exact ⟨_, rfl, ⟨uo, by rw [hR1], sF⟩, (((Fb.trans f10).set (by omega) _).set (by omega) _)⟩
end Go.Proofs.Ytonhijbeddcmpaa

/- Layer 4: determinants, inverses and powers of valid square matrices. -/
namespace Go.Proofs.Ytonhijbeddcmpaa
open Go Go.Ay
set_option maxRecDepth 100000
theorem emm (p a : Int) : a % p % p = a % p := Int.emod_emod_of_dvd _ (Int.dvd_refl p)
/-- Congruent. -/
def Em (p : Int) (n : Nat) (A B : Mx) : Prop := ∀ i j, i < n → j < n → A i j % p = B i j % p
theorem Em.refl (p : Int) (n : Nat) (A : Mx) : Em p n A A := fun _ _ _ _ => rfl
theorem Em.symm {p : Int} {n : Nat} {A B : Mx} (h : Em p n A B) : Em p n B A := fun i j hi hj => (h i j hi hj).symm
theorem Em.trans {p : Int} {n : Nat} {A B C : Mx} (h : Em p n A B) (k : Em p n B C) : Em p n A C := fun i j hi hj => (h i j hi hj).trans (k i j hi hj)
theorem Em.mul {p : Int} {n : Nat} {A A' B B' : Mx} (h : Em p n A A') (k : Em p n B B') : Em p n (mulM n A B) (mulM n A' B') := fun i j hi hj => mulM_mod (fun l hl => h i l hi hl) (fun l hl => k l j hl hj)
theorem Em.of {p : Int} {n : Nat} {A B : Mx} (h : ∀ i j, i < n → j < n → A i j = B i j) : Em p n A B := fun i j hi hj => by rw [h i j hi hj]
theorem Em.assoc (p : Int) (n : Nat) (A B C : Mx) : Em p n (mulM n (mulM n A B) C) (mulM n A (mulM n B C)) := fun i j _ _ => by rw [mulM_assoc]
theorem Em.mm (p : Int) (n : Nat) (A B : Mx) : Em p n (mmP p n A B) (mulM n A B) := fun i j _ _ => emm p _
theorem Em.rows {p : Int} {n : Nat} {A B : Mx} (h : Em p n A B) (hA : InP p n A) (hB : InP p n B) : mkR n n A = mkR n n B := mkR_congr fun i k hi hk => by
  have := h i k hi hk
  rwa [Int.emod_eq_of_lt (hA i k hi hk).1 (hA i k hi hk).2, Int.emod_eq_of_lt (hB i k hi hk).1 (hB i k hi hk).2] at this
theorem Em.idl (p : Int) (n : Nat) (A : Mx) : Em p n (mulM n idM A) A := fun i j hi _ => by rw [id_mulM n A hi]
theorem Em.idr (p : Int) (n : Nat) (A : Mx) : Em p n (mulM n A idM) A := fun i j _ hj => by rw [mulM_id n A hj]
theorem pw_add (p : Int) (n : Nat) (A : Mx) (a b : Nat) : Em p n (mulM n (pwM n A a) (pwM n A b)) (pwM n A (a + b)) := by
  induction a with
  | zero => rw [Nat.zero_add]; exact Em.idl p n _
  | succ a ih =>
    rw [show a + 1 + b = (a + b) + 1 by omega]
    exact (Em.assoc p n A (pwM n A a) (pwM n A b)).trans ((Em.refl p n A).mul ih)
theorem Sq.mulF {p : Int} {n : Nat} (s : Sq p n) (A B : Mx) : mulF (p, mkR n n A) (p, mkR n n B) n n = (p, mkR n n (mmP p n A B)) := by
  simp only [Proofs.Ytonhijbeddcmpaa.mulF, mkR_len]
  rw [mkR_congr fun i k hi hk => ?_]
  refine congrArg (· % p) (sm_congr fun j hj => ?_)
  rw [mkR_ent _ hi hj, mkR_ent _ hj hk]
theorem Sq.pw {p : Int} {n : Nat} (s : Sq p n) (A : Mx) : ∀ f e t m (O B : Mx), InP p n O → InP p n B → Em p n O (pwM n A e) → Em p n B (pwM n A t) → m < 2 ^ f → pwG n f (p, mkR n n O) (p, mkR n n B) m = (p, mkR n n (fun i j => pwM n A (e + t * m) i j % p))
  | 0, e, t, m, O, B, hO, hB, eO, eB, hm => by
    have : m = 0 := by simp at hm; exact hm
    subst this
    rw [pwG, Nat.mul_zero, Nat.add_zero]
    congr 1
    exact Em.rows (eO.trans fun i j _ _ => (emm p _).symm) hO fun i j _ _ => tmod_range _ (by have := s.p; omega)
  | f + 1, e, t, m, O, B, hO, hB, eO, eB, hm => by
    have hp := s.p
    rw [pwG]
    by_cases h0 : m = 0
    · subst h0
      rw [if_pos rfl, Nat.mul_zero, Nat.add_zero]
      congr 1
      exact Em.rows (eO.trans fun i j _ _ => (emm p _).symm) hO fun i j _ _ => tmod_range _ (by omega)
    · rw [if_neg h0, s.mulF, s.mulF]
      have e2 : Em p n (mmP p n B B) (pwM n A (t + t)) := (Em.mm p n B B).trans ((eB.mul eB).trans (pw_add p n A t t))
      have hf : m / 2 < 2 ^ f := by rw [Nat.pow_succ] at hm; omega
      by_cases ho : m % 2 = 1
      · rw [if_pos ho]
        have e1 : Em p n (mmP p n O B) (pwM n A (e + t)) := (Em.mm p n O B).trans ((eO.mul eB).trans (pw_add p n A e t))
        rw [Sq.pw s A f (e + t) (t + t) (m / 2) _ _ (s.mm _ _) (s.mm _ _) e1 e2 hf]
        have : e + t + (t + t) * (m / 2) = e + t * m := by
          obtain ⟨q, hq⟩ : ∃ q, m = 2 * q + 1 := ⟨m / 2, by omega⟩
          subst hq
          rw [show (2 * q + 1) / 2 = q by omega]
          grind
        rw [this]
      · rw [if_neg ho]
        rw [Sq.pw s A f e (t + t) (m / 2) _ _ hO (s.mm _ _) eO e2 hf]
        have : e + (t + t) * (m / 2) = e + t * m := by
          obtain ⟨q, hq⟩ : ∃ q, m = 2 * q := ⟨m / 2, by omega⟩
          subst hq
          rw [show (2 * q) / 2 = q by omega]
          grind
        rw [this]
theorem Sq.sqF {p : Int} {n : Nat} (s : Sq p n) {A : Mx} (hA : InP p n A) : sqF (p, mkR n n A) = 0 := by
  rw [Proofs.Ytonhijbeddcmpaa.sqF, vd_check (s.vd hA), if_neg (by simp), if_neg (by simp only [mkR_len, len0 s.n1, ne_eq, not_true_eq_false, not_false_eq_true])]
theorem det_ent (n : Nat) (A : Mx) : det n (ent (mkR n n A)) = det n A := det_congr fun i j hi hj => mkR_ent _ hi hj
theorem Sq.det {p : Int} {n : Nat} (s : Sq p n) {A : Mx} (hA : InP p n A) : DetF (p, mkR n n A) = (Ay.det n A % p, 0) := by
  rw [DetF, s.sqF hA, if_neg (by simp)]
  simp only [mkR_len, det_ent]
theorem Sq.isP {p : Int} {n : Nat} (s : Sq p n) : isP p = true := by
  have := s.f
  simp only [fieldF, Bool.and_eq_true] at this; exact this.2
end Go.Proofs.Ytonhijbeddcmpaa

/- Layer 4: what MatrixPoly needs. -/
namespace Go.Proofs.Ytonhijbeddcmpaa
open Go Go.Ay
set_option maxRecDepth 100000
theorem sgn_even {n : Nat} : sgn n = if n % 2 = 0 then 1 else -1 := by
  induction n with
  | zero => rfl
  | succ n ih => rw [sgn_succ, ih]; split <;> split <;> omega
theorem poly_even {p : Int} {n : Nat} (h : n % 2 = 0) (A : Mx) : chp n A 0 % p = det n A % p := by rw [chp_const, sgn_even, if_pos h, Int.one_mul]
theorem poly_odd {p : Int} {n : Nat} (h : n % 2 = 1) (A : Mx) : (chp n A 0 % p + det n A % p) % p = 0 := by
  rw [← Int.add_emod, chp_const, sgn_even, if_neg (by omega), show -1 * det n A + det n A = 0 by omega, Int.zero_emod]
end Go.Proofs.Ytonhijbeddcmpaa

/- Layer 4: the reference's Det. -/
namespace Go.Proofs.Ytonhijbeddcmpaa
open Go Go.Ay
set_option maxRecDepth 100000
set_option maxHeartbeats 4000000 in
theorem ref_Det_ok (va : V) (a : Mat) (h : H) (ha : MatK h va a) (la : (a.2.length : Int) ≤ 2 ^ 63 - 1) : Ev T n_ref04_Det [va] h (fun v h' => v = .tup [.int .i64 (DetF a).1, .int .i64 (DetF a).2] ∧ Fr h h') := by
  obtain ⟨ua, rfl, huk⟩ := ha
  have hua := huk.sr
  refine Ev_of t_ref04_Det rfl ?_
  have wa := SV.what hua.choose_spec.1
  simp (disch := first | omega | (simp only [Qn] <;> omega)) only [go_sem, c_ref04_Det, initV_eq, boxV_agg2 h (v := .int .i64 a.1) rfl wa.2.1]
  have hfx : Fr h (h.new (.cells false [.int .i64 a.1, ua])) := (Fr.refl h).new _
  have hgx : (h.new (.cells false [.int .i64 a.1, ua])).get h.next = some (.cells false [.int .i64 a.1, ua]) := H.get_new_same ..
  have hnx : (h.new (.cells false [.int .i64 a.1, ua])).next = h.next + 1 := H.next_new ..
  generalize h.new (.cells false [.int .i64 a.1, ua]) = hx at *
  simp (disch := first | omega | (simp only [Qn] <;> omega)) only [go_sem, row_two hgx]
  refine (ref_Poly_ok _ a hx ⟨ua, rfl, huk.mono hfx⟩ la).mono ?_
  rintro v h5 ⟨w, rfl, sw, f5⟩
  have F5 := hfx.trans f5
  have gx5 := (f5.get h.next (by omega)).trans hgx
  have x0 : h5.cell h.next 0 = some (.int .i64 a.1) := by rw [H.cell_of gx5]; rfl
  have x1 : h5.cell h.next 1 = some ua := by rw [H.cell_of gx5]; rfl
  simp (disch := first | omega | (simp only [Qn] <;> omega)) only [go_sem, List.getElem?_cons_zero, List.getElem?_cons_succ]
  have e2 : (PolyF a).2 = sqF a := by
    rw [PolyF]; split
    · rfl
    · rename_i hh; exact (Classical.byContradiction hh).symm
  rw [e2]
  refine iteW_dec (fun he => ?_) (fun he => ?_)
  · simp (disch := first | omega | (simp only [Qn] <;> omega)) only [go_sem]
    have e : DetF a = (0, sqF a) := by rw [DetF, if_pos he]
    rw [e]
    exact ⟨rfl, F5⟩
  have hz : sqF a = 0 := Classical.byContradiction he
  have da := sq_vd hz
  have hp := fieldF_range da.p
  have hn1 := da.r1
  have hn2 := da.r2
  obtain ⟨n, hn⟩ : ∃ n, a.2.length = n := ⟨_, rfl⟩
  have lu := hua.lens
  rw [hn] at lu
  have e1 : (PolyF a).1 = mkV (n + 1) (fun q => chp n (ent a.2) q % a.1) := by rw [PolyF, if_neg (by simp [hz]), hn]
  rw [e1] at sw
  obtain ⟨idc, offc, shc, hidc, hcc⟩ := sw.open
  rw [mkV_len] at shc hidc hcc
  have c0 := hcc 0 (by omega)
  rw [mkV_get _ (by omega), Nat.add_zero] at c0
  have r0 := tmod_range (chp n (ent a.2) 0) (show 0 < a.1 by omega)
  have eD : DetF a = (det n (ent a.2) % a.1, 0) := by rw [DetF, if_neg (by simp [hz]), hn]
  rw [eD]
  have tm : (n : Int).tmod 2 = ((n % 2 : Nat) : Int) := by rw [nonneg_tmod (by omega)]; omega
  simp (disch := first | omega | (simp only [Qn] <;> omega)) only [go_sem, x1, lu, tm]
  rcases (show n % 2 = 0 ∨ n % 2 = 1 by omega) with hpar | hpar
  · rw [decide_eq_false (show ¬ ((n % 2 : Nat) : Int) = 1 by omega)]
    simp (disch := first | omega | (simp only [Qn] <;> omega)) only [go_sem, shc.ixa, c0, poly_even hpar (ent a.2)]
    exact F5
  · rw [decide_eq_true (show ((n % 2 : Nat) : Int) = 1 by omega)]
    have em := nonneg_tmod (a := a.1 - chp n (ent a.2) 0 % a.1) (p := a.1) (by omega)
    have ed : (a.1 - chp n (ent a.2) 0 % a.1) % a.1 = det n (ent a.2) % a.1 := by
      have := poly_odd (p := a.1) hpar (ent a.2)
      have r1 := tmod_range (det n (ent a.2)) (show 0 < a.1 by omega)
      rw [← Int.emod_emod_of_dvd (det n (ent a.2)) (Int.dvd_refl a.1)]
      generalize chp n (ent a.2) 0 % a.1 = x at *
      generalize det n (ent a.2) % a.1 = y at *
      rw [show a.1 - x = y + a.1 * 1 - (x + y) by omega, Int.sub_emod, this, Int.sub_zero, Int.add_mul_emod_self_left, Int.emod_emod_of_dvd _ (Int.dvd_refl a.1)]
    rw [ed] at em
    simp (disch := first | omega | (simp only [Qn] <;> omega)) only [go_sem, x0, shc.ixa, c0, em]
    exact F5.bump (by omega)
end Go.Proofs.Ytonhijbeddcmpaa

/- Layer 4: the reference's size. -/
namespace Go.Proofs.Ytonhijbeddcmpaa
open Go Go.Ay
set_option maxRecDepth 100000
theorem size_ok (n : Int) (h : H) (hn : -9223372036854775808 ≤ n ∧ n < 9223372036854775808) : Ev T n_ref04_size [.int .i64 n] h (fun v h' => v = .int .u64 (n.natAbs : Int) ∧ h' = h) := by
  refine Ev_of t_ref04_size rfl ?_
  simp (disch := first | omega | (simp only [Qn] <;> omega)) only [go_sem, c_ref04_size, initV_eq]
  by_cases h0 : n < 0
  · rw [decide_eq_true h0]
    simp (disch := first | omega | (simp only [Qn] <;> omega)) only [go_sem]
    rw [wrap_u64_neg (by omega) h0, wrap_u64_neg (by omega) (by omega), show 0 - (n + 18446744073709551616) + 18446744073709551616 = (n.natAbs : Int) by omega]
    exact ⟨rfl, trivial⟩
  · rw [decide_eq_false h0]
    simp (disch := first | omega | (simp only [Qn] <;> omega)) only [go_sem]
    rw [wrap_u64 (by omega) (by omega), show n = (n.natAbs : Int) by omega]
    exact ⟨rfl, trivial⟩
end Go.Proofs.Ytonhijbeddcmpaa

/- Layer 4: rows in places, appended one by one. -/
namespace Go.Proofs.Ytonhijbeddcmpaa
open Go Go.Ay
set_option maxRecDepth 100000
def Gu (h : H) (u : V) (i c : Nat) (ρ : Nat → Nat) (κ : Nat → Cap) (τ : Nat → List V) (f : Nat → Nat → Int) (lo : Nat) : Prop :=
  (i = 0 ∧ u = .nils) ∨ ∃ R, u = .sl R 0 i (.un 1) ∧ Gc h R i c ρ κ τ f lo
section
variable {h h' : H} {u : V} {i c : Nat} {ρ : Nat → Nat} {κ : Nat → Cap} {τ : Nat → List V} {f : Nat → Nat → Int} {lo : Nat}
theorem Gu.own (g : Gu h u i c ρ κ τ f lo) : Own h u 1 ((List.range i).map fun j => V.sl (ρ j) 0 c (κ j)) lo := by
  rcases g with ⟨rfl, rfl⟩ | ⟨R, rfl, g⟩
  · exact .inl ⟨rfl, rfl⟩
  · exact .inr ⟨R, i, _, [], rfl, by simp, .inl rfl, g.hR, g.ltR, by rw [List.append_nil]; exact g.gR⟩
theorem Gu.fr (g : Gu h u i c ρ κ τ f lo) (F : Fr h h') : Gu h' u i c ρ κ τ f lo := by
  rcases g with g | ⟨R, e, g⟩
  · exact .inl g
  · exact .inr ⟨R, e, g.fr F⟩
theorem Gu.app (g : Gu h u i c ρ κ τ f lo) (hlo : lo ≤ h.next) (hi : i < 1000000) {y : V} {id : Nat} {cap : Cap} {rest : List V} (hy : SV h y 1 [.sl id 0 c cap]) (h1 : lo ≤ id) (h2 : id < h.next) (h3 : ∀ j, j < i → ρ j ≠ id) (h4 : Apart u id) (h5 : h.get id = some (.cells false (ints (mkV c (f i)) ++ rest))) :
    ∃ h', appP h 1 24 u y = some (.sl h.next 0 (i + 1) (.un 1), h') ∧ Gu h' (.sl h.next 0 (i + 1) (.un 1)) (i + 1) c (upN ρ i id) (upN κ i cap) (upN τ i rest) f lo ∧ h.next < h'.next ∧ (∀ k, k < h.next → Apart u k → h'.get k = h.get k) ∧ ∀ a, Fr a h → a.next ≤ lo → Fr a h' := by
  have o := g.own
  have hr : ∀ j, j < i → h.get (ρ j) = some (.cells false (ints (mkV c (f j)) ++ τ j)) ∧ lo ≤ ρ j ∧ ρ j < h.next ∧ Apart u (ρ j) := fun j hj => by
    rcases g with ⟨rfl, _⟩ | ⟨R, rfl, g⟩
    · omega
    · exact ⟨g.row j hj, g.hρ j hj, g.ltρ j hj, Apart.sl (g.ne j hj)⟩
  have hinj : ∀ x y, x < i → y < i → ρ x = ρ y → x = y := fun x y hx hy e => by
    rcases g with ⟨rfl, _⟩ | ⟨R, rfl, g⟩
    · omega
    · exact g.inj x y hx hy e
  obtain ⟨v, h', e, a⟩ := o.app (bytes := 24) (n := i) (m := 1) hlo hy (by simp) rfl (by omega) (by omega)
  have ev := app_at o (n := i) (by simp) (m := 1) (by omega) (by omega) hy rfl e
  subst ev
  refine ⟨h', e, .inr ⟨h.next, rfl, ?_⟩, ?_, a.get, a.fr⟩
  · rcases a.what with ⟨w1, _⟩ | ⟨id', w1, w2, w3, w4⟩
    · omega
    · have : id' = h.next := by cases w1; rfl
      subst this
      refine ⟨?_, fun j hj => ?_, fun x y hx hy e => ?_, hlo, w3, fun j hj => ?_, fun j hj => ?_, fun j hj => ?_⟩
      · rw [w4, List.range_succ, List.map_append]
        congr 3
        · exact List.map_congr_left fun j hj => by
            have := List.mem_range.1 hj
            simp only [upN]
            rw [if_neg (by omega), if_neg (by omega)]
        · simp [upN]
      · simp only [upN]
        by_cases e : j = i
        · subst e
          simp only [if_true]
          rw [a.get id h2 h4]; exact h5
        · obtain ⟨r1, r2, r3, r4⟩ := hr j (by omega)
          simp only [if_neg e]
          rw [a.get _ r3 r4]; exact r1
      · simp only [upN] at e
        by_cases e1 : x = i
        · by_cases e2 : y = i
          · omega
          · rw [if_pos e1, if_neg e2] at e
            exact absurd e.symm (h3 y (by omega))
        · by_cases e2 : y = i
          · rw [if_neg e1, if_pos e2] at e
            exact absurd e (h3 x (by omega))
          · rw [if_neg e1, if_neg e2] at e
            exact hinj x y (by omega) (by omega) e
      · simp only [upN]
        split
        · exact h1
        · exact (hr j (by omega)).2.1
      · simp only [upN]
        split
        · omega
        · have := (hr j (by omega)).2.2.1; omega
      · simp only [upN]
        split
        · omega
        · have := (hr j (by omega)).2.2.1; omega
  · rcases a.what with ⟨w1, _⟩ | ⟨id', w1, w2, w3, w4⟩
    · omega
    · have : id' = h.next := by cases w1; rfl
      omega
end
end Go.Proofs.Ytonhijbeddcmpaa

/- Layer 4: the reference's Inv. -/
namespace Go.Proofs.Ytonhijbeddcmpaa
open Go Go.Ay
set_option maxRecDepth 100000
theorem up_un (i : Nat) : upN (fun _ => Cap.un 1) i (Cap.un 1) = fun _ => .un 1 := funext fun j => by simp [upN]
set_option maxHeartbeats 16000000 in
theorem ref_Inv_ok (va : V) (a : Mat) (h : H) (ha : MatV h va a) (la : (a.2.length : Int) ≤ 2 ^ 63 - 1) : Ev T n_ref04_Inv [va] h (fun v h' => ∃ w, v = .tup [w, .int .i64 (InvF a).2] ∧ MatO h' w (InvF a).1 h.next ∧ Fr h h') := by
  obtain ⟨ua, rfl, hua⟩ := ha
  refine Ev_of t_ref04_Inv rfl ?_
  have wa := SV.what hua.choose_spec.1
  simp (disch := first | omega | (simp only [Qn] <;> omega)) only [go_sem, c_ref04_Inv, initV_eq, boxV_agg2 h (v := .int .i64 a.1) rfl wa.2.1]
  have hfx : Fr h (h.new (.cells false [.int .i64 a.1, ua])) := (Fr.refl h).new _
  have hgx : (h.new (.cells false [.int .i64 a.1, ua])).get h.next = some (.cells false [.int .i64 a.1, ua]) := H.get_new_same ..
  have hnx : (h.new (.cells false [.int .i64 a.1, ua])).next = h.next + 1 := H.next_new ..
  generalize h.new (.cells false [.int .i64 a.1, ua]) = hx at *
  have hfy : Fr hx (hx.new (.cells false [.int .i64 0, .nils])) := (Fr.refl hx).new _
  have hgy : (hx.new (.cells false [.int .i64 0, .nils])).get hx.next = some (.cells false [.int .i64 0, .nils]) := H.get_new_same ..
  have hny : (hx.new (.cells false [.int .i64 0, .nils])).next = hx.next + 1 := H.next_new ..
  generalize hx.new (.cells false [.int .i64 0, .nils]) = hy at *
  have F := hfx.trans hfy
  have gx := (hfy.get h.next (by omega)).trans hgx
  simp (disch := first | omega | (simp only [Qn] <;> omega)) only [go_sem, row_two gx]
  refine (ref_square_ok _ a hy ⟨ua, rfl, hua.mono F⟩ la).mono ?_
  rintro v h5 ⟨rfl, f5⟩
  have F5 := F.trans f5
  have gx5 := (f5.get h.next (by omega)).trans gx
  have gy5 := (f5.get hx.next (by omega)).trans hgy
  have n5 := f5.next
  rw [← hnx]
  have hst := fun hh => stV_agg2 hh hx.next 0 (v := .int .i64 0) (u := .nils) rfl rfl
  simp (disch := first | omega | (simp only [Qn] <;> omega)) only [go_sem]
  refine iteW_dec (fun he => ?_) (fun he => ?_)
  · have hrow := row_two (h := h5.set hx.next (some (.cells false [.int .i64 0, .nils]))) (H.get_set_same ..)
    simp (disch := first | omega | (simp only [Qn] <;> omega)) only [go_sem, bldV_nil, hst, gy5, hrow]
    have e : InvF a = ((0, []), sqF a) := by rw [InvF, if_pos he]
    rw [e]
    exact ⟨_, rfl, ⟨.nils, [], rfl, Rws.nils _ _⟩, F5.set (by omega) _⟩
  have hz : sqF a = 0 := Classical.byContradiction he
  have da := sq_vd hz
  obtain ⟨p, hpe⟩ : ∃ p, a.1 = p := ⟨_, rfl⟩
  obtain ⟨n, hn⟩ : ∃ n, a.2.length = n := ⟨_, rfl⟩
  have hfp := da.p
  have hp := fieldF_range hfp
  have hn1 := da.r1
  have hn2 := da.r2
  rw [hn] at hn1 hn2
  rw [hpe] at hp hfp
  have hP : isP p = true := by simp only [fieldF, Bool.and_eq_true] at hfp; exact hfp.2
  have x0 : h5.cell h.next 0 = some (.int .i64 p) := by rw [H.cell_of gx5, ← hpe]; rfl
  have x1 : h5.cell h.next 1 = some ua := by rw [H.cell_of gx5]; rfl
  have lu := hua.lens
  rw [hn] at lu
  have fb : Fr h5 (H.mk h5.tr (h5.next + 7)) := (Fr.refl h5).bump (by omega)
  have nb : (H.mk h5.tr (h5.next + 7)).next = h5.next + 7 := rfl
  simp (disch := first | omega | (simp only [Qn] <;> omega)) only [go_sem, x0, x1, lu]
  generalize H.mk h5.tr (h5.next + 7) = h6 at *
  refine (ref_one_ok n p h6 hn1 hn2 hp.1).mono ?_
  rintro w h7 ⟨⟨uI, wsI, rfl, RI⟩, f7⟩
  have e1 : (oneF n p).1 = p := rfl
  rw [e1]
  have st := fun hh id => stV_agg2 hh id 0 (v := .int .i64 p) (u := uI) rfl (SV.what RI.own.sv).2.1
  simp (disch := first | omega | (simp only [Qn] <;> omega)) only [go_sem, st, bxH_eq]
  have fB := bxH_fr h7 p uI
  have gI := bxH_get h7 p uI
  have F7 := (fb.trans f7).trans fB
  have RI7 := RI.fr fB
  have n7 := f7.next
  have nB := bxH_next h7 p uI
  obtain ⟨O, hO⟩ : ∃ O, h7.next = O := ⟨_, rfl⟩
  rw [hO] at gI nB
  try rw [hO]
  generalize bxH h7 p uI = h8 at *
  obtain ⟨ida, offa, wsa, sua, hida, hwla, hca, halla⟩ := (hua.mono (F5.trans F7)).open
  have lO : O < h8.next := by omega
  have ltx : h.next < h5.next := by have := f5.next; omega
  have hra : ∀ i, i < n → a.2.getD i [] = mkV n (ent a.2 i) := fun i hi => mkV_eq (by rw [da.row i (by omega), hn]) fun k _ => rfl
  obtain ⟨idI, offI, wsI', sI, hidI, hwlI, hcI, hallI⟩ := RI7.sr.open
  have lI : (oneF n p).2.length = n := mkR_len ..
  rw [lI] at sI hidI hwlI hcI
  obtain ⟨F0, hF0⟩ : ∃ F0 : Nat → Nat → Int, F0 = fun i j => if j < n then ent a.2 i j else (if i = j - n then 1 else 0) := ⟨_, rfl⟩
  rw [hn] at sua hida hwla hca
  refine Wp_loop (fun k' vars hh => ∃ (i : Nat) (u : V) (ρ : Nat → Nat) (τ : Nat → List V), (∃ g : Nat → V, vars = [g 0, .ptr h.next 0, .ptr hx.next 0, g 3, g 4, .int .i64 (n : Int), .int .i64 p, .ptr O 0, u, .int .i64 (i : Int), g 10, g 11, g 12, g 13, g 14, g 15, g 16, g 17, g 18, g 19, g 20, g 21, g 22, g 23, g 24, g 25, g 26, g 27]) ∧ i ≤ n ∧ Gu hh u i (n + n) ρ (fun _ => .un 1) τ F0 h8.next ∧ Fr h8 hh ∧ k' = n - i) n
    ⟨0, _, fun _ => 0, fun _ => [], ex_junk rfl, Nat.zero_le _, .inl ⟨rfl, rfl⟩, Fr.refl h8, rfl⟩ ?_
  rintro k' vars h9 ⟨i, u, ρ, τ, ⟨g, rfl⟩, hi, G9, f9, rfl⟩
  simp (disch := first | omega | (simp only [Qn] <;> omega)) only [go_sem]
  by_cases hlt : (i : Int) < (n : Int)
  · rw [decide_eq_true hlt]
    have y1 : h9.cell h.next 1 = some ua := by rw [(F7.trans f9).cell ltx]; exact x1
    have yO : h9.cell O 1 = some uI := by rw [f9.cell lO, H.cell_of gI]; rfl
    have ca : h9.cell ida (offa + i) = some (wsa.getD i .undef) := by rw [f9.cell (hida (by omega))]; exact hca i (by omega)
    have cI : h9.cell idI (offI + i) = some (wsI'.getD i .undef) := by rw [f9.cell (hidI (by omega))]; exact hcI i (by omega)
    simp (disch := first | omega | (simp only [Qn] <;> omega)) only [go_sem, y1, yO, sua.ixa, ca, sI.ixa, cI]
    have fb : Fr h9 (H.mk h9.tr (h9.next + 16)) := (Fr.refl h9).bump (by omega)
    have nb : (H.mk h9.tr (h9.next + 16)).next = h9.next + 16 := rfl
    generalize H.mk h9.tr (h9.next + 16) = h10 at *
    have ri := (row_at halla (i := i) (by omega)).mono (f9.trans fb)
    rw [hra i (by omega)] at ri
    have rI := (row_at hallI (i := i) (by omega)).mono (f9.trans fb)
    refine (own_ok _ _ h10 ri (by rw [mkV_len]; omega)).mono ?_
    rintro v h11 ⟨ov, f11, _⟩
    have f91 := fb.trans f11
    have yO1 : h11.cell O 1 = some uI := by rw [(f9.trans f91).cell lO, H.cell_of gI]; rfl
    have cI1 : h11.cell idI (offI + i) = some (wsI'.getD i .undef) := by rw [(f9.trans f91).cell (hidI (by omega))]; exact hcI i (by omega)
    have eI := SV.eqV rI
    have eU := SV.eqV RI7.own.sv
    have rI1 := rI.mono f11
    have lIr : ((oneF n p).2.getD i []) = mkV n (fun j => if i = j then 1 else 0) := mkR_row _ (by omega)
    rw [lIr] at rI1
    obtain ⟨v12, h12, e12, a12⟩ := ov.app (bytes := 8) (n := n) (m := n) f11.next rI1 (by rw [ints_length, mkV_len, Nat.mul_one]) (by rw [ints_length, mkV_len, Nat.mul_one]) (by omega) (by omega)
    have ev := app_at ov (n := n) (m := n) (by rw [ints_length, mkV_len, Nat.mul_one]) (by omega) (by omega) rI1 (by rw [ints_length, mkV_len, Nat.mul_one]) e12
    subst ev
    have br := bls_row (H.mk h12.tr (h9.next + 13)) (v := .sl h11.next 0 (n + n) (.un 1)) rfl rfl
    simp (disch := first | omega | (simp only [Qn] <;> omega)) only [go_sem, yO1, cI1, eI, eU, e12, br, evAtO_some, litAt_eq]
    have f912 : Fr h9 h12 := a12.fr h9 f91 (by omega)
    have n10 := f11.next
    have n12 := a12.next
    have fL := litAt_fr f912 (a := h9.next + 13) (by omega) (.sl h11.next 0 (n + n) (.un 1))
    have eR : mkV n (ent a.2 i) ++ mkV n (fun j => if i = j then 1 else 0) = mkV (n + n) (F0 i) := by
      refine mkV_eq (by rw [List.length_append, mkV_len, mkV_len]) fun j hj => ?_
      rw [hF0]
      by_cases e : j < n
      · simp only [if_pos e]
        rw [List.getD_eq_getElem?_getD, List.getElem?_append_left (by rw [mkV_len]; exact e), ← List.getD_eq_getElem?_getD, mkV_get _ e]
      · simp only [if_neg e]
        rw [List.getD_eq_getElem?_getD, List.getElem?_append_right (by rw [mkV_len]; omega), ← List.getD_eq_getElem?_getD, mkV_len, mkV_get _ (by omega)]
    have gN : (litAt h12 (h9.next + 13) (.sl h11.next 0 (n + n) (.un 1))).get h11.next = some (.cells false (ints (mkV (n + n) (F0 i)) ++ [])) := by
      rw [litAt_ne h12 _ (by omega), List.append_nil, ← eR, ints_append]
      rcases a12.what with ⟨w1, _⟩ | ⟨id', w1, w2, w3, w4⟩
      · omega
      · have : id' = h11.next := by cases w1; rfl
        subst this; exact w4
    have hAp : Apart u h11.next := by
      rcases G9 with ⟨_, rfl⟩ | ⟨R, rfl, g⟩
      · exact Apart.nils _
      · exact Apart.sl (by have := g.ltR; omega)
    have hρ : ∀ j, j < i → ρ j ≠ h11.next := fun j hj => by
      rcases G9 with ⟨h0, _⟩ | ⟨R, _, g⟩
      · omega
      · have := g.ltρ j hj; omega
    have nL : (litAt h12 (h9.next + 13) (.sl h11.next 0 (n + n) (.un 1))).next = h12.next := rfl
    have n9 := f9.next
    have h11lt : h11.next < h12.next := by
      rcases a12.what with ⟨w1, _⟩ | ⟨id', w1, w2, w3, w4⟩
      · omega
      · have : id' = h11.next := by cases w1; rfl
        omega
    obtain ⟨h13, e13, G13, _, _, q13⟩ := (G9.fr fL).app (by omega) (by omega) (litAt_sv h12 _ (by omega)) (by omega) (by omega) hρ hAp gN
    simp (disch := first | omega | (simp only [Qn] <;> omega)) only [go_sem, e13]
    rw [show (i : Int) + 1 = ((i + 1 : Nat) : Int) from by omega]
    rw [up_un] at G13
    exact ⟨n - (i + 1), by omega, i + 1, _, _, _, ex_junk rfl, by omega, G13, q13 h8 (f9.trans fL) (Nat.le_refl _), rfl⟩
  rw [decide_eq_false hlt]
  obtain rfl : n = i := by omega
  obtain ⟨R, eu, G⟩ : ∃ R, u = .sl R 0 n (.un 1) ∧ Gc h9 R n (n + n) ρ (fun _ => .un 1) τ F0 h8.next := by
    rcases G9 with ⟨h0, _⟩ | g
    · omega
    · exact g
  subst eu
  have hlR := G.hR
  simp (disch := first | omega | (simp only [Qn] <;> omega)) only [go_sem]
  have hA : ∀ i j, i < n → j < n → 0 ≤ ent a.2 i j ∧ ent a.2 i j < p := fun i j hi hj => ⟨da.lo i j (by omega) (by omega), by rw [← hpe]; exact da.hi i j (by omega) (by omega)⟩
  have E0 : Elim p n (ent a.2) 0 1 F0 := Elim.start hA (by omega) (fun i j _ hj => by rw [hF0]; exact if_pos hj) (fun i k hi hk => by rw [hF0]; simp only; rw [if_neg (by omega), show n + k - n = k by omega])
  refine Wp_loop (fun k' vars hh => ∃ (c : Nat) (ρ : Nat → Nat) (τ : Nat → List V) (d : Int) (B : Mx), (∃ g : Nat → V, vars = [g 0, g 1, .ptr hx.next 0, g 3, g 4, .int .i64 (n : Int), .int .i64 p, g 7, .sl R 0 n (.un 1), g 9, .int .i64 (c : Int), g 11, g 12, g 13, g 14, g 15, g 16, g 17, g 18, g 19, g 20, g 21, g 22, g 23, g 24, g 25, g 26, g 27]) ∧ c ≤ n ∧ Gc hh R n (n + n) ρ (fun _ => .un 1) τ B h8.next ∧ Elim p n (ent a.2) c d B ∧ Fr h8 hh ∧ k' = n - c) n
    ⟨0, ρ, τ, 1, F0, ex_junk rfl, Nat.zero_le _, G, E0, f9, rfl⟩ ?_
  clear G E0 G9 f9 hlt
  rintro k' vars h20 ⟨c, ρ, τ, d, B, ⟨g, rfl⟩, hc, G, E, F, rfl⟩
  have F20 := F5.trans (F7.trans F)
  have gyH : h20.get hx.next = some (.cells false [.int .i64 0, .nils]) := ((F7.trans F).get hx.next (by omega)).trans gy5
  simp (disch := first | omega | (simp only [Qn] <;> omega)) only [go_sem]
  by_cases hlt : (c : Int) < (n : Int)
  · rw [decide_eq_true hlt]
    have hc' : c < n := by omega
    simp (disch := first | omega | (simp only [Qn] <;> omega)) only [go_sem]
    refine Wp_loop (fun k' vars h21 => h21 = h20 ∧ ∃ r : Nat, (∃ g : Nat → V, vars = [g 0, g 1, .ptr hx.next 0, g 3, g 4, .int .i64 (n : Int), .int .i64 p, g 7, .sl R 0 n (.un 1), g 9, .int .i64 (c : Int), .int .i64 (r : Int), g 12, g 13, g 14, g 15, g 16, g 17, g 18, g 19, g 20, g 21, g 22, g 23, g 24, g 25, g 26, g 27]) ∧ c ≤ r ∧ r ≤ n ∧ (∀ i, c ≤ i → i < r → B i c = 0) ∧ k' = n - r) (n - c)
      ⟨rfl, c, ex_junk rfl, Nat.le_refl _, by omega, fun i h1 h2 => by omega, rfl⟩ ?_
    rintro k' vars h21 ⟨rfl, r, ⟨g, rfl⟩, hr1, hr2, hz0, rfl⟩
    simp (disch := first | omega | (simp only [Qn] <;> omega)) only [go_sem]
    by_cases hrn : (r : Int) < (n : Int)
    · rw [decide_eq_true hrn]
      have hr : r < n := by omega
      simp (disch := first | omega | (simp only [Qn] <;> omega)) only [go_sem, G.cR r hr, G.cρ r c hr (by omega)]
      by_cases hB : B r c = 0
      · rw [decide_eq_true hB]
        simp (disch := first | omega | (simp only [Qn] <;> omega)) only [go_sem]
        rw [show (r : Int) + 1 = ((r + 1 : Nat) : Int) from by omega]
        refine ⟨n - (r + 1), by omega, r + 1, ex_junk rfl, by omega, by omega, fun i h1 h2 => ?_, rfl⟩
        by_cases e : i = r
        · rw [e]; exact hB
        · exact hz0 i h1 (by omega)
      rw [decide_eq_false hB]
      simp (disch := first | omega | (simp only [Qn] <;> omega)) only [go_sem]
      rw [decide_eq_false (show ¬ (r : Int) = (n : Int) by omega)]
      have fb : Fr h21 (H.mk h21.tr (h21.next + 16)) := (Fr.refl h21).bump (by omega)
      have G5 := G.fr fb
      have FF := F.trans fb
      have hs1 := fun hh => stV_one (y := V.sl (ρ r) 0 (n + n) (.un 1)) rfl rfl hh R c
      have hs2 := fun hh => stV_one (y := V.sl (ρ c) 0 (n + n) (.un 1)) rfl rfl hh R r
      have pt1 := fun hh => putO_one (vs := (List.range n).map fun i => V.sl (ρ i) 0 (n + n) (.un 1)) (off := c) (by simpa using hc') hh R (V.sl (ρ r) 0 (n + n) (.un 1))
      obtain ⟨h22, e22⟩ : ∃ h22, h22 = (((H.mk h21.tr (h21.next + 16)).set R (some (.cells false (((List.range n).map fun i => V.sl (ρ i) 0 (n + n) (.un 1)).set c (.sl (ρ r) 0 (n + n) (.un 1)))))).set R (some (.cells false ((((List.range n).map fun i => V.sl (ρ i) 0 (n + n) (.un 1)).set c (.sl (ρ r) 0 (n + n) (.un 1))).set r (.sl (ρ c) 0 (n + n) (.un 1)))))) := ⟨_, rfl⟩
      have pt2 := putO_one (vs := ((List.range n).map fun i => V.sl (ρ i) 0 (n + n) (.un 1)).set c (V.sl (ρ r) 0 (n + n) (.un 1))) (off := r) (by simpa using hr) ((H.mk h21.tr (h21.next + 16)).set R (some (.cells false (((List.range n).map fun i => V.sl (ρ i) 0 (n + n) (.un 1)).set c (.sl (ρ r) 0 (n + n) (.un 1)))))) R (V.sl (ρ c) 0 (n + n) (.un 1))
      rw [← e22] at pt2
      have G6 := (G5.swap hc' hr).same (h' := h22) (by rw [e22]; exact set_twice _ _ _ _) (by rw [e22]; rfl)
      have F6 := (FF.set hlR (some (.cells false (((List.range n).map fun i => V.sl (ρ i) 0 (n + n) (.un 1)).set c (.sl (ρ r) 0 (n + n) (.un 1)))))).set hlR (some (.cells false ((((List.range n).map fun i => V.sl (ρ i) 0 (n + n) (.un 1)).set c (.sl (ρ r) 0 (n + n) (.un 1))).set r (.sl (ρ c) 0 (n + n) (.un 1)))))
      rw [← e22] at F6
      clear e22
      obtain ⟨d2, E2⟩ : ∃ d2, Elim p n (ent a.2) c d2 (fun i k => B (sw c r i) k) := by
        by_cases e : r = c
        · subst e
          refine ⟨d, ?_⟩
          simp only [sw_self]
          exact E
        · exact ⟨_, E.swap hr (by omega) fun i j _ _ => (swp_sw B (by omega) i j).symm⟩
      have hp0 : (fun i k => B (sw c r i) k) c c ≠ 0 := by
        simp only [sw_left]; exact hB
      generalize (fun i => ρ (sw c r i)) = ρ2 at G6
      generalize (fun i => τ (sw c r i)) = τ at G6
      generalize (fun i k => B (sw c r i) k) = B2 at G6 E2 hp0
      have pv1 := E2.lo c c hc' (by omega)
      have pv2 := E2.hi c c hc' (by omega)
      simp (disch := first | omega | (simp only [Qn] <;> omega)) only [go_sem, G.cR c hc', G.cR r hr, G5.gR, hs1, hs2, pt1, pt2, G6.cR c hc', G6.cρ c c hc' (by omega)]
      clear G5 G FF F fb hs1 hs2 pt1 pt2 E hz0 hB F20 gyH B ρ
      rename Mx => B
      rename Nat → Nat => ρ
      refine (ref_inv_ok (B c c) p _ hP hp.2 (by omega)).mono ?_
      rintro v h' ⟨x, rfl, x1, x2, x3, rfl⟩
      simp (disch := first | omega | (simp only [Qn] <;> omega)) only [go_sem, List.getElem?_cons_zero, List.getElem?_cons_succ]
      refine Wp_loop (fun k' vars hh => ∃ (i : Nat), (∃ g : Nat → V, vars = [g 0, g 1, .ptr hx.next 0, g 3, g 4, .int .i64 (n : Int), .int .i64 p, g 7, .sl R 0 n (.un 1), g 9, .int .i64 (c : Int), g 11, .int .i64 x, .int .i64 (i : Int), g 14, g 15, g 16, g 17, g 18, g 19, g 20, g 21, g 22, g 23, g 24, g 25, g 26, g 27]) ∧ i ≤ n + n ∧ Gc hh R n (n + n) ρ (fun _ => .un 1) τ (fun a b => if a = c ∧ b < i then x * B c b % p else B a b) h8.next ∧ Fr h8 hh ∧ k' = n + n - i) (n + n)
        ⟨0, ex_junk rfl, Nat.zero_le _, G6.congr fun a b _ _ => by rw [if_neg (fun h => Nat.not_lt_zero _ h.2)], F6, rfl⟩ ?_
      clear G6 F6
      rintro k' vars h23 ⟨i, ⟨g, rfl⟩, hi, G, F, rfl⟩
      simp (disch := first | omega | (simp only [Qn] <;> omega)) only [go_sem]
      by_cases hin : (i : Int) < 2 * (n : Int)
      · rw [decide_eq_true hin]
        have hi' : i < n + n := by omega
        have fb : Fr h23 (H.mk h23.tr (h23.next + 18)) := (Fr.refl h23).bump (by omega)
        have G5 := G.fr fb
        have F5b := F.trans fb
        have y1 := G.cρ c i hc' hi'
        have hρl := G.hρ c hc'
        rw [if_neg (fun h => Nat.lt_irrefl i h.2)] at y1
        obtain ⟨p1, G7⟩ := G5.put hc' hi' (x * B c i % p)
        replace p1 : putO (h23.get (ρ c)) (H.mk h23.tr (h23.next + 18)) (ρ c) i [.int .i64 (x * B c i % p)] = _ := p1
        have b1 := mul_bound (E2.lo c i hc' hi') (E2.hi c i hc' hi') x1 x2 hp.2
        have em : (B c i * x).tmod p = x * B c i % p := by rw [nonneg_tmod b1.1, Int.mul_comm]
        simp (disch := first | omega | (simp only [Qn] <;> omega)) only [go_sem, G.cR c hc', y1, em, p1]
        rw [show (i : Int) + 1 = ((i + 1 : Nat) : Int) from by omega]
        refine ⟨n + n - (i + 1), by omega, i + 1, ex_junk rfl, by omega, G7.congr fun a b ha hb => ?_, F5b.set hρl _, rfl⟩
        simp only [upF]
        by_cases e : a = c ∧ b = i
        · rw [if_pos e, if_pos ⟨e.1, by omega⟩, e.2]
        · rw [if_neg e]
          by_cases e3 : a = c ∧ b < i
          · rw [if_pos e3, if_pos ⟨e3.1, by omega⟩]
          · rw [if_neg e3, if_neg (fun h => if hbi : b = i then e ⟨h.1, hbi⟩ else e3 ⟨h.1, by omega⟩)]
      rw [decide_eq_false hin]
      obtain rfl : i = n + n := by omega
      obtain ⟨E3, one3⟩ := E2.one (W' := fun a b => if a = c then x * B c b % p else B a b) (by omega) hc' x3 (fun j _ => if_pos rfl) (fun i j _ hne _ => if_neg hne)
      have G3 := G.congr (f' := fun a b => if a = c then x * B c b % p else B a b) fun a b _ hb => by
        by_cases e : a = c
        · rw [if_pos ⟨e, hb⟩, if_pos e]
        · rw [if_neg (fun h => e h.1), if_neg e]
      clear G
      obtain ⟨d3, hd3⟩ : ∃ d3, d2 * B c c % p = d3 := ⟨_, rfl⟩
      rw [hd3] at E3
      replace one3 : (fun a b => if a = c then x * B c b % p else B a b) c c = 1 := one3
      generalize (fun a b => if a = c then x * B c b % p else B a b) = B2 at *
      clear E2 hd3 hp0 pv1 pv2 x3
      simp (disch := first | omega | (simp only [Qn] <;> omega)) only [go_sem]
      refine Wp_loop (fun k' vars hh => ∃ (j : Nat) (B : Mx), (∃ g : Nat → V, vars = [g 0, g 1, .ptr hx.next 0, g 3, g 4, .int .i64 (n : Int), .int .i64 p, g 7, .sl R 0 n (.un 1), g 9, .int .i64 (c : Int), g 11, g 12, g 13, .int .i64 (j : Int), g 15, g 16, g 17, g 18, g 19, g 20, g 21, g 22, g 23, g 24, g 25, g 26, g 27]) ∧ j ≤ n ∧ Gc hh R n (n + n) ρ (fun _ => .un 1) τ B h8.next ∧ Elim p n (ent a.2) c d3 B ∧ B c c = 1 ∧ (∀ i, i < j → i ≠ c → B i c = 0) ∧ Fr h8 hh ∧ k' = n - j) n
        ⟨0, B2, ex_junk rfl, Nat.zero_le _, G3, E3, one3, fun i hi => absurd hi (Nat.not_lt_zero i), F, rfl⟩ ?_
      clear G3 E3 one3 F hi hin B B2
      rintro k' vars h24 ⟨j, B, ⟨g, rfl⟩, hj, G, E, one, zer, F, rfl⟩
      simp (disch := first | omega | (simp only [Qn] <;> omega)) only [go_sem]
      by_cases hjn : (j : Int) < (n : Int)
      · rw [decide_eq_true hjn]
        have hj' : j < n := by omega
        simp (disch := first | omega | (simp only [Qn] <;> omega)) only [go_sem, G.cR j hj', G.cρ j c hj' (by omega)]
        obtain ⟨y, hy⟩ : ∃ y, B j c = y := ⟨_, rfl⟩
        rw [hy]
        have ya := E.lo j c hj' (by omega)
        have yb := E.hi j c hj' (by omega)
        rw [hy] at ya yb
        by_cases hjc : j = c
        · refine Wp_loop (fun k' vars hh => hh = h24 ∧ (∃ g : Nat → V, vars = [g 0, g 1, .ptr hx.next 0, g 3, g 4, .int .i64 (n : Int), .int .i64 p, g 7, .sl R 0 n (.un 1), g 9, .int .i64 (c : Int), g 11, g 12, g 13, .int .i64 (j : Int), .int .i64 y, .int .i64 0, g 17, g 18, g 19, g 20, g 21, g 22, g 23, g 24, g 25, g 26, g 27])) 0 ⟨rfl, ex_junk rfl⟩ ?_
          rintro k' vars hh ⟨rfl, ⟨g, rfl⟩⟩
          simp (disch := first | omega | (simp only [Qn] <;> omega)) only [go_sem]
          rw [decide_eq_true (show (0 : Int) < 2 * (n : Int) by omega)]
          simp (disch := first | omega | (simp only [Qn] <;> omega)) only [go_sem]
          rw [decide_eq_false (show ¬ ((j : Int) ≠ (c : Int)) by omega)]
          simp (disch := first | omega | (simp only [Qn] <;> omega)) only [go_sem]
          rw [show (j : Int) + 1 = ((j + 1 : Nat) : Int) from by omega]
          exact ⟨n - (j + 1), by omega, j + 1, B, ex_junk rfl, by omega, G, E, one, fun i hi hne => zer i (by omega) hne, F, rfl⟩
        refine Wp_loop (fun k' vars hh => ∃ (i : Nat), (∃ g : Nat → V, vars = [g 0, g 1, .ptr hx.next 0, g 3, g 4, .int .i64 (n : Int), .int .i64 p, g 7, .sl R 0 n (.un 1), g 9, .int .i64 (c : Int), g 11, g 12, g 13, .int .i64 (j : Int), .int .i64 y, .int .i64 (i : Int), g 17, g 18, g 19, g 20, g 21, g 22, g 23, g 24, g 25, g 26, g 27]) ∧ i ≤ n + n ∧ Gc hh R n (n + n) ρ (fun _ => .un 1) τ (fun a b => if a = j ∧ b < i then (B j b + (p - y) * B c b) % p else B a b) h8.next ∧ Fr h8 hh ∧ k' = n + n - i) (n + n)
          ⟨0, ex_junk rfl, Nat.zero_le _, G.congr fun a b _ _ => by rw [if_neg (fun h => Nat.not_lt_zero _ h.2)], F, rfl⟩ ?_
        clear G F
        rintro k' vars h25 ⟨i, ⟨g, rfl⟩, hi, G, F, rfl⟩
        simp (disch := first | omega | (simp only [Qn] <;> omega)) only [go_sem]
        by_cases hin : (i : Int) < 2 * (n : Int)
        · rw [decide_eq_true hin]
          simp (disch := first | omega | (simp only [Qn] <;> omega)) only [go_sem]
          rw [decide_eq_true (show (j : Int) ≠ (c : Int) by omega)]
          have hi' : i < n + n := by omega
          have fb : Fr h25 (H.mk h25.tr (h25.next + 28)) := (Fr.refl h25).bump (by omega)
          have G5 := G.fr fb
          have F5b := F.trans fb
          have y1 := G.cρ j i hj' hi'
          have y2 := G.cρ c i hc' hi'
          have hρl := G.hρ j hj'
          rw [if_neg (fun h => Nat.lt_irrefl i h.2)] at y1
          rw [if_neg (fun h => hjc h.1.symm)] at y2
          obtain ⟨p1, G7⟩ := G5.put hj' hi' ((B j i + (p - y) * B c i) % p)
          replace p1 : putO (h25.get (ρ j)) (H.mk h25.tr (h25.next + 28)) (ρ j) i [.int .i64 ((B j i + (p - y) * B c i) % p)] = _ := p1
          have a1 := E.lo c i hc' hi'
          have a2 := E.hi c i hc' hi'
          have a3 := E.lo j i hj' hi'
          have a4 := E.hi j i hj' hi'
          have b1 := Int.mul_nonneg (show 0 ≤ p - y by omega) a1
          have b2 := Int.mul_le_mul (show p - y ≤ 20000 by omega) (Int.le_of_lt a2) a1 (by omega)
          have em := nonneg_tmod (a := B j i + (p - y) * B c i) (p := p) (by omega)
          simp (disch := first | omega | (simp only [Qn] <;> omega)) only [go_sem, G.cR j hj', G.cR c hc', y1, y2, em, p1]
          rw [show (i : Int) + 1 = ((i + 1 : Nat) : Int) from by omega]
          refine ⟨n + n - (i + 1), by omega, i + 1, ex_junk rfl, by omega, G7.congr fun a b ha hb => ?_, F5b.set hρl _, rfl⟩
          simp only [upF]
          by_cases e : a = j ∧ b = i
          · rw [if_pos e, if_pos ⟨e.1, by omega⟩, e.2]
          · rw [if_neg e]
            by_cases e3 : a = j ∧ b < i
            · rw [if_pos e3, if_pos ⟨e3.1, by omega⟩]
            · rw [if_neg e3, if_neg (fun h => if hbi : b = i then e ⟨h.1, hbi⟩ else e3 ⟨h.1, by omega⟩)]
        rw [decide_eq_false hin]
        simp (disch := first | omega | (simp only [Qn] <;> omega)) only [go_sem]
        obtain rfl : i = n + n := by omega
        rw [show (j : Int) + 1 = ((j + 1 : Nat) : Int) from by omega]
        obtain ⟨E3, z3⟩ := E.clear (W' := fun a b => if a = j then (B j b + (p - y) * B c b) % p else B a b) (by omega) hc' one hj' hjc (fun b _ => by rw [if_pos rfl, hy]) (fun i b _ hne _ => if_neg hne)
        have G3 := G.congr (f' := fun a b => if a = j then (B j b + (p - y) * B c b) % p else B a b) fun a b _ hb => by
          by_cases e : a = j
          · rw [if_pos ⟨e, hb⟩, if_pos e]
          · rw [if_neg (fun h => e h.1), if_neg e]
        refine ⟨n - (j + 1), by omega, j + 1, _, ex_junk rfl, by omega, G3, E3, ?_, fun i hi hne => ?_, F, rfl⟩
        · simp only [if_neg (Ne.symm hjc)]; exact one
        · by_cases e : i = j
          · rw [e]; exact z3
          · simp only [if_neg e]; exact zer i (by omega) hne
      rw [decide_eq_false hjn]
      obtain rfl : n = j := by omega
      simp (disch := first | omega | (simp only [Qn] <;> omega)) only [go_sem]
      rw [show (c : Int) + 1 = ((c + 1 : Nat) : Int) from by omega]
      refine ⟨n - (c + 1), by omega, c + 1, ρ, τ, d3, B, ex_junk rfl, by omega, G, ⟨E.lo, E.hi, E.rel, fun i j hi hj => ?_, E.dd⟩, F, rfl⟩
      by_cases e : j = c
      · subst e
        by_cases e2 : i = j
        · rw [if_pos e2, e2]; exact one
        · rw [if_neg e2]; exact zer i hi e2
      · exact E.unit i j hi (by omega)
    rw [decide_eq_false hrn]
    simp (disch := first | omega | (simp only [Qn] <;> omega)) only [go_sem]
    rw [decide_eq_true (show (r : Int) = (n : Int) by omega)]
    have hst := fun hh => stV_agg2 hh hx.next 0 (v := .int .i64 0) (u := .nils) rfl rfl
    have hrow := row_two (h := h21.set hx.next (some (.cells false [.int .i64 0, .nils]))) (H.get_set_same ..)
    simp (disch := first | omega | (simp only [Qn] <;> omega)) only [go_sem, bldV_nil, hst, gyH, hrow]
    have e : InvF a = ((0, []), 15) := by
      rw [InvF, if_neg (by simp [hz]), hn, hpe, if_pos (E.none hc' fun k h1 h2 => hz0 k h1 (by omega))]
    rw [e]
    exact ⟨_, rfl, ⟨.nils, [], rfl, Rws.nils _ _⟩, F20.set (by omega) _⟩
  rw [decide_eq_false hlt]
  obtain rfl : n = c := by omega
  obtain ⟨INV, _⟩ := E.done
  have hbl := bldV_fst (z1 := .int .i64 0) (z2 := .nils) (v := .int .i64 p) rfl rfl
  have hst1 := fun hh id => stV_agg2 hh id 0 (v := .int .i64 p) (u := .nils) rfl rfl
  simp (disch := first | omega | (simp only [Qn] <;> omega)) only [go_sem, hbl, hst1, bxH_eq]
  have fB := bxH_fr h20 p .nils
  have gB := bxH_get h20 p .nils
  have nB := bxH_next h20 p .nils
  generalize bxH h20 p .nils = hB at *
  obtain ⟨O2, hO2⟩ : ∃ O2, h20.next = O2 := ⟨_, rfl⟩
  rw [hO2] at gB nB
  rw [hO2]
  obtain ⟨X, hX⟩ : ∃ X : Mx, X = fun i k => B i (n + k) := ⟨_, rfl⟩
  rw [← hX] at INV
  refine Wp_loop (fun k' vars h6 => ∃ (i : Nat) (u : V) (wo : List V), (∃ g : Nat → V, vars = [g 0, g 1, .ptr hx.next 0, g 3, g 4, .int .i64 (n : Int), g 6, g 7, .sl R 0 n (.un 1), g 9, g 10, g 11, g 12, g 13, g 14, g 15, g 16, .ptr O2 0, .int .i64 (i : Int), g 19, g 20, g 21, g 22, g 23, g 24, g 25, g 26, g 27]) ∧ i ≤ n ∧ Rws h6 u wo (mkR i n X) hB.next ∧ h6.get O2 = some (.cells false [.int .i64 p, u]) ∧ Fx O2 hB h6 ∧ k' = n - i) n
    ⟨0, .nils, [], ex_junk rfl, Nat.zero_le _, Rws.nils _ _, gB, Fx.refl _ _, rfl⟩ ?_
  rintro k' vars h6 ⟨i, u, wo, ⟨g, rfl⟩, hi, R6, g6, FX6, rfl⟩
  have n6 := FX6.next
  have f6 : Fr h20 h6 := Fx.fr fB (by omega) FX6
  have Gf := G.fr f6
  simp (disch := first | omega | (simp only [Qn] <;> omega)) only [go_sem]
  by_cases hlt3 : (i : Int) < (n : Int)
  · rw [decide_eq_true hlt3]
    have hi' : i < n := by omega
    have cA6 : h6.cell O2 1 = some u := by rw [H.cell_of g6]; rfl
    have cap1 : Cap1 (V.sl (ρ i) 0 (n + n) (.un 1)) := fun id off m c e => by cases e; exact .inl rfl
    obtain ⟨vr, evr, svr⟩ := slc_lo (Gf.si hi') cap1 (k := n) (by rw [mkV_len]; omega)
    have edr : (mkV (n + n) (B i)).drop n = mkV n (X i) := mkV_eq (by rw [List.length_drop, mkV_len]; omega) fun k hk => by
      rw [List.getD_eq_getElem?_getD, List.getElem?_drop, hX, ← List.getD_eq_getElem?_getD, mkV_get _ (by omega)]
    rw [edr] at svr
    have fb : Fr h6 (H.mk h6.tr (h6.next + 13)) := (Fr.refl h6).bump (by omega)
    have svrb := svr.mono fb
    have nb : (H.mk h6.tr (h6.next + 13)).next = h6.next + 13 := rfl
    simp (disch := first | omega | (simp only [Qn] <;> omega)) only [go_sem, Gf.cR i hi', cA6, evr]
    generalize H.mk h6.tr (h6.next + 13) = hh at *
    refine (own_ok vr (mkV n (X i)) hh svrb (by rw [mkV_len]; omega)).mono ?_
    rintro w h7 ⟨o7, f7, _⟩
    have f67 := fb.trans f7
    have n7 := f7.next
    have cA7 : h7.cell O2 1 = some u := by rw [f67.cell (by omega)]; exact cA6
    have eu := SV.eqV R6.own.sv
    have vw := SV.what o7.sv
    have f35 := litAt_fr f67 (a := h6.next + 9) (by omega) w
    have R7 := R6.fr f35
    have o7b : Own (litAt h7 (h6.next + 9) w) w 1 (ints (mkV n (X i))) hh.next := o7.mono (Nat.le_refl _) fun id _ _ _ _ h1 _ => litAt_ne h7 w (by omega)
    have sy := litAt_sv h7 (a := h6.next + 9) w (by omega)
    have nl : (litAt h7 (h6.next + 9) w).next = h7.next := rfl
    have hlen := R6.row.length
    rw [mkR_len] at hlen
    obtain ⟨v, h8', e8, R8, n8, k8, q8⟩ := R7.app (by omega) sy o7b.sv (Own.dis (R6.own.fr fb) o7) (Frs.le (Frs.own o7) (by omega)) (by omega)
    have g8 := (k8 O2 (by omega) (own_apart R7.own (by omega))).trans ((f35.get O2 (by omega)).trans g6)
    have hv := SV.what R8.own.sv
    have hst1 := fun hh => stV_one hv.1 hv.2.1 hh O2 1
    simp (disch := first | omega | (simp only [Qn] <;> omega)) only [go_sem, cA7, eu, bls_v (H.mk h7.tr (h6.next + 9)) w vw.1 vw.2.1, litAt_eq, e8, hst1, g8, putO_snd]
    rw [show (i : Int) + 1 = ((i + 1 : Nat) : Int) from by omega]
    refine ⟨n - (i + 1), by omega, i + 1, v, wo ++ [w], ex_junk rfl, by omega, ?_, rfl, ?_, rfl⟩
    · rw [mkR_succ]
      exact R8.set (by omega) _
    · refine ⟨by show hB.next ≤ h8'.next; omega, fun id hid hne => ?_⟩
      rw [H.get_set_ne _ hne]
      exact (k8 id (by omega) (own_apart R7.own hid)).trans ((f35.get id (by omega)).trans (FX6.get id hid hne))
  rw [decide_eq_false hlt3]
  obtain rfl : n = i := by omega
  have rA := row_two g6
  have vu := SV.what R6.own.sv
  have hst2 := fun hh => stV_agg2 hh hx.next 0 (v := .int .i64 p) (u := u) rfl vu.2.1
  have n20 := F.next
  have gyF : h6.get hx.next = some (.cells false [.int .i64 0, .nils]) := (f6.get _ (by omega)).trans gyH
  have hrow := row_two (h := h6.set hx.next (some (.cells false [.int .i64 p, u]))) (H.get_set_same ..)
  simp (disch := first | omega | (simp only [Qn] <;> omega)) only [go_sem, rA, hst2, gyF, hrow]
  have e : InvF a = ((p, mkR n n X), 0) := by rw [InvF, if_neg (by simp [hz]), hn, hpe, if_neg (INV.unit (by omega)), invX_eq INV]
  rw [e]
  exact ⟨_, rfl, ⟨u, wo, rfl, (R6.set (by omega) _).le (by omega)⟩, (F20.trans f6).set (by omega) _⟩
end Go.Proofs.Ytonhijbeddcmpaa

