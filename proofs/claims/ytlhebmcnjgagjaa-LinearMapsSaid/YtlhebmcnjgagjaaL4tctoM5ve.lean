/- Layer 4: the reference's Poly. Layer 5: Values, of the program and of the reference. Layer 5: Values, of the program. Layer 5: Eigen, of the program and of the reference; the reference's Kernel. Layer 5: the plain law of Solve: one solution that is 0 at rows that earlier ones span. Layer 5: the plain law of the reference's Solve: rows that earlier ones do not span; a kernel of one row. -/
import Derived.Test.YtlhebmcnjgagjaaL4setoM5f
import Derived.Test.YtlhebmcnjgagjaaM5zktoDt9
import Derived.Test.YtlhebmcnjgagjaaAy34
import Derived.Test.YtlhebmcnjgagjaaL4ytoL4sd
import Derived.Test.YtlhebmcnjgagjaaM5gtoLi2
/- Layer 4: the reference's Poly.
-/
namespace Go.Proofs.Ytlhebmcnjgagjaa
open Go Go.Ay
set_option maxRecDepth 100000
theorem kn_slc {v : V} {l : List Int} {h : H} (s : SI h v l) (c : Kn v) {k : Nat} (hk : k ≤ l.length) (h0 : 0 < l.length) : ∃ v', slcV 1 v none (some (.int .i64 (k : Int))) none = some v' ∧ SI h v' (l.take k) := by
  rcases s with ⟨_, e⟩ | ⟨id, off, len, cap, ro, vs, rfl, h2, h3, h4, h5, h6⟩
  · have : (ints l).length = 0 := by rw [e]; rfl
    rw [ints_length] at this; omega
  · obtain ⟨q, rfl, hq⟩ := c id off len cap rfl
    rw [ints_length, Nat.mul_one] at h2
    refine ⟨_, slc_kn (by omega) (by omega), ?_⟩
    rw [Int.toNat_natCast]
    refine .inr ⟨id, off, k, _, ro, vs, rfl, by rw [ints_length, List.length_take]; omega, h3, h4, by omega, ?_⟩
    rw [Nat.mul_one] at h6 ⊢
    rw [← ints_take, ← h6, List.take_take, Nat.min_eq_left (by omega)]
theorem rd_of {h : H} {u : V} {A : List (List Int)} {ws : List V} (s : SV h u 1 ws) (hall : All2 (SI h) ws A) {c : Nat} (hc : ∀ i, i < A.length → (A.getD i []).length = c) : ∃ id off ρ o, Rd h u A c id off ws ρ o := by
  have hl := hall.length
  obtain ⟨id, off, sl, hid, h3⟩ := s.shape A.length (by rw [hl, Nat.mul_one]) (by omega)
  have hcA : ∀ i : Nat, i < A.length → h.cell id (off + i) = some (ws.getD i .undef) := fun i i1 => by
    rw [h3 i (by omega), List.getD_eq_getElem?_getD, List.getElem?_eq_getElem (by omega)]; rfl
  have key : ∀ i, ∃ r : Nat × Nat, i < A.length → Sl (ws.getD i .undef) 1 c r.1 r.2 ∧ (0 < c → r.1 < h.next) ∧ ∀ k : Nat, k < c → h.cell r.1 (r.2 + k) = some (.int .i64 ((A.getD i []).getD k 0)) := fun i => by
    by_cases hi : i < A.length
    · obtain ⟨x, y, h1, h2, h3⟩ := (row_at hall hi).open
      rw [hc i hi] at h1 h2 h3
      exact ⟨(x, y), fun _ => ⟨h1, h2, h3⟩⟩
    · exact ⟨(0, 0), fun h => absurd h hi⟩
  exact ⟨id, off, fun i => (key i).choose.1, fun i => (key i).choose.2, sl, fun i hi => hid (by omega), hcA, fun i hi => row_at hall hi, fun i hi => ((key i).choose_spec hi).1, fun i k hi hk => ((key i).choose_spec hi).2.1 (by omega), fun i k hi hk => ((key i).choose_spec hi).2.2 k hk⟩
theorem bls_i2 (h : H) (x y : Int) : blsV h 1 [.int .i64 0] 2 [(0, 1, .int .i64 x), (1, 1, .int .i64 y)] = some (.sl h.next 0 2 (.kn 2), h.new (.cells false (ints [x, y]))) := by
  have e : zerosV [V.int .i64 0] 2 = [.int .i64 0, .int .i64 0] := rfl
  simp [blsV, fillV, e, putAt, V.cells, V.one, ints]
/-- A matrix that came in. -/
def MatK (h : H) (v : V) (a : Mat) : Prop := ∃ u, v = .agg [.int .i64 a.1, u] ∧ SRk h u a.2
set_option maxHeartbeats 16000000 in
theorem ref_Poly_ok (va : V) (a : Mat) (h : H) (ha : MatK h va a) (la : (a.2.length : Int) ≤ 2 ^ 63 - 1) : Ev T n_ref04_Poly [va] h (fun v h' => ∃ w, v = .tup [w, .int .i64 (PolyF a).2] ∧ SI h' w (PolyF a).1 ∧ Fr h h') := by
  obtain ⟨ua, rfl, huk⟩ := ha
  have hua := huk.sr
  refine Ev_of t_ref04_Poly rfl ?_
  have wa := SV.what hua.choose_spec.1
  simp (disch := first | omega | (simp only [Qn] <;> omega)) only [go_sem, c_ref04_Poly, initV_eq, boxV_agg2 h (v := .int .i64 a.1) rfl wa.2.1]
  have hfx : Fr h (h.new (.cells false [.int .i64 a.1, ua])) := (Fr.refl h).new _
  have hgx : (h.new (.cells false [.int .i64 a.1, ua])).get h.next = some (.cells false [.int .i64 a.1, ua]) := H.get_new_same ..
  have hnx : (h.new (.cells false [.int .i64 a.1, ua])).next = h.next + 1 := H.next_new ..
  generalize h.new (.cells false [.int .i64 a.1, ua]) = hx at *
  simp (disch := first | omega | (simp only [Qn] <;> omega)) only [go_sem, row_two hgx]
  refine (ref_square_ok _ a hx ⟨ua, rfl, hua.mono hfx⟩ la).mono ?_
  rintro v h5 ⟨rfl, f5⟩
  have F5 := hfx.trans f5
  have gx5 := (f5.get h.next (by omega)).trans hgx
  have n5 := f5.next
  simp (disch := first | omega | (simp only [Qn] <;> omega)) only [go_sem]
  refine iteW_dec (fun he => ?_) (fun he => ?_)
  · simp (disch := first | omega | (simp only [Qn] <;> omega)) only [go_sem]
    have e : PolyF a = ([], sqF a) := by rw [PolyF, if_pos he]
    rw [e]
    exact ⟨_, rfl, SI.nils _, F5⟩
  have hz : sqF a = 0 := Classical.byContradiction he
  have da := sq_vd hz
  have hp := fieldF_range da.p
  have hn1 := da.r1
  have hn2 := da.r2
  obtain ⟨n, hn⟩ : ∃ n, a.2.length = n := ⟨_, rfl⟩
  rw [hn] at hn1 hn2
  obtain ⟨p, hpe⟩ : ∃ p, a.1 = p := ⟨_, rfl⟩
  rw [hpe] at hp
  obtain ⟨A, hA⟩ : ∃ A, ent a.2 = A := ⟨_, rfl⟩
  have fb : Fr h5 (H.mk h5.tr (h5.next + 7)) := (Fr.refl h5).bump (by omega)
  have x0 : h5.cell h.next 0 = some (.int .i64 p) := by rw [H.cell_of gx5, ← hpe]; rfl
  have x1 : h5.cell h.next 1 = some ua := by rw [H.cell_of gx5]; rfl
  have lu := hua.lens
  rw [hn] at lu
  have e1 : (1 : Int).tmod p = 1 := by rw [nonneg_tmod (by omega)]; exact Int.emod_eq_of_lt (by omega) (by omega)
  simp (disch := first | omega | (simp only [Qn] <;> omega)) only [go_sem, x0, x1, lu, e1, bls_i1]
  have n6 : (H.mk h5.tr (h5.next + 7)).next = h5.next + 7 := rfl
  generalize H.mk h5.tr (h5.next + 7) = h6 at *
  rw [← n6]
  have hf7 : Fr h6 (h6.new (.cells false (ints [1]))) := (Fr.refl h6).new _
  have hg7 : (h6.new (.cells false (ints [1]))).get h6.next = some (.cells false (ints [1])) := H.get_new_same ..
  have hn7 : (h6.new (.cells false (ints [1]))).next = h6.next + 1 := H.next_new ..
  generalize h6.new (.cells false (ints [1])) = h7 at *
  have f57 := fb.trans hf7
  have ltx : h.next < h5.next := by omega
  obtain ⟨wsa, svA, al, hkn⟩ := huk
  have hra := da.row
  have hlo := da.lo
  have hhi := da.hi
  simp only [hn, hpe, hA] at hra hlo hhi
  obtain ⟨ida, offa, ρa, oa, RA0⟩ := rd_of (svA.mono F5) (al.mono fun _ _ r => r.mono F5) (c := n) fun i hi => by rw [hn] at hi; exact hra i hi
  refine Wp_loop (fun k' vars hh => ∃ (k : Nat) (vc : V), (∃ g : Nat → V, vars = [g 0, .ptr h.next 0, g 2, g 3, g 4, .int .i64 (n : Int), .int .i64 p, vc, .int .i64 (k : Int), g 9, g 10, g 11, g 12, g 13, g 14, g 15, g 16, g 17, g 18, g 19, g 20, g 21, g 22, g 23, g 24, g 25, g 26, g 27, g 28, g 29, g 30]) ∧ k ≤ n ∧ SI hh vc (mkV (k + 1) (fun i => chp k A (k - i) % p)) ∧ Fr h5 hh ∧ k' = n - k) n
    ⟨0, _, ex_junk rfl, Nat.zero_le _, ?_, f57, rfl⟩ ?_
  · have e : mkV (0 + 1) (fun i => chp 0 A (0 - i) % p) = [1] := by
      show [chp 0 A 0 % p] = [1]
      rw [chp_zero, if_pos rfl, one_mod (by omega)]
    rw [e]
    exact SI.own (l := [1]) (by omega) hg7 _
  clear hg7 hn7 f57 hf7 fb
  rintro k' vars h8 ⟨k, vc, ⟨g, rfl⟩, hk, sc, f8, rfl⟩
  have y0 : h8.cell h.next 0 = some (.int .i64 p) := by rw [f8.cell ltx]; exact x0
  have y1 : h8.cell h.next 1 = some ua := by rw [f8.cell ltx]; exact x1
  simp (disch := first | omega | (simp only [Qn] <;> omega)) only [go_sem]
  by_cases hkn' : (k : Int) < (n : Int)
  · rw [decide_eq_true hkn']
    have hk' : k < n := by omega
    have kl : k < a.2.length := by omega
    have RA := RA0.fr f8
    have ek := RA.ent k k kl hk'
    rw [hA] at ek
    have b1 := hlo k k hk' hk'
    have b2 := hhi k k hk' hk'
    have em1 := nonneg_tmod (a := p - A k k) (p := p) (by omega)
    have hwl := al.length
    have knk : Kn (wsa.getD k .undef) := hkn _ (by rw [List.getD_eq_getElem?_getD, List.getElem?_eq_getElem (by omega)]; exact List.getElem_mem _)
    have lk : (a.2.getD k []).length = n := hra k hk'
    have z0 : (H.mk h8.tr (h8.next + 14)).next = h8.next + 14 := rfl
    simp (disch := first | omega | (simp only [Qn] <;> omega)) only [go_sem, y0, y1, e1, RA.sl.ixa, RA.at_ k kl, (RA.rsl k kl).ixa, ek, em1, bls_i2, evAtO_some, litI_eq]
    obtain ⟨O, hO⟩ : ∃ O, h8.next + 14 = O := ⟨_, rfl⟩
    rw [hO]
    have gO := litI_get h8 O [1, (p - A k k) % p] (h8.next + 16)
    have gn := fun q (hq : q ≠ O) => litI_ne h8 [1, (p - A k k) % p] (h8.next + 16) hq
    have nB : (litI h8 O [1, (p - A k k) % p] (h8.next + 16)).next = h8.next + 16 := rfl
    generalize litI h8 O [1, (p - A k k) % p] (h8.next + 16) = h9 at *
    have f9 : Fr h8 h9 := ⟨by omega, fun q hq => gn q (by omega)⟩
    have RA9 := RA.fr f9
    have y19 : h9.cell h.next 1 = some ua := by rw [(f8.trans f9).cell ltx]; exact x1
    obtain ⟨vs, evs, svs⟩ := kn_slc (RA9.row k kl) knk (k := k) (by omega) (by omega)
    try simp (disch := first | omega | (simp only [Qn] <;> omega)) only [go_sem, y19, RA9.sl.ixa, RA9.at_ k kl, evs]
    refine (own_ok vs _ h9 svs (by rw [List.length_take, lk]; omega)).mono ?_
    rintro vv h10 ⟨ov, f10, _⟩
    have el : (a.2.getD k []).take k = mkV k (fun j => vkB k A 0 j % p) := mkV_eq (by rw [List.length_take, lk]; omega) fun j hj => by
      have c1 := hlo k j hk' (by omega)
      have c2 := hhi k j hk' (by omega)
      rw [List.getD_eq_getElem?_getD, List.getElem?_take_of_lt hj, ← List.getD_eq_getElem?_getD, vkB, Int.emod_eq_of_lt c1 c2, ← hA]; rfl
    rw [el] at ov
    have t9 : Own h9 (.sl O 0 2 (.kn 2)) 1 (ints (mkV 2 (fun q => tzB k A q % p))) h8.next := by
      have e : mkV 2 (fun q => tzB k A q % p) = [1, (p - A k k) % p] := by
        show [tzB k A 0 % p, tzB k A 1 % p] = _
        simp only [tzB]
        rw [one_mod (by omega), show p - A k k = -A k k + p * 1 by omega, Int.add_mul_emod_self_left]
      rw [e]
      exact .inr ⟨O, 2, _, [], rfl, rfl, .inr ⟨rfl, rfl⟩, by omega, by omega, by rw [List.append_nil]; exact gO⟩
    have t10 := t9.fr f10
    have d10 := Own.dis t9 ov
    have f810 := f9.trans f10
    have sv10 : SI h10 vv (mkV k (fun j => vkB k A 0 j % p)) := ov.sv
    clear gO gn RA9 y19 evs svs t9 f9 f10 ov el em1 z0 b1 b2 ek
    simp (disch := first | omega | (simp only [Qn] <;> omega)) only [go_sem]
    refine Wp_loop (fun k' vars hh => ∃ (i : Nat) (vt vv : V), (∃ g : Nat → V, vars = [g 0, .ptr h.next 0, g 2, g 3, g 4, .int .i64 (n : Int), .int .i64 p, vc, .int .i64 (k : Int), vt, vv, .int .i64 (i : Int), g 12, g 13, g 14, g 15, g 16, g 17, g 18, g 19, g 20, g 21, g 22, g 23, g 24, g 25, g 26, g 27, g 28, g 29, g 30]) ∧ i ≤ k ∧ Own hh vt 1 (ints (mkV (i + 2) (fun q => tzB k A q % p))) h8.next ∧ SI hh vv (mkV k (fun j => vkB k A i j % p)) ∧ Dis vt vv ∧ Fr h8 hh ∧ k' = k - i) k
      ⟨0, _, vv, ex_junk rfl, Nat.zero_le _, t10, sv10, d10, f810, rfl⟩ ?_
    clear t10 sv10 d10 f810
    rintro k' vars h11 ⟨i, vt, vv, ⟨g, rfl⟩, hi, tO, sv, dis, f11, rfl⟩
    simp (disch := first | omega | (simp only [Qn] <;> omega)) only [go_sem]
    by_cases hik : (i : Int) < (k : Int)
    · rw [decide_eq_true hik]
      simp (disch := first | omega | (simp only [Qn] <;> omega)) only [go_sem]
      obtain ⟨idv, offv, shv, hidv, hcv⟩ := sv.open
      rw [mkV_len] at shv hidv hcv
      refine Wp_loop (fun k' vars hh => ∃ (j : Nat) (S : Int), (∃ g : Nat → V, vars = [g 0, .ptr h.next 0, g 2, g 3, g 4, .int .i64 (n : Int), .int .i64 p, vc, .int .i64 (k : Int), vt, vv, .int .i64 (i : Int), .int .i64 S, .int .i64 (j : Int), g 14, g 15, g 16, g 17, g 18, g 19, g 20, g 21, g 22, g 23, g 24, g 25, g 26, g 27, g 28, g 29, g 30]) ∧ j ≤ k ∧ S = sm j (fun j => vkB k A i j * A j k) % p ∧ Fr h11 hh ∧ k' = k - j) k
        ⟨0, 0, ex_junk rfl, Nat.zero_le _, by simp [sm], Fr.refl h11, rfl⟩ ?_
      rintro k' vars h12 ⟨j, S, ⟨g, rfl⟩, hj, hS, f12, rfl⟩
      simp (disch := first | omega | (simp only [Qn] <;> omega)) only [go_sem]
      by_cases hjk : (j : Int) < (k : Int)
      · rw [decide_eq_true hjk]
        have jl : j < a.2.length := by omega
        have RA12 := RA0.fr ((f8.trans f11).trans f12)
        have y112 : h12.cell h.next 1 = some ua := by rw [((f8.trans f11).trans f12).cell ltx]; exact x1
        have ej := RA12.ent j k jl hk'
        rw [hA] at ej
        have cj : h12.cell idv (offv + j) = some (.int .i64 (vkB k A i j % p)) := by
          rw [f12.cell (hidv (by omega)), hcv j (by omega), mkV_get _ (by omega)]
        have r1 := tmod_range (vkB k A i j) (show 0 < p by omega)
        have m1 := mul_bound r1.1 r1.2 (hlo j k (by omega) hk') (hhi j k (by omega) hk') hp.2
        have rS := tmod_range (sm j (fun j => vkB k A i j * A j k)) (show 0 < p by omega)
        rw [← hS] at rS
        have em := nonneg_tmod (a := S + vkB k A i j % p * A j k) (p := p) (by omega)
        simp (disch := first | omega | (simp only [Qn] <;> omega)) only [go_sem, y112, RA12.sl.ixa, RA12.at_ j jl, (RA12.rsl j jl).ixa, ej, shv.ixa, cj, em]
        rw [show (j : Int) + 1 = ((j + 1 : Nat) : Int) from by omega]
        refine ⟨k - (j + 1), by omega, j + 1, _, ex_junk rfl, by omega, ?_, f12.bump (by omega), rfl⟩
        rw [sm_succ, hS]
        exact add_mod' (Int.emod_emod_of_dvd _ (Int.dvd_refl p)) (mul_mod (Int.emod_emod_of_dvd _ (Int.dvd_refl p)) rfl)
      rw [decide_eq_false hjk]
      obtain rfl : k = j := by omega
      have rS := tmod_range (sm k (fun j => vkB k A i j * A j k)) (show 0 < p by omega)
      rw [← hS] at rS
      have em := nonneg_tmod (a := p - S) (p := p) (by omega)
      simp (disch := first | omega | (simp only [Qn] <;> omega)) only [go_sem, em, bls_i1]
      have hf13 : Fr h12 (h12.new (.cells false (ints [(p - S) % p]))) := (Fr.refl h12).new _
      have hg13 : (h12.new (.cells false (ints [(p - S) % p]))).get h12.next = some (.cells false (ints [(p - S) % p])) := H.get_new_same ..
      have hn13 : (h12.new (.cells false (ints [(p - S) % p]))).next = h12.next + 1 := H.next_new ..
      generalize h12.new (.cells false (ints [(p - S) % p])) = h13 at *
      have f13 := f12.trans hf13
      have ex : [(p - S) % p] = [tzB k A (i + 2) % p] := by
        rw [tzB, hS, show p - sm k (fun j => vkB k A i j * A j k) % p = -(sm k (fun j => vkB k A i j * A j k) % p) + p * 1 by omega, Int.add_mul_emod_self_left]
        congr 1
        rw [Int.neg_emod_eq_sub_emod, Int.neg_emod_eq_sub_emod, Int.sub_emod, Int.emod_emod_of_dvd _ (Int.dvd_refl p), ← Int.sub_emod]
      have sx : SV h13 (.sl h12.next 0 1 (.kn 1)) 1 (ints [tzB k A (i + 2) % p]) := by rw [← ex]; exact SV.all rfl (by omega) hg13 _
      obtain ⟨vt2, h14, e14, a14⟩ := (tO.fr f13).app (bytes := 8) (n := i + 2) (m := 1) (by have := f11.next; have := f13.next; omega) sx (by rw [ints_length, mkV_len, Nat.mul_one]) rfl (by omega) (by omega)
      have sv14 : SI h14 vv (mkV k (fun j => vkB k A i j % p)) := SI.keep (sv.mono f13) a14.next fun id off m c e => a14.get id (SI.lt (sv.mono f13) e) fun i' o' n' c' e' h0 => dis _ _ _ _ e' _ _ _ _ e h0.symm
      have f14 : Fr h8 h14 := a14.fr h8 (f11.trans f13) (Nat.le_refl _)
      have t14 := a14.own
      rw [← ints_append, ← mkV_succ] at t14
      have emk : mksV h14 1 8 [.int .i64 0] (.int .i64 (k : Int)) (.int .i64 (k : Int)) = some (.sl h14.next 0 k (.kn k), h14.new (.cells false (ints (List.replicate k 0)))) := by
        rw [mksV_int (by omega) (Int.le_refl _) (by omega) (by omega), Int.toNat_natCast, Nat.mul_one, zeros_int]
      obtain ⟨Z, hZ⟩ : ∃ Z, List.replicate k (0 : Int) = Z := ⟨_, rfl⟩
      rw [hZ] at emk
      have lZ : Z.length = k := by rw [← hZ, List.length_replicate]
      have vZ : ∀ q, q < k → Z.getD q 0 = 0 := fun q hq => by rw [← hZ, List.getD_eq_getElem?_getD, List.getElem?_replicate, if_pos hq]; rfl
      simp (disch := first | omega | (simp only [Qn] <;> omega)) only [go_sem, e14, emk]
      have hf15 : Fr h14 (h14.new (.cells false (ints Z))) := (Fr.refl h14).new _
      have hg15 : (h14.new (.cells false (ints Z))).get h14.next = some (.cells false (ints Z)) := H.get_new_same ..
      have hn15 : (h14.new (.cells false (ints Z))).next = h14.next + 1 := H.next_new ..
      generalize h14.new (.cells false (ints Z)) = h15 at *
      obtain ⟨W, hW⟩ : ∃ W, h14.next = W := ⟨_, rfl⟩
      rw [hW] at hg15 hn15
      rw [hW]
      clear a14 e14 emk sx ex hg13 hn13 hf13 tO sv dis shv hidv hcv hS rS em f12 f13
      obtain ⟨idv, offv, shv, hidv, hcv⟩ := sv14.open
      rw [mkV_len] at shv hidv hcv
      refine Wp_loop (fun k' vars hh => ∃ (j : Nat) (o : List Int), (∃ g : Nat → V, vars = [g 0, .ptr h.next 0, g 2, g 3, g 4, .int .i64 (n : Int), .int .i64 p, vc, .int .i64 (k : Int), vt2, vv, .int .i64 (i : Int), g 12, g 13, .sl W 0 k (.kn k), .int .i64 (j : Int), g 16, g 17, g 18, g 19, g 20, g 21, g 22, g 23, g 24, g 25, g 26, g 27, g 28, g 29, g 30]) ∧ j ≤ k ∧ o.length = k ∧ (∀ q, q < k → o.getD q 0 = if q < j then vkB k A (i + 1) q % p else 0) ∧ hh.get W = some (.cells false (ints o)) ∧ W + 1 ≤ hh.next ∧ Fr h14 hh ∧ k' = k - j) k
        ⟨0, Z, ex_junk rfl, Nat.zero_le _, lZ, fun q hq => by rw [vZ q hq, if_neg (Nat.not_lt_zero q)], hg15, by omega, hf15, rfl⟩ ?_
      clear hg15 hn15 hf15 lZ vZ hZ
      rintro k' vars h16 ⟨j, o, ⟨g, rfl⟩, hj, lo, vo, g16, n16, f16, rfl⟩
      simp (disch := first | omega | (simp only [Qn] <;> omega)) only [go_sem]
      by_cases hjk : (j : Int) < (k : Int)
      · rw [decide_eq_true hjk]
        simp (disch := first | omega | (simp only [Qn] <;> omega)) only [go_sem]
        refine Wp_loop (fun k' vars hh => ∃ (m : Nat) (o : List Int), (∃ g : Nat → V, vars = [g 0, .ptr h.next 0, g 2, g 3, g 4, .int .i64 (n : Int), .int .i64 p, vc, .int .i64 (k : Int), vt2, vv, .int .i64 (i : Int), g 12, g 13, .sl W 0 k (.kn k), .int .i64 (j : Int), .int .i64 (m : Int), g 17, g 18, g 19, g 20, g 21, g 22, g 23, g 24, g 25, g 26, g 27, g 28, g 29, g 30]) ∧ m ≤ k ∧ o.length = k ∧ (∀ q, q < k → o.getD q 0 = if q < j then vkB k A (i + 1) q % p else if q = j then sm m (fun m => vkB k A i m * A m j) % p else 0) ∧ hh.get W = some (.cells false (ints o)) ∧ W + 1 ≤ hh.next ∧ Fr h14 hh ∧ k' = k - m) k
          ⟨0, o, ex_junk rfl, Nat.zero_le _, lo, fun q hq => by
            rw [vo q hq]
            by_cases e : q < j
            · rw [if_pos e, if_pos e]
            · rw [if_neg e, if_neg e]; simp [sm], g16, n16, f16, rfl⟩ ?_
        clear g16 n16 f16 lo vo
        rintro k' vars h17 ⟨m, o, ⟨g, rfl⟩, hm, lo, vo, g17, n17, f17, rfl⟩
        simp (disch := first | omega | (simp only [Qn] <;> omega)) only [go_sem]
        by_cases hmk : (m : Int) < (k : Int)
        · rw [decide_eq_true hmk]
          have ml : m < a.2.length := by omega
          have F17 := f14.trans f17
          have RA17 := RA0.fr (f8.trans F17)
          have y117 : h17.cell h.next 1 = some ua := by rw [(f8.trans F17).cell ltx]; exact x1
          have ej := RA17.ent m j ml (by omega)
          rw [hA] at ej
          have cm : h17.cell idv (offv + m) = some (.int .i64 (vkB k A i m % p)) := by
            rw [f17.cell (hidv (by omega)), hcv m (by omega), mkV_get _ (by omega)]
          have oj : h17.cell W j = some (.int .i64 (o.getD j 0)) := by rw [H.cell_of g17, ints_getD (by omega)]
          have vj := vo j (by omega)
          rw [if_neg (Nat.lt_irrefl j), if_pos rfl] at vj
          have r1 := tmod_range (vkB k A i m) (show 0 < p by omega)
          have m1 := mul_bound r1.1 r1.2 (hlo m j (by omega) (by omega)) (hhi m j (by omega) (by omega)) hp.2
          have rj := tmod_range (sm m (fun m => vkB k A i m * A m j)) (show 0 < p by omega)
          rw [← vj] at rj
          have em := nonneg_tmod (a := o.getD j 0 + vkB k A i m % p * A m j) (p := p) (by omega)
          have fb17 : Fr h17 (H.mk h17.tr (h17.next + 24)) := (Fr.refl h17).bump (by omega)
          simp (disch := first | omega | (simp only [Qn] <;> omega)) only [go_sem, y117, RA17.sl.ixa, RA17.at_ m ml, (RA17.rsl m ml).ixa, ej, shv.ixa, cm, oj, em, g17]
          rw [show (m : Int) + 1 = ((m + 1 : Nat) : Int) from by omega]
          refine ⟨k - (m + 1), by omega, m + 1, o.set j ((o.getD j 0 + vkB k A i m % p * A m j) % p), ex_junk rfl, by omega, by rw [List.length_set]; exact lo, fun q hq => ?_, rfl, by omega, (f17.trans fb17).set (by omega) _, rfl⟩
          rw [getD_set]
          by_cases e : j = q
          · subst e
            rw [if_pos rfl, if_pos (by omega), if_neg (Nat.lt_irrefl j), if_pos rfl, vj, sm_succ]
            exact add_mod' (Int.emod_emod_of_dvd _ (Int.dvd_refl p)) (mul_mod (Int.emod_emod_of_dvd _ (Int.dvd_refl p)) rfl)
          · rw [if_neg e, vo q hq, if_neg (Ne.symm e), if_neg (Ne.symm e)]
        rw [decide_eq_false hmk]
        obtain rfl : k = m := by omega
        simp (disch := first | omega | (simp only [Qn] <;> omega)) only [go_sem]
        rw [show (j : Int) + 1 = ((j + 1 : Nat) : Int) from by omega]
        refine ⟨k - (j + 1), by omega, j + 1, o, ex_junk rfl, by omega, lo, fun q hq => ?_, g17, n17, f17, rfl⟩
        rw [vo q hq]
        by_cases e : q < j
        · rw [if_pos e, if_pos (by omega)]
        · rw [if_neg e]
          by_cases e2 : q = j
          · rw [if_pos e2, if_pos (by omega), e2, vkB]
          · rw [if_neg e2, if_neg (by omega)]
      rw [decide_eq_false hjk]
      obtain rfl : k = j := by omega
      simp (disch := first | omega | (simp only [Qn] <;> omega)) only [go_sem]
      rw [show (i : Int) + 1 = ((i + 1 : Nat) : Int) from by omega]
      have eo : o = mkV k (fun j => vkB k A (i + 1) j % p) := mkV_eq lo fun q hq => by rw [vo q hq, if_pos hq]
      subst eo
      have ow : Own h16 (.sl W 0 k (.kn k)) 1 (ints (mkV k (fun j => vkB k A (i + 1) j % p))) h14.next := .inr ⟨W, k, _, [], rfl, by rw [ints_length, mkV_len, Nat.mul_one], .inr ⟨rfl, rfl⟩, by omega, by omega, by rw [List.append_nil]; exact g16⟩
      exact ⟨k - (i + 1), by omega, i + 1, vt2, _, ex_junk rfl, by omega, t14.fr f16, ow.sv, Own.dis t14 ow, f14.trans f16, rfl⟩
    rw [decide_eq_false hik]
    obtain rfl : k = i := by omega
    have emk2 : mksV h11 1 8 [.int .i64 0] (.int .i64 ((k : Int) + 2)) (.int .i64 ((k : Int) + 2)) = some (.sl h11.next 0 (k + 2) (.kn (k + 2)), h11.new (.cells false (ints (List.replicate (k + 2) 0)))) := by
      rw [show (k : Int) + 2 = ((k + 2 : Nat) : Int) from by omega, mksV_int (by omega) (Int.le_refl _) (by omega) (by omega), Int.toNat_natCast, Nat.mul_one, zeros_int]
    obtain ⟨Z, hZ⟩ : ∃ Z, List.replicate (k + 2) (0 : Int) = Z := ⟨_, rfl⟩
    rw [hZ] at emk2
    have lZ : Z.length = k + 2 := by rw [← hZ, List.length_replicate]
    have vZ : ∀ q, q < k + 2 → Z.getD q 0 = 0 := fun q hq => by rw [← hZ, List.getD_eq_getElem?_getD, List.getElem?_replicate, if_pos hq]; rfl
    simp (disch := first | omega | (simp only [Qn] <;> omega)) only [go_sem, emk2]
    have hf20 : Fr h11 (h11.new (.cells false (ints Z))) := (Fr.refl h11).new _
    have hg20 : (h11.new (.cells false (ints Z))).get h11.next = some (.cells false (ints Z)) := H.get_new_same ..
    have hn20 : (h11.new (.cells false (ints Z))).next = h11.next + 1 := H.next_new ..
    generalize h11.new (.cells false (ints Z)) = h20 at *
    obtain ⟨N, hN⟩ : ∃ N, h11.next = N := ⟨_, rfl⟩
    rw [hN] at hg20 hn20
    rw [hN]
    obtain ⟨idt, offt, sht, hidt, hct⟩ := (show SI h11 vt (mkV (k + 2) (fun q => tzB k A q % p)) from tO.sv).open
    rw [mkV_len] at sht hidt hct
    have sc11 := sc.mono f11
    have lenc := sc11.lens
    rw [mkV_len] at lenc
    obtain ⟨idc, offc, shc, hidc, hcc⟩ := sc11.open
    rw [mkV_len] at shc hidc hcc
    obtain ⟨F, hF⟩ : ∃ F : Nat → Nat → Int, F = fun i j => if j ≤ k then tzB k A (i - j) * chp k A (k - j) else 0 := ⟨_, rfl⟩
    have eF : ∀ i j, j ≤ k → F i j = tzB k A (i - j) * chp k A (k - j) := fun i j hj => by rw [hF]; exact if_pos hj
    refine Wp_loop (fun k' vars hh => ∃ (i : Nat) (o : List Int), (∃ g : Nat → V, vars = [g 0, .ptr h.next 0, g 2, g 3, g 4, .int .i64 (n : Int), .int .i64 p, vc, .int .i64 (k : Int), vt, g 10, g 11, g 12, g 13, g 14, g 15, g 16, .sl N 0 (k + 2) (.kn (k + 2)), .int .i64 (i : Int), g 19, g 20, g 21, g 22, g 23, g 24, g 25, g 26, g 27, g 28, g 29, g 30]) ∧ i ≤ k + 2 ∧ o.length = k + 2 ∧ (∀ q, q < k + 2 → o.getD q 0 = if q < i then chp (k + 1) A (k + 1 - q) % p else 0) ∧ hh.get N = some (.cells false (ints o)) ∧ N + 1 ≤ hh.next ∧ Fr h11 hh ∧ k' = k + 2 - i) (k + 2)
      ⟨0, Z, ex_junk rfl, Nat.zero_le _, lZ, fun q hq => by rw [vZ q hq, if_neg (Nat.not_lt_zero q)], hg20, by omega, hf20, rfl⟩ ?_
    clear hg20 hn20 hf20 lZ vZ hZ emk2
    rintro k' vars h21 ⟨i, o, ⟨g, rfl⟩, hi, lo, vo, g21, n21, f21, rfl⟩
    simp (disch := first | omega | (simp only [Qn] <;> omega)) only [go_sem]
    by_cases hik2 : (i : Int) < (k : Int) + 2
    · rw [decide_eq_true hik2]
      simp (disch := first | omega | (simp only [Qn] <;> omega)) only [go_sem]
      refine Wp_loop (fun k' vars hh => ∃ (j : Nat) (o : List Int), (∃ g : Nat → V, vars = [g 0, .ptr h.next 0, g 2, g 3, g 4, .int .i64 (n : Int), .int .i64 p, vc, .int .i64 (k : Int), vt, g 10, g 11, g 12, g 13, g 14, g 15, g 16, .sl N 0 (k + 2) (.kn (k + 2)), .int .i64 (i : Int), .int .i64 (j : Int), g 20, g 21, g 22, g 23, g 24, g 25, g 26, g 27, g 28, g 29, g 30]) ∧ j ≤ k + 1 ∧ j ≤ i + 1 ∧ o.length = k + 2 ∧ (∀ q, q < k + 2 → o.getD q 0 = if q < i then chp (k + 1) A (k + 1 - q) % p else if q = i then sm j (F i) % p else 0) ∧ hh.get N = some (.cells false (ints o)) ∧ N + 1 ≤ hh.next ∧ Fr h11 hh ∧ k' = k + 1 - j) (k + 1)
        ⟨0, o, ex_junk rfl, Nat.zero_le _, Nat.zero_le _, lo, fun q hq => by
          rw [vo q hq]
          by_cases e : q < i
          · rw [if_pos e, if_pos e]
          · rw [if_neg e, if_neg e]; simp [sm], g21, n21, f21, rfl⟩ ?_
      clear g21 n21 f21 lo vo
      rintro k' vars h22 ⟨j, o, ⟨g, rfl⟩, hj, hji, lo, vo, g22, n22, f22, rfl⟩
      have fin : ∀ (hJ : j = k + 1 ∨ j = i + 1) (q : Nat), q < k + 2 → o.getD q 0 = if q < i + 1 then chp (k + 1) A (k + 1 - q) % p else 0 := fun hJ q hq => by
        rw [vo q hq]
        by_cases e : q < i
        · rw [if_pos e, if_pos (by omega)]
        · rw [if_neg e]
          by_cases e2 : q = i
          · rw [if_pos e2, if_pos (by omega), e2, chp_conv k A i (by omega)]
            congr 1
            rcases hJ with e3 | e3
            · have e4 : sm (i + 1) (F i) = sm j (F i) := sm_more hji fun q h1 h2 => by rw [hF]; exact if_neg (by omega)
              rw [← e4, hF]
            · rw [e3, hF]
          · rw [if_neg e2, if_neg (by omega)]
      simp (disch := first | omega | (simp only [Qn] <;> omega)) only [go_sem]
      by_cases hle : (j : Int) ≤ (i : Int)
      · rw [decide_eq_true hle]
        simp (disch := first | omega | (simp only [Qn] <;> omega)) only [go_sem, lenc]
        by_cases hlc : (j : Int) < ((k + 1 : Nat) : Int)
        · rw [decide_eq_true hlc]
          obtain ⟨d, hd⟩ : ∃ d : Nat, (i : Int) - (j : Int) = (d : Int) := ⟨i - j, by omega⟩
          have ct : h22.cell idt (offt + d) = some (.int .i64 (tzB k A d % p)) := by
            rw [f22.cell (hidt (by omega)), hct d (by omega), mkV_get _ (by omega)]
          have cc : h22.cell idc (offc + j) = some (.int .i64 (chp k A (k - j) % p)) := by
            rw [f22.cell (hidc (by omega)), hcc j (by omega), mkV_get _ (by omega)]
          have oi : h22.cell N i = some (.int .i64 (o.getD i 0)) := by rw [H.cell_of g22, ints_getD (by omega)]
          have vi := vo i (by omega)
          rw [if_neg (Nat.lt_irrefl i), if_pos rfl] at vi
          have r1 := tmod_range (tzB k A d) (show 0 < p by omega)
          have r2 := tmod_range (chp k A (k - j)) (show 0 < p by omega)
          have m1 := mul_bound r1.1 r1.2 r2.1 r2.2 hp.2
          have rj := tmod_range (sm j (F i)) (show 0 < p by omega)
          rw [← vi] at rj
          have em := nonneg_tmod (a := o.getD i 0 + tzB k A d % p * (chp k A (k - j) % p)) (p := p) (by omega)
          have fb22 : Fr h22 (H.mk h22.tr (h22.next + 22)) := (Fr.refl h22).bump (by omega)
          simp (disch := first | omega | (simp only [Qn] <;> omega)) only [go_sem, hd, sht.ixa, ct, shc.ixa, cc, oi, em, g22]
          rw [show (j : Int) + 1 = ((j + 1 : Nat) : Int) from by omega]
          refine ⟨k + 1 - (j + 1), by omega, j + 1, o.set i ((o.getD i 0 + tzB k A d % p * (chp k A (k - j) % p)) % p), ex_junk rfl, by omega, by omega, by rw [List.length_set]; exact lo, fun q hq => ?_, rfl, by omega, (f22.trans fb22).set (by omega) _, rfl⟩
          rw [getD_set]
          by_cases e : i = q
          · subst e
            rw [if_pos rfl, if_pos (by omega), if_neg (Nat.lt_irrefl i), if_pos rfl, vi, sm_succ, eF i j (by omega), show i - j = d by omega]
            exact add_mod' (Int.emod_emod_of_dvd _ (Int.dvd_refl p)) (mul_mod (Int.emod_emod_of_dvd _ (Int.dvd_refl p)) (Int.emod_emod_of_dvd _ (Int.dvd_refl p)))
          · rw [if_neg e, vo q hq, if_neg (Ne.symm e), if_neg (Ne.symm e)]
        rw [decide_eq_false hlc]
        simp (disch := first | omega | (simp only [Qn] <;> omega)) only [go_sem]
        rw [show (i : Int) + 1 = ((i + 1 : Nat) : Int) from by omega]
        exact ⟨k + 2 - (i + 1), by omega, i + 1, o, ex_junk rfl, by omega, lo, fin (.inl (by omega)), g22, n22, f22, rfl⟩
      rw [decide_eq_false hle]
      simp (disch := first | omega | (simp only [Qn] <;> omega)) only [go_sem]
      rw [show (i : Int) + 1 = ((i + 1 : Nat) : Int) from by omega]
      exact ⟨k + 2 - (i + 1), by omega, i + 1, o, ex_junk rfl, by omega, lo, fin (.inr (by omega)), g22, n22, f22, rfl⟩
    rw [decide_eq_false hik2]
    obtain rfl : i = k + 2 := by omega
    simp (disch := first | omega | (simp only [Qn] <;> omega)) only [go_sem]
    rw [show (k : Int) + 1 = ((k + 1 : Nat) : Int) from by omega]
    have eo : o = mkV (k + 1 + 1) (fun i => chp (k + 1) A (k + 1 - i) % p) := mkV_eq lo fun q hq => by rw [vo q (by omega), if_pos (by omega)]
    have so : SI h21 (.sl N 0 (k + 2) (.kn (k + 2))) (mkV (k + 1 + 1) (fun i => chp (k + 1) A (k + 1 - i) % p)) := by
      rw [← eo]
      have := SI.own (h := h21) (id := N) (by omega) g21 (.kn (k + 2))
      rw [lo] at this; exact this
    exact ⟨n - (k + 1), by omega, k + 1, _, ex_junk rfl, by omega, so, f8.trans (f11.trans f21), rfl⟩
  rw [decide_eq_false hkn']
  obtain rfl : n = k := by omega
  simp (disch := first | omega | (simp only [Qn] <;> omega)) only [go_sem]
  obtain ⟨idc, offc, shc, hidc, hcc⟩ := sc.open
  rw [mkV_len] at shc hidc hcc
  refine Wp_loop (fun k' vars hh => ∃ (d : Nat) (kk : Int) (vo : V), (∃ g : Nat → V, vars = [g 0, g 1, g 2, g 3, g 4, g 5, g 6, vc, g 8, g 9, g 10, g 11, g 12, g 13, g 14, g 15, g 16, g 17, g 18, g 19, vo, .int .i64 kk, g 22, g 23, g 24, g 25, g 26, g 27, g 28, g 29, g 30]) ∧ kk = (n : Int) - (d : Int) ∧ d ≤ n + 1 ∧ Own hh vo 1 (ints (mkV d (fun q => chp n A q % p))) h8.next ∧ Fr h8 hh ∧ k' = n + 1 - d) (n + 1)
    ⟨0, _, .nils, ex_junk rfl, by omega, Nat.zero_le _, Own.nils _ _ _, Fr.refl h8, rfl⟩ ?_
  rintro k' vars h30 ⟨d, kk, vo, ⟨g, rfl⟩, hkk, hd, oO, f30, rfl⟩
  simp (disch := first | omega | (simp only [Qn] <;> omega)) only [go_sem]
  by_cases h0 : 0 ≤ kk
  · rw [decide_eq_true h0]
    obtain ⟨q, hq⟩ : ∃ q : Nat, kk = (q : Int) := ⟨kk.toNat, by omega⟩
    subst hq
    have cq : h30.cell idc (offc + q) = some (.int .i64 (chp n A d % p)) := by
      rw [f30.cell (hidc (by omega)), hcc q (by omega), mkV_get _ (by omega), show n - q = d by omega]
    simp (disch := first | omega | (simp only [Qn] <;> omega)) only [go_sem, shc.ixa, cq, bls_i1]
    have hf31 : Fr h30 (h30.new (.cells false (ints [chp n A d % p]))) := (Fr.refl h30).new _
    have hg31 : (h30.new (.cells false (ints [chp n A d % p]))).get h30.next = some (.cells false (ints [chp n A d % p])) := H.get_new_same ..
    have hn31 : (h30.new (.cells false (ints [chp n A d % p]))).next = h30.next + 1 := H.next_new ..
    generalize h30.new (.cells false (ints [chp n A d % p])) = h31 at *
    have sx : SV h31 (.sl h30.next 0 1 (.kn 1)) 1 (ints [chp n A d % p]) := SV.all rfl (by omega) hg31 _
    have nx := f30.next
    obtain ⟨v2, h32, e32, a32⟩ := (oO.fr hf31).app (bytes := 8) (n := d) (m := 1) (by omega) sx (by rw [ints_length, mkV_len, Nat.mul_one]) rfl (by omega) (by omega)
    simp (disch := first | omega | (simp only [Qn] <;> omega)) only [go_sem, e32]
    have t32 := a32.own
    rw [← ints_append, ← mkV_succ] at t32
    exact ⟨n + 1 - (d + 1), by omega, d + 1, _, v2, ex_junk rfl, by omega, by omega, t32, a32.fr h8 (f30.trans hf31) (Nat.le_refl _), rfl⟩
  rw [decide_eq_false h0]
  obtain rfl : d = n + 1 := by omega
  simp (disch := first | omega | (simp only [Qn] <;> omega)) only [go_sem]
  have e : PolyF a = (mkV (n + 1) (fun q => chp n A q % p), 0) := by
    rw [PolyF, if_neg (by simp [hz]), hn, hpe, hA]
  rw [e]
  exact ⟨_, rfl, oO.sv, (F5.trans f8).trans f30⟩
end Go.Proofs.Ytlhebmcnjgagjaa

/- Layer 5: Values, of the program and of the reference. -/
namespace Go.Proofs.Ytlhebmcnjgagjaa
open Go Go.Ay
set_option maxRecDepth 100000
/-- Horner's way, from the last coefficient on. -/
def vlF (p x : Int) (c : List Int) : Nat → Int
  | 0 => 0
  | s + 1 => (vlF p x c s * x + c.getD (c.length - (s + 1)) 0) % p
theorem vlF_range {p : Int} (hp : 0 < p) (x : Int) (c : List Int) : ∀ s, 0 ≤ vlF p x c s ∧ vlF p x c s < p
  | 0 => ⟨Int.le_refl 0, hp⟩
  | s + 1 => by rw [vlF]; exact tmod_range _ hp
def rtF (p : Int) (c : List Int) (n : Nat) : List Int := ((List.range n).filter fun x : Nat => decide (vlF p (x : Int) c c.length = 0)).map fun x : Nat => (x : Int)
theorem rtF_succ (p : Int) (c : List Int) (n : Nat) : rtF p c (n + 1) = rtF p c n ++ (if vlF p (n : Int) c c.length = 0 then [(n : Int)] else []) := by
  rw [rtF, List.range_succ, List.filter_append, List.map_append]
  congr 1
  by_cases e : vlF p (n : Int) c c.length = 0 <;> simp [List.filter, e]
theorem rtF_len (p : Int) (c : List Int) (n : Nat) : (rtF p c n).length ≤ n := by
  rw [rtF, List.length_map]; exact Nat.le_trans (List.length_filter_le _ _) (by rw [List.length_range]; omega)
noncomputable def ValuesF (a : Mat) : List Int × Int := if (PolyF a).2 ≠ 0 then ([], (PolyF a).2) else (rtF a.1 (PolyF a).1 a.1.toNat, 0)
theorem polyF_good {a : Mat} (h : ¬ (PolyF a).2 ≠ 0) : checkM a = 0 ∧ (PolyF a).1.length < 1000 ∧ ∀ i, i < (PolyF a).1.length → 0 ≤ (PolyF a).1.getD i 0 ∧ (PolyF a).1.getD i 0 < a.1 := by
  have hs : sqF a = 0 := by
    by_cases e : sqF a = 0
    · exact e
    · rw [PolyF, if_pos e] at h
      exact absurd e h
  have hc : checkM a = 0 := by
    unfold sqF at hs
    by_cases e : checkM a = 0
    · exact e
    · first
      | (rw [if_pos e] at hs; exact absurd hs e)
      | (simp [e] at hs)
  have d := check_vd hc
  have hp := fieldF_range d.p
  have r2 := d.r2
  refine ⟨hc, ?_⟩
  rw [PolyF, if_neg (by simp [hs])]
  simp only [mkV_len]
  refine ⟨by omega, fun i hi => ?_⟩
  rw [mkV_get _ hi]
  exact tmod_range _ (by omega)
theorem hn_bound {p v x y : Int} (hp : p < 10000) (hv : 0 ≤ v ∧ v < p) (hx : 0 ≤ x ∧ x < p) (hy : 0 ≤ y ∧ y < p) : 0 ≤ v * x ∧ v * x ≤ 100000000 ∧ 0 ≤ v * x + y ∧ v * x + y ≤ 200000000 := by
  have b1 := Int.mul_nonneg hv.1 hx.1
  have b2 := Int.mul_le_mul (show v ≤ 10000 by omega) (show x ≤ 10000 by omega) hx.1 (by omega)
  omega
set_option maxHeartbeats 8000000 in
theorem ref_Values_ok (va : V) (a : Mat) (h : H) (ha : MatK h va a) (la : (a.2.length : Int) ≤ 2 ^ 63 - 1) : Ev T n_ref05_Values [va] h (fun v h' => ∃ w, v = .tup [w, .int .i64 (ValuesF a).2] ∧ SI h' w (ValuesF a).1 ∧ Fr h h') := by
  obtain ⟨ua, rfl, hua⟩ := ha
  refine Ev_of t_ref05_Values rfl ?_
  have wa := SV.what hua.sr.choose_spec.1
  simp (disch := first | omega | (simp only [Qn] <;> omega)) only [go_sem, c_ref05_Values, initV_eq, boxV_agg2 h (v := .int .i64 a.1) rfl wa.2.1]
  have hf1 : Fr h (h.new (.cells false [.int .i64 a.1, ua])) := (Fr.refl h).new _
  have hg1 : (h.new (.cells false [.int .i64 a.1, ua])).get h.next = some (.cells false [.int .i64 a.1, ua]) := H.get_new_same ..
  have hn1 : (h.new (.cells false [.int .i64 a.1, ua])).next = h.next + 1 := H.next_new ..
  generalize h.new (.cells false [.int .i64 a.1, ua]) = h1 at *
  obtain ⟨X, hX⟩ : ∃ X, h.next = X := ⟨_, rfl⟩
  rw [hX] at hg1
  rw [hX]
  simp (disch := first | omega | (simp only [Qn] <;> omega)) only [go_sem, row_two hg1]
  refine (ref_Poly_ok _ a h1 ⟨ua, rfl, hua.mono hf1⟩ la).mono ?_
  rintro w h2 ⟨wc, rfl, sc, f2⟩
  have F2 := hf1.trans f2
  simp (disch := first | omega | (simp only [Qn] <;> omega)) only [go_sem, List.getElem?_cons_zero, List.getElem?_cons_succ]
  refine iteW_dec (fun hz => ?_) (fun hz => ?_)
  · simp (disch := first | omega | (simp only [Qn] <;> omega)) only [go_sem]
    rw [ValuesF, if_pos hz]
    exact ⟨_, rfl, SV.nils _ _, F2⟩
  obtain ⟨hc, hN, hr⟩ := polyF_good hz
  have hp := fieldF_range (check_vd hc).p
  obtain ⟨P, hP⟩ : ∃ P : Nat, a.1 = (P : Int) := ⟨a.1.toNat, by omega⟩
  obtain ⟨C, hC⟩ : ∃ C, (PolyF a).1 = C := ⟨_, rfl⟩
  rw [hC] at sc hN hr
  have eV : ValuesF a = (rtF P C P, 0) := by rw [ValuesF, if_neg hz, hC, hP, Int.toNat_natCast]
  rw [eV]
  rw [hP] at hp hr hg1
  obtain ⟨idc, offc, slc, hidc, hcc⟩ := sc.open
  have gX := (f2.get X (by omega)).trans hg1
  simp (disch := first | omega | (simp only [Qn] <;> omega)) only [go_sem]
  refine Wp_loop (fun k' vars hh => ∃ (x : Nat) (u : V), (∃ g : Nat → V, vars = [g 0, .ptr X 0, g 2, g 3, wc, g 5, u, .int .i64 (x : Int), g 8, g 9, g 10, g 11, g 12, g 13]) ∧ x ≤ P ∧ Own hh u 1 (ints (rtF P C x)) h2.next ∧ Fr h2 hh ∧ k' = P - x) P
    ⟨0, .nils, ex_junk rfl, Nat.zero_le _, Own.nils _ _ _, Fr.refl _, rfl⟩ ?_
  rintro k' vars hh ⟨x, u, ⟨jk, rfl⟩, hx, o, F, rfl⟩
  have x0 : hh.cell X 0 = some (.int .i64 (P : Int)) := by rw [F.cell (by have := f2.next; omega), H.cell_of gX]; rfl
  simp (disch := first | omega | (simp only [Qn] <;> omega)) only [go_sem, x0]
  by_cases hlt : (x : Int) < (P : Int)
  · rw [decide_eq_true hlt]
    have hx' : x < P := by omega
    simp (disch := first | omega | (simp only [Qn] <;> omega)) only [go_sem, slc.lens]
    refine Wp_loop (fun k' vars h4 => Fr hh h4 ∧ ∃ s : Nat, (∃ g : Nat → V, vars = [g 0, .ptr X 0, g 2, g 3, wc, g 5, u, .int .i64 (x : Int), .int .i64 (vlF P (x : Int) C s), .int .i64 ((C.length : Int) - 1 - (s : Int)), g 10, g 11, g 12, g 13]) ∧ s ≤ C.length ∧ k' = C.length - s) C.length
      ⟨Fr.refl _, 0, ex_junk (by rw [Int.natCast_zero, Int.sub_zero]; rfl), Nat.zero_le _, rfl⟩ ?_
    rintro k' vars h4 ⟨g4, s, ⟨g, rfl⟩, hs, rfl⟩
    simp (disch := first | omega | (simp only [Qn] <;> omega)) only [go_sem]
    by_cases hsl : (0 : Int) ≤ (C.length : Int) - 1 - (s : Int)
    · rw [decide_eq_true hsl]
      have hs' : s < C.length := by omega
      have x4 : h4.cell X 0 = some (.int .i64 (P : Int)) := by rw [g4.cell (by have := F.next; have := f2.next; omega)]; exact x0
      have eI : ((C.length : Int) - 1 - (s : Int)).toNat = C.length - (s + 1) := by omega
      have cc : h4.cell idc (offc + (C.length - (s + 1))) = some (.int .i64 (C.getD (C.length - (s + 1)) 0)) := by
        rw [g4.cell (by have := hidc (by omega); have := F.next; omega), F.cell (hidc (by omega))]; exact hcc _ (by omega)
      have rv := vlF_range (show (0 : Int) < (P : Int) by omega) (x : Int) C s
      have rc := hr (C.length - (s + 1)) (by omega)
      have bd := hn_bound hp.2 rv (show 0 ≤ (x : Int) ∧ (x : Int) < P by omega) rc
      have em := nonneg_tmod (a := vlF P (x : Int) C s * (x : Int) + C.getD (C.length - (s + 1)) 0) (p := (P : Int)) bd.2.2.1
      simp (disch := first | omega | (simp only [Qn] <;> omega)) only [go_sem, slc.ixa, eI, cc, x4, em]
      rw [show (C.length : Int) - 1 - (s : Int) - 1 = (C.length : Int) - 1 - ((s + 1 : Nat) : Int) by omega]
      exact ⟨C.length - (s + 1), by omega, g4.bump (by omega), s + 1, ex_junk rfl, by omega, rfl⟩
    rw [decide_eq_false hsl]
    obtain rfl : s = C.length := by omega
    simp (disch := first | omega | (simp only [Qn] <;> omega)) only [go_sem]
    have F4 := F.trans g4
    have o4 := o.fr g4
    refine iteW_dec (fun hv0 => ?_) (fun hv0 => ?_)
    · have f5 : Fr h4 (h4.new (.cells false (ints [(x : Int)]))) := (Fr.refl h4).new _
      have hy : SV (h4.new (.cells false (ints [(x : Int)]))) (.sl h4.next 0 1 (.kn 1)) 1 (ints [(x : Int)]) := SV.all rfl (by rw [H.next_new]; omega) (H.get_new_same ..) _
      have lr := rtF_len (P : Int) C x
      obtain ⟨u6, h6, e6, a6⟩ := (o4.fr f5).app (bytes := 8) (n := (rtF P C x).length) (m := 1) (by have := F4.next; have := f5.next; omega) hy (by rw [ints_length, Nat.mul_one]) rfl (by omega) (by omega)
      simp (disch := first | omega | (simp only [Qn] <;> omega)) only [go_sem, bls_int, e6]
      rw [show (x : Int) + 1 = ((x + 1 : Nat) : Int) from by omega]
      have oo := a6.own
      rw [← ints_append] at oo
      refine ⟨P - (x + 1), by omega, x + 1, u6, ex_junk rfl, by omega, ?_, a6.fr h2 (F4.trans f5) (Nat.le_refl _), rfl⟩
      rw [rtF_succ, if_pos hv0]; exact oo
    · simp (disch := first | omega | (simp only [Qn] <;> omega)) only [go_sem]
      rw [show (x : Int) + 1 = ((x + 1 : Nat) : Int) from by omega]
      refine ⟨P - (x + 1), by omega, x + 1, u, ex_junk rfl, by omega, ?_, F4, rfl⟩
      rw [rtF_succ, if_neg hv0, List.append_nil]; exact o4
  rw [decide_eq_false hlt]
  obtain rfl : x = P := by omega
  simp (disch := first | omega | (simp only [Qn] <;> omega)) only [go_sem]
  exact ⟨_, rfl, o.sv, F2.trans F⟩
end Go.Proofs.Ytlhebmcnjgagjaa

/- Layer 5: Values, of the program. -/
namespace Go.Proofs.Ytlhebmcnjgagjaa
open Go Go.Ay
set_option maxRecDepth 100000
theorem backward_loop (LID X : Nat) (w : V) (C : List Int) (J : Nat → H → Prop)
    (hP : ∀ s hh, J s hh → hh.get X = some (.cells false [w]) ∧ SI hh w C)
    (hY : ∀ s hh, s < C.length → J s hh → Ey T LID [.int .i64 ((C.length : Int) - 1 - (s : Int)), .int .i64 (C.getD (C.length - (s + 1)) 0)] hh (fun v hh' => v = .bool true ∧ J (s + 1) hh')) (hh : H) (h0 : J 0 hh) (hn : C.length < 1000000) :
    Ev T n_slices_Backward_int_int_1 [.yl LID, .ptr X 0] hh (fun _ hh' => J C.length hh') := by
  refine Ev_of t_slices_Backward_int_int_1 rfl ?_
  obtain ⟨gX, sC⟩ := hP 0 hh h0
  have x0 : hh.cell X 0 = some w := by rw [H.cell_of gX]; rfl
  simp (disch := first | omega | (simp only [Qn] <;> omega)) only [go_sem, c_slices_Backward_int_int_1, initV_eq, x0, sC.lens]
  refine Wp_loop (fun k' vars h1 => ∃ s : Nat, (∃ j : Nat → V, vars = [.yl LID, .ptr X 0, .int .i64 ((C.length : Int) - 1 - (s : Int)), j 3, j 4]) ∧ s ≤ C.length ∧ J s h1 ∧ k' = C.length - s) C.length
    ⟨0, ex_junk (by rw [Int.natCast_zero, Int.sub_zero]; rfl), Nat.zero_le _, h0, rfl⟩ ?_
  clear h0 gX x0 sC
  rintro k' vars h1 ⟨s, ⟨jk, rfl⟩, hs, hJ, rfl⟩
  obtain ⟨gX, sC⟩ := hP s h1 hJ
  have x0 : h1.cell X 0 = some w := by rw [H.cell_of gX]; rfl
  obtain ⟨id, off, sl, hid, hc⟩ := sC.open
  simp (disch := first | omega | (simp only [Qn] <;> omega)) only [go_sem]
  by_cases hsl : (0 : Int) ≤ (C.length : Int) - 1 - (s : Int)
  · rw [decide_eq_true hsl]
    have hs' : s < C.length := by omega
    have eI : ((C.length : Int) - 1 - (s : Int)).toNat = C.length - (s + 1) := by omega
    have cc := hc (C.length - (s + 1)) (by omega)
    simp (disch := first | omega | (simp only [Qn] <;> omega)) only [go_sem, x0, sl.ixa, eI, cc]
    refine (hY s h1 hs' hJ).mono ?_
    rintro v h2 ⟨rfl, hJ2⟩
    simp (disch := first | omega | (simp only [Qn] <;> omega)) only [go_sem]
    rw [show (C.length : Int) - 1 - (s : Int) - 1 = (C.length : Int) - 1 - ((s + 1 : Nat) : Int) by omega]
    exact ⟨C.length - (s + 1), by omega, s + 1, ex_junk rfl, by omega, hJ2, rfl⟩
  rw [decide_eq_false hsl]
  obtain rfl : s = C.length := by omega
  simp (disch := first | omega | (simp only [Qn] <;> omega)) only [go_sem]
  exact hJ
theorem backward_ok (w : V) (h : H) (h1 : w.cells = [w]) (h2 : w.one = true) : Ev T n_slices_Backward_int_int [w] h (fun v h' => v = .fn 88 [] [.ptr h.next 0] ∧ h' = h.new (.cells false [w])) := by
  refine Ev_of t_slices_Backward_int_int rfl ?_
  simp (disch := first | omega | (simp only [Qn] <;> omega)) only [go_sem, c_slices_Backward_int_int, initV_eq, fun hh => box_one hh h1 h2]
structure VJ (X7 X8 XB LID : Nat) (x v : Int) (wc : V) (h : H) (rc : LRec) (hh : H) : Prop where
  g7 : hh.get X7 = some (.cells false [.int .i64 x])
  g8 : hh.get X8 = some (.cells false [.int .i64 v])
  gB : hh.get XB = some (.cells false [wc])
  gL : hh.get LID = some (.loop rc)
  fr : Fr h hh
  lt : LID < hh.next
set_option maxHeartbeats 8000000 in
theorem Values_ok (va : V) (a : Mat) (h : H) (ha : MatV h va a) (la : (a.2.length : Int) ≤ 2 ^ 63 - 1) : Ev T n_linear_Values [va] h (fun v h' => ∃ w, v = .tup [w, .int .i64 (ValuesF a).2] ∧ SI h' w (ValuesF a).1 ∧ Fr h h') := by
  obtain ⟨ua, rfl, hua⟩ := ha
  refine Ev_of t_linear_Values rfl ?_
  have wa := SV.what hua.choose_spec.1
  simp (disch := first | omega | (simp only [Qn] <;> omega)) only [go_sem, c_linear_Values, initV_eq, boxV_agg2 h (v := .int .i64 a.1) rfl wa.2.1]
  have hf1 : Fr h (h.new (.cells false [.int .i64 a.1, ua])) := (Fr.refl h).new _
  have hg1 : (h.new (.cells false [.int .i64 a.1, ua])).get h.next = some (.cells false [.int .i64 a.1, ua]) := H.get_new_same ..
  have hn1 : (h.new (.cells false [.int .i64 a.1, ua])).next = h.next + 1 := H.next_new ..
  generalize h.new (.cells false [.int .i64 a.1, ua]) = h1 at *
  obtain ⟨X, hX⟩ : ∃ X, h.next = X := ⟨_, rfl⟩
  rw [hX] at hg1
  rw [hX]
  simp (disch := first | omega | (simp only [Qn] <;> omega)) only [go_sem, row_two hg1]
  refine (Poly_ok _ a h1 ⟨ua, rfl, hua.mono hf1⟩ la).mono ?_
  rintro w h2 ⟨wc, rfl, sc, f2⟩
  have F2 := hf1.trans f2
  simp (disch := first | omega | (simp only [Qn] <;> omega)) only [go_sem, List.getElem?_cons_zero, List.getElem?_cons_succ]
  refine iteW_dec (fun hz => ?_) (fun hz => ?_)
  · simp (disch := first | omega | (simp only [Qn] <;> omega)) only [go_sem]
    rw [ValuesF, if_pos hz]
    exact ⟨_, rfl, SV.nils _ _, F2⟩
  obtain ⟨hc, hN, hr⟩ := polyF_good hz
  have hp := fieldF_range (check_vd hc).p
  obtain ⟨P, hP⟩ : ∃ P : Nat, a.1 = (P : Int) := ⟨a.1.toNat, by omega⟩
  obtain ⟨C, hC⟩ : ∃ C, (PolyF a).1 = C := ⟨_, rfl⟩
  rw [hC] at sc hN hr
  have eV : ValuesF a = (rtF P C P, 0) := by rw [ValuesF, if_neg hz, hC, hP, Int.toNat_natCast]
  rw [eV]
  rw [hP] at hp hr hg1
  have gX := (f2.get X (by omega)).trans hg1
  have x0 : h2.cell X 0 = some (.int .i64 (P : Int)) := by rw [H.cell_of gX]; rfl
  have wwc := SV.what sc
  simp (disch := first | omega | (simp only [Qn] <;> omega)) only [go_sem, x0]
  refine Wp_loop (fun k' vars hh => ∃ (x : Nat) (u : V), (∃ g : Nat → V, vars = [g 0, .ptr X 0, g 2, g 3, wc, g 5, u, g 7, g 8, g 9, g 10, .int .i64 (P : Int), .int .i64 (x : Int), g 13, g 14, g 15, g 16, g 17]) ∧ x ≤ P ∧ Own hh u 1 (ints (rtF P C x)) h2.next ∧ Fr h2 hh ∧ k' = P - x) P
    ⟨0, .nils, ex_junk rfl, Nat.zero_le _, Own.nils _ _ _, Fr.refl _, rfl⟩ ?_
  rintro k' vars hh ⟨x, u, ⟨jk, rfl⟩, hx, o, F, rfl⟩
  simp (disch := first | omega | (simp only [Qn] <;> omega)) only [go_sem]
  by_cases hlt : (x : Int) < (P : Int)
  · rw [decide_eq_true hlt]
    have hx' : x < P := by omega
    have q8 : (((hh.new (.cells false [.int .i64 0])).set hh.next (some (.cells false [.int .i64 (x : Int)]))).new (.cells false [.int .i64 0])).get (hh.next + 1) = some (.cells false [.int .i64 0]) := by
      have := H.get_new_same ((hh.new (.cells false [.int .i64 0])).set hh.next (some (.cells false [.int .i64 (x : Int)]))) (.cells false [.int .i64 0])
      rwa [H.next_set, H.next_new] at this
    have p8 : ∀ h : H, putO (some (.cells false [.int .i64 0])) h (hh.next + 1) 0 [.int .i64 0] = some (h.set (hh.next + 1) (some (.cells false [.int .i64 0]))) := fun h => putO_one (vs := [.int .i64 0]) (by simp) h _ _
    simp (disch := first | omega | (simp only [Qn] <;> omega)) only [go_sem, q8, p8]
    obtain ⟨h5, hh5⟩ : ∃ h5, ((((hh.new (.cells false [.int .i64 0])).set hh.next (some (.cells false [.int .i64 (x : Int)]))).new (.cells false [.int .i64 0])).set (hh.next + 1) (some (.cells false [.int .i64 0]))) = h5 := ⟨_, rfl⟩
    have f5 : Fr hh h5 := by rw [← hh5]; exact ((((Fr.refl hh).new _).set (Nat.le_refl _) _).new _).set (by omega) _
    have n5 : h5.next = hh.next + 2 := by rw [← hh5, H.next_set, H.next_new, H.next_set, H.next_new]
    have g75 : h5.get hh.next = some (.cells false [.int .i64 (x : Int)]) := by rw [← hh5, H.get_set_ne _ (by omega), H.get_new_ne _ (by rw [H.next_set, H.next_new]; omega), H.get_set_same]
    have g85 : h5.get (hh.next + 1) = some (.cells false [.int .i64 0]) := by rw [← hh5, H.get_set_same]
    rw [hh5]
    clear hh5 q8 p8
    obtain ⟨X7, hX7⟩ : ∃ X, hh.next = X := ⟨_, rfl⟩
    rw [hX7] at g75 g85 n5
    rw [hX7]
    refine (backward_ok wc h5 wwc.1 wwc.2.1).mono ?_
    rintro w h6 ⟨rfl, rfl⟩
    have hf7 : Fr h5 (h5.new (.cells false [wc])) := (Fr.refl h5).new _
    have hg7 : (h5.new (.cells false [wc])).get h5.next = some (.cells false [wc]) := H.get_new_same ..
    have hn7 : (h5.new (.cells false [wc])).next = h5.next + 1 := H.next_new ..
    generalize h5.new (.cells false [wc]) = h7 at *
    obtain ⟨XB, hXB⟩ : ∃ X, h5.next = X := ⟨_, rfl⟩
    rw [hXB] at hg7
    rw [hXB]
    obtain ⟨LID, hLID⟩ : ∃ X, h7.next = X := ⟨_, rfl⟩
    simp (disch := first | omega | (simp only [Qn] <;> omega)) only [go_sem]
    rw [hLID]
    generalize hrc : LRec.mk _ _ _ _ _ _ = rc
    refine ⟨rfl, ?_⟩
    have f8 : Fr h7 (h7.new (.loop rc)) := (Fr.refl h7).new _
    have lX : X < hh.next := by have := F.next; have := f2.next; omega
    have J0 : VJ X7 (X7 + 1) XB LID (x : Int) (vlF P (x : Int) C 0) wc hh rc (h7.new (.loop rc)) :=
      ⟨((hf7.trans f8).get _ (by omega)).trans g75, ((hf7.trans f8).get _ (by omega)).trans g85, (f8.get _ (by omega)).trans hg7, by rw [← hLID]; exact H.get_new_same .., (f5.trans hf7).trans f8, by rw [H.next_new]; omega⟩
    have loop : Ev T 88 [.yl LID, .ptr XB 0] (h7.new (.loop rc)) (fun _ hh' => VJ X7 (X7 + 1) XB LID (x : Int) (vlF P (x : Int) C C.length) wc hh rc hh') := by
      refine backward_loop LID XB wc C (fun s hh' => VJ X7 (X7 + 1) XB LID (x : Int) (vlF P (x : Int) C s) wc hh rc hh') (fun s hh' J => ⟨J.gB, (SI.mono sc F).mono J.fr⟩) (fun s hh' hs J => ?_) _ J0 (by omega)
      refine Ey_of J.gL (by rw [← hrc]; rfl) ?_
      subst hrc
      simp (disch := first | omega | (simp only [Qn] <;> omega)) only [go_sem, List.zip_cons_cons, List.zip_nil_left]
      refine ⟨_, J.gL, rfl, ?_⟩
      generalize hrb : LRec.mk _ _ _ _ LSt.busy _ = rb
      have lt := J.lt
      obtain ⟨h10, h10e⟩ : ∃ q, hh'.set LID (some (.loop rb)) = q := ⟨_, rfl⟩
      have J2 : VJ X7 (X7 + 1) XB LID (x : Int) (vlF P (x : Int) C s) wc hh rb h10 := by
        rw [← h10e]
        exact ⟨by rw [H.get_set_ne _ (by omega)]; exact J.g7, by rw [H.get_set_ne _ (by omega)]; exact J.g8, by rw [H.get_set_ne _ (by omega)]; exact J.gB, H.get_set_same .., J.fr.set (by omega) _, J.lt⟩
      rw [h10e]
      have c7 : h10.cell X7 0 = some (.int .i64 (x : Int)) := by rw [H.cell_of J2.g7]; rfl
      have c8 : h10.cell (X7 + 1) 0 = some (.int .i64 (vlF P (x : Int) C s)) := by rw [H.cell_of J2.g8]; rfl
      have cX : h10.cell X 0 = some (.int .i64 (P : Int)) := by rw [J2.fr.cell lX, F.cell (by have := f2.next; omega)]; exact x0
      have c7' : hh'.cell X7 0 = some (.int .i64 (x : Int)) := by rw [H.cell_of J.g7]; rfl
      have c8' : hh'.cell (X7 + 1) 0 = some (.int .i64 (vlF P (x : Int) C s)) := by rw [H.cell_of J.g8]; rfl
      have cX' : hh'.cell X 0 = some (.int .i64 (P : Int)) := by rw [J.fr.cell lX, F.cell (by have := f2.next; omega)]; exact x0
      have rv := vlF_range (show (0 : Int) < (P : Int) by omega) (x : Int) C s
      have rc := hr (C.length - (s + 1)) (by omega)
      have bd := hn_bound hp.2 rv (show 0 ≤ (x : Int) ∧ (x : Int) < P by omega) rc
      have em := nonneg_tmod (a := vlF P (x : Int) C s * (x : Int) + C.getD (C.length - (s + 1)) 0) (p := (P : Int)) bd.2.2.1
      have p8 : ∀ h : H, putO (some (.cells false [.int .i64 (vlF P (x : Int) C s)])) h (X7 + 1) 0 [.int .i64 (vlF P (x : Int) C (s + 1))] = some (h.set (X7 + 1) (some (.cells false [.int .i64 (vlF P (x : Int) C (s + 1))]))) := fun h => putO_one (vs := [.int .i64 (vlF P (x : Int) C s)]) (by simp) h _ _
      have ev : (vlF P (x : Int) C s * (x : Int) + C.getD (C.length - (s + 1)) 0) % (P : Int) = vlF P (x : Int) C (s + 1) := rfl
      simp (disch := first | omega | (simp only [Qn] <;> omega)) only [go_sem, c7, c8, cX, c7', c8', cX', em, ev, J.g8, J2.g8, p8]
      refine ⟨rb, by rw [H.get_set_ne _ (by omega)]; exact J2.gL, rfl, ?_⟩
      subst hrb
      exact ⟨by rw [H.get_set_ne _ (by omega), H.get_set_ne _ (by omega)]; exact J2.g7, by rw [H.get_set_ne _ (by omega)]; exact H.get_set_same .., by rw [H.get_set_ne _ (by omega), H.get_set_ne _ (by omega)]; exact J2.gB, H.get_set_same .., (J2.fr.set (by omega) _).set (by omega) _, J2.lt⟩
    refine loop.mono ?_
    rintro _ h20 J
    refine ⟨_, J.gL, by rw [← hrc]; simp, ?_⟩
    have hpe : rc.pend = none := by rw [← hrc]
    simp only [hpe, Option.getD_none]
    have lt := J.lt
    have q8 : ∀ o, (h20.set LID o).cell (X7 + 1) 0 = some (.int .i64 (vlF P (x : Int) C C.length)) := fun o => by
      rw [H.cell_set_ne _ (by omega), H.cell_of J.g8]; rfl
    have q7 : ∀ o, (h20.set LID o).cell X7 0 = some (.int .i64 (x : Int)) := fun o => by
      rw [H.cell_set_ne _ (by omega), H.cell_of J.g7]; rfl
    have g' : ∀ o, Fr hh (h20.set LID o) := fun o => Fr.set J.fr (by omega) o
    simp (disch := first | omega | (simp only [Qn] <;> omega)) only [go_sem, q8]
    have q7' := q7 (some (.loop { rc with st := LSt.out, pend := none }))
    have gF := g' (some (.loop { rc with st := LSt.out, pend := none }))
    generalize h20.set LID (some (.loop { rc with st := LSt.out, pend := none })) = h21 at *
    have F4 := F.trans gF
    have o4 := o.fr gF
    refine iteW_dec (fun hv0 => ?_) (fun hv0 => ?_)
    · have f5 : Fr h21 (h21.new (.cells false (ints [(x : Int)]))) := (Fr.refl h21).new _
      have hy : SV (h21.new (.cells false (ints [(x : Int)]))) (.sl h21.next 0 1 (.kn 1)) 1 (ints [(x : Int)]) := SV.all rfl (by rw [H.next_new]; omega) (H.get_new_same ..) _
      have lr := rtF_len (P : Int) C x
      obtain ⟨u6, h6, e6, a6⟩ := (o4.fr f5).app (bytes := 8) (n := (rtF P C x).length) (m := 1) (by have := F4.next; have := f5.next; omega) hy (by rw [ints_length, Nat.mul_one]) rfl (by omega) (by omega)
      simp (disch := first | omega | (simp only [Qn] <;> omega)) only [go_sem, q7', bls_int, e6]
      rw [show (x : Int) + 1 = ((x + 1 : Nat) : Int) from by omega]
      have oo := a6.own
      rw [← ints_append] at oo
      refine ⟨P - (x + 1), by omega, x + 1, u6, ex_junk rfl, by omega, ?_, a6.fr h2 (F4.trans f5) (Nat.le_refl _), rfl⟩
      rw [rtF_succ, if_pos hv0]; exact oo
    · simp (disch := first | omega | (simp only [Qn] <;> omega)) only [go_sem]
      rw [show (x : Int) + 1 = ((x + 1 : Nat) : Int) from by omega]
      refine ⟨P - (x + 1), by omega, x + 1, u, ex_junk rfl, by omega, ?_, F4, rfl⟩
      rw [rtF_succ, if_neg hv0, List.append_nil]; exact o4
  rw [decide_eq_false hlt]
  obtain rfl : x = P := by omega
  simp (disch := first | omega | (simp only [Qn] <;> omega)) only [go_sem]
  exact ⟨_, rfl, o.sv, F2.trans F⟩
end Go.Proofs.Ytlhebmcnjgagjaa

/- Layer 5: Eigen, of the program and of the reference; the reference's Kernel. -/
namespace Go.Proofs.Ytlhebmcnjgagjaa
open Go Go.Ay
set_option maxRecDepth 100000
theorem Gp.congr {h : H} {R n c i : Nat} {ρ : Nat → Nat} {f f' : Nat → Nat → Int} {lo : Nat} (g : Gp h R n c i ρ f lo) (e : ∀ j k, j < i → k < c → f j k = f' j k) : Gp h R n c i ρ f' lo :=
  { g with row := fun j hj => by rw [g.row j hj]; congr 3; exact mkV_congr fun k hk => e j k hj hk }
theorem Gp.edit {h : H} {R n c i : Nat} {ρ : Nat → Nat} {f : Nat → Nat → Int} {lo : Nat} (g : Gp h R n c i ρ f lo) {j : Nat} (hj : j < i) (w : Nat → Int) : Gp (h.set (ρ j) (some (.cells false (ints (mkV c w))))) R n c i ρ (fun a => if a = j then w else f a) lo :=
  { g with
    gR := by rw [H.get_set_ne _ (by have := g.hρ j hj; omega)]; exact g.gR
    row := fun a ha => by
      by_cases e : a = j
      · simp only [if_pos e]; rw [e, H.get_set_same]
      · simp only [if_neg e]; rw [H.get_set_ne _ fun q => e (g.inj a j ha hj q)]; exact g.row a ha }
theorem Gp.fr {h h' : H} {R n c i : Nat} {ρ : Nat → Nat} {f : Nat → Nat → Int} {lo : Nat} (g : Gp h R n c i ρ f lo) (F : Fr h h') : Gp h' R n c i ρ f lo :=
  { g with
    gR := (F.get R g.ltR).trans g.gR
    row := fun j hj => (F.get _ (g.ltρ j hj)).trans (g.row j hj)
    ltR := Nat.lt_of_lt_of_le g.ltR F.next
    ltρ := fun j hj => Nat.lt_of_lt_of_le (g.ltρ j hj) F.next }
theorem tmod_same (x : Int) {p : Int} (hp : 0 < p) : x.tmod p % p = x % p := by
  have e := tmod_fix x hp
  have m : x % p % p = x % p := mm2 p x
  split at e
  · rw [← m, ← e, Int.add_emod_right]
  · rw [← m, ← e]
theorem kerF_same {p : Int} (hp : 1 < p) {n k : Nat} {ll ll' : List (List Int)} {S : Nat → Bool} {f : Nat → Nat → Int} (hl : ll.length = ll'.length) (s : Sk p n ll.length (n + ll.length) (vw ll) S f k) (e : ∀ i j, i < ll.length → j < n → vw ll i j % p = vw ll' i j % p) : kerF p n ll = kerF p n ll' ∧ kerF p n ll = krF n ll.length S f (n + ll.length) := by
  have s' : Sk p n ll'.length (n + ll'.length) (vw ll') S f k := by
    rw [← hl]
    refine Sp.same s (Nat.le_refl _) fun i j hi hj => ?_
    rw [vw_mkR hi hj, vw_mkR hi hj, mkE, mkE]
    by_cases q : j < n
    · rw [if_pos q, if_pos q]; exact e i j hi q
    · rw [if_neg q, if_neg q]
  have e1 := kerF_eq hp s
  have e2 := kerF_eq hp s'
  rw [← hl] at e2
  exact ⟨e1.trans e2.symm, e1⟩
/-- The matrix less a multiple of the identity. -/
def egL (p x : Int) (n : Nat) (A : List (List Int)) : List (List Int) := mkR n n fun i j => (ent A i j - if j = i then x else 0) % p
noncomputable def EigenF (a : Mat) (x : Int) : List (List Int) × Int := if checkM a ≠ 0 then ([], checkM a) else if a.2.length ≠ (a.2.getD 0 []).length then ([], 10) else (kerF a.1 a.2.length (egL a.1 x a.2.length a.2), 0)
set_option maxHeartbeats 8000000 in
theorem ref_Kernel_ok (va : V) (a : Mat) (h : H) (ha : MatV h va a) (la : (a.2.length : Int) ≤ 2 ^ 63 - 1) : Ev T n_ref05_Kernel [va] h (fun w h' => ∃ u, w = .tup [u, .int .i64 (KernelF a).2] ∧ SR h' u (KernelF a).1 ∧ Fr h h') := by
  obtain ⟨ua, rfl, hua⟩ := ha
  refine Ev_of t_ref05_Kernel rfl ?_
  have wa := SV.what hua.choose_spec.1
  simp (disch := first | omega | (simp only [Qn] <;> omega)) only [go_sem, c_ref05_Kernel, initV_eq, boxV_agg2 h (v := .int .i64 a.1) rfl wa.2.1]
  have hf1 : Fr h (h.new (.cells false [.int .i64 a.1, ua])) := (Fr.refl h).new _
  have hg1 : (h.new (.cells false [.int .i64 a.1, ua])).get h.next = some (.cells false [.int .i64 a.1, ua]) := H.get_new_same ..
  have hn1 : (h.new (.cells false [.int .i64 a.1, ua])).next = h.next + 1 := H.next_new ..
  generalize h.new (.cells false [.int .i64 a.1, ua]) = h1 at *
  obtain ⟨X, hX⟩ : ∃ X, h.next = X := ⟨_, rfl⟩
  rw [hX] at hg1
  rw [hX]
  simp (disch := first | omega | (simp only [Qn] <;> omega)) only [go_sem, row_two hg1]
  refine (ref_check_ok _ a h1 ⟨ua, rfl, hua.mono hf1⟩ la).mono ?_
  rintro w h2 ⟨rfl, f2⟩
  have F2 := hf1.trans f2
  simp (disch := first | omega | (simp only [Qn] <;> omega)) only [go_sem]
  refine iteW_dec (fun hz => ?_) (fun hz => ?_)
  · simp (disch := first | omega | (simp only [Qn] <;> omega)) only [go_sem]
    rw [KernelF, if_pos hz]
    exact ⟨_, rfl, SR.nils _, F2⟩
  have hz : checkM a = 0 := Classical.byContradiction hz
  have da := check_vd hz
  have hp := fieldF_range da.p
  have hP : isP a.1 = true := by have := da.p; simp only [fieldF, Bool.and_eq_true] at this; exact this.2
  have r1 := da.r1
  have r2 := da.r2
  have c1 := da.c1
  have c2 := da.c2
  have gX := (f2.get X (by omega)).trans hg1
  have x0 : h2.cell X 0 = some (.int .i64 a.1) := by rw [H.cell_of gX]; rfl
  have x1 : h2.cell X 1 = some ua := by rw [H.cell_of gX]; rfl
  obtain ⟨ida, offa, wsa, sa, hida, hwla, hca, halla⟩ := (hua.mono F2).open
  have c0 := hca 0 r1
  rw [Nat.add_zero] at c0
  have l0 := (row_at halla (i := 0) r1).lens
  have n2 := f2.next
  have i0 : ixaV 1 ua (.int .i64 0) = some (.ptr ida offa) := by rw [sa.ixa .i64 0 (by omega) (by omega)]; rfl
  have fb : Fr h2 (H.mk h2.tr (h2.next + 11)) := (Fr.refl h2).bump (by omega)
  simp (disch := first | omega | (simp only [Qn] <;> omega)) only [go_sem, x0, x1, i0, c0, l0]
  have fb' : Fr h2 (H.mk h2.tr (h2.next + 12)) := (Fr.refl h2).bump (by omega)
  refine (ref_kernel_ok a.1 (a.2.getD 0 []).length ua a.2 _ (hua.mono (F2.trans fb')) (by omega) c1 c2 da.row hP hp.2).mono ?_
  rintro w h3 ⟨S, f, k, s, sr, f3⟩
  simp (disch := first | omega | (simp only [Qn] <;> omega)) only [go_sem]
  rw [KernelF, if_neg (by simp [hz]), kerF_eq (isP_gt hP) s]
  exact ⟨_, rfl, sr.sr, (F2.trans fb').trans f3⟩
theorem egL_vw {p x : Int} {n : Nat} {A : List (List Int)} {i j : Nat} (hi : i < n) (hj : j < n) : vw (egL p x n A) i j = (ent A i j - if j = i then x else 0) % p := vw_mkR hi hj
set_option maxHeartbeats 8000000 in
theorem ref_Eigen_ok (va : V) (a : Mat) (x : Int) (h : H) (ha : MatV h va a) (la : (a.2.length : Int) ≤ 2 ^ 63 - 1) : Ev T n_ref05_Eigen [va, .int .i64 x] h (fun w h' => ∃ u, w = .tup [u, .int .i64 (EigenF a x).2] ∧ SR h' u (EigenF a x).1 ∧ Fr h h') := by
  obtain ⟨ua, rfl, hua⟩ := ha
  refine Ev_of t_ref05_Eigen rfl ?_
  have wa := SV.what hua.choose_spec.1
  simp (disch := first | omega | (simp only [Qn] <;> omega)) only [go_sem, c_ref05_Eigen, initV_eq, boxV_agg2 h (v := .int .i64 a.1) rfl wa.2.1]
  have hf1 : Fr h (h.new (.cells false [.int .i64 a.1, ua])) := (Fr.refl h).new _
  have hg1 : (h.new (.cells false [.int .i64 a.1, ua])).get h.next = some (.cells false [.int .i64 a.1, ua]) := H.get_new_same ..
  have hn1 : (h.new (.cells false [.int .i64 a.1, ua])).next = h.next + 1 := H.next_new ..
  generalize h.new (.cells false [.int .i64 a.1, ua]) = h1 at *
  obtain ⟨X, hX⟩ : ∃ X, h.next = X := ⟨_, rfl⟩
  rw [hX] at hg1
  rw [hX]
  simp (disch := first | omega | (simp only [Qn] <;> omega)) only [go_sem, row_two hg1]
  refine (ref_check_ok _ a h1 ⟨ua, rfl, hua.mono hf1⟩ la).mono ?_
  rintro w h2 ⟨rfl, f2⟩
  have F2 := hf1.trans f2
  simp (disch := first | omega | (simp only [Qn] <;> omega)) only [go_sem]
  refine iteW_dec (fun hz => ?_) (fun hz => ?_)
  · simp (disch := first | omega | (simp only [Qn] <;> omega)) only [go_sem]
    rw [EigenF, if_pos hz]
    exact ⟨_, rfl, SR.nils _, F2⟩
  have hz : checkM a = 0 := Classical.byContradiction hz
  have da := check_vd hz
  have hp := fieldF_range da.p
  have hP : isP a.1 = true := by have := da.p; simp only [fieldF, Bool.and_eq_true] at this; exact this.2
  have hp1 := isP_gt hP
  have r1 := da.r1
  have r2 := da.r2
  have c1 := da.c1
  have c2 := da.c2
  have gX := (f2.get X (by omega)).trans hg1
  have x0 : h2.cell X 0 = some (.int .i64 a.1) := by rw [H.cell_of gX]; rfl
  have x1 : h2.cell X 1 = some ua := by rw [H.cell_of gX]; rfl
  obtain ⟨ida, offa, wsa, sa, hida, hwla, hca, halla⟩ := (hua.mono F2).open
  have c0 := hca 0 r1
  rw [Nat.add_zero] at c0
  have l0 := (row_at halla (i := 0) r1).lens
  have n2 := f2.next
  have i0 : ixaV 1 ua (.int .i64 0) = some (.ptr ida offa) := by rw [sa.ixa .i64 0 (by omega) (by omega)]; rfl
  simp (disch := first | omega | (simp only [Qn] <;> omega)) only [go_sem, x0, x1, sa.lens, i0, c0, l0]
  refine iteW_dec (fun hne => ?_) (fun hne => ?_)
  · simp (disch := first | omega | (simp only [Qn] <;> omega)) only [go_sem]
    rw [EigenF, if_neg (by simp [hz]), if_pos (by omega)]
    exact ⟨_, rfl, SR.nils _, F2⟩
  obtain ⟨n, hn⟩ : ∃ n, a.2.length = n := ⟨_, rfl⟩
  have hsq : (a.2.getD 0 []).length = n := by omega
  have eE : EigenF a x = (kerF a.1 n (egL a.1 x n a.2), 0) := by rw [EigenF, if_neg (by simp [hz]), if_neg (by omega), hn]
  rw [eE]
  obtain ⟨p, hpe⟩ : ∃ p, a.1 = p := ⟨_, rfl⟩
  obtain ⟨A, hA⟩ : ∃ A, a.2 = A := ⟨_, rfl⟩
  have dlo := da.lo
  have dhi := da.hi
  have drow := da.row
  rw [hpe] at hp hP hp1 x0 dhi
  rw [hA] at hn dlo dhi drow sa hida hwla hca halla r1 r2
  rw [hA] at hsq
  rw [hsq] at dlo dhi drow
  rw [hn] at sa hida hwla hca dlo dhi drow r1 r2
  rw [hpe, hA, hn]
  simp (disch := first | omega | (simp only [Qn] <;> omega)) only [go_sem]
  refine Wp_loop (fun k' vars hh => ∃ (i : Nat) (u : V) (ws : List V), (∃ g : Nat → V, vars = [g 0, .int .i64 x, .ptr X 0, g 3, g 4, g 5, .int .i64 (n : Int), u, .int .i64 (i : Int), g 9, g 10, g 11, g 12]) ∧ i ≤ n ∧ Rws hh u ws (mkR i n fun q j => if j = q then (ent A q q - x % p) % p else ent A q j) h2.next ∧ Fr h2 hh ∧ k' = n - i) n
    ⟨0, .nils, [], ex_junk rfl, Nat.zero_le _, Rws.nils _ _, Fr.refl _, rfl⟩ ?_
  rintro k' vars hh ⟨i, u, ws, ⟨jk, rfl⟩, hi, R, F, rfl⟩
  simp (disch := first | omega | (simp only [Qn] <;> omega)) only [go_sem]
  by_cases hlt : (i : Int) < (n : Int)
  · rw [decide_eq_true hlt]
    have hi' : i < n := by omega
    have x1h : hh.cell X 1 = some ua := by rw [F.cell (by omega)]; exact x1
    have ci : hh.cell ida (offa + i) = some (wsa.getD i .undef) := by rw [F.cell (hida (by omega))]; exact hca i hi'
    have ri := (row_at halla (i := i) (by omega)).mono F
    have eri : A.getD i [] = mkV n (ent A i) := mkV_eq (drow i hi') fun k _ => rfl
    rw [eri] at ri
    simp (disch := first | omega | (simp only [Qn] <;> omega)) only [go_sem, x1h, sa.ixa, ci]
    refine (own_ok _ _ hh ri (by rw [mkV_len]; omega)).mono ?_
    rintro v h4 ⟨_, f4, hcp⟩
    obtain ⟨N, rfl, i1, i2, i3⟩ := hcp (by rw [mkV_len]; omega)
    rw [mkV_len]
    have F4 := F.trans f4
    have bN : Bk h4 N n (ent A i) := i3
    have cN := bN.cell hi'
    have x04 : h4.cell X 0 = some (.int .i64 p) := by rw [F4.cell (by omega)]; exact x0
    have fb : Fr h4 (H.mk h4.tr (h4.next + 16)) := (Fr.refl h4).bump (by omega)
    simp (disch := first | omega | (simp only [Qn] <;> omega)) only [go_sem, cN, x04]
    refine (pick_ok x p _ (by omega) (by omega)).mono ?_
    rintro w h5 ⟨rfl, rfl⟩
    have lo := dlo i i hi' hi'
    have hi2 := dhi i i hi' hi'
    have mx := tmod_range x (show 0 < p by omega)
    simp (disch := first | omega | (simp only [Qn] <;> omega)) only [go_sem, cN, x04]
    refine (pick_ok (ent A i i - x % p) p _ (by omega) (by omega)).mono ?_
    rintro w h5 ⟨rfl, rfl⟩
    have pt := bN.put hi' (H.mk h4.tr (h4.next + 16)) ((ent A i i - x % p) % p)
    simp (disch := first | omega | (simp only [Qn] <;> omega)) only [go_sem, pt]
    have k6 := Bk.set (H.mk h4.tr (h4.next + 16)) N n (fun j => if j = i then (ent A i i - x % p) % p else ent A i j)
    have f6 : Fr hh ((H.mk h4.tr (h4.next + 16)).set N (some (.cells false (ints (mkV n fun j => if j = i then (ent A i i - x % p) % p else ent A i j))))) := (f4.trans fb).set (by omega) _
    have n6 : ((H.mk h4.tr (h4.next + 16)).set N (some (.cells false (ints (mkV n fun j => if j = i then (ent A i i - x % p) % p else ent A i j))))).next = h4.next + 16 := rfl
    generalize (H.mk h4.tr (h4.next + 16)).set N (some (.cells false (ints (mkV n fun j => if j = i then (ent A i i - x % p) % p else ent A i j)))) = h6 at *
    have f7 : Fr h6 (h6.new (.cells false [V.sl N 0 n (.un 1)])) := (Fr.refl h6).new _
    have hy : SV (h6.new (.cells false [V.sl N 0 n (.un 1)])) (.sl h6.next 0 1 (.kn 1)) 1 [V.sl N 0 n (.un 1)] := SV.all rfl (by rw [H.next_new]; omega) (H.get_new_same ..) _
    have lws : ws.length = i := by have := R.row.length; rw [mkR_len] at this; exact this
    have nF := F.next
    have n4 := f4.next
    obtain ⟨u8, h8, e8, R8, n8, _, k8⟩ := (R.fr (f6.trans f7)).app (by have := f7.next; omega) hy (SI.mono (k6.si (by omega) (.un 1)) f7) (fun i1 _ _ _ q1 i2 _ _ _ q2 => by cases q2; have := own_low R.own q1; omega) (fun _ _ _ _ q2 => by cases q2; omega) (by omega)
    have F8 := k8 h2 ((F.trans f6).trans f7) (Nat.le_refl _)
    simp (disch := first | omega | (simp only [Qn] <;> omega)) only [go_sem, bls_row h6 (v := V.sl N 0 n (.un 1)) rfl rfl, e8]
    rw [show (i : Int) + 1 = ((i + 1 : Nat) : Int) from by omega]
    rw [← mkR_succ (f := fun q j => if j = q then (ent A q q - x % p) % p else ent A q j)] at R8
    exact ⟨n - (i + 1), by omega, i + 1, u8, _, ex_junk rfl, by omega, R8, F8, rfl⟩
  rw [decide_eq_false hlt]
  obtain rfl : i = n := by omega
  have x0h : hh.cell X 0 = some (.int .i64 p) := by rw [F.cell (by omega)]; exact x0
  simp (disch := first | omega | (simp only [Qn] <;> omega)) only [go_sem, x0h]
  refine (ref_kernel_ok p i u _ hh R.sr (by rw [mkR_len]; omega) (by omega) (by omega) (fun q hq => by rw [mkR_len] at hq; rw [mkR_row _ hq, mkV_len]) hP hp.2).mono ?_
  rintro w h9 ⟨S, f, k, s, sr, f9⟩
  simp (disch := first | omega | (simp only [Qn] <;> omega)) only [go_sem]
  have ks := kerF_same (ll' := egL p x i A) hp1 (by rw [mkR_len, egL, mkR_len]) s fun q j hq hj => by
    rw [mkR_len] at hq
    rw [vw_mkR hq hj, egL_vw hq hj, mm2]
    by_cases e : j = q
    · rw [if_pos e, if_pos e, e, mm2]
      exact sub_cg rfl (mm2 _ _)
    · rw [if_neg e, if_neg e, Int.sub_zero]
  rw [← ks.1, ks.2]
  exact ⟨_, rfl, sr.sr, (F2.trans F).trans f9⟩
set_option maxHeartbeats 8000000 in
theorem Eigen_ok (va : V) (a : Mat) (x : Int) (h : H) (ha : MatV h va a) (la : (a.2.length : Int) ≤ 2 ^ 63 - 1) : Ev T n_linear_Eigen [va, .int .i64 x] h (fun w h' => ∃ u, w = .tup [u, .int .i64 (EigenF a x).2] ∧ SR h' u (EigenF a x).1 ∧ Fr h h') := by
  obtain ⟨ua, rfl, hua⟩ := ha
  refine Ev_of t_linear_Eigen rfl ?_
  have wa := SV.what hua.choose_spec.1
  simp (disch := first | omega | (simp only [Qn] <;> omega)) only [go_sem, c_linear_Eigen, initV_eq, boxV_agg2 h (v := .int .i64 a.1) rfl wa.2.1]
  have hf1 : Fr h (h.new (.cells false [.int .i64 a.1, ua])) := (Fr.refl h).new _
  have hg1 : (h.new (.cells false [.int .i64 a.1, ua])).get h.next = some (.cells false [.int .i64 a.1, ua]) := H.get_new_same ..
  have hn1 : (h.new (.cells false [.int .i64 a.1, ua])).next = h.next + 1 := H.next_new ..
  generalize h.new (.cells false [.int .i64 a.1, ua]) = h1 at *
  obtain ⟨X, hX⟩ : ∃ X, h.next = X := ⟨_, rfl⟩
  rw [hX] at hg1
  rw [hX]
  simp (disch := first | omega | (simp only [Qn] <;> omega)) only [go_sem, row_two hg1]
  refine (check_ok _ a h1 ⟨ua, rfl, hua.mono hf1⟩ la).mono ?_
  rintro w h2 ⟨rfl, f2⟩
  have F2 := hf1.trans f2
  simp (disch := first | omega | (simp only [Qn] <;> omega)) only [go_sem]
  refine iteW_dec (fun hz => ?_) (fun hz => ?_)
  · simp (disch := first | omega | (simp only [Qn] <;> omega)) only [go_sem]
    rw [EigenF, if_pos hz]
    exact ⟨_, rfl, SR.nils _, F2⟩
  have hz : checkM a = 0 := Classical.byContradiction hz
  have da := check_vd hz
  have hp := fieldF_range da.p
  have hP : isP a.1 = true := by have := da.p; simp only [fieldF, Bool.and_eq_true] at this; exact this.2
  have hp1 := isP_gt hP
  have r1 := da.r1
  have r2 := da.r2
  have c1 := da.c1
  have c2 := da.c2
  have gX := (f2.get X (by omega)).trans hg1
  have x0 : h2.cell X 0 = some (.int .i64 a.1) := by rw [H.cell_of gX]; rfl
  have x1 : h2.cell X 1 = some ua := by rw [H.cell_of gX]; rfl
  obtain ⟨ida, offa, wsa, sa, hida, hwla, hca, halla⟩ := (hua.mono F2).open
  have c0 := hca 0 r1
  rw [Nat.add_zero] at c0
  have l0 := (row_at halla (i := 0) r1).lens
  have n2 := f2.next
  have i0 : ixaV 1 ua (.int .i64 0) = some (.ptr ida offa) := by rw [sa.ixa .i64 0 (by omega) (by omega)]; rfl
  simp (disch := first | omega | (simp only [Qn] <;> omega)) only [go_sem, x0, x1, sa.lens, i0, c0, l0]
  have fb : Fr h2 (H.mk h2.tr (h2.next + 10)) := (Fr.refl h2).bump (by omega)
  refine iteW_dec (fun hne => ?_) (fun hne => ?_)
  · simp (disch := first | omega | (simp only [Qn] <;> omega)) only [go_sem]
    rw [EigenF, if_neg (by simp [hz]), if_pos (by omega)]
    exact ⟨_, rfl, SR.nils _, F2.trans fb⟩
  obtain ⟨n, hn⟩ : ∃ n, a.2.length = n := ⟨_, rfl⟩
  have hsq : (a.2.getD 0 []).length = n := by omega
  have eE : EigenF a x = (kerF a.1 n (egL a.1 x n a.2), 0) := by rw [EigenF, if_neg (by simp [hz]), if_neg (by omega), hn]
  rw [eE]
  obtain ⟨p, hpe⟩ : ∃ p, a.1 = p := ⟨_, rfl⟩
  obtain ⟨A, hA⟩ : ∃ A, a.2 = A := ⟨_, rfl⟩
  have dlo := da.lo
  have dhi := da.hi
  have drow := da.row
  rw [hpe] at hp hP hp1 x0 dhi
  rw [hA] at hn dlo dhi drow sa hida hwla hca halla r1 r2
  rw [hA] at hsq
  rw [hsq] at dlo dhi drow
  rw [hn] at sa hida hwla hca dlo dhi drow r1 r2
  rw [hpe, hA, hn]
  replace F2 := F2.trans fb
  replace x0 : (H.mk h2.tr (h2.next + 10)).cell X 0 = some (.int .i64 p) := x0
  replace x1 : (H.mk h2.tr (h2.next + 10)).cell X 1 = some ua := x1
  replace hca : ∀ i, i < n → (H.mk h2.tr (h2.next + 10)).cell ida (offa + i) = some (wsa.getD i .undef) := hca
  replace halla := halla.mono fun _ _ r => SI.mono r fb
  have lX : X < (H.mk h2.tr (h2.next + 10)).next := by show X < h2.next + 10; omega
  replace hida : 0 < n → ida < (H.mk h2.tr (h2.next + 10)).next := fun q => Nat.lt_of_lt_of_le (hida q) fb.next
  clear gX c0 i0 hg1 f2 fb
  generalize H.mk h2.tr (h2.next + 10) = h3 at *
  have emk : mksV h3 1 24 [.nils] (.int .i64 (n : Int)) (.int .i64 (n : Int)) = some (.sl h3.next 0 n (.kn n), h3.new (.cells false (List.replicate n .nils))) := by
    rw [mksV_int (by omega) (Int.le_refl _) (by omega) (by omega), Int.toNat_natCast, Nat.mul_one]
    congr 4
    refine List.ext_getElem (by simp [zerosV]) fun i _ _ => ?_
    simp [zerosV, Nat.mod_one]
  simp (disch := first | omega | (simp only [Qn] <;> omega)) only [go_sem, x0, x1, sa.lens, emk]
  obtain ⟨R, hR⟩ : ∃ R, h3.next = R := ⟨_, rfl⟩
  have hf4 : Fr h3 (h3.new (.cells false (List.replicate n .nils))) := (Fr.refl h3).new _
  have hg4 : (h3.new (.cells false (List.replicate n .nils))).get h3.next = some (.cells false (List.replicate n .nils)) := H.get_new_same ..
  have hn4 : (h3.new (.cells false (List.replicate n .nils))).next = h3.next + 1 := H.next_new ..
  generalize h3.new (.cells false (List.replicate n .nils)) = h4 at *
  rw [hR] at hg4
  rw [hR]
  have x14 : h4.cell X 1 = some ua := by rw [hf4.cell lX]; exact x1
  try simp (disch := first | omega | (simp only [Qn] <;> omega)) only [go_sem, x14, sa.lens]
  obtain ⟨E, hE⟩ : ∃ E : Nat → Nat → Int, (fun i j => if j = i then ent A i i - x.tmod p else ent A i j) = E := ⟨_, rfl⟩
  refine Wp_loop (fun k' vars hh => ∃ (i : Nat) (ρ : Nat → Nat), (∃ g : Nat → V, vars = [g 0, .int .i64 x, .ptr X 0, g 3, g 4, g 5, .sl R 0 n (.kn n), g 7, g 8, g 9, g 10, ua, .int .i64 (n : Int), .int .i64 (i : Int), g 14]) ∧ i ≤ n ∧ Gp hh R n n i ρ E h3.next ∧ Fr h3 hh ∧ k' = n - i) n
    ⟨0, _, ex_junk rfl, Nat.zero_le _, Gp.zero hg4 (by omega) (by omega), hf4, rfl⟩ ?_
  clear hg4 x14 hf4 hn4
  rintro k' vars hh ⟨i, ρ, ⟨jk, rfl⟩, hi, G, F, rfl⟩
  simp (disch := first | omega | (simp only [Qn] <;> omega)) only [go_sem]
  by_cases hlt : (i : Int) < (n : Int)
  · rw [decide_eq_true hlt]
    have hi' : i < n := by omega
    have ci : hh.cell ida (offa + i) = some (wsa.getD i .undef) := by rw [F.cell (hida (by omega))]; exact hca i hi'
    have ri := (row_at halla (i := i) (by omega)).mono F
    have eri : A.getD i [] = mkV n (ent A i) := mkV_eq (drow i hi') fun k _ => rfl
    rw [eri] at ri
    simp (disch := first | omega | (simp only [Qn] <;> omega)) only [go_sem, sa.ixa, ci]
    refine (clone_ok _ _ hh ri (by rw [mkV_len]; omega)).mono ?_
    rintro v h5 ⟨_, f5, hcp⟩
    obtain ⟨N, rfl, i1, i2, i3⟩ := hcp (by rw [mkV_len]; omega)
    rw [mkV_len]
    have G0 : Gp hh R n n i ρ (fun j => if j = i then ent A i else E j) h3.next := G.congr fun j k hj hk => by rw [if_neg (by omega)]
    obtain ⟨pt, G5⟩ := G0.step hi' f5 i1 i2 (by rw [if_pos rfl]; exact i3)
    simp (disch := first | omega | (simp only [Qn] <;> omega)) only [go_sem, pt]
    have gR5 := G5.gR
    have rN := G5.row i (by omega)
    have upi : upN ρ i N i = N := by simp [upN]
    rw [upi, if_pos rfl] at rN
    have hRl := G5.hR
    have f6 : Fr h3 (h5.set R (some (.cells false (((List.range n).map fun j => if j < i then V.sl (ρ j) 0 n (.un 1) else .nils).set i (.sl N 0 n (.un 1)))))) := (F.trans f5).set (by omega) _
    obtain ⟨h6, hh6⟩ : ∃ h6, h5.set R (some (.cells false (((List.range n).map fun j => if j < i then V.sl (ρ j) 0 n (.un 1) else .nils).set i (.sl N 0 n (.un 1))))) = h6 := ⟨_, rfl⟩
    rw [hh6] at G5 gR5 rN f6
    rw [hh6]
    have n6 : h6.next = h5.next := by rw [← hh6]; rfl
    have cR : h6.cell R i = some (.sl N 0 n (.un 1)) := by
      rw [H.cell_of gR5, List.getElem?_map, List.getElem?_range hi', Option.map_some, if_pos (by omega), upi]
    have bN : Bk h6 N n (ent A i) := rN
    have cN := bN.cell hi'
    have x06 : h6.cell X 0 = some (.int .i64 p) := by rw [f6.cell lX]; exact x0
    have lo := dlo i i hi' hi'
    have hi2 := dhi i i hi' hi'
    have tb := tmod_bd x (show 0 < p by omega)
    have pt2 := bN.put hi' (H.mk h6.tr (h5.next + 14)) (ent A i i - x.tmod p)
    have cL : ((List.map (fun j => if j < i then V.sl (ρ j) 0 n (.un 1) else V.nils) (List.range n)).set i (V.sl N 0 n (.un 1)))[i]? = some (V.sl N 0 n (.un 1)) := List.getElem?_set_self (by simpa using hi')
    have ixR : ∀ kk : IntKind, ixaV 1 (V.sl R 0 n (.kn n)) (.int kk (i : Int)) = some (.ptr R i) := fun kk => by
      rw [ixaV_sl (by omega) (by omega)]; simp
    clear hh6
    simp (disch := first | omega | (simp only [Qn] <;> omega)) only [go_sem, ixR, cL, cR, cN, x06, pt2]
    have fb6 : Fr h6 (H.mk h6.tr (h5.next + 14)) := (Fr.refl h6).bump (by omega)
    have G7 := (G5.fr fb6).edit (j := i) (by omega) (fun j => if j = i then ent A i i - x.tmod p else ent A i j)
    rw [upi] at G7
    rw [show (i : Int) + 1 = ((i + 1 : Nat) : Int) from by omega]
    refine ⟨n - (i + 1), by omega, i + 1, _, ex_junk rfl, by omega, G7.congr fun j k hj hk => ?_, (f6.trans fb6).set (by have := F.next; omega) _, rfl⟩
    by_cases e : j = i
    · rw [if_pos e, e, ← hE]
    · rw [if_neg e, if_neg e]
  rw [decide_eq_false hlt]
  obtain rfl : i = n := by omega
  have x0h : hh.cell X 0 = some (.int .i64 p) := by rw [F.cell lX]; exact x0
  have sl : lensV (V.sl R 0 i (.kn i)) = some (.int .i64 (i : Int)) := rfl
  simp (disch := first | omega | (simp only [Qn] <;> omega)) only [go_sem, x0h, sl]
  refine (kernel_ok p i (.sl R 0 i (.kn i)) (mkR i i E) hh (G.done.sr _) (by rw [mkR_len]; omega) (by omega) (by omega) (fun q hq => by rw [mkR_len] at hq; rw [mkR_row _ hq, mkV_len]) hP hp.2).mono ?_
  rintro w h9 ⟨k, S, f, rfl, s, sr, f9⟩
  simp (disch := first | omega | (simp only [Qn] <;> omega)) only [go_sem]
  have ks := kerF_same (ll' := egL p x i A) hp1 (by rw [mkR_len, egL, mkR_len]) s fun q j hq hj => by
    rw [mkR_len] at hq
    rw [vw_mkR hq hj, egL_vw hq hj, mm2, ← hE]
    by_cases e : j = q
    · simp only [if_pos e]; rw [e]
      exact sub_cg rfl (tmod_same x (by omega))
    · simp only [if_neg e, Int.sub_zero]
  rw [← ks.1, ks.2]
  exact ⟨_, rfl, sr.sr, (F2.trans F).trans f9⟩
end Go.Proofs.Ytlhebmcnjgagjaa

/- Layer 5: the plain law of Solve: one solution that is 0 at rows that earlier ones span. -/
namespace Go.Proofs.Ytlhebmcnjgagjaa
open Go Go.Ay
set_option maxRecDepth 100000
theorem unit_of {p d : Int} (hp : isP p = true) (h : d % p ≠ 0) : ∃ y : Int, y * d % p = 1 := by
  have hr := isP_pr hp
  have h2 := isP_gt hp
  have m := tmod_range d (show 0 < p by omega)
  have f := fermat hr (a := d % p) (by omega) (by omega)
  rw [show (p.toNat : Int) = p by omega] at f
  refine ⟨(d % p) ^ (p.toNat - 2), ?_⟩
  rw [mul_mod rfl (show d % p = d % p % p from (mm2 p d).symm), Int.mul_comm]
  exact f
structure Sol (p : Int) (n m : Nat) (V : Nat → Nat → Int) (b r : Nat → Int) : Prop where
  rng : ∀ i, i < m → 0 ≤ r i ∧ r i < p
  eq : ∀ j, j < n → sm m (fun i => r i * V i j) % p = b j % p
  zer : ∀ i, i < m → InS p n i V (V i) → r i = 0
theorem dif_mod {p x y : Int} (hx : 0 ≤ x ∧ x < p) (hy : 0 ≤ y ∧ y < p) (h : (x - y) % p = 0) : x = y := by
  obtain ⟨k, hk⟩ := Int.dvd_of_emod_eq_zero h
  by_cases e : k = 0
  · rw [e, Int.mul_zero] at hk; omega
  · by_cases e2 : 0 < k
    · have := Int.mul_le_mul_of_nonneg_left (show 1 ≤ k by omega) (show 0 ≤ p by omega)
      omega
    · have := Int.mul_le_mul_of_nonneg_left (show k ≤ -1 by omega) (show 0 ≤ p by omega)
      omega
/-- A relation tells a row out of those before it. -/
theorem rel_row {p : Int} (hp : isP p = true) {n i : Nat} {V : Nat → Nat → Int} {d : Nat → Int} (h : ∀ j, j < n → sm (i + 1) (fun k => d k * V k j) % p = 0) (hd : d i % p ≠ 0) : InS p n i V (V i) := by
  obtain ⟨y, hy⟩ := unit_of hp hd
  refine ⟨fun k => -(y * d k), fun j hj => ?_⟩
  have e := h j hj
  rw [sm_succ] at e
  have e1 : (y * sm i (fun k => d k * V k j) + y * (d i * V i j)) % p = 0 := by
    rw [← Int.mul_add, Int.mul_emod, e, Int.mul_zero, Int.zero_emod]
  have e2 : (y * (d i * V i j)) % p = V i j % p := by
    rw [← Int.mul_assoc, Int.mul_emod, hy, Int.one_mul, mm2]
  have e3 : sm i (fun k => -(y * d k) * V k j) = - (y * sm i (fun k => d k * V k j)) := by
    rw [← sm_mul, ← sm_neg]
    exact sm_congr fun k _ => by rw [Int.neg_mul, Int.mul_assoc]
  rw [e3, ← e2]
  have e4 : (y * (d i * V i j) - -(y * sm i (fun k => d k * V k j))) % p = 0 := by
    rw [Int.sub_neg, Int.add_comm]; exact e1
  exact sub_zero e4
theorem Sol.uniq {p : Int} (hp : isP p = true) {n m : Nat} {V : Nat → Nat → Int} {b r r' : Nat → Int} (s : Sol p n m V b r) (s' : Sol p n m V b r') : ∀ i, i < m → r i = r' i := by
  have hz : ∀ k, ∀ i, i < m → m ≤ i + k → r i = r' i := by
    intro k
    induction k with
    | zero => intro i h1 h2; omega
    | succ k ih =>
      intro i hi hk
      by_cases hlt : m ≤ i + k
      · exact ih i hi hlt
      · have above : ∀ q, i + 1 ≤ q → q < m → r q = r' q := fun q h1 h2 => ih q h2 (by omega)
        have hrel : ∀ j, j < n → sm (i + 1) (fun q => (r q - r' q) * V q j) % p = 0 := fun j hj => by
          have e1 : sm m (fun q => (r q - r' q) * V q j) = sm (i + 1) (fun q => (r q - r' q) * V q j) := sm_more (by omega) fun q h1 h2 => by rw [above q h1 h2, Int.sub_self, Int.zero_mul]
          rw [← e1]
          have e2 : sm m (fun q => (r q - r' q) * V q j) = sm m (fun q => r q * V q j) - sm m (fun q => r' q * V q j) := by
            rw [← sm_sub]; exact sm_congr fun q _ => Int.sub_mul ..
          rw [e2, Int.sub_emod, s.eq j hj, s'.eq j hj, Int.sub_self, Int.zero_emod]
        by_cases hd : (r i - r' i) % p = 0
        · exact dif_mod (s.rng i hi) (s'.rng i hi) hd
        · have := rel_row hp hrel hd
          rw [s.zer i hi this, s'.zer i hi this]
  exact fun i hi => hz m i hi (by omega)
noncomputable def solF (p : Int) (n m : Nat) (V : Nat → Nat → Int) (b : Nat → Int) : List Int := open Classical in if h : ∃ r, Sol p n m V b r then mkV m h.choose else []
theorem solF_eq {p : Int} (hp : isP p = true) {n m : Nat} {V : Nat → Nat → Int} {b r : Nat → Int} (s : Sol p n m V b r) : solF p n m V b = mkV m r := by
  have ex : ∃ r, Sol p n m V b r := ⟨r, s⟩
  rw [solF, dif_pos ex]
  exact mkV_congr fun i hi => Sol.uniq hp ex.choose_spec s i hi
theorem solF_len (p : Int) (n m : Nat) (V : Nat → Nat → Int) (b : Nat → Int) : (solF p n m V b).length ≤ m := by
  unfold solF
  split
  · rw [mkV_len]; omega
  · exact Nat.zero_le _
noncomputable def SolveF (a : Mat) (b : List Int) : List Int × Int := open Classical in
  if checkM a ≠ 0 then ([], checkM a) else if b.length ≠ (a.2.getD 0 []).length then ([], 10) else
  if InS a.1 b.length a.2.length (vw a.2) (fun j => b.getD j 0) then (solF a.1 b.length a.2.length (vw a.2) (fun j => b.getD j 0), 0) else ([], 18)
set_option maxHeartbeats 8000000 in
theorem Solve_ok (va vb : V) (a : Mat) (b : List Int) (h : H) (ha : MatV h va a) (la : (a.2.length : Int) ≤ 2 ^ 63 - 1) (hb : SI h vb b) (lb : (b.length : Int) ≤ 2 ^ 63 - 1) :
    Ev T n_linear_Solve [va, vb] h (fun w h' => ∃ u, w = .tup [u, .int .i64 (SolveF a b).2] ∧ SI h' u (SolveF a b).1 ∧ Fr h h') := by
  by_cases hz : checkM a = 0
  · by_cases hl : b.length = (a.2.getD 0 []).length
    · have hP : isP a.1 = true := by have := (check_vd hz).p; simp only [fieldF, Bool.and_eq_true] at this; exact this.2
      refine (Solve_sp va vb a b h ha la hb hz hl).mono ?_
      rintro w h' ⟨f, ⟨hno, rfl⟩ | ⟨hin, u, r, rfl, su, h1, h2, h3⟩⟩
      · rw [SolveF, if_neg (by simp [hz]), if_neg (by simp [hl]), if_neg hno]
        exact ⟨_, rfl, SV.nils _ _, f⟩
      · rw [SolveF, if_neg (by simp [hz]), if_neg (by simp [hl]), if_pos hin, solF_eq hP ⟨h1, h2, h3⟩]
        exact ⟨_, rfl, su, f⟩
    · obtain ⟨ua, rfl, hua⟩ := ha
      refine Ev_of t_linear_Solve rfl ?_
      have wa := SV.what hua.choose_spec.1
      simp (disch := first | omega | (simp only [Qn] <;> omega)) only [go_sem, c_linear_Solve, initV_eq, boxV_agg2 h (v := .int .i64 a.1) rfl wa.2.1]
      have hf1 : Fr h (h.new (.cells false [.int .i64 a.1, ua])) := (Fr.refl h).new _
      have hg1 : (h.new (.cells false [.int .i64 a.1, ua])).get h.next = some (.cells false [.int .i64 a.1, ua]) := H.get_new_same ..
      have hn1 : (h.new (.cells false [.int .i64 a.1, ua])).next = h.next + 1 := H.next_new ..
      generalize h.new (.cells false [.int .i64 a.1, ua]) = h1 at *
      obtain ⟨X, hX⟩ : ∃ X, h.next = X := ⟨_, rfl⟩
      rw [hX] at hg1
      rw [hX]
      simp (disch := first | omega | (simp only [Qn] <;> omega)) only [go_sem, row_two hg1]
      refine (check_ok _ a h1 ⟨ua, rfl, hua.mono hf1⟩ la).mono ?_
      rintro w h2 ⟨rfl, f2⟩
      have F2 := hf1.trans f2
      simp (disch := first | omega | (simp only [Qn] <;> omega)) only [go_sem]
      refine iteW_dec (fun hz2 => absurd hz hz2) (fun _ => ?_)
      have da := check_vd hz
      have r1 := da.r1
      have gX := (f2.get X (by omega)).trans hg1
      have x1 : h2.cell X 1 = some ua := by rw [H.cell_of gX]; rfl
      obtain ⟨ida, offa, wsa, sa, hida, hwla, hca, halla⟩ := (hua.mono F2).open
      have c0 := hca 0 r1
      rw [Nat.add_zero] at c0
      have l0 := (row_at halla (i := 0) r1).lens
      have i0 : ixaV 1 ua (.int .i64 0) = some (.ptr ida offa) := by rw [sa.ixa .i64 0 (by omega) (by omega)]; rfl
      simp (disch := first | omega | (simp only [Qn] <;> omega)) only [go_sem, x1, i0, c0, l0, hb.lens]
      refine iteW_dec (fun _ => ?_) (fun hq => absurd (by omega) hl)
      simp (disch := first | omega | (simp only [Qn] <;> omega)) only [go_sem]
      rw [SolveF, if_neg (by simp [hz]), if_pos hl]
      exact ⟨_, rfl, SV.nils _ _, F2⟩
  · obtain ⟨ua, rfl, hua⟩ := ha
    refine Ev_of t_linear_Solve rfl ?_
    have wa := SV.what hua.choose_spec.1
    simp (disch := first | omega | (simp only [Qn] <;> omega)) only [go_sem, c_linear_Solve, initV_eq, boxV_agg2 h (v := .int .i64 a.1) rfl wa.2.1]
    have hf1 : Fr h (h.new (.cells false [.int .i64 a.1, ua])) := (Fr.refl h).new _
    have hg1 : (h.new (.cells false [.int .i64 a.1, ua])).get h.next = some (.cells false [.int .i64 a.1, ua]) := H.get_new_same ..
    have hn1 : (h.new (.cells false [.int .i64 a.1, ua])).next = h.next + 1 := H.next_new ..
    generalize h.new (.cells false [.int .i64 a.1, ua]) = h1 at *
    obtain ⟨X, hX⟩ : ∃ X, h.next = X := ⟨_, rfl⟩
    rw [hX] at hg1
    rw [hX]
    simp (disch := first | omega | (simp only [Qn] <;> omega)) only [go_sem, row_two hg1]
    refine (check_ok _ a h1 ⟨ua, rfl, hua.mono hf1⟩ la).mono ?_
    rintro w h2 ⟨rfl, f2⟩
    simp (disch := first | omega | (simp only [Qn] <;> omega)) only [go_sem]
    refine iteW_dec (fun hz2 => ?_) (fun hz2 => absurd hz hz2)
    simp (disch := first | omega | (simp only [Qn] <;> omega)) only [go_sem]
    rw [SolveF, if_pos hz]
    exact ⟨_, rfl, SV.nils _ _, hf1.trans f2⟩
end Go.Proofs.Ytlhebmcnjgagjaa

/- Layer 5: the plain law of the reference's Solve: rows that earlier ones do not span; a kernel of one row. -/
namespace Go.Proofs.Ytlhebmcnjgagjaa
open Go Go.Ay
set_option maxRecDepth 100000
theorem Sp.le {p : Int} {n m m' k k' : Nat} {V V' : Nat → Nat → Int} {S S' : Nat → Bool} {f f' : Nat → Nat → Int} (hp : 1 < p) (s : Sp p n n V m S f k) (s' : Sp p n n V' m' S' f' k') (h : ∀ i, i < m → InS p n m' V' (V i)) : k ≤ k' := by
  have hin : ∀ c, c < n → S c = true → InS p n n (gf S' f') (f c) := fun c hc hs => s'.mem.1 ((s.out c hc hs).trans h)
  have := (cnt_eq fun c hc hs => Re.sub hp s.re s'.re hin hc hs).1
  rw [s.cn, s'.cn]; exact this
def Ind (p : Int) (n L : Nat) (U : Nat → Nat → Int) : Prop := ∀ κ : Nat → Int, (∀ j, j < n → sm L (fun t => κ t * U t j) % p = 0) → ∀ t, t < L → κ t % p = 0
theorem Ind.more {p : Int} (hp : isP p = true) {n L : Nat} {U U' : Nat → Nat → Int} (I : Ind p n L U) (e : ∀ t, t < L → U' t = U t) (h : ¬ InS p n L U (U' L)) : Ind p n (L + 1) U' := fun κ hκ t ht => by
  have h1 : κ L % p = 0 := by
    by_cases e1 : κ L % p = 0
    · exact e1
    · refine absurd ((rel_row hp hκ e1).rows fun i j hi _ => by rw [e i hi]) h
  by_cases e2 : t = L
  · rw [e2]; exact h1
  · refine I κ (fun j hj => ?_) t (by omega)
    have := hκ j hj
    rw [sm_succ] at this
    have e3 : κ L * U' L j % p = 0 := by rw [Int.mul_emod, h1, Int.zero_mul, Int.zero_emod]
    rw [Int.add_emod, e3, Int.add_zero, mm2] at this
    rw [← this]
    exact congrArg (· % p) (sm_congr fun q hq => by rw [e q hq])
/-- The kernel of independent rows and one more. -/
theorem ker_empty {p : Int} (hp : 1 < p) {n L k : Nat} {U : Nat → Nat → Int} {S : Nat → Bool} {f : Nat → Nat → Int} (s : Sk p n (L + 1) (n + (L + 1)) U S f k) (h : krF n (L + 1) S f (n + (L + 1)) = []) : ¬ InS p n L U (U L) := by
  rintro ⟨c, hc⟩
  rw [krF_rwF rfl] at h
  have hS : ∀ q, q < L + 1 → kS n S q = false := fun q hq => by
    cases e : kS n S q with
    | false => rfl
    | true =>
      obtain ⟨i, hi, _⟩ := piv_of (f := kf n f) hq e
      rw [h] at hi
      exact absurd hi (Nat.not_lt_zero _)
  have := Sk.all rfl s (κ := fun t => if t = L then -1 else c t) (fun j hj => by
    rw [sm_succ, if_pos rfl]
    have e1 : sm L (fun i => (if i = L then -1 else c i) * U i j) = sm L (fun i => c i * U i j) := sm_congr fun i hi => by rw [if_neg (by omega)]
    rw [e1, Int.add_emod, ← hc j hj, ← Int.add_emod, show U L j + -1 * U L j = 0 by omega, Int.zero_emod]) L (by omega)
  rw [if_pos rfl, sm_zeros fun q hq => by rw [gf_no (hS q hq), Int.mul_zero]] at this
  rw [Int.zero_emod] at this
  have e := Int.emod_emod_of_dvd (-1) (Int.dvd_refl p)
  have : (-1 : Int) % p = p - 1 := by
    rw [show (-1 : Int) = (p - 1) + p * (-1) by omega, Int.add_mul_emod_self_left, Int.emod_eq_of_lt (by omega) (by omega)]
  omega
theorem ker_one {p : Int} (hp : isP p = true) {n L k : Nat} {U : Nat → Nat → Int} {S : Nat → Bool} {f : Nat → Nat → Int} (I : Ind p n L U) (s : Sk p n (L + 1) (n + (L + 1)) U S f k) (h : 0 < (krF n (L + 1) S f (n + (L + 1))).length) :
    0 < vw (krF n (L + 1) S f (n + (L + 1))) 0 L ∧ vw (krF n (L + 1) S f (n + (L + 1))) 0 L < p ∧ (∀ t, t < L + 1 → 0 ≤ vw (krF n (L + 1) S f (n + (L + 1))) 0 t ∧ vw (krF n (L + 1) S f (n + (L + 1))) 0 t < p) ∧
    ∀ x, x * (p - vw (krF n (L + 1) S f (n + (L + 1))) 0 L) % p = 1 → ∀ j, j < n → sm L (fun t => vw (krF n (L + 1) S f (n + (L + 1))) 0 t * x % p * U t j) % p = U L j % p := by
  have hp1 := isP_gt hp
  obtain ⟨K, hK⟩ : ∃ K, krF n (L + 1) S f (n + (L + 1)) = K := ⟨_, rfl⟩
  rw [hK] at h ⊢
  have hKr := hK
  rw [krF_rwF rfl] at hKr
  have rg : ∀ t, t < L + 1 → 0 ≤ vw K 0 t ∧ vw K 0 t < p := fun t ht => by
    rw [← hK] at h ⊢
    exact kr_range (k := k) rfl s.re h ht
  obtain ⟨c, hc, hs, hw⟩ : ∃ c, c < L + 1 ∧ kS n S c = true ∧ ∀ t, t < L + 1 → vw K 0 t = kf n f c t := by
    rw [← hKr] at h ⊢
    obtain ⟨a1, a2, a3⟩ := piv_at h
    exact ⟨_, a1, a2, fun t ht => by rw [vw, a3, mkV_get _ ht]⟩
  have zero : ∀ j, j < n → sm (L + 1) (fun t => vw K 0 t * U t j) % p = 0 := fun j hj => by
    rw [← Sk.zero rfl s hc hs hj]
    exact congrArg (· % p) (sm_congr fun t ht => by rw [hw t ht])
  have one : vw K 0 c = 1 := by rw [hw c hc]; exact (Re.ker rfl s.re).one c hc hs
  have wL : vw K 0 L ≠ 0 := by
    intro e0
    have := I (vw K 0) (fun j hj => by
      have z := zero j hj
      rw [sm_succ, e0, Int.zero_mul, Int.add_zero] at z
      exact z)
    by_cases e : c = L
    · rw [e] at one; omega
    · have q := this c (by omega)
      rw [one, Int.emod_eq_of_lt (by omega) hp1] at q
      omega
  have rL := rg L (by omega)
  refine ⟨by omega, rL.2, rg, fun x hx j hj => ?_⟩
  have z := zero j hj
  rw [sm_succ] at z
  have e1 : sm L (fun t => vw K 0 t * x % p * U t j) % p = (x * sm L (fun t => vw K 0 t * U t j)) % p := by
    rw [← sm_mul]
    refine sm_mod fun t _ => ?_
    rw [Int.mul_emod, mm2, ← Int.mul_emod, Int.mul_comm (vw K 0 t) x, Int.mul_assoc]
  have e2 : (x * ((p - vw K 0 L) * U L j)) % p = U L j % p := by
    rw [← Int.mul_assoc, Int.mul_emod, hx, Int.one_mul, mm2]
  rw [e1, ← e2]
  refine mul_mod rfl ?_
  refine sub_zero ?_
  rw [show sm L (fun t => vw K 0 t * U t j) - (p - vw K 0 L) * U L j = (sm L (fun t => vw K 0 t * U t j) + vw K 0 L * U L j) - p * U L j by grind]
  rw [Int.sub_mul_emod_self_left]
  exact z
/-- The rows at places. -/
def rl (A : List (List Int)) (l : List Nat) : List (List Int) := l.map fun i => A.getD i []
theorem rl_len (A : List (List Int)) (l : List Nat) : (rl A l).length = l.length := List.length_map ..
theorem rl_get {A : List (List Int)} {l : List Nat} {t : Nat} (ht : t < l.length) : (rl A l).getD t [] = A.getD (l.getD t 0) [] := by
  rw [rl, List.getD_eq_getElem?_getD, List.getElem?_map, List.getElem?_eq_getElem ht, List.getD_eq_getElem?_getD (l := l), List.getElem?_eq_getElem ht]
  rfl
theorem rl_vw {A : List (List Int)} {l : List Nat} {t : Nat} (ht : t < l.length) : vw (rl A l) t = vw A (l.getD t 0) := by
  funext j; rw [vw, rl_get ht]; rfl
/-- What the search for rows keeps. -/
structure Gy (p : Int) (n : Nat) (A : List (List Int)) (i : Nat) (l : List Nat) : Prop where
  ind : Ind p n l.length (vw (rl A l))
  sp : ∃ S f, Sp p n n (vw (rl A l)) l.length S f l.length
  lt : ∀ t, t < l.length → l.getD t 0 < i
  inj : ∀ s t, s < l.length → t < l.length → l.getD s 0 = l.getD t 0 → s = t
  all : ∀ q, q < i → InS p n l.length (vw (rl A l)) (vw A q)
  new : ∀ t, t < l.length → ¬ InS p n (l.getD t 0) (vw A) (vw A (l.getD t 0))
  old : ∀ q, q < i → (∃ t, t < l.length ∧ l.getD t 0 = q) ∨ InS p n q (vw A) (vw A q)
section
variable {p : Int} {n i : Nat} {A : List (List Int)} {l : List Nat}
theorem Gy.start (p : Int) (n : Nat) (A : List (List Int)) : Gy p n A 0 [] where
  ind := fun _ _ t ht => absurd ht (Nat.not_lt_zero t)
  sp := ⟨fun _ => false, fun _ _ => 0, Sp.start p n n _ _⟩
  lt := fun t ht => absurd ht (Nat.not_lt_zero t)
  inj := fun t _ ht => absurd ht (Nat.not_lt_zero t)
  all := fun t ht => absurd ht (Nat.not_lt_zero t)
  new := fun t ht => absurd ht (Nat.not_lt_zero t)
  old := fun t ht => absurd ht (Nat.not_lt_zero t)
theorem Gy.back (g : Gy p n A i l) {v : Nat → Int} (h : InS p n l.length (vw (rl A l)) v) : InS p n i (vw A) v := h.trans fun t ht => by
  rw [rl_vw ht]; exact InS.row (g.lt t ht)
theorem Gy.skip (g : Gy p n A i l) (h : InS p n l.length (vw (rl A l)) (vw A i)) : Gy p n A (i + 1) l :=
  { g with
    lt := fun t ht => by have := g.lt t ht; omega
    all := fun q hq => by
      by_cases e : q = i
      · rw [e]; exact h
      · exact g.all q (by omega)
    old := fun q hq => by
      by_cases e : q = i
      · rw [e]; exact .inr (g.back h)
      · exact g.old q (by omega) }
theorem snoc_get {l : List Nat} {i t : Nat} (ht : t < l.length) : (l ++ [i]).getD t 0 = l.getD t 0 := by
  rw [List.getD_eq_getElem?_getD, List.getElem?_append_left ht, ← List.getD_eq_getElem?_getD]
theorem snoc_last {l : List Nat} {i : Nat} : (l ++ [i]).getD l.length 0 = i := by
  rw [List.getD_eq_getElem?_getD, List.getElem?_append_right (Nat.le_refl _), Nat.sub_self]; rfl
theorem Gy.take (hp : isP p = true) (g : Gy p n A i l) (h : ¬ InS p n l.length (vw (rl A l)) (vw A i)) {S : Nat → Bool} {f : Nat → Nat → Int} (s : Sp p n n (vw (rl A (l ++ [i]))) (l.length + 1) S f (l.length + 1)) : Gy p n A (i + 1) (l ++ [i]) := by
  have ll : (l ++ [i]).length = l.length + 1 := by simp
  have eo : ∀ t, t < l.length → vw (rl A (l ++ [i])) t = vw (rl A l) t := fun t ht => by rw [rl_vw (by omega), rl_vw ht, snoc_get ht]
  have en : vw (rl A (l ++ [i])) l.length = vw A i := by rw [rl_vw (by omega), snoc_last]
  have up : ∀ v, InS p n l.length (vw (rl A l)) v → InS p n (l.length + 1) (vw (rl A (l ++ [i]))) v := fun v hv => hv.trans fun t ht => by rw [← eo t ht]; exact InS.row (by omega)
  refine ⟨by rw [ll]; exact Ind.more hp g.ind eo (by rw [en]; exact h), ⟨S, f, by rw [ll]; exact s⟩, fun t ht => ?_, fun a b ha hb e => ?_, fun q hq => ?_, fun t ht => ?_, fun q hq => ?_⟩
  · by_cases e : t = l.length
    · rw [e, snoc_last]; omega
    · rw [snoc_get (by omega)]; have := g.lt t (by omega); omega
  · by_cases e1 : a = l.length
    · by_cases e2 : b = l.length
      · omega
      · rw [e1, snoc_last, snoc_get (by omega)] at e
        have := g.lt b (by omega); omega
    · by_cases e2 : b = l.length
      · rw [e2, snoc_last, snoc_get (by omega)] at e
        have := g.lt a (by omega); omega
      · rw [snoc_get (by omega), snoc_get (by omega)] at e
        exact g.inj a b (by omega) (by omega) e
  · rw [ll]
    by_cases e : q = i
    · rw [e, ← en]; exact InS.row (by omega)
    · exact up _ (g.all q (by omega))
  · by_cases e : t = l.length
    · rw [e, snoc_last]; intro q; exact h (q.trans g.all)
    · rw [snoc_get (by omega)]; exact g.new t (by omega)
  · by_cases e : q = i
    · exact .inl ⟨l.length, by omega, by rw [snoc_last, e]⟩
    · rcases g.old q (by omega) with ⟨t, h1, h2⟩ | h1
      · exact .inl ⟨t, by omega, by rw [snoc_get h1]; exact h2⟩
      · exact .inr h1
/-- One row more in the list: more pivots exactly if it is not in the span. -/
theorem Gy.rank (hp : isP p = true) (g : Gy p n A i l) {S : Nat → Bool} {f : Nat → Nat → Int} {k : Nat} (s : Sp p n n (vw (rl A (l ++ [i]))) (l.length + 1) S f k) (hk : k ≤ l.length + 1) : (InS p n l.length (vw (rl A l)) (vw A i) ∧ k = l.length) ∨ (¬ InS p n l.length (vw (rl A l)) (vw A i) ∧ k = l.length + 1) := by
  have hp1 := isP_gt hp
  obtain ⟨S0, f0, s0⟩ := g.sp
  have ll : (l ++ [i]).length = l.length + 1 := by simp
  have eo : ∀ t, t < l.length → vw (rl A (l ++ [i])) t = vw (rl A l) t := fun t ht => by rw [rl_vw (by omega), rl_vw ht, snoc_get ht]
  have en : vw (rl A (l ++ [i])) l.length = vw A i := by rw [rl_vw (by omega), snoc_last]
  have sub : ∀ t, t < l.length → InS p n (l.length + 1) (vw (rl A (l ++ [i]))) (vw (rl A l) t) := fun t ht => by rw [← eo t ht]; exact InS.row (by omega)
  have le := Sp.le hp1 s0 s sub
  by_cases h : InS p n l.length (vw (rl A l)) (vw A i)
  · refine .inl ⟨h, ?_⟩
    exact ((Sp.uniq hp1 s0 s sub fun t ht => by
      by_cases e : t < l.length
      · rw [eo t e]; exact InS.row e
      · obtain rfl : t = l.length := by omega
        rw [en]; exact h).2.2).symm
  · refine .inr ⟨h, ?_⟩
    by_cases e : k = l.length
    · have := rank_law hp1 s0 s sub (by rw [← s0.cn, ← s.cn, e]) l.length (by omega)
      rw [en] at this
      exact absurd this h
    · omega
/-- The solution that the list's rows give. -/
theorem Gy.sol (hp : isP p = true) {m : Nat} (g : Gy p n A m l) {b y : Nat → Int} (hy : ∀ t, t < l.length → 0 ≤ y t ∧ y t < p) (he : ∀ j, j < n → sm l.length (fun t => y t * vw (rl A l) t j) % p = b j % p) :
    Sol p n m (vw A) b (fun i => sm l.length fun t => if l.getD t 0 = i then y t else 0) := by
  have hp1 := isP_gt hp
  refine ⟨fun i hi => ?_, fun j hj => ?_, fun i hi hin => ?_⟩
  · by_cases e : ∃ t, t < l.length ∧ l.getD t 0 = i
    · obtain ⟨t, ht, rfl⟩ := e
      rw [sm_one (t := t) ht fun q hq hne => if_neg fun e => hne (g.inj q t hq ht e), if_pos rfl]
      exact hy t ht
    · rw [sm_zeros fun t ht => if_neg fun q => e ⟨t, ht, q⟩]
      omega
  · rw [sm_group (fun t => l.getD t 0) (fun t ht => g.lt t ht) y (fun i => vw A i j), ← he j hj]
    exact congrArg (· % p) (sm_congr fun t ht => by rw [rl_vw ht])
  · refine sm_zeros fun t ht => if_neg fun q => ?_
    have := g.new t ht
    rw [q] at this
    exact this hin
end
end Go.Proofs.Ytlhebmcnjgagjaa

