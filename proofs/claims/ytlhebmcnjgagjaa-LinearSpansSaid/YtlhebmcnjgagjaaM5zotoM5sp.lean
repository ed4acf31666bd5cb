/- Layer 5: Sum and Meet by what they compute; the reference's kernel and Meet. Layer 5: the reference's Meet. The law LinearMeets, walked. Layer 5: the law LinearSpans, walked. -/
import Derived.Test.YtlhebmcnjgagjaaLi2toM5zf
import Derived.Test.YtlhebmcnjgagjaaAy34
/- Layer 5: Sum and Meet by what they compute; the reference's kernel and Meet. -/
namespace Go.Proofs.Ytlhebmcnjgagjaa
open Go Go.Ay
set_option maxRecDepth 100000
theorem check_two (p n : Int) (va vb : V) (A B : List (List Int)) (id : Nat) (h : H) (hg : h.get id = some (.cells false [va, vb])) (hid : id < h.next) (ha : SR h va A) (hb : SR h vb B) (lA : (A.length : Int) ≤ 2 ^ 63 - 1) (lB : (B.length : Int) ≤ 2 ^ 63 - 1) :
    Ev T n_linear_check [.int .i64 p, .int .i64 n, .sl id 0 2 (.kn 2)] h (fun w h' => w = .int .i64 (ckF p n [A, B]) ∧ Fr h h') := by
  have c0 : h.cell id 0 = some va := by rw [H.cell_of hg]; rfl
  have c1 : h.cell id 1 = some vb := by rw [H.cell_of hg]; rfl
  refine (check5_ok p n (.sl id 0 2 (.kn 2)) 2 (fun i => if i = 0 then va else vb) (fun i => if i = 0 then A else B) id 0 h (sl1 ..) (fun _ => hid) (fun i hi => by
    by_cases e : i = 0
    · rw [e, if_pos rfl]; exact c0
    · obtain rfl : i = 1 := by omega
      rw [if_neg (by omega)]; exact c1) (fun i hi => by
    by_cases e : i = 0
    · simp only [if_pos e]; exact ha
    · simp only [if_neg e]; exact hb) (fun i hi => by
    by_cases e : i = 0
    · simp only [if_pos e]; exact lA
    · simp only [if_neg e]; exact lB) (by omega)).mono ?_
  rintro w h3 ⟨rfl, f3⟩
  exact ⟨rfl, f3⟩
theorem ck_nat {p n : Int} {ls : List (List (List Int))} (hz : ckF p n ls = 0) : ∃ N : Nat, n = (N : Int) := ⟨n.toNat, by have := ck_zero hz; omega⟩
set_option maxHeartbeats 8000000 in
theorem Sum_ok (p n : Int) (va vb : V) (A B : List (List Int)) (h : H) (ha : SR h va A) (hb : SR h vb B) (lA : (A.length : Int) ≤ 2 ^ 63 - 1) (lB : (B.length : Int) ≤ 2 ^ 63 - 1) :
    Ev T n_linear_Sum [.int .i64 p, .int .i64 n, va, vb] h (fun w h' => ∃ u, w = .tup [u, .int .i64 (SumF p n A B).2] ∧ SR h' u (SumF p n A B).1 ∧ Fr h h') := by
  by_cases hz : ckF p n [A, B] = 0
  · obtain ⟨N, rfl⟩ := ck_nat hz
    refine (Sum_sp p N va vb A B h ha hb lA lB hz).mono ?_
    rintro w h1 ⟨u, S, f, k, rfl, s, sr, f1⟩
    rw [SumF, if_neg (by simp [hz]), Int.toNat_natCast, bsF_eq (isP_gt (ck_zero hz).1) s]
    exact ⟨u, rfl, sr.sr, f1⟩
  refine Ev_of t_linear_Sum rfl ?_
  have wa := SV.what ha.choose_spec.1
  have wb := SV.what hb.choose_spec.1
  have bl2 := fun hh => bls_two hh (x := va) (u := vb) wa.1 wa.2.1 wb.1 wb.2.1
  simp (disch := first | omega | (simp only [Qn] <;> omega)) only [go_sem, c_linear_Sum, initV_eq, bl2]
  have hf1 : Fr h (h.new (.cells false [va, vb])) := (Fr.refl h).new _
  have hg1 : (h.new (.cells false [va, vb])).get h.next = some (.cells false [va, vb]) := H.get_new_same ..
  have hn1 : (h.new (.cells false [va, vb])).next = h.next + 1 := H.next_new ..
  generalize h.new (.cells false [va, vb]) = h1 at *
  refine (check_two p n va vb A B h.next h1 hg1 (by omega) (ha.mono hf1) (hb.mono hf1) lA lB).mono ?_
  rintro w h2 ⟨rfl, f2⟩
  simp (disch := first | omega | (simp only [Qn] <;> omega)) only [go_sem]
  refine iteW_dec (fun hz2 => ?_) (fun hz2 => absurd hz hz2)
  simp (disch := first | omega | (simp only [Qn] <;> omega)) only [go_sem]
  rw [SumF, if_pos hz]
  exact ⟨_, rfl, SR.nils _, hf1.trans f2⟩
noncomputable def mtF (p : Int) (n : Nat) (A B : List (List Int)) : List (List Int) := bsF p n (mtL p n (bsF p n A) (kerF p n (bsF p n A ++ bsF p n B)))
noncomputable def MeetF (p n : Int) (A B : List (List Int)) : List (List Int) × Int := if ckF p n [A, B] ≠ 0 then ([], ckF p n [A, B]) else (mtF p n.toNat A B, 0)
set_option maxHeartbeats 8000000 in
theorem Meet_ok (p n : Int) (va vb : V) (A B : List (List Int)) (h : H) (ha : SR h va A) (hb : SR h vb B) (lA : (A.length : Int) ≤ 2 ^ 63 - 1) (lB : (B.length : Int) ≤ 2 ^ 63 - 1) :
    Ev T n_linear_Meet [.int .i64 p, .int .i64 n, va, vb] h (fun w h' => ∃ u, w = .tup [u, .int .i64 (MeetF p n A B).2] ∧ SR h' u (MeetF p n A B).1 ∧ Fr h h') := by
  by_cases hz : ckF p n [A, B] = 0
  · obtain ⟨N, rfl⟩ := ck_nat hz
    refine (Meet_sp p N va vb A B h ha hb lA lB hz).mono ?_
    rintro w h1 ⟨u, S1, f1, k1, S2, f2, k2, Sz, fz, S, f, k, first, second, K, rfl, s1, s2, e1, e2, sk, eK, s, _, sr, fr⟩
    have hp := isP_gt (ck_zero hz).1
    have e : mtF p N A B = rwF N N S f := by
      unfold mtF
      rw [bsF_eq hp s1, bsF_eq hp s2, ← e1, ← e2, kerF_eq hp sk, ← eK]
      rw [← mtL_len p N first K] at s
      exact bsF_eq hp s
    rw [MeetF, if_neg (by simp [hz]), Int.toNat_natCast, e]
    exact ⟨u, rfl, sr.sr, fr⟩
  refine Ev_of t_linear_Meet rfl ?_
  have wa := SV.what ha.choose_spec.1
  have wb := SV.what hb.choose_spec.1
  have bl2 := fun hh => bls_two hh (x := va) (u := vb) wa.1 wa.2.1 wb.1 wb.2.1
  simp (disch := first | omega | (simp only [Qn] <;> omega)) only [go_sem, c_linear_Meet, initV_eq, bl2]
  have hf1 : Fr h (h.new (.cells false [va, vb])) := (Fr.refl h).new _
  have hg1 : (h.new (.cells false [va, vb])).get h.next = some (.cells false [va, vb]) := H.get_new_same ..
  have hn1 : (h.new (.cells false [va, vb])).next = h.next + 1 := H.next_new ..
  generalize h.new (.cells false [va, vb]) = h1 at *
  refine (check_two p n va vb A B h.next h1 hg1 (by omega) (ha.mono hf1) (hb.mono hf1) lA lB).mono ?_
  rintro w h2 ⟨rfl, f2⟩
  simp (disch := first | omega | (simp only [Qn] <;> omega)) only [go_sem]
  refine iteW_dec (fun hz2 => ?_) (fun hz2 => absurd hz hz2)
  simp (disch := first | omega | (simp only [Qn] <;> omega)) only [go_sem]
  rw [MeetF, if_pos hz]
  exact ⟨_, rfl, SR.nils _, hf1.trans f2⟩
theorem Sp.same {p : Int} {n W m k : Nat} {V V' : Nat → Nat → Int} {S : Nat → Bool} {f : Nat → Nat → Int} (s : Sp p n W V m S f k) (hW : n ≤ W) (e : ∀ i j, i < m → j < W → V i j % p = V' i j % p) : Sp p n W V' m S f k where
  re := s.re
  out := fun c hc hs => (s.out c hc hs).rows e
  inn := fun a ha => (s.inn a ha).congr fun j hj => (e a j ha (by omega)).symm
  cn := s.cn
/-- The rows with the identity behind them, as the reference makes them. -/
def mkP (p : Int) (n : Nat) (V : Nat → Nat → Int) : Nat → Nat → Int := fun i j => if j < n then V i j % p else if j = n + i then 1 else 0
theorem Sk.of_mkP {p : Int} {n m W k : Nat} {V : Nat → Nat → Int} {S : Nat → Bool} {f : Nat → Nat → Int} (s : Sp p W W (vw (mkR m W (mkP p n V))) m S f k) : Sk p n m W V S f k :=
  Sp.same s (Nat.le_refl W) fun i j hi hj => by
    rw [vw_mkR hi hj, vw_mkR hi hj, mkP, mkE]
    by_cases e : j < n
    · rw [if_pos e, if_pos e, mm2]
    · rw [if_neg e, if_neg e]
theorem mkP_row {p : Int} {n m : Nat} {V : Nat → Nat → Int} {i : Nat} (hi : i < m) : mkV n (fun j => V i j % p) ++ mkV m (fun j => if j = i then 1 else 0) = mkV (n + m) (mkP p n V i) := by
  rw [mkV_split]
  congr 1
  · exact mkV_congr fun j hj => by rw [mkP, if_pos hj]
  · refine mkV_congr fun j hj => ?_
    simp only [mkP]
    rw [if_neg (show ¬ n + j < n by omega)]
    by_cases e : j = i
    · rw [if_pos e, if_pos (by omega)]
    · rw [if_neg e, if_neg (by omega)]
/-- The rows of a basis that begin behind n, cut. -/
theorem kr_list {n m W : Nat} (hW : n + m = W) {S : Nat → Bool} {f : Nat → Nat → Int} : (((List.range W).filter S).filter (fun c => decide (n ≤ c))).map (fun c => mkV m fun j => f c (n + j)) = krF n m S f W := by
  rw [krF, List.filter_filter]
theorem rwF_get {n W : Nat} {S : Nat → Bool} {f : Nat → Nat → Int} {i : Nat} (hi : i < (rwF n W S f).length) : (rwF n W S f).getD i [] = mkV W (f (((List.range n).filter S).getD i 0)) := by
  simp only [rwF, List.length_map] at hi ⊢
  rw [List.getD_eq_getElem?_getD, List.getElem?_map, List.getD_eq_getElem?_getD, List.getElem?_eq_getElem hi]
  rfl
set_option maxHeartbeats 16000000 in
theorem ref_kernel_ok (p : Int) (n : Nat) (v : V) (ll : List (List Int)) (h : H) (hv : SR h v ll) (hl : ll.length ≤ 200) (hn1 : 1 ≤ n) (hn2 : n ≤ 64) (hw : ∀ i, i < ll.length → (ll.getD i []).length = n) (hp : isP p = true) (hp2 : p < 10000) :
    Ev T n_ref05_kernel [.int .i64 p, .int .i64 (n : Int), v] h (fun w h' => ∃ S f k, Sk p n ll.length (n + ll.length) (vw ll) S f k ∧ SRf h' w (krF n ll.length S f (n + ll.length)) h.next ∧ Fr h h') := by
  have hp1 := isP_gt hp
  refine Ev_of t_ref05_kernel rfl ?_
  obtain ⟨idv, offv, wsv, slv, hidv, hwlv, hcv, hallv⟩ := hv.open
  have lv := hv.lens
  simp (disch := first | omega | (simp only [Qn] <;> omega)) only [go_sem, c_ref05_kernel, initV_eq]
  refine Wp_loop (fun k' vars hh => ∃ (i : Nat) (u : V) (ws : List V), (∃ g : Nat → V, vars = [.int .i64 p, .int .i64 (n : Int), v, g 3, u, .int .i64 (i : Int), g 6, g 7, g 8, g 9, g 10, g 11, g 12, g 13]) ∧ i ≤ ll.length ∧ Rws hh u ws (mkR i (n + ll.length) (mkP p n (vw ll))) h.next ∧ Fr h hh ∧ k' = ll.length - i) ll.length
    ⟨0, .nils, [], ex_junk rfl, Nat.zero_le _, Rws.nils _ _, Fr.refl _, rfl⟩ ?_
  rintro k' vars hh ⟨i, u, ws, ⟨jk, rfl⟩, hi, R, F, rfl⟩
  simp (disch := first | omega | (simp only [Qn] <;> omega)) only [go_sem, lv]
  by_cases hlt : (i : Int) < (ll.length : Int)
  · rw [decide_eq_true hlt]
    have hi' : i < ll.length := by omega
    have emk := mks_ints hh ll.length (by omega)
    have pt : ∀ (h : H) (x : Nat), putO (some (.cells false (ints (mkV ll.length fun _ => 0)))) h x i [.int .i64 1] = some (h.set x (some (.cells false (ints (mkV ll.length fun j => if j = i then 1 else 0))))) := fun h x => by
      rw [putO_ints (by rw [mkV_len]; exact hi'), mkV_set]
    simp (disch := first | omega | (simp only [Qn] <;> omega)) only [go_sem, lv, emk, pt]
    obtain ⟨N, hN⟩ : ∃ N, hh.next = N := ⟨_, rfl⟩
    obtain ⟨h2, hh2⟩ : ∃ h2, (hh.new (.cells false (ints (mkV ll.length fun _ => 0)))).set hh.next (some (.cells false (ints (mkV ll.length fun j => if j = i then 1 else 0)))) = h2 := ⟨_, rfl⟩
    have k2 : Bk h2 N ll.length (fun j => if j = i then 1 else 0) := by rw [← hh2, ← hN]; exact Bk.set ..
    have f2 : Fr hh h2 := by rw [← hh2]; exact ((Fr.refl hh).new _).set (Nat.le_refl _) _
    have n2 : h2.next = hh.next + 1 := by rw [← hh2, H.next_set, H.next_new]
    rw [hh2, hN]
    clear hh2
    have F2 := F.trans f2
    have ci : h2.cell idv (offv + i) = some (wsv.getD i .undef) := by rw [F2.cell (hidv (by omega))]; exact hcv i hi'
    simp (disch := first | omega | (simp only [Qn] <;> omega)) only [go_sem, slv.ixa, ci]
    refine (ref_residues_ok p _ (ll.getD i []) h2 ((row_at hallv hi').mono F2) (by rw [hw i hi']; omega) ⟨by omega, hp2⟩).mono ?_
    rintro w h3 ⟨o, f3⟩
    rw [hw i hi'] at o
    have s3 : SI h3 (.sl N 0 ll.length (.kn ll.length)) (mkV ll.length fun j => if j = i then 1 else 0) := SI.mono (k2.si (by omega) _) f3
    obtain ⟨w4, h4, e4, a4⟩ := o.app (bytes := 8) (n := n) (m := ll.length) f3.next s3 (by rw [ints_length, mkV_len, Nat.mul_one]) (by rw [ints_length, mkV_len, Nat.mul_one]) (by omega) (by omega)
    have f4 := a4.fr h2 f3 (Nat.le_refl _)
    have o4 := a4.own
    rw [← ints_append] at o4
    have eP := mkP_row (p := p) (n := n) (V := vw ll) hi'
    replace o4 : Own h4 w4 1 (ints (mkV (n + ll.length) (mkP p n (vw ll) i))) h2.next := by rw [← eP]; exact o4
    have s4 : SI h4 w4 (mkV (n + ll.length) (mkP p n (vw ll) i)) := o4.sv
    have wh4 := SV.what s4
    have R4 := (R.fr f2).fr f4
    have f5 : Fr h4 (h4.new (.cells false [w4])) := (Fr.refl h4).new _
    have hy : SV (h4.new (.cells false [w4])) (.sl h4.next 0 1 (.kn 1)) 1 [w4] := SV.all rfl (by rw [H.next_new]; omega) (H.get_new_same ..) _
    have lws : ws.length = i := by have := R.row.length; rw [mkR_len] at this; exact this
    have fw4 : Frs w4 h2.next := Frs.own o4
    obtain ⟨u6, h6, e6, R6, n6, _, k6⟩ := (R4.fr f5).app (by have := F.next; have := f2.next; have := f4.next; have := f5.next; omega) hy (s4.mono f5) (fun i1 _ _ _ q1 i2 _ _ _ q2 => by have := fw4 _ _ _ _ q2; have := own_low R.own q1; omega) (fw4.le (by have := F.next; have := f2.next; omega)) (by omega)
    have F6 := k6 h ((F2.trans f4).trans f5) (Nat.le_refl _)
    simp (disch := first | omega | (simp only [Qn] <;> omega)) only [go_sem, e4, bls_row h4 wh4.1 wh4.2.1, e6]
    rw [← mkR_succ] at R6
    rw [show (i : Int) + 1 = ((i + 1 : Nat) : Int) from by omega]
    exact ⟨ll.length - (i + 1), by omega, i + 1, u6, _, ex_junk rfl, by omega, R6, F6, rfl⟩
  rw [decide_eq_false hlt]
  obtain rfl : i = ll.length := by omega
  obtain ⟨m, hm⟩ : ∃ m, ll.length = m := ⟨_, rfl⟩
  rw [hm] at R hl lv hlt hi
  rw [hm]
  simp (disch := first | omega | (simp only [Qn] <;> omega)) only [go_sem, lv]
  have hW : (n : Int) + (m : Int) = ((n + m : Nat) : Int) := by omega
  rw [hW]
  refine (ref_basis_ok p (n + m) u _ hh R.sr (by rw [mkR_len]; omega) (fun i hi => by rw [mkR_len] at hi; rw [mkR_row _ hi, mkV_len]) (by omega) (by omega) hp hp2).mono ?_
  rintro w h2 ⟨b, z, S, f, k, rfl, s, sr, sz, _, f2⟩
  rw [mkR_len] at s
  have F2 := F.trans f2
  obtain ⟨D, hD⟩ : ∃ D, (List.range (n + m)).filter S = D := ⟨_, rfl⟩
  have bD : (rwF (n + m) (n + m) S f).length = D.length := by rw [rwF, List.length_map, hD]
  have lD : D.length ≤ n + m := by rw [← hD]; exact Nat.le_trans (List.length_filter_le _ _) (by rw [List.length_range]; omega)
  rw [hD] at sz
  have lb := sr.sr.lens
  rw [bD] at lb
  obtain ⟨wsb, svb, allb, fub, fwb, cwb⟩ := sr
  have lwb := allb.length
  obtain ⟨idb, offb, slb, hidb, hcb⟩ := svb.shape D.length (by rw [lwb, bD, Nat.mul_one]) (by omega)
  obtain ⟨idz, offz, slz, hidz, hcz⟩ := sz.open
  rw [List.length_map] at slz hidz hcz
  simp (disch := first | omega | (simp only [Qn] <;> omega)) only [go_sem, List.getElem?_cons_zero, List.getElem?_cons_succ]
  refine Wp_loop (fun k' vars hh => ∃ (i : Nat) (u : V) (ws : List V), (∃ g : Nat → V, vars = [g 0, .int .i64 (n : Int), g 2, g 3, g 4, g 5, g 6, b, z, u, .int .i64 (i : Int), g 11, g 12, g 13]) ∧ i ≤ D.length ∧ Rws hh u ws (((D.take i).filter fun c => decide (n ≤ c)).map fun c => mkV m fun j => f c (n + j)) h2.next ∧ ws.length ≤ i ∧ Fr h2 hh ∧ k' = D.length - i) D.length
    ⟨0, .nils, [], ex_junk rfl, Nat.zero_le _, Rws.nils _ _, Nat.zero_le _, Fr.refl _, rfl⟩ ?_
  clear R jk ws u
  rintro k' vars h3 ⟨i, u, ws, ⟨jk, rfl⟩, hi, R, lws, f3, rfl⟩
  simp (disch := first | omega | (simp only [Qn] <;> omega)) only [go_sem, lb]
  by_cases hlt : (i : Int) < (D.length : Int)
  · rw [decide_eq_true hlt]
    have hi' : i < D.length := by omega
    obtain ⟨c, hc⟩ : ∃ c, D.getD i 0 = c := ⟨_, rfl⟩
    have cD : c ∈ D := by rw [← hc]; exact getD_mem hi'
    have hcW : c < n + m ∧ S c = true := by
      rw [← hD] at cD
      have := List.mem_filter.1 cD
      exact ⟨List.mem_range.1 this.1, this.2⟩
    have cz : h3.cell idz (offz + i) = some (.int .i64 (c : Int)) := by
      rw [f3.cell (hidz (by omega)), hcz i hi', List.getD_eq_getElem?_getD, List.getElem?_map, List.getElem?_eq_getElem hi', ← hc, List.getD_eq_getElem?_getD, List.getElem?_eq_getElem hi']
      rfl
    have tk : ∀ P : Nat → Bool, (D.take (i + 1)).filter P = (D.take i).filter P ++ (if P c then [c] else []) := fun P => by
      rw [List.take_add_one, List.getElem?_eq_getElem hi', List.filter_append]
      congr 1
      rw [← hc, List.getD_eq_getElem?_getD, List.getElem?_eq_getElem hi', Option.getD_some]
      cases h : P D[i] <;> simp [List.filter, h]
    simp (disch := first | omega | (simp only [Qn] <;> omega)) only [go_sem, slz.ixa, cz]
    refine iteW_dec (fun hge => ?_) (fun hge => ?_)
    · have wb : h3.cell idb (offb + i) = some (wsb.getD i .undef) := by
        rw [f3.cell (hidb (by omega)), hcb i (by omega), List.getD_eq_getElem?_getD, List.getElem?_eq_getElem (by omega)]
        rfl
      have rb := (row_at allb (i := i) (by omega)).mono f3
      rw [rwF_get (by omega), hD, hc] at rb
      have cb : Cap1 (wsb.getD i .undef) := by
        rw [List.getD_eq_getElem?_getD, List.getElem?_eq_getElem (by omega)]
        exact cwb _ (List.getElem_mem _)
      have hm0 : n < (mkV (n + m) (f c)).length := by rw [mkV_len]; omega
      obtain ⟨v', ev', sv'⟩ := slc_lo rb cb hm0
      have ed : (mkV (n + m) (f c)).drop n = mkV m fun j => f c (n + j) := by
        rw [mkV_split, List.drop_left' (mkV_len ..)]
      rw [ed] at sv'
      simp (disch := first | omega | (simp only [Qn] <;> omega)) only [go_sem, slb.ixa, wb, ev']
      refine (own_ok v' _ h3 sv' (by rw [mkV_len]; omega)).mono ?_
      rintro w h4 ⟨o4, f4, _⟩
      have s4 : SI h4 w (mkV m fun j => f c (n + j)) := o4.sv
      have wh4 := SV.what s4
      have f5 : Fr h4 (h4.new (.cells false [w])) := (Fr.refl h4).new _
      have hy : SV (h4.new (.cells false [w])) (.sl h4.next 0 1 (.kn 1)) 1 [w] := SV.all rfl (by rw [H.next_new]; omega) (H.get_new_same ..) _
      have fw4 : Frs w h3.next := Frs.own o4
      have nF := F2.next
      have n3 := f3.next
      obtain ⟨u6, h6, e6, R6, n6, _, k6⟩ := ((R.fr f4).fr f5).app (by have := f4.next; have := f5.next; omega) hy (s4.mono f5) (fun i1 _ _ _ q1 i2 _ _ _ q2 => by have := fw4 _ _ _ _ q2; have := own_low R.own q1; omega) (fw4.le (by omega)) (by omega)
      have F6 := k6 h2 ((f3.trans f4).trans f5) (Nat.le_refl _)
      simp (disch := first | omega | (simp only [Qn] <;> omega)) only [go_sem, bls_row h4 wh4.1 wh4.2.1, e6]
      rw [show (i : Int) + 1 = ((i + 1 : Nat) : Int) from by omega]
      refine ⟨D.length - (i + 1), by omega, i + 1, u6, ws ++ [w], ex_junk rfl, by omega, ?_, by rw [List.length_append, List.length_singleton]; omega, ?_, rfl⟩
      · rw [tk, if_pos (by simp; omega), List.map_append]; exact R6
      · exact F6
    · simp (disch := first | omega | (simp only [Qn] <;> omega)) only [go_sem]
      rw [show (i : Int) + 1 = ((i + 1 : Nat) : Int) from by omega]
      refine ⟨D.length - (i + 1), by omega, i + 1, u, ws, ex_junk rfl, by omega, ?_, by omega, f3, rfl⟩
      rw [tk, if_neg (by simp; omega), List.append_nil]; exact R
  rw [decide_eq_false hlt]
  obtain rfl : i = D.length := by omega
  simp (disch := first | omega | (simp only [Qn] <;> omega)) only [go_sem]
  rw [List.take_length, ← hD, kr_list rfl] at R
  refine ⟨S, f, k, Sk.of_mkP s, ⟨ws, R.own.sv, R.row, (Frs.own R.own).le F2.next, fun w hw => (R.frs w hw).le F2.next⟩, F2.trans f3⟩
end Go.Proofs.Ytlhebmcnjgagjaa

/- Layer 5: the reference's Meet. -/
namespace Go.Proofs.Ytlhebmcnjgagjaa
open Go Go.Ay
set_option maxRecDepth 100000
theorem acF_bk {p : Int} {κ : Nat → Int} {F : Nat → Nat → Int} {i j : Nat} : (acF p κ F i j + F i j * κ i) % p = acF p κ F (i + 1) j := by
  rw [acF, Int.mul_comm]
theorem kr_range {p : Int} {n m W k : Nat} {S : Nat → Bool} {f : Nat → Nat → Int} (hW : n + m = W) (r : Re p W W S f) {i j : Nat} (hi : i < (krF n m S f W).length) (hj : j < m) : 0 ≤ vw (krF n m S f W) i j ∧ vw (krF n m S f W) i j < p := by
  rw [krF_rwF hW] at hi ⊢
  obtain ⟨a1, a2, a3⟩ := piv_at hi
  rw [vw, a3, mkV_get _ hj]
  exact (Re.ker hW r).rng _ j a1 a2 hj
set_option maxHeartbeats 16000000 in
theorem ref_Meet_ok (p n : Int) (va vb : V) (A B : List (List Int)) (h : H) (ha : SR h va A) (hb : SR h vb B) (lA : (A.length : Int) ≤ 2 ^ 63 - 1) (lB : (B.length : Int) ≤ 2 ^ 63 - 1) :
    Ev T n_ref05_Meet [.int .i64 p, .int .i64 n, va, vb] h (fun w h' => ∃ u, w = .tup [u, .int .i64 (MeetF p n A B).2] ∧ SR h' u (MeetF p n A B).1 ∧ Fr h h') := by
  refine Ev_of t_ref05_Meet rfl ?_
  have wa := SV.what ha.choose_spec.1
  have wb := SV.what hb.choose_spec.1
  simp (disch := first | omega | (simp only [Qn] <;> omega)) only [go_sem, c_ref05_Meet, initV_eq, bls_two h wa.1 wa.2.1 wb.1 wb.2.1]
  have hf1 : Fr h (h.new (.cells false [va, vb])) := (Fr.refl h).new _
  have hg1 : (h.new (.cells false [va, vb])).get h.next = some (.cells false [va, vb]) := H.get_new_same ..
  have hn1 : (h.new (.cells false [va, vb])).next = h.next + 1 := H.next_new ..
  generalize h.new (.cells false [va, vb]) = h1 at *
  refine (ref_check_two p n va vb A B h.next h1 hg1 (ha.mono hf1) (hb.mono hf1) lA lB).mono ?_
  rintro w h2 ⟨rfl, rfl⟩
  simp (disch := first | omega | (simp only [Qn] <;> omega)) only [go_sem]
  refine iteW_dec (fun hz => ?_) (fun hz => ?_)
  · simp (disch := first | omega | (simp only [Qn] <;> omega)) only [go_sem]
    rw [MeetF, if_pos hz]
    exact ⟨_, rfl, SR.nils _, hf1⟩
  have hz : ckF p n [A, B] = 0 := Classical.byContradiction hz
  obtain ⟨q1, q2, q3, q4, q5, q6, q7, q8⟩ := ck_two hz
  have hp1 := isP_gt q1
  obtain ⟨N, rfl⟩ : ∃ N : Nat, n = (N : Int) := ⟨n.toNat, by omega⟩
  simp (disch := first | omega | (simp only [Qn] <;> omega)) only [go_sem]
  refine (ref_basis_ok p N va A h2 (ha.mono hf1) (by omega) (fun i hi => by have := q7 i hi; omega) (by omega) (by omega) q1 q2).mono ?_
  rintro w h3 ⟨ua, z1, S1, f1, k1, rfl, s1, r1, _, _, g3⟩
  have F3 := hf1.trans g3
  simp (disch := first | omega | (simp only [Qn] <;> omega)) only [go_sem, List.getElem?_cons_zero, List.getElem?_cons_succ]
  refine (ref_basis_ok p N vb B h3 (hb.mono F3) (by omega) (fun i hi => by have := q8 i hi; omega) (by omega) (by omega) q1 q2).mono ?_
  rintro w h4 ⟨ub, z2, S2, f2, k2, rfl, s2, r2, _, _, g4⟩
  have F4 := F3.trans g4
  simp (disch := first | omega | (simp only [Qn] <;> omega)) only [go_sem, List.getElem?_cons_zero, List.getElem?_cons_succ]
  obtain ⟨first, hfi⟩ : ∃ l, rwF N N S1 f1 = l := ⟨_, rfl⟩
  obtain ⟨second, hse⟩ : ∃ l, rwF N N S2 f2 = l := ⟨_, rfl⟩
  have lf : first.length ≤ N ∧ ∀ i, i < first.length → (first.getD i []).length = N := by
    rw [← hfi]; exact ⟨by rw [rwF_len]; exact cnt_le _ _, fun i hi => by rw [(piv_at hi).2.2, mkV_len]⟩
  have ls : second.length ≤ N ∧ ∀ i, i < second.length → (second.getD i []).length = N := by
    rw [← hse]; exact ⟨by rw [rwF_len]; exact cnt_le _ _, fun i hi => by rw [(piv_at hi).2.2, mkV_len]⟩
  have rf : ∀ i j, i < first.length → j < N → 0 ≤ vw first i j ∧ vw first i j < p := fun i j hi hj => by
    rw [← hfi] at hi ⊢
    obtain ⟨a1, a2, a3⟩ := piv_at hi
    rw [vw, a3, mkV_get _ hj]
    exact s1.re.rng _ j a1 a2 hj
  rw [hfi] at r1
  rw [hse] at r2
  have r1 := r1.srf.fr g4
  have r2 := r2.srf
  obtain ⟨wsa, sva, a2, fua, fwa⟩ := r1
  obtain ⟨wsb, svb, b2, fub, fwb⟩ := r2
  have lwa := a2.length
  have lwb := b2.length
  refine (ownr_ok ua wsa h4 sva (by omega)).mono ?_
  rintro w h5 ⟨o5, g5⟩
  obtain ⟨u6, h6, e6, a6⟩ := o5.app (bytes := 24) (n := wsa.length) (m := wsb.length) g5.next (svb.mono g5) (by omega) (by omega) (by omega) (by omega)
  have g6 := a6.fr h4 g5 (Nat.le_refl _)
  have o6 := a6.own
  have F6 := F4.trans g6
  have s6 : SR h6 u6 (first ++ second) := ⟨_, o6.sv, All2.append (a2.mono fun _ _ r => r.mono g6) (b2.mono fun _ _ r => r.mono g6)⟩
  have lfs : (first ++ second).length = first.length + second.length := List.length_append
  simp (disch := first | omega | (simp only [Qn] <;> omega)) only [go_sem, e6]
  refine (ref_kernel_ok p N u6 (first ++ second) h6 s6 (by omega) (by omega) (by omega) (getD_app lf.2 ls.2) q1 q2).mono ?_
  rintro vk h7 ⟨Sz, fz, kz, sk, rk, g7⟩
  obtain ⟨M, hM⟩ : ∃ M, (first ++ second).length = M := ⟨_, rfl⟩
  obtain ⟨K, hK⟩ : ∃ K, krF N M Sz fz (N + M) = K := ⟨_, rfl⟩
  have mtE : mtF p N A B = bsF p N (mtL p N first K) := by
    unfold mtF
    rw [bsF_eq hp1 s1, bsF_eq hp1 s2, hfi, hse, kerF_eq hp1 sk, hM, hK]
  rw [hM] at sk rk
  have rK : ∀ i j, i < K.length → j < M → 0 ≤ vw K i j ∧ vw K i j < p := fun i j hi hj => by
    rw [← hK] at hi ⊢
    exact kr_range (k := kz) rfl sk.re hi hj
  have lK : K.length ≤ N + M ∧ ∀ i, i < K.length → (K.getD i []).length = M := by
    rw [← hK]
    refine ⟨krF_len, fun i hi => ?_⟩
    rw [krF_rwF rfl] at hi ⊢
    rw [(piv_at hi).2.2, mkV_len]
  rw [hK] at rk
  have F7 := F6.trans g7
  have sK := rk.sr
  obtain ⟨idk, offk, wsk, ρk, ok, RK⟩ := SR.rd sK lK.2
  have sF := SR.mono (show SR h4 ua first from ⟨wsa, sva, a2⟩) (g6.trans g7)
  obtain ⟨idf, offf, wsf, ρf, of', RF⟩ := SR.rd sF lf.2
  have lensF := RF.sl.lens
  simp (disch := first | omega | (simp only [Qn] <;> omega)) only [go_sem]
  refine Wp_loop (fun k' vars hh => ∃ (i : Nat) (u : V) (ws : List V), (∃ g : Nat → V, vars = [.int .i64 p, .int .i64 (N : Int), ua, g 3, g 4, g 5, g 6, vk, u, .int .i64 (i : Int), g 10, g 11, g 12, g 13, g 14, g 15]) ∧ i ≤ K.length ∧ Rws hh u ws (mkR i N fun q => acF p (vw K q) (vw first) first.length) h7.next ∧ Fr h7 hh ∧ k' = K.length - i) K.length
    ⟨0, .nils, [], ex_junk rfl, Nat.zero_le _, Rws.nils _ _, Fr.refl _, rfl⟩ ?_
  rintro k' vars h8 ⟨i, u, ws, ⟨jk, rfl⟩, hi, R, g8, rfl⟩
  simp (disch := first | omega | (simp only [Qn] <;> omega)) only [go_sem, RK.sl.lens]
  by_cases hlt : (i : Int) < (K.length : Int)
  · rw [decide_eq_true hlt]
    have hi' : i < K.length := by omega
    have emk := mks_ints h8 N (by omega)
    simp (disch := first | omega | (simp only [Qn] <;> omega)) only [go_sem, emk]
    have hf9 : Fr h8 (h8.new (.cells false (ints (mkV N fun _ => 0)))) := (Fr.refl h8).new _
    have hg9 : (h8.new (.cells false (ints (mkV N fun _ => 0)))).get h8.next = some (.cells false (ints (mkV N fun _ => 0))) := H.get_new_same ..
    have hn9 : (h8.new (.cells false (ints (mkV N fun _ => 0)))).next = h8.next + 1 := H.next_new ..
    generalize h8.new (.cells false (ints (mkV N fun _ => 0))) = h9 at *
    obtain ⟨X, hX⟩ : ∃ X, h8.next = X := ⟨_, rfl⟩
    rw [hX] at hg9
    rw [hX]
    refine Wp_loop (fun k' vars hh => ∃ (j : Nat), (∃ g : Nat → V, vars = [.int .i64 p, .int .i64 (N : Int), ua, g 3, g 4, g 5, g 6, vk, u, .int .i64 (i : Int), .sl X 0 N (.kn N), .int .i64 (j : Int), g 12, g 13, g 14, g 15]) ∧ j ≤ first.length ∧ Bt hh X N (acF p (vw K i) (vw first) j) [] ∧ Fr h8 hh ∧ X < hh.next ∧ k' = first.length - j) first.length
      ⟨0, ex_junk rfl, Nat.zero_le _, by unfold Bt; rw [List.append_nil]; exact hg9, hf9, by omega, rfl⟩ ?_
    clear hg9 emk hf9 hn9
    rintro k' vars h10 ⟨j, ⟨jk2, rfl⟩, hj, b, g10, lX, rfl⟩
    simp (disch := first | omega | (simp only [Qn] <;> omega)) only [go_sem, lensF]
    by_cases hjl : (j : Int) < (first.length : Int)
    · rw [decide_eq_true hjl]
      have hj' : j < first.length := by omega
      have RF' := RF.fr (g8.trans g10)
      have RK' := RK.fr (g8.trans g10)
      have fb : Fr h10 (H.mk h10.tr (h10.next + 14)) := (Fr.refl h10).bump (by omega)
      have k0 := rK i j hi' (by omega)
      have c1 := RF'.at_ j hj'
      have c2 := RK'.at_ i hi'
      have c3 := RK'.ent i j hi' (by omega)
      have sF2 := RF'.rsl j hj'
      simp (disch := first | omega | (simp only [Qn] <;> omega)) only [go_sem, RF.sl.ixa, RK.sl.ixa, (RK.rsl i hi').ixa, c1, c2, c3]
      refine (ref_add_ok p (vw K i j) X N (ρf j) (of' j) (.kn N) (wsf.getD j .undef) (acF p (vw K i) (vw first) j) (vw first j) [] _ (b.fr fb lX) (by show X < h10.next + 14; omega) sF2 (fun _ => by have := RF'.rlt j 0 hj' (by omega); show ρf j < h10.next + 14; omega) (fun q hq => RF'.ent j q hj' hq) (.inl (by have := RF.rlt j 0 hj' (by omega); have := g8.next; omega)) (by omega) ⟨by omega, q2⟩ ⟨k0.1, by omega⟩ (fun q hq => by have := acF_range (show 0 < p by omega) (vw K i) (vw first) j q; omega) (fun q hq => by have := rf j q hj' hq; omega)).mono ?_
      rintro w h11 ⟨b11, fx⟩
      simp (disch := first | omega | (simp only [Qn] <;> omega)) only [go_sem]
      rw [show (j : Int) + 1 = ((j + 1 : Nat) : Int) from by omega]
      refine ⟨first.length - (j + 1), by omega, j + 1, ex_junk rfl, by omega, b11.congr fun q _ => acF_bk, Fx.fr (g10.trans fb) (by omega) fx, by have := fx.next; have e : (H.mk h10.tr (h10.next + 14)).next = h10.next + 14 := rfl; omega, rfl⟩
    rw [decide_eq_false hjl]
    obtain rfl : j = first.length := by omega
    have f12 : Fr h10 (h10.new (.cells false [V.sl X 0 N (.kn N)])) := (Fr.refl h10).new _
    have hy : SV (h10.new (.cells false [V.sl X 0 N (.kn N)])) (.sl h10.next 0 1 (.kn 1)) 1 [V.sl X 0 N (.kn N)] := SV.all rfl (by rw [H.next_new]; omega) (H.get_new_same ..) _
    have lws : ws.length = i := by have := R.row.length; rw [mkR_len] at this; exact this
    have n8 := g8.next
    have n10 := g10.next
    obtain ⟨u6, h13, e13, R13, n13, _, k13⟩ := (R.fr (g10.trans f12)).app (by have := f12.next; omega) hy (SI.mono (b.si lX (.kn N)) f12) (fun i1 _ _ _ q1 i2 _ _ _ q2 => by cases q2; have := own_low R.own q1; omega) (fun _ _ _ _ q2 => by cases q2; omega) (by omega)
    have F13 := k13 h7 ((g8.trans g10).trans f12) (Nat.le_refl _)
    simp (disch := first | omega | (simp only [Qn] <;> omega)) only [go_sem, bls_row h10 (v := V.sl X 0 N (.kn N)) rfl rfl, e13]
    rw [show (i : Int) + 1 = ((i + 1 : Nat) : Int) from by omega]
    rw [← mkR_succ (f := fun q => acF p (vw K q) (vw first) first.length)] at R13
    exact ⟨K.length - (i + 1), by omega, i + 1, u6, _, ex_junk rfl, by omega, R13, F13, rfl⟩
  rw [decide_eq_false hlt]
  obtain rfl : i = K.length := by omega
  have eL : (mkR K.length N fun q => acF p (vw K q) (vw first) first.length) = mtL p N first K := rfl
  rw [eL] at R
  simp (disch := first | omega | (simp only [Qn] <;> omega)) only [go_sem]
  refine (ref_basis_ok p N u (mtL p N first K) h8 R.sr (by rw [mtL_len]; omega) (fun i hi => by rw [mtL_len] at hi; rw [mtL_row hi, mkV_len]) (by omega) (by omega) q1 q2).mono ?_
  rintro w h14 ⟨u14, z14, S, f, k, rfl, s, sr, _, _, g14⟩
  simp (disch := first | omega | (simp only [Qn] <;> omega)) only [go_sem, List.getElem?_cons_zero, List.getElem?_cons_succ]
  rw [MeetF, if_neg (by simp [hz]), Int.toNat_natCast, mtE, bsF_eq hp1 s]
  exact ⟨_, rfl, sr.sr, (F7.trans g8).trans g14⟩
end Go.Proofs.Ytlhebmcnjgagjaa

/- The law LinearMeets, walked. -/
namespace Go.Proofs.Ytlhebmcnjgagjaa
open Go Go.Ay
set_option maxRecDepth 100000
end Go.Proofs.Ytlhebmcnjgagjaa

/- Layer 5: the law LinearSpans, walked. -/
namespace Go.Proofs.Ytlhebmcnjgagjaa
open Go Go.Ay
set_option maxRecDepth 100000
set_option maxHeartbeats 8000000 in
theorem large5_ok (v : V) (id off n : Nat) (us : Nat → V) (lls : Nat → List (List Int)) (h : H) (hsl : Sl v 1 n id off) (hcs : ∀ i, i < n → h.cell id (off + i) = some (us i)) (hR : ∀ i, i < n → SR h (us i) (lls i)) (hl : ∀ i, i < n → ((lls i).length : Int) ≤ 2 ^ 63 - 1) (hn : n < 1000) :
    Ev T n_law05_large [v] h (fun w h' => h' = h ∧ ∃ b, w = .bool b ∧ (b = false → ∀ i, i < n → (lls i).length ≤ 8 ∧ ∀ r ∈ lls i, r.length ≤ 8)) := by
  refine Ev_of t_law05_large rfl ?_
  simp (disch := first | omega | (simp only [Qn] <;> omega)) only [go_sem, c_law05_large, initV_eq]
  refine Wp_loop (fun k' vars h1 => h1 = h ∧ ∃ i : Nat, (∃ g : Nat → V, vars = [v, .bool false, .int .i64 (i : Int), g 3, g 4, g 5, g 6, g 7]) ∧ i ≤ n ∧ (∀ k, k < i → (lls k).length ≤ 8 ∧ ∀ r ∈ lls k, r.length ≤ 8) ∧ k' = n - i) n
    ⟨rfl, 0, ex_junk rfl, Nat.zero_le _, fun k hk => by omega, rfl⟩ ?_
  rintro k' vars h1 ⟨rfl, i, ⟨g, rfl⟩, hi, hgood, rfl⟩
  simp (disch := first | omega | (simp only [Qn] <;> omega)) only [go_sem, hsl.lens]
  by_cases hlt : (i : Int) < (n : Int)
  · rw [decide_eq_true hlt]
    have ci := hcs i (by omega)
    have si := hR i (by omega)
    have li := hl i (by omega)
    obtain ⟨u, hu⟩ : ∃ u, us i = u := ⟨_, rfl⟩
    obtain ⟨ll, hll⟩ : ∃ ll, lls i = ll := ⟨_, rfl⟩
    rw [hu] at ci si
    rw [hll] at si li
    simp (disch := first | omega | (simp only [Qn] <;> omega)) only [go_sem, hsl.ixa, ci, si.lens]
    by_cases h6 : (8 : Int) < (ll.length : Int)
    · rw [decide_eq_true h6]
      simp (disch := first | omega | (simp only [Qn] <;> omega)) only [go_sem]
      exact ⟨true, rfl, fun e => by cases e⟩
    rw [decide_eq_false h6]
    obtain ⟨idu, offu, ws, su, hidu, hwl, hcu, hall⟩ := si.open
    simp (disch := first | omega | (simp only [Qn] <;> omega)) only [go_sem]
    refine Wp_loop (fun k' vars h2 => h2 = h1 ∧ ∃ j : Nat, (∃ g : Nat → V, vars = [v, .bool false, .int .i64 (i : Int), .int .i64 (j : Int), g 4, g 5, g 6, g 7]) ∧ j ≤ ll.length ∧ (∀ r ∈ ll.take j, r.length ≤ 8) ∧ k' = ll.length - j) ll.length
      ⟨rfl, 0, ex_junk rfl, Nat.zero_le _, fun r hr => by simp at hr, rfl⟩ ?_
    rintro k' vars h2 ⟨rfl, j, ⟨g, rfl⟩, hj, hrow, rfl⟩
    simp (disch := first | omega | (simp only [Qn] <;> omega)) only [go_sem, hsl.ixa, ci, si.lens]
    by_cases hjl : (j : Int) < (ll.length : Int)
    · rw [decide_eq_true hjl]
      have cj := hcu j (by omega)
      have rj := row_at hall (i := j) (by omega)
      have lj := rj.lens
      have ej : ll.getD j [] = ll[j]'(by omega) := by rw [List.getD_eq_getElem?_getD, List.getElem?_eq_getElem (by omega)]; rfl
      obtain ⟨r, hr⟩ : ∃ r, ll.getD j [] = r := ⟨_, rfl⟩
      rw [hr] at lj ej
      simp (disch := first | omega | (simp only [Qn] <;> omega)) only [go_sem, hsl.ixa, ci, su.ixa, cj, lj]
      by_cases hr6 : (8 : Int) < (r.length : Int)
      · rw [decide_eq_true hr6]
        simp (disch := first | omega | (simp only [Qn] <;> omega)) only [go_sem]
        exact ⟨true, rfl, fun e => by cases e⟩
      rw [decide_eq_false hr6]
      simp (disch := first | omega | (simp only [Qn] <;> omega)) only [go_sem]
      refine ⟨ll.length - (j + 1), by omega, j + 1, ex_junk rfl, by omega, fun x hx => ?_, rfl⟩
      rw [List.take_add_one, List.getElem?_eq_getElem (by omega), ← ej] at hx
      rcases List.mem_append.1 hx with hx | hx
      · exact hrow x hx
      · simp at hx; rw [hx]; omega
    · rw [decide_eq_false hjl]
      simp (disch := first | omega | (simp only [Qn] <;> omega)) only [go_sem]
      refine ⟨n - (i + 1), by omega, i + 1, ex_junk rfl, by omega, fun k hk => ?_, rfl⟩
      by_cases e : k = i
      · subst e
        rw [hll]
        refine ⟨by omega, fun r hr => hrow r ?_⟩
        rw [List.take_of_length_le (by omega)]; exact hr
      · exact hgood k (by omega)
  · rw [decide_eq_false hlt]
    simp (disch := first | omega | (simp only [Qn] <;> omega)) only [go_sem]
    refine ⟨false, rfl, fun _ k hk => hgood k (by omega)⟩
theorem bls_three (h : H) {x u z : V} (hx : x.cells = [x]) (hx1 : x.one = true) (hu : u.cells = [u]) (hu1 : u.one = true) (hz : z.cells = [z]) (hz1 : z.one = true) : blsV h 1 [.nils] 3 [(0, 1, x), (1, 1, u), (2, 1, z)] = some (.sl h.next 0 3 (.kn 3), h.new (.cells false [x, u, z])) := by
  have e : zerosV [V.nils] 3 = [.nils, .nils, .nils] := rfl
  simp [blsV, fillV, e, hx, hx1, hu, hu1, hz, hz1, putAt]
theorem bd6 {l : List (List Int)} {n : Int} {p : Int} {N : List (List (List Int))} {q : List (List Int)} (h : l = if ckF p n N ≠ 0 then [] else q) (hq : ckF p n N = 0 → q.length ≤ n.toNat ∧ ∀ i, i < q.length → (q.getD i []).length = n.toNat) : l.length < 1000000 ∧ ∀ i, i < l.length → (l.getD i []).length < 1000000 := by
  by_cases e : ckF p n N = 0
  · rw [if_neg (by simp [e])] at h
    have := ck_zero e
    have q1 := hq e
    rw [h]
    refine ⟨by omega, fun i hi => ?_⟩
    have := q1.2 i hi
    omega
  · rw [if_pos e] at h
    rw [h]
    exact ⟨by simp, fun i hi => absurd hi (Nat.not_lt_zero i)⟩
theorem bd_basis (p n : Int) (A : List (List Int)) : (BasisF p n A).1.length < 1000000 ∧ ∀ i, i < (BasisF p n A).1.length → ((BasisF p n A).1.getD i []).length < 1000000 :=
  bd6 (p := p) (N := [A]) (q := bsF p n.toNat A) (by unfold BasisF; split <;> rename_i e <;> simp [e]) fun _ => bsF_bd _ _ _
theorem bd_sum (p n : Int) (A B : List (List Int)) : (SumF p n A B).1.length < 1000000 ∧ ∀ i, i < (SumF p n A B).1.length → ((SumF p n A B).1.getD i []).length < 1000000 :=
  bd6 (p := p) (N := [A, B]) (q := bsF p n.toNat (A ++ B)) (by unfold SumF; split <;> rename_i e <;> simp [e]) fun _ => bsF_bd _ _ _
theorem bd_meet (p n : Int) (A B : List (List Int)) : (MeetF p n A B).1.length < 1000000 ∧ ∀ i, i < (MeetF p n A B).1.length → ((MeetF p n A B).1.getD i []).length < 1000000 :=
  bd6 (p := p) (N := [A, B]) (q := mtF p n.toNat A B) (by unfold MeetF; split <;> rename_i e <;> simp [e]) fun _ => bsF_bd _ _ _
set_option maxHeartbeats 32000000 in
theorem spans_ok (p n : Int) (va vb vv : V) (A B : List (List Int)) (l : List Int) (h : H) (ha : SR h va A) (hb : SR h vb B) (hl : SI h vv l) (lA : (A.length : Int) ≤ 2 ^ 63 - 1) (lB : (B.length : Int) ≤ 2 ^ 63 - 1) : Ev T n_law05_LinearSpans [.int .i64 p, .int .i64 n, va, vb, vv] h (fun v _ => v = .bool true) := by
  refine Ev_of t_law05_LinearSpans rfl ?_
  have wa := SV.what ha.choose_spec.1
  have wb := SV.what hb.choose_spec.1
  have wl := SV.what hl
  simp (disch := first | omega | (simp only [Qn] <;> omega)) only [go_sem, c_law05_LinearSpans, initV_eq]
  refine (lives_ok h).mono ?_
  rintro v h0 ⟨rfl, g⟩
  replace ha := ha.mono g
  replace hb := hb.mono g
  replace hl := hl.mono g
  clear g
  simp (disch := first | omega | (simp only [Qn] <;> omega)) only [go_sem, bls_row h0 wl.1 wl.2.1]
  have hf1 : Fr h0 (h0.new (.cells false [vv])) := (Fr.refl h0).new _
  have hg1 : (h0.new (.cells false [vv])).get h0.next = some (.cells false [vv]) := H.get_new_same ..
  have hn1 : (h0.new (.cells false [vv])).next = h0.next + 1 := H.next_new ..
  generalize h0.new (.cells false [vv]) = h1 at *
  simp (disch := first | omega | (simp only [Qn] <;> omega)) only [go_sem, bls_three h1 (x := va) (u := vb) (z := V.sl h0.next 0 1 (.kn 1)) wa.1 wa.2.1 wb.1 wb.2.1 rfl rfl]
  have hf2 : Fr h1 (h1.new (.cells false [va, vb, V.sl h0.next 0 1 (.kn 1)])) := (Fr.refl h1).new _
  have hg2 : (h1.new (.cells false [va, vb, V.sl h0.next 0 1 (.kn 1)])).get h1.next = some (.cells false [va, vb, V.sl h0.next 0 1 (.kn 1)]) := H.get_new_same ..
  have hn2 : (h1.new (.cells false [va, vb, V.sl h0.next 0 1 (.kn 1)])).next = h1.next + 1 := H.next_new ..
  generalize h1.new (.cells false [va, vb, V.sl h0.next 0 1 (.kn 1)]) = h2 at *
  have F2 := hf1.trans hf2
  replace ha := ha.mono F2
  replace hb := hb.mono F2
  replace hl := hl.mono F2
  have sl : SR h2 (V.sl h0.next 0 1 (.kn 1)) [l] := ⟨[vv], SV.mono (SV.all rfl (by omega) hg1 _) hf2, hl, trivial⟩
  have cc : ∀ i, i < 3 → h2.cell h1.next (0 + i) = some (if i = 0 then va else if i = 1 then vb else V.sl h0.next 0 1 (.kn 1)) := fun i hi => by
    rw [H.cell_of hg2]
    rcases i with _ | _ | _ | i
    · rfl
    · rfl
    · rfl
    · omega
  refine (large5_ok _ h1.next 0 3 (fun i => if i = 0 then va else if i = 1 then vb else V.sl h0.next 0 1 (.kn 1)) (fun i => if i = 0 then A else if i = 1 then B else [l]) h2 (sl1 ..) cc (fun i hi => by
    by_cases e : i = 0
    · simp only [if_pos e]; exact ha
    · by_cases e2 : i = 1
      · simp only [if_neg e, if_pos e2]; exact hb
      · simp only [if_neg e, if_neg e2]; exact sl) (fun i hi => by
    by_cases e : i = 0
    · simp only [if_pos e]; exact lA
    · by_cases e2 : i = 1
      · simp only [if_neg e, if_pos e2]; exact lB
      · simp only [if_neg e, if_neg e2]; simp) (by omega)).mono ?_
  rintro v h3 ⟨rfl, b, rfl, _⟩
  clear cc sl hg2 hg1 hn1 hn2 hf1 hf2 F2
  simp (disch := first | omega | (simp only [Qn] <;> omega)) only [go_sem]
  refine iteW_bool (fun _ => ?_) (fun _ => ?_)
  · simp (disch := first | omega | (simp only [Qn] <;> omega)) only [go_sem]
  simp (disch := first | omega | (simp only [Qn] <;> omega)) only [go_sem]
  refine (Basis_ok p n va A h3 ha lA).mono ?_
  rintro w h4 ⟨x1, rfl, s1, f4⟩
  simp (disch := first | omega | (simp only [Qn] <;> omega)) only [go_sem, List.getElem?_cons_zero, List.getElem?_cons_succ]
  refine (ref_Basis_ok p n va A h4 (ha.mono f4) lA).mono ?_
  rintro w h5 ⟨y1, rfl, t1, f5⟩
  have F5 := f4.trans f5
  simp (disch := first | omega | (simp only [Qn] <;> omega)) only [go_sem, List.getElem?_cons_zero, List.getElem?_cons_succ]
  refine (Rank_ok p n va A h5 (ha.mono F5) lA).mono ?_
  rintro w h6 ⟨rfl, f6⟩
  have F6 := F5.trans f6
  simp (disch := first | omega | (simp only [Qn] <;> omega)) only [go_sem, List.getElem?_cons_zero, List.getElem?_cons_succ]
  refine (ref_Rank_ok p n va A h6 (ha.mono F6) lA).mono ?_
  rintro w h7 ⟨rfl, f7⟩
  have F7 := F6.trans f7
  simp (disch := first | omega | (simp only [Qn] <;> omega)) only [go_sem, List.getElem?_cons_zero, List.getElem?_cons_succ]
  refine (In_ok p n va vv A l h7 (ha.mono F7) lA (hl.mono F7)).mono ?_
  rintro w h8 ⟨rfl, f8⟩
  have F8 := F7.trans f8
  simp (disch := first | omega | (simp only [Qn] <;> omega)) only [go_sem, List.getElem?_cons_zero, List.getElem?_cons_succ]
  refine (ref_In_ok p n va vv A l h8 (ha.mono F8) lA (hl.mono F8)).mono ?_
  rintro w h9 ⟨rfl, f9⟩
  have F9 := F8.trans f9
  simp (disch := first | omega | (simp only [Qn] <;> omega)) only [go_sem, List.getElem?_cons_zero, List.getElem?_cons_succ]
  refine (Sum_ok p n va vb A B h9 (ha.mono F9) (hb.mono F9) lA lB).mono ?_
  rintro w h10 ⟨x4, rfl, s4, f10⟩
  have F10 := F9.trans f10
  simp (disch := first | omega | (simp only [Qn] <;> omega)) only [go_sem, List.getElem?_cons_zero, List.getElem?_cons_succ]
  refine (ref_Sum_ok p n va vb A B h10 (ha.mono F10) (hb.mono F10) lA lB).mono ?_
  rintro w h11 ⟨y4, rfl, t4, f11⟩
  have F11 := F10.trans f11
  simp (disch := first | omega | (simp only [Qn] <;> omega)) only [go_sem, List.getElem?_cons_zero, List.getElem?_cons_succ]
  refine (Meet_ok p n va vb A B h11 (ha.mono F11) (hb.mono F11) lA lB).mono ?_
  rintro w h12 ⟨x5, rfl, s5, f12⟩
  have F12 := F11.trans f12
  simp (disch := first | omega | (simp only [Qn] <;> omega)) only [go_sem, List.getElem?_cons_zero, List.getElem?_cons_succ]
  refine (ref_Meet_ok p n va vb A B h12 (ha.mono F12) (hb.mono F12) lA lB).mono ?_
  rintro w h13 ⟨y5, rfl, t5, f13⟩
  have f69 := ((f6.trans f7).trans f8).trans f9
  have f513 := ((f69.trans (f10.trans f11)).trans f12).trans f13
  have b1 := bd_basis p n A
  have b4 := bd_sum p n A B
  have b5 := bd_meet p n A B
  simp (disch := first | omega | (simp only [Qn] <;> omega)) only [go_sem, List.getElem?_cons_zero, List.getElem?_cons_succ]
  refine (sameLists_ok x1 y1 _ _ h13 (s1.sr.mono (f5.trans f513)) (t1.mono f513) b1.1 b1.1 b1.2 b1.2).mono ?_
  rintro w h14 ⟨rfl, f14⟩
  simp only [decide_true]
  simp (disch := first | omega | (simp only [Qn] <;> omega)) only [go_sem, decide_true, beq_self_eq_true]
  refine (sameLists_ok x4 y4 _ _ h14 (s4.mono (((f11.trans f12).trans f13).trans f14)) (t4.mono ((f12.trans f13).trans f14)) b4.1 b4.1 b4.2 b4.2).mono ?_
  rintro w h15 ⟨rfl, f15⟩
  simp (disch := first | omega | (simp only [Qn] <;> omega)) only [go_sem, decide_true, beq_self_eq_true]
  refine (sameLists_ok x5 y5 _ _ h15 (s5.mono ((f13.trans f14).trans f15)) (t5.mono (f14.trans f15)) b5.1 b5.1 b5.2 b5.2).mono ?_
  rintro w h16 ⟨rfl, f16⟩
  simp (disch := first | omega | (simp only [Qn] <;> omega)) only [go_sem, decide_true, beq_self_eq_true]
end Go.Proofs.Ytlhebmcnjgagjaa

