/- Layer 4: the laws' helpers: of, is, lives. Layer 4: the laws' numbers: field, drawn; boxes; valid matrices. Layer 4: valid square matrices; boxes. -/
import Derived.Test.YtonhijbeddcmpaaM4ytoM4re
/- Layer 4: the laws' helpers: of, is, lives. -/
namespace Go.Proofs.Ytonhijbeddcmpaa
open Go Go.Ay
set_option maxRecDepth 100000
theorem bls_int2 (h : H) (x y : Int) : blsV h 1 [.int .i64 0] 2 [(0, 1, .int .i64 x), (1, 1, .int .i64 y)] = some (.sl h.next 0 2 (.kn 2), h.new (.cells false (ints [x, y]))) := by
  have e : zerosV [V.int .i64 0] 2 = [.int .i64 0, .int .i64 0] := rfl
  simp [blsV, fillV, e, V.cells, V.one, putAt, ints]
theorem bls_sl2 (h : H) (a b c a' b' c' : Nat) (d' dd : Cap) : blsV h 1 [.nils] 2 [(0, 1, .sl a b c dd), (1, 1, .sl a' b' c' d')] = some (.sl h.next 0 2 (.kn 2), h.new (.cells false [.sl a b c dd, .sl a' b' c' d'])) := bls_two h rfl rfl rfl rfl
theorem sr_two {h : H} {i j k : Nat} {ri rj rk : Bool} {a b : List Int} (gi : h.get i = some (.cells ri (ints a))) (gj : h.get j = some (.cells rj (ints b))) (gk : h.get k = some (.cells rk [.sl i 0 a.length (.kn a.length), .sl j 0 b.length (.kn b.length)])) (hi : i < h.next) (hj : j < h.next) (hk : k < h.next) : SR h (.sl k 0 2 (.kn 2)) [a, b] :=
  ⟨_, SV.all rfl hk gk _, SI.own hi gi _, SI.own hj gj _, trivial⟩
theorem of_ok (u : V) (rows : List (List Int)) (h : H) (hu : SR h u rows) : Ev T n_law04_of [u] h (fun w h' => w = .agg [.int .i64 5, u] ∧ Fr h h') := by
  refine Ev_of t_law04_of rfl ?_
  have hw := SV.what hu.choose_spec.1
  have hbl := bldV_two (z1 := .int .i64 0) (z2 := .nils) (v := .int .i64 5) (u := u) rfl rfl hw.1 hw.2.1
  have hst := fun hh id => stV_agg2 hh id 0 (v := .int .i64 5) (u := u) rfl hw.2.1
  have hrow := row_two (bxH_get h 5 u)
  simp (disch := first | omega | (simp only [Qn] <;> omega)) only [go_sem, c_law04_of, initV_eq, hbl, hst, bxH_eq, hrow]
  exact bxH_fr h 5 u
theorem is_ok (va vb : V) (e : Int) (a b : Mat) (h : H) (ha : MatV h va a) (hb : MatV h vb b) (fa : Fit a) (fb : Fit b) : Ev T n_law04_is [va, .int .i64 e, vb] h (fun v h' => v = .bool (decide (e = 0 ∧ a = b)) ∧ Fr h h') := by
  obtain ⟨ua, rfl, hua⟩ := ha
  obtain ⟨ub, rfl, hub⟩ := hb
  refine Ev_of t_law04_is rfl ?_
  have wa := SV.what hua.choose_spec.1
  have wb := SV.what hub.choose_spec.1
  simp (disch := first | omega | (simp only [Qn] <;> omega)) only [go_sem, c_law04_is, initV_eq, boxV_agg2 h (v := .int .i64 a.1) rfl wa.2.1]
  have hfx : Fr h (h.new (.cells false [.int .i64 a.1, ua])) := (Fr.refl h).new _
  have hgx : (h.new (.cells false [.int .i64 a.1, ua])).get h.next = some (.cells false [.int .i64 a.1, ua]) := H.get_new_same ..
  have hnx : (h.new (.cells false [.int .i64 a.1, ua])).next = h.next + 1 := H.next_new ..
  generalize h.new (.cells false [.int .i64 a.1, ua]) = hx at *
  simp (disch := first | omega | (simp only [Qn] <;> omega)) only [go_sem, boxV_agg2 hx (v := .int .i64 b.1) rfl wb.2.1]
  have hfy : Fr hx (hx.new (.cells false [.int .i64 b.1, ub])) := (Fr.refl hx).new _
  have hgy : (hx.new (.cells false [.int .i64 b.1, ub])).get hx.next = some (.cells false [.int .i64 b.1, ub]) := H.get_new_same ..
  have hny : (hx.new (.cells false [.int .i64 b.1, ub])).next = hx.next + 1 := H.next_new ..
  generalize hx.new (.cells false [.int .i64 b.1, ub]) = hy at *
  have F := hfx.trans hfy
  have rx := row_two ((hfy.get h.next (by omega)).trans hgx)
  have ry := row_two hgy
  by_cases he : e = 0
  · rw [decide_eq_true he]
    simp (disch := first | omega | (simp only [Qn] <;> omega)) only [go_sem, rx, ry]
    refine (Same_ok _ _ a b hy ⟨ua, rfl, hua.mono F⟩ ⟨ub, rfl, hub.mono F⟩ fa fb).mono ?_
    rintro v h3 ⟨rfl, f3⟩
    simp (disch := first | omega | (simp only [Qn] <;> omega)) only [go_sem]
    refine ⟨?_, F.trans f3⟩
    congr 1
    rw [decide_eq_decide]
    exact ⟨fun h => ⟨he, h⟩, fun h => h.2⟩
  · rw [decide_eq_false he]
    simp (disch := first | omega | (simp only [Qn] <;> omega)) only [go_sem, undef_eq]
    exact ⟨by rw [decide_eq_false fun h => he h.1], F⟩
def mA : Mat := (5, [[1, 2], [3, 4]])
def mB : Mat := (5, [[0, 1], [1, 0]])
theorem lv_mul : MulF mA mB = ((5, [[2, 1], [4, 3]]), 0) := by decide +kernel
theorem lv_det : DetF mA = (3, 0) := by decide +kernel
theorem lv_sq : sqF mA = 0 := by decide +kernel
theorem lv_inv : InvF mA = ((5, [[3, 1], [4, 2]]), 0) := by
  have i : IsInv 5 2 (ent mA.2) (ent [[3, 1], [4, 2]]) := ⟨fun i j hi hj => (by decide : ∀ i, i < 2 → ∀ j, j < 2 → 0 ≤ ent [[3, 1], [4, 2]] i j) i hi j hj, fun i j hi hj => (by decide : ∀ i, i < 2 → ∀ j, j < 2 → ent [[3, 1], [4, 2]] i j < 5) i hi j hj, fun i j hi hj => (by decide +kernel : ∀ i, i < 2 → ∀ j, j < 2 → mulM 2 (ent [[3, 1], [4, 2]]) (ent mA.2) i j % 5 = idM i j % 5) i hi j hj⟩
  have e := invX_eq i
  rw [InvF, if_neg (by rw [lv_sq]; decide), if_neg (by decide +kernel)]
  rw [show mA.1 = 5 from rfl, show mA.2.length = 2 from rfl, ← e]
  decide +kernel
theorem lv_ord : OrderF mA = (8, 0) := by
  rw [OrderF, if_neg (by rw [lv_inv]; decide)]
  decide +kernel
theorem lit22 (h : H) (a b c d : Int) : ∃ h3, ((h.new (.cells false (ints [a, b]))).new (.cells false (ints [c, d]))).new (.cells false [.sl h.next 0 2 (.kn 2), .sl (h.next + 1) 0 2 (.kn 2)]) = h3 ∧ Fr h h3 ∧ SR h3 (.sl (h.next + 1 + 1) 0 2 (.kn 2)) [[a, b], [c, d]] ∧ h3.next = h.next + 3 := by
  refine ⟨_, rfl, (((Fr.refl h).new _).new _).new _, sr_two (ri := false) (rj := false) (rk := false) (i := h.next) (j := h.next + 1) ?_ ?_ ?_ ?_ ?_ ?_, rfl⟩
  · rw [H.get_new_ne _ (by simp only [H.next_new]; omega), H.get_new_ne _ (by simp only [H.next_new]; omega)]; exact H.get_new_same ..
  · rw [H.get_new_ne _ (by simp only [H.next_new]; omega)]; exact H.get_new_same (h.new _) _
  · exact H.get_new_same ((h.new _).new _) _
  · simp only [H.next_new]; omega
  · simp only [H.next_new]; omega
  · simp only [H.next_new]; omega
theorem litV22 {b0 h : H} (f0 : Fr b0 h) (a b c d : Int) (i j k m : Nat) (hi : b0.next ≤ i) (hj : i < j) (hk : j < k) (hm : k < m) : ∃ h3, litV (litV (litV h i (ints [a, b]) m) j (ints [c, d]) m) k [.sl i 0 2 (.kn 2), .sl j 0 2 (.kn 2)] m = h3 ∧ Fr b0 h3 ∧ SR h3 (.sl k 0 2 (.kn 2)) [[a, b], [c, d]] ∧ h3.next = m := by
  refine ⟨_, rfl, litV_fr (litV_fr (litV_fr f0 (by omega) (by omega) _) (by omega) (by omega) _) (by omega) (by omega) _, sr_two (ri := false) (rj := false) (rk := false) (i := i) (j := j) ?_ ?_ ?_ ?_ ?_ ?_, rfl⟩
  · rw [litV_ne _ _ _ (by omega), litV_ne _ _ _ (by omega)]; exact litV_get ..
  · rw [litV_ne _ _ _ (by omega)]; exact litV_get ..
  · exact litV_get ..
  · rw [litV_next]; omega
  · rw [litV_next]; omega
  · rw [litV_next]; omega
theorem fit22 (a b c d : Int) : Fit (5, [[a, b], [c, d]]) := ⟨by simp, fun i hi => by
  have : i = 0 ∨ i = 1 := by simp at hi; omega
  rcases this with rfl | rfl <;> simp⟩
set_option maxHeartbeats 8000000 in
theorem lives_ok (h : H) : Ev T n_law04_lives [] h (fun v h' => v = .bool true ∧ Fr h h') := by
  refine Ev_of t_law04_lives rfl ?_
  simp (disch := first | omega | (simp only [Qn] <;> omega)) only [go_sem, c_law04_lives, initV_eq, bls_int2, bls_sl2]
  obtain ⟨h1, e1, f1, s1, n1⟩ := lit22 h 1 2 3 4
  rw [e1]
  refine (of_ok _ _ h1 s1).mono ?_
  rintro w h2 ⟨rfl, f2⟩
  simp (disch := first | omega | (simp only [Qn] <;> omega)) only [go_sem, bls_int2, bls_sl2]
  obtain ⟨h3, e3, f3, s3, n3⟩ := lit22 h2 0 1 1 0
  rw [e3]
  refine (of_ok _ _ h3 s3).mono ?_
  rintro w h4 ⟨rfl, f4⟩
  have sA := ((s1.mono f2).mono f3).mono f4
  have sB := s3.mono f4
  have F4 := ((f1.trans f2).trans f3).trans f4
  have hstA := fun hh id => stV_agg2 hh id 0 (v := .int .i64 5) (u := .sl (h.next + 1 + 1) 0 2 (.kn 2)) rfl rfl
  have hstB := fun hh id => stV_agg2 hh id 0 (v := .int .i64 5) (u := .sl (h2.next + 1 + 1) 0 2 (.kn 2)) rfl rfl
  obtain ⟨ua, hua⟩ : ∃ u, V.sl (h.next + 1 + 1) 0 2 (.kn 2) = u := ⟨_, rfl⟩
  obtain ⟨ub, hub⟩ : ∃ u, V.sl (h2.next + 1 + 1) 0 2 (.kn 2) = u := ⟨_, rfl⟩
  rw [hua] at sA hstA
  rw [hub] at sB hstB
  rw [hua, hub]
  simp (disch := first | omega | (simp only [Qn] <;> omega)) only [go_sem]
  have hfa : Fr h4 (h4.new (.cells false [.int .i64 0, .nils])) := (Fr.refl h4).new _
  have hga : (h4.new (.cells false [.int .i64 0, .nils])).get h4.next = some (.cells false [.int .i64 0, .nils]) := H.get_new_same ..
  have hna : (h4.new (.cells false [.int .i64 0, .nils])).next = h4.next + 1 := H.next_new ..
  generalize h4.new (.cells false [.int .i64 0, .nils]) = ha at *
  rw [← hna]
  have hfb : Fr ha (ha.new (.cells false [.int .i64 0, .nils])) := (Fr.refl ha).new _
  have hgb : (ha.new (.cells false [.int .i64 0, .nils])).get ha.next = some (.cells false [.int .i64 0, .nils]) := H.get_new_same ..
  have hnb : (ha.new (.cells false [.int .i64 0, .nils])).next = ha.next + 1 := H.next_new ..
  generalize ha.new (.cells false [.int .i64 0, .nils]) = hb at *
  obtain ⟨A, hA⟩ : ∃ A, h4.next = A := ⟨_, rfl⟩
  obtain ⟨B, hB⟩ : ∃ B, ha.next = B := ⟨_, rfl⟩
  rw [hB] at hgb
  rw [hA] at hga
  have ga : hb.get A = some (.cells false [.int .i64 0, .nils]) := (hfb.get A (by omega)).trans hga
  have nab : B ≠ A := by omega
  rw [hA, hB]
  simp (disch := first | omega | (simp only [Qn] <;> omega)) only [go_sem, hstA, hstB, ga, hgb]
  have fC : Fr h4 ((hb.set A (some (.cells false [.int .i64 5, ua]))).set B (some (.cells false [.int .i64 5, ub]))) := (((hfa.trans hfb).set (by omega) _).set (by omega) _)
  have gA : ((hb.set A (some (.cells false [.int .i64 5, ua]))).set B (some (.cells false [.int .i64 5, ub]))).get A = some (.cells false [.int .i64 5, ua]) := by
    rw [H.get_set_ne _ (by omega)]; exact H.get_set_same ..
  have gB : ((hb.set A (some (.cells false [.int .i64 5, ua]))).set B (some (.cells false [.int .i64 5, ub]))).get B = some (.cells false [.int .i64 5, ub]) := H.get_set_same ..
  have nC : ((hb.set A (some (.cells false [.int .i64 5, ua]))).set B (some (.cells false [.int .i64 5, ub]))).next = B + 1 := by rw [H.next_set, H.next_set]; omega
  generalize (hb.set A (some (.cells false [.int .i64 5, ua]))).set B (some (.cells false [.int .i64 5, ub])) = hC at *
  have FC := F4.trans fC
  have MA : MatV hC (.agg [.int .i64 5, ua]) mA := ⟨ua, rfl, sA.mono fC⟩
  have MB : MatV hC (.agg [.int .i64 5, ub]) mB := ⟨ub, rfl, sB.mono fC⟩
  simp (disch := first | omega | (simp only [Qn] <;> omega)) only [go_sem, row_two gA, row_two gB]
  refine (Mul_ok _ _ mA mB hC MA MB (by decide) (by decide)).mono ?_
  rintro v h5 ⟨w, rfl, ⟨u5, ws5, rfl, R5⟩, f5⟩
  rw [lv_mul]
  rw [lv_mul] at R5
  have v5 := SV.what R5.own.sv
  have hst5 := fun hh id => stV_agg2 hh id 0 (v := .int .i64 5) (u := u5) rfl v5.2.1
  simp (disch := first | omega | (simp only [Qn] <;> omega)) only [go_sem, hst5, bxH_eq]
  have f6 := f5.trans (bxH_fr h5 5 u5)
  have s6 := R5.sr.mono (bxH_fr h5 5 u5)
  have g6 := bxH_get h5 5 u5
  have n6 := bxH_next h5 5 u5
  generalize bxH h5 5 u5 = h6 at *
  have gA6 := (f6.get A (by omega)).trans gA
  simp (disch := first | omega | (simp only [Qn] <;> omega)) only [go_sem, row_two gA6]
  refine (Det_ok _ mA h6 (MA.mono f6) (by decide)).mono ?_
  rintro v h7 ⟨rfl, f7⟩
  rw [lv_det]
  have f67 := f6.trans f7
  have gA7 := (f67.get A (by omega)).trans gA
  simp (disch := first | omega | (simp only [Qn] <;> omega)) only [go_sem, row_two gA7]
  refine (Inv_ok _ mA h7 (MA.mono f67) (by decide)).mono ?_
  rintro v h8 ⟨w, rfl, ⟨u8, ws8, rfl, R8⟩, f8⟩
  rw [lv_inv]
  rw [lv_inv] at R8
  have v8 := SV.what R8.own.sv
  have hst8 := fun hh id => stV_agg2 hh id 0 (v := .int .i64 5) (u := u8) rfl v8.2.1
  simp (disch := first | omega | (simp only [Qn] <;> omega)) only [go_sem, hst8, bxH_eq]
  have f9 := f8.trans (bxH_fr h8 5 u8)
  have s9 := R8.sr.mono (bxH_fr h8 5 u8)
  have g9 := bxH_get h8 5 u8
  have n9 := bxH_next h8 5 u8
  generalize bxH h8 5 u8 = h9 at *
  have F79 := f67.trans f9
  have gA9 := (F79.get A (by omega)).trans gA
  simp (disch := first | omega | (simp only [Qn] <;> omega)) only [go_sem, row_two gA9]
  refine (Order_ok _ mA h9 (MA.mono F79) (by decide)).mono ?_
  rintro v h10 ⟨rfl, f10⟩
  rw [lv_ord]
  have f5n := f5.next
  have f7n := f7.next
  have f8n := f8.next
  have f10n := f10.next
  have F10 := FC.trans (F79.trans f10)
  have g10 := ((f7.trans f9).trans f10).get h5.next (by omega)
  rw [g6] at g10
  have s10 := ((s6.mono f7).mono f9).mono f10
  have g10' := (f10.get h8.next (by omega)).trans g9
  have s10' := s9.mono f10
  have rb : (H.mk h10.tr (h10.next + 33)).row h5.next 0 2 = some [.int .i64 5, u5] := row_two g10
  simp (disch := first | omega | (simp only [Qn] <;> omega)) only [go_sem, rb, bls_int2, bls_sl2, litV_eq]
  obtain ⟨h11, e11, f11, s11, n11⟩ := litV22 (Fr.refl h10) 2 1 4 3 (h10.next + 2) (h10.next + 3) (h10.next + 4) (h10.next + 33) (by omega) (by omega) (by omega) (by omega)
  rw [e11]
  refine (of_ok _ _ h11 s11).mono ?_
  rintro w h12 ⟨rfl, f12⟩
  have r12 := row_two (((f11.trans f12).get h5.next (by omega)).trans g10)
  have e5 := SV.eqV R5.own.sv
  simp (disch := first | omega | (simp only [Qn] <;> omega)) only [go_sem, r12, e5]
  refine (is_ok _ _ 0 (5, [[2, 1], [4, 3]]) (5, [[2, 1], [4, 3]]) h12 ⟨u5, rfl, (s10.mono f11).mono f12⟩ ⟨_, rfl, s11.mono f12⟩ (fit22 ..) (fit22 ..)).mono ?_
  rintro v h13 ⟨rfl, f13⟩
  rw [decide_eq_true (show (0 : Int) = 0 ∧ ((5, [[2, 1], [4, 3]]) : Mat) = (5, [[2, 1], [4, 3]]) from ⟨rfl, rfl⟩)]
  have F13 := (f11.trans f12).trans f13
  have g13 := (F13.get h8.next (by omega)).trans g10'
  have n12 := f12.next
  have n13 := f13.next
  have r13 := row_two g13
  simp (disch := first | omega | (simp only [Qn] <;> omega)) only [go_sem, decide_true, r13, bls_int2, bls_sl2, litV_eq]
  obtain ⟨h14, e14, f14, s14, n14⟩ := litV22 F13 3 1 4 2 (h10.next + 18) (h10.next + 19) (h10.next + 20) h13.next (by omega) (by omega) (by omega) (by omega)
  rw [e14]
  refine (of_ok _ _ h14 s14).mono ?_
  rintro w h15 ⟨rfl, f15⟩
  have F15 := f14.trans f15
  have r15 := row_two ((F15.get h8.next (by omega)).trans g10')
  have e8 := SV.eqV R8.own.sv
  simp (disch := first | omega | (simp only [Qn] <;> omega)) only [go_sem, r15, e8]
  refine (is_ok _ _ 0 (5, [[3, 1], [4, 2]]) (5, [[3, 1], [4, 2]]) h15 ⟨u8, rfl, s10'.mono F15⟩ ⟨_, rfl, s14.mono f15⟩ (fit22 ..) (fit22 ..)).mono ?_
  rintro v h16 ⟨rfl, f16⟩
  rw [decide_eq_true (show (0 : Int) = 0 ∧ ((5, [[3, 1], [4, 2]]) : Mat) = (5, [[3, 1], [4, 2]]) from ⟨rfl, rfl⟩)]
  simp (disch := first | omega | (simp only [Qn] <;> omega)) only [go_sem, decide_true]
  exact F10.trans (F15.trans f16)
end Go.Proofs.Ytonhijbeddcmpaa
/- Layer 4: the laws' numbers: field, drawn; boxes; valid matrices. -/
namespace Go.Proofs.Ytonhijbeddcmpaa
open Go Go.Ay
set_option maxRecDepth 100000
theorem Own.fx {x : Nat} {h h' : H} {v : V} {sz : Nat} {ws : List V} {b : Nat} (o : Own h v sz ws b) (hx : x < b) (f : Fx x h h') : Own h' v sz ws b :=
  o.mono f.next fun id _ _ _ _ h1 h2 => f.get id h2 (by omega)
theorem Rws.fx {x : Nat} {h h' : H} {u : V} {ws : List V} {ll : List (List Int)} {lo : Nat} (r : Rws h u ws ll lo) (hx : x < lo) (f : Fx x h h') : Rws h' u ws ll lo :=
  ⟨Own.fx r.own hx f, All2.keep r.row fun w hw _ s => SI.fx s (r.frs w hw) hx f, r.dis, r.frs⟩
theorem MatO.fx {x : Nat} {h h' : H} {v : V} {a : Mat} {lo : Nat} (o : MatO h v a lo) (hx : x < lo) (f : Fx x h h') : MatO h' v a lo := by
  obtain ⟨u, ws, e, r⟩ := o
  exact ⟨u, ws, e, Rws.fx r hx f⟩
theorem lawfield_ok (k : Int) (h : H) : Ev T n_law04_field [.int .i64 k] h (fun v h' => ∃ p, v = .int .i64 p ∧ fieldF p = true ∧ Fr h h') := by
  refine Ev_of t_law04_field rfl ?_
  have hb : blsV h 1 [.int .i64 0] 7 [(0, 1, .int .i64 2), (1, 1, .int .i64 3), (2, 1, .int .i64 5), (3, 1, .int .i64 7), (4, 1, .int .i64 11), (5, 1, .int .i64 97), (6, 1, .int .i64 9973)] = some (.sl h.next 0 7 (.kn 7), h.new (.cells false (ints [2, 3, 5, 7, 11, 97, 9973]))) := rfl
  simp (disch := first | omega | (simp only [Qn] <;> omega)) only [go_sem, c_law04_field, initV_eq, hb]
  have hfa : Fr h (h.new (.cells false (ints [2, 3, 5, 7, 11, 97, 9973]))) := (Fr.refl h).new _
  have hga : (h.new (.cells false (ints [2, 3, 5, 7, 11, 97, 9973]))).get h.next = some (.cells false (ints [2, 3, 5, 7, 11, 97, 9973])) := H.get_new_same ..
  have hna : (h.new (.cells false (ints [2, 3, 5, 7, 11, 97, 9973]))).next = h.next + 1 := H.next_new ..
  generalize h.new (.cells false (ints [2, 3, 5, 7, 11, 97, 9973])) = ha at *
  refine (pick_ok k 7 ha (by omega) (by omega)).mono ?_
  rintro v h' ⟨rfl, rfl⟩
  have r := tmod_range k (show (0 : Int) < 7 by omega)
  obtain ⟨t, ht⟩ : ∃ t : Nat, k % 7 = (t : Int) := ⟨(k % 7).toNat, by omega⟩
  have ht7 : t < 7 := by omega
  rw [ht]
  have c : h'.cell h.next t = some (.int .i64 (([2, 3, 5, 7, 11, 97, 9973] : List Int).getD t 0)) := own_cell hga t ht7
  simp (disch := first | omega | (simp only [Qn] <;> omega)) only [go_sem, c]
  refine ⟨_, rfl, ?_, hfa⟩
  have key : ∀ t, t < 7 → fieldF (([2, 3, 5, 7, 11, 97, 9973] : List Int).getD t 0) = true := by decide +kernel
  exact key t ht7
/-- Entries that are residues. -/
def InP (p : Int) (n : Nat) (A : Mx) : Prop := ∀ i k, i < n → k < n → 0 ≤ A i k ∧ A i k < p
set_option maxHeartbeats 4000000 in
theorem drawn_ok (x : Nat) (l : List Int) (n : Nat) (p : Int) (h : H) (ht : Tk h x l) (hl : l.length < 1000000) (hn : n ≤ 64) (hp : 1 ≤ p ∧ p < 10000) :
    Ev T n_law04_drawn [.ptr x 0, .int .i64 (n : Int), .int .i64 p] h (fun w h' => ∃ A, InP p n A ∧ MatO h' w (p, mkR n n A) h.next ∧ Tk h' x l ∧ Fx x h h') := by
  have hx : x < h.next := by obtain ⟨_, _, _, _, _, _, h5⟩ := ht; exact h5
  refine Ev_of t_law04_drawn rfl ?_
  have hbl := bldV_fst (z1 := .int .i64 0) (z2 := .nils) (v := .int .i64 p) rfl rfl
  have hst := fun hh id => stV_agg2 hh id 0 (v := .int .i64 p) (u := .nils) rfl rfl
  simp (disch := first | omega | (simp only [Qn] <;> omega)) only [go_sem, c_law04_drawn, initV_eq, hbl]
  have hfa : Fr h (h.new (.cells false [.int .i64 0, .nils])) := (Fr.refl h).new _
  have hga : (h.new (.cells false [.int .i64 0, .nils])).get h.next = some (.cells false [.int .i64 0, .nils]) := H.get_new_same ..
  have hna : (h.new (.cells false [.int .i64 0, .nils])).next = h.next + 1 := H.next_new ..
  generalize h.new (.cells false [.int .i64 0, .nils]) = ha at *
  rw [← hna]
  simp (disch := first | omega | (simp only [Qn] <;> omega)) only [go_sem, hst, bxH_eq]
  have fB := hfa.trans (bxH_fr ha p .nils)
  have gB := bxH_get ha p .nils
  have nB := bxH_next ha p .nils
  have gA := ((bxH_fr ha p .nils).get h.next (by omega)).trans hga
  generalize bxH ha p .nils = hB at *
  obtain ⟨O, hO⟩ : ∃ O, ha.next = O := ⟨_, rfl⟩
  rw [hO] at gB nB
  rw [hO]
  refine Wp_loop (fun k' vars h3 => ∃ (i : Nat) (A : Mx) (u : V) (ws : List V), (∃ g : Nat → V, vars = [.ptr x 0, .int .i64 (n : Int), .int .i64 p, .ptr h.next 0, .ptr O 0, .int .i64 (i : Int), g 6, g 7, g 8, g 9]) ∧ i ≤ n ∧ (∀ a b, a < i → b < n → 0 ≤ A a b ∧ A a b < p) ∧ Rws h3 u ws (mkR i n A) (O + 1) ∧ h3.get O = some (.cells false [.int .i64 p, u]) ∧ h3.get h.next = some (.cells false [.int .i64 0, .nils]) ∧ O < h3.next ∧ Tk h3 x l ∧ Fx x h h3 ∧ k' = n - i) n
    ⟨0, fun _ _ => 0, .nils, [], ex_junk rfl, Nat.zero_le _, fun a b ha => absurd ha (Nat.not_lt_zero a), Rws.nils _ _, gB, gA, by omega, ht.mono fB, Fx.of fB, rfl⟩ ?_
  clear gB gA nB fB ht
  rintro k' vars h3 ⟨i, A, u, ws, ⟨g, rfl⟩, hi, hA, R3, g3, a3, o3, ht, FX, rfl⟩
  simp (disch := first | omega | (simp only [Qn] <;> omega)) only [go_sem]
  by_cases hlt : (i : Int) < (n : Int)
  · rw [decide_eq_true hlt]
    simp (disch := first | omega | (simp only [Qn] <;> omega)) only [go_sem]
    refine Wp_loop (fun k' vars h4 => ∃ (k : Nat) (r : Nat → Int) (v : V), (∃ g : Nat → V, vars = [.ptr x 0, .int .i64 (n : Int), .int .i64 p, .ptr h.next 0, .ptr O 0, .int .i64 (i : Int), v, .int .i64 (k : Int), g 8, g 9]) ∧ k ≤ n ∧ (∀ b, b < k → 0 ≤ r b ∧ r b < p) ∧ Own h4 v 1 (ints (mkV k r)) h3.next ∧ Tk h4 x l ∧ Fx x h3 h4 ∧ k' = n - k) n
      ⟨0, fun _ => 0, .nils, ex_junk rfl, Nat.zero_le _, fun b hb => absurd hb (Nat.not_lt_zero b), Own.nils _ _ _, ht, Fx.refl _ _, rfl⟩ ?_
    rintro k' vars h4 ⟨k, r, v, ⟨g, rfl⟩, hk, hr, ov, ht4, FX4, rfl⟩
    simp (disch := first | omega | (simp only [Qn] <;> omega)) only [go_sem]
    by_cases hlt2 : (k : Int) < (n : Int)
    · rw [decide_eq_true hlt2]
      simp (disch := first | omega | (simp only [Qn] <;> omega)) only [go_sem]
      refine (take_ok x l p h4 ht4 hl hp.1 (by omega)).mono ?_
      rintro vz h5 ⟨z, rfl, z1, z2, ht5, FX5⟩
      simp (disch := first | omega | (simp only [Qn] <;> omega)) only [go_sem, bls_int]
      have n34 := FX4.next
      have n45 := FX5.next
      have o5 := (Own.fx ov (by omega) FX5).fr ((Fr.refl h5).new (.cells false (ints [z])))
      have hy : SV (h5.new (.cells false (ints [z]))) (.sl h5.next 0 1 (.kn 1)) 1 (ints [z]) := SV.all rfl (by rw [H.next_new]; omega) (H.get_new_same ..) _
      obtain ⟨v6, h6, e6, a6⟩ := o5.app (bytes := 8) (n := k) (m := 1) (by rw [H.next_new]; omega) hy (by rw [ints_length, mkV_len, Nat.mul_one]) rfl (by omega) (by omega)
      simp (disch := first | omega | (simp only [Qn] <;> omega)) only [go_sem, e6]
      rw [show (k : Int) + 1 = ((k + 1 : Nat) : Int) from by omega]
      have n6 := a6.next
      rw [H.next_new] at n6
      have g6 : ∀ id, id < h3.next → h6.get id = h5.get id := fun id hid => (a6.get id (by rw [H.next_new]; omega) (own_apart o5 hid)).trans (H.get_new_ne _ (by omega) _)
      have e : ints (mkV k r) ++ ints [z] = ints (mkV (k + 1) fun b => if b = k then z else r b) := by
        rw [mkV_succ, if_pos rfl, ints_append, mkV_congr (g := r) fun b hb => if_neg (by omega)]
      have oo := a6.own
      rw [e] at oo
      refine ⟨n - (k + 1), by omega, k + 1, _, v6, ex_junk rfl, by omega, fun b hb => ?_, oo, ht5.low (by omega) fun id hid => g6 id (by omega), ⟨by omega, fun id hid hne => (g6 id hid).trans ((FX4.trans FX5).get id hid hne)⟩, rfl⟩
      by_cases e : b = k
      · rw [if_pos e]; exact ⟨z1, z2⟩
      · rw [if_neg e]; exact hr b (by omega)
    · rw [decide_eq_false hlt2]
      obtain rfl : n = k := by omega
      have n34 := FX4.next
      have g4 := (FX4.get O (by omega) (by omega)).trans g3
      have a4 := (FX4.get h.next (by omega) (by omega)).trans a3
      have cO : h4.cell O 1 = some u := by rw [H.cell_of g4]; rfl
      have vv := SV.what ov.sv
      have R4 := (Rws.fx R3 (by omega) FX4).fr ((Fr.refl h4).new (.cells false [v]))
      have hy : SV (h4.new (.cells false [v])) (.sl h4.next 0 1 (.kn 1)) 1 [v] := SV.all rfl (by rw [H.next_new]; omega) (H.get_new_same ..) _
      have hlen := R3.row.length
      rw [mkR_len] at hlen
      have sv4 : SI h4 v (mkV n r) := ov.sv
      obtain ⟨w, h6, e6, R6, n6, k6, q6⟩ := R4.app (by rw [H.next_new]; omega) hy (sv4.mono ((Fr.refl h4).new _)) (Own.dis R3.own ov) (Frs.le (Frs.own ov) (by omega)) (by omega)
      rw [H.next_new] at n6
      have hlow : ∀ id, id < O + 1 → h6.get id = h4.get id := fun id hid => (k6 id (by rw [H.next_new]; omega) (own_apart R4.own hid)).trans (H.get_new_ne _ (by omega) _)
      have g6 := (hlow O (by omega)).trans g4
      have hv := SV.what R6.own.sv
      have hst1 := fun hh => stV_one hv.1 hv.2.1 hh O 1
      have cO' : (h4.new (.cells false [v])).cell O 1 = some u := by rw [H.cell_new_ne _ (by omega)]; exact cO
      simp (disch := first | omega | (simp only [Qn] <;> omega)) only [go_sem, cO, bls_v h4 v vv.1 vv.2.1, e6, hst1, g6, putO_snd]
      rw [show (i : Int) + 1 = ((i + 1 : Nat) : Int) from by omega]
      have em : mkR i n A ++ [mkV n r] = mkR (i + 1) n (fun a b => if a = i then r b else A a b) := by
        rw [mkR_succ, mkR_congr (g := A) fun a b ha _ => if_neg (by omega), mkV_congr (f := fun b => if i = i then r b else A i b) (g := r) fun b _ => if_pos rfl]
      rw [em] at R6
      refine ⟨n - (i + 1), by omega, i + 1, _, w, _, ex_junk rfl, by omega, fun a b ha hb => ?_, R6.set (by omega) _, rfl, ?_, ?_, ?_, ?_, rfl⟩
      · by_cases e : a = i
        · rw [if_pos e]; exact hr b hb
        · rw [if_neg e]; exact hA a b (by omega) hb
      · exact (hlow h.next (by omega)).trans a4
      · show O < h6.next; omega
      · refine ht4.low (by show h4.next ≤ h6.next; omega) fun id hid => ?_
        rw [H.get_set_ne _ (by omega)]; exact hlow id (by omega)
      · refine ⟨by show h.next ≤ h6.next; have := FX.next; omega, fun id hid hne => ?_⟩
        rw [H.get_set_ne _ (by omega)]
        exact (hlow id (by omega)).trans ((FX.trans FX4).get id hid hne)
  · rw [decide_eq_false hlt]
    obtain rfl : n = i := by omega
    have rr := row_two g3
    have vu := SV.what R3.own.sv
    have hst2 := fun hh => stV_agg2 hh h.next 0 (v := .int .i64 p) (u := u) rfl vu.2.1
    have hrow := row_two (h := h3.set h.next (some (.cells false [.int .i64 p, u]))) (H.get_set_same ..)
    simp (disch := first | omega | (simp only [Qn] <;> omega)) only [go_sem, rr, hst2, a3, hrow]
    refine ⟨A, fun a b ha hb => hA a b ha hb, ⟨u, ws, rfl, (R3.set (by omega) _).le (by omega)⟩, ?_, FX.setf (Nat.le_refl _) _⟩
    refine ht.low (Nat.le_refl _) fun id hid => H.get_set_ne _ (by omega) _
end Go.Proofs.Ytonhijbeddcmpaa
/- Layer 4: valid square matrices; boxes. -/
namespace Go.Proofs.Ytonhijbeddcmpaa
open Go Go.Ay
set_option maxRecDepth 100000
/-- Valid square matrices. -/
structure Sq (p : Int) (n : Nat) : Prop where
  f : fieldF p = true
  n1 : 1 ≤ n
  n2 : n ≤ 64
theorem Sq.p {p : Int} {n : Nat} (s : Sq p n) : 2 ≤ p ∧ p < 10000 := fieldF_range s.f
theorem len0 {n : Nat} (h1 : 1 ≤ n) (A : Mx) : ((mkR n n A).getD 0 []).length = n := by rw [mkR_row _ h1, mkV_len]
theorem Sq.vd {p : Int} {n : Nat} (s : Sq p n) {A : Mx} (hA : InP p n A) : Vd (p, mkR n n A) n :=
  ⟨s.f, by simp only [mkR_len]; exact s.n1, by simp only [mkR_len]; exact s.n2, s.n1, s.n2, fun i hi => by
    simp only [mkR_len] at hi
    simp only
    rw [mkR_row _ hi, mkV_len], fun i k hi hk => by
    simp only [mkR_len] at hi
    simp only
    rw [mkR_ent _ hi hk]; exact (hA i k hi hk).1, fun i k hi hk => by
    simp only [mkR_len] at hi
    simp only
    rw [mkR_ent _ hi hk]; exact (hA i k hi hk).2⟩
theorem Sq.fit {p : Int} {n : Nat} (s : Sq p n) {A B : Mx} (hA : InP p n A) (hB : InP p n B) : fitF (p, mkR n n A) (p, mkR n n B) = 0 := by
  rw [fitF, vd_check (s.vd hA), vd_check (s.vd hB)]; simp
theorem Sq.fits {p : Int} {n : Nat} (s : Sq p n) (A : Mx) : Fit (p, mkR n n A) := by
  have := s.n2
  refine ⟨by simp only [mkR_len]; omega, fun i hi => ?_⟩
  simp only [mkR_len] at hi
  simp only
  rw [mkR_row _ hi, mkV_len]; omega
theorem Sq.la {p : Int} {n : Nat} (s : Sq p n) (A : Mx) : (((p, mkR n n A) : Mat).2.length : Int) ≤ 2 ^ 63 - 1 := by
  have := s.n2
  simp only [mkR_len]; omega
def mmP (p : Int) (n : Nat) (A B : Mx) : Mx := fun i k => mulM n A B i k % p
theorem Sq.mul {p : Int} {n : Nat} (s : Sq p n) {A B : Mx} (hA : InP p n A) (hB : InP p n B) : MulF (p, mkR n n A) (p, mkR n n B) = ((p, mkR n n (mmP p n A B)), 0) := by
  rw [MulF, s.fit hA hB, if_neg (by simp), if_neg (by simp only [mkR_len, len0 s.n1, ne_eq, not_true_eq_false, not_false_eq_true])]
  simp only [len0 s.n1, mulF, mkR_len]
  rw [mkR_congr fun i k hi hk => ?_]
  refine congrArg (· % p) (sm_congr fun j hj => ?_)
  rw [mkR_ent _ hi hj, mkR_ent _ hj hk]
theorem Sq.mm {p : Int} {n : Nat} (s : Sq p n) (A B : Mx) : InP p n (mmP p n A B) := fun i k _ _ => tmod_range _ (by have := s.p; omega)
theorem Sq.add {p : Int} {n : Nat} (s : Sq p n) {A B : Mx} (hA : InP p n A) (hB : InP p n B) : AddF (p, mkR n n A) (p, mkR n n B) = ((p, mkR n n (fun i k => (A i k + B i k) % p)), 0) := by
  rw [AddF, s.fit hA hB, if_neg (by simp), if_neg (by simp only [mkR_len, len0 s.n1, ne_eq, not_true_eq_false, or_self, not_false_eq_true])]
  simp only [len0 s.n1, mkR_len]
  rw [mkR_congr fun i k hi hk => ?_]
  rw [mkR_ent _ hi hk, mkR_ent _ hi hk, Int.one_mul]
theorem Sq.ad {p : Int} {n : Nat} (s : Sq p n) (A B : Mx) : InP p n (fun i k => (A i k + B i k) % p) := fun i k _ _ => tmod_range _ (by have := s.p; omega)
theorem Sq.turn {p : Int} {n : Nat} (s : Sq p n) {A : Mx} (hA : InP p n A) : TurnF (p, mkR n n A) = ((p, mkR n n (trM A)), 0) := by
  rw [TurnF, vd_check (s.vd hA), if_neg (by simp)]
  simp only [len0 s.n1, mkR_len]
  rw [mkR_congr fun i k hi hk => ?_]
  rw [mkR_ent _ hk hi]; rfl
theorem Sq.tr {p : Int} {n : Nat} {A : Mx} (hA : InP p n A) : InP p n (trM A) := fun i k hi hk => hA k i hk hi
theorem Sq.scale {p : Int} {n : Nat} (s : Sq p n) {A : Mx} (hA : InP p n A) (k : Int) : ScaleF (p, mkR n n A) k = ((p, mkR n n (fun i j => (k % p) * A i j % p)), 0) := by
  rw [ScaleF, vd_check (s.vd hA), if_neg (by simp)]
  simp only [len0 s.n1, mkR_len]
  rw [mkR_congr fun i j hi hj => ?_]
  rw [mkR_ent _ hi hj]
theorem Sq.sc {p : Int} {n : Nat} (s : Sq p n) (k : Int) (A : Mx) : InP p n (fun i j => (k % p) * A i j % p) := fun i k _ _ => tmod_range _ (by have := s.p; omega)
theorem Sq.one {p : Int} {n : Nat} (s : Sq p n) : OneF (n : Int) p = ((p, mkR n n idM), 0) := by
  have := s.n1
  have := s.n2
  rw [OneF, if_neg (by rw [s.f]; simp), if_neg (by omega), Int.toNat_natCast]; rfl
theorem Sq.on {p : Int} {n : Nat} (s : Sq p n) : InP p n idM := fun i k _ _ => by
  have := s.p
  simp only [idM]
  split <;> omega
/-- A box with a matrix. -/
def MB (h : H) (id : Nat) (a : Mat) : Prop := ∃ u, h.get id = some (.cells false [.int .i64 a.1, u]) ∧ SR h u a.2 ∧ id < h.next
theorem MB.mono {h h' : H} {id : Nat} {a : Mat} (b : MB h id a) (f : Fr h h') : MB h' id a := by
  obtain ⟨u, h1, h2, h3⟩ := b
  exact ⟨u, (f.get id h3).trans h1, h2.mono f, Nat.lt_of_lt_of_le h3 f.next⟩
theorem MB.row {h : H} {id : Nat} {p : Int} {L : List (List Int)} (b : MB h id (p, L)) : ∃ u, h.row id 0 2 = some [.int .i64 p, u] ∧ MatV h (.agg [.int .i64 p, u]) (p, L) := by
  obtain ⟨u, h1, h2, h3⟩ := b
  exact ⟨u, row_two h1, u, rfl, h2⟩
theorem MB.new {h : H} {p : Int} {L : List (List Int)} {u : V} (s : SR h u L) : MB (bxH h p u) h.next (p, L) :=
  ⟨u, bxH_get h p u, s.mono (bxH_fr h p u), by rw [bxH_next]; omega⟩
theorem d6' : decide ((0 : Int) ≠ 0) = false := by decide
theorem d0' : decide ((0 : Int) = 0) = true := by decide
/-! the laws -/
theorem mm_assoc {p : Int} {n : Nat} (A B C : Mx) : mkR n n (mmP p n (mmP p n A B) C) = mkR n n (mmP p n A (mmP p n B C)) := mkR_congr fun i k _ _ => by
  have em : ∀ a : Int, a % p % p = a % p := fun a => Int.emod_emod_of_dvd _ (Int.dvd_refl p)
  simp only [mmP]
  rw [mulM_mod (A' := mulM n A B) (B' := C) (fun j _ => em _) (fun _ _ => rfl), mulM_mod (A := A) (A' := A) (B' := mulM n B C) (fun _ _ => rfl) (fun j _ => em _), mulM_assoc]
theorem mm_dist {p : Int} {n : Nat} (A B C : Mx) : mkR n n (mmP p n A (fun i k => (B i k + C i k) % p)) = mkR n n (fun i k => (mmP p n A B i k + mmP p n A C i k) % p) := mkR_congr fun i k _ _ => by
  have em : ∀ a : Int, a % p % p = a % p := fun a => Int.emod_emod_of_dvd _ (Int.dvd_refl p)
  simp only [mmP]
  rw [mulM_mod (A' := A) (B' := fun i k => B i k + C i k) (fun _ _ => rfl) (fun j _ => em _), ← Int.add_emod]
  simp only [mulM]
  rw [← sm_add]
  exact congrArg (· % p) (sm_congr fun j _ => by rw [Int.mul_add])
theorem mm_turn {p : Int} {n : Nat} (A B : Mx) : mkR n n (trM (mmP p n A B)) = mkR n n (mmP p n (trM B) (trM A)) := mkR_congr fun i k _ _ => by
  simp only [mmP, trM, mulM]
  exact congrArg (· % p) (sm_congr fun j _ => Int.mul_comm _ _)
theorem mm_scale {p : Int} {n : Nat} (A : Mx) (k : Int) : mkR n n (fun i j => (k % p) * A i j % p) = mkR n n (mmP p n A (fun i j => (k % p) * idM i j % p)) := mkR_congr fun i j _ hj => by
  have em : ∀ a : Int, a % p % p = a % p := fun a => Int.emod_emod_of_dvd _ (Int.dvd_refl p)
  simp only [mmP]
  rw [mulM_mod (A := A) (A' := A) (B' := fun i j => (k % p) * idM i j) (fun _ _ => rfl) (fun l _ => em _)]
  simp only [mulM, idM]
  rw [sm_one (t := j) hj fun l _ hne => by rw [if_neg hne]; simp, if_pos rfl]
  congr 1
  grind
end Go.Proofs.Ytonhijbeddcmpaa
