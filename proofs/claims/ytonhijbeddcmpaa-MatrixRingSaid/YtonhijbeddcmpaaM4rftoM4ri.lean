/- Layer 4: the laws' helpers: of, is, lives. Layer 4: the laws' numbers: field, drawn; boxes; valid matrices. Layer 4: valid square matrices; boxes. The law MatrixRing, walked. -/
import Derived.Test.YtonhijbeddcmpaaM4ytoM4re
/- Layer 4: the laws' helpers: of, is, lives. -/
namespace Go.Proofs.Ytonhijbeddcmpaa
open Go Go.Ay
set_option maxRecDepth 100000
theorem bls_int2 (h : H) (x y : Int) : blsV h 1 [.int .i64 0] 2 [(0, 1, .int .i64 x), (1, 1, .int .i64 y)] = some (.sl h.next 0 2 (.kn 2), h.new (.cells false (ints [x, y]))) := by
  have e : zerosV [V.int .i64 0] 2 = [.int .i64 0, .int .i64 0] := rfl
  simp [blsV, fillV, e, V.cells, V.one, putAt, ints]
theorem bls_sl2 (h : H) (a b c a' b' c' : Nat) (d' dd : Cap) : blsV h 1 [.nils] 2 [(0, 1, .sl a b c dd), (1, 1, .sl a' b' c' d')] = some (.sl h.next 0 2 (.kn 2), h.new (.cells false [.sl a b c dd, .sl a' b' c' d'])) := bls_two h rfl rfl rfl rfl
theorem sr_two {h : H} {i j k : Nat} {ri rj rk : Bool} {a b : List Int} (gi : h.get i = some (.cells ri (ints a))) (gj : h.get j = some (.cells rj (ints b))) (gk : h.get k = some (.cells rk [.sl i 0 a.length (.kn a.length), .sl j 0 b.length (.kn b.length)])) (hi : i < h.next) (hj : j < h.next) (hk : k < h.next) : SR h (.sl k 0 2 (.kn 2)) [a, b] :=
  ⟨_, SV.all rfl hk gk _, SI.own hi gi _, SI.own hj gj _, trivial⟩
theorem of_ok (u : V) (rows : List (List Int)) (h : H) (hu : SR h u rows) : Ev T n_law04_of [u] h (fun w h' => w = .agg [.int .i64 5, u] ∧ Fr h h') := by
  refine Ev_of t_law04_of rfl ?_
  have hw := SV.what hu.choose_spec.1
  have hbl := bldV_two (z1 := .int .i64 0) (z2 := .nils) (v := .int .i64 5) (u := u) rfl rfl hw.1 hw.2.1
  have hst := fun hh id => stV_agg2 hh id 0 (v := .int .i64 5) (u := u) rfl hw.2.1
  have hrow := row_two (bxH_get h 5 u)
  simp (disch := first | omega | (simp only [Qn] <;> omega)) only [go_sem, c_law04_of, initV_eq, hbl, hst, bxH_eq, hrow]
  exact bxH_fr h 5 u
theorem is_ok (va vb : V) (e : Int) (a b : Mat) (h : H) (ha : MatV h va a) (hb : MatV h vb b) (fa : Fit a) (fb : Fit b) : Ev T n_law04_is [va, .int .i64 e, vb] h (fun v h' => v = .bool (decide (e = 0 ∧ a = b)) ∧ Fr h h') := by
  obtain ⟨ua, rfl, hua⟩ := ha
  obtain ⟨ub, rfl, hub⟩ := hb
  refine Ev_of t_law04_is rfl ?_
  have wa := SV.what hua.choose_spec.1
  have wb := SV.what hub.choose_spec.1
  simp (disch := first | omega | (simp only [Qn] <;> omega)) only [go_sem, c_law04_is, initV_eq, boxV_agg2 h (v := .int .i64 a.1) rfl wa.2.1]
  have hfx : Fr h (h.new (.cells false [.int .i64 a.1, ua])) := (Fr.refl h).new _
  have hgx : (h.new (.cells false [.int .i64 a.1, ua])).get h.next = some (.cells false [.int .i64 a.1, ua]) := H.get_new_same ..
  have hnx : (h.new (.cells false [.int .i64 a.1, ua])).next = h.next + 1 := H.next_new ..
  generalize h.new (.cells false [.int .i64 a.1, ua]) = hx at *
  simp (disch := first | omega | (simp only [Qn] <;> omega)) only [go_sem, boxV_agg2 hx (v := .int .i64 b.1) rfl wb.2.1]
  have hfy : Fr hx (hx.new (.cells false [.int .i64 b.1, ub])) := (Fr.refl hx).new _
  have hgy : (hx.new (.cells false [.int .i64 b.1, ub])).get hx.next = some (.cells false [.int .i64 b.1, ub]) := H.get_new_same ..
  have hny : (hx.new (.cells false [.int .i64 b.1, ub])).next = hx.next + 1 := H.next_new ..
  generalize hx.new (.cells false [.int .i64 b.1, ub]) = hy at *
  have F := hfx.trans hfy
  have rx := row_two ((hfy.get h.next (by omega)).trans hgx)
  have ry := row_two hgy
  by_cases he : e = 0
  · rw [decide_eq_true he]
    simp (disch := first | omega | (simp only [Qn] <;> omega)) only [go_sem, rx, ry]
    refine (Same_ok _ _ a b hy ⟨ua, rfl, hua.mono F⟩ ⟨ub, rfl, hub.mono F⟩ fa fb).mono ?_
    rintro v h3 ⟨rfl, f3⟩
    simp (disch := first | omega | (simp only [Qn] <;> omega)) only [go_sem]
    refine ⟨?_, F.trans f3⟩
    congr 1
    rw [decide_eq_decide]
    exact ⟨fun h => ⟨he, h⟩, fun h => h.2⟩
  · rw [decide_eq_false he]
    simp (disch := first | omega | (simp only [Qn] <;> omega)) only [go_sem, undef_eq]
    exact ⟨by rw [decide_eq_false fun h => he h.1], F⟩
def mA : Mat := (5, [[1, 2], [3, 4]])
def mB : Mat := (5, [[0, 1], [1, 0]])
theorem lv_mul : MulF mA mB = ((5, [[2, 1], [4, 3]]), 0) := by decide +kernel
theorem lv_det : DetF mA = (3, 0) := by decide +kernel
theorem lv_sq : sqF mA = 0 := by decide +kernel
theorem lv_inv : InvF mA = ((5, [[3, 1], [4, 2]]), 0) := by
  have i : IsInv 5 2 (ent mA.2) (ent [[3, 1], [4, 2]]) := ⟨fun i j hi hj => (by decide : ∀ i, i < 2 → ∀ j, j < 2 → 0 ≤ ent [[3, 1], [4, 2]] i j) i hi j hj, fun i j hi hj => (by decide : ∀ i, i < 2 → ∀ j, j < 2 → ent [[3, 1], [4, 2]] i j < 5) i hi j hj, fun i j hi hj => (by decide +kernel : ∀ i, i < 2 → ∀ j, j < 2 → mulM 2 (ent [[3, 1], [4, 2]]) (ent mA.2) i j % 5 = idM i j % 5) i hi j hj⟩
  have e := invX_eq i
  rw [InvF, if_neg (by rw [lv_sq]; decide), if_neg (by decide +kernel)]
  rw [show mA.1 = 5 from rfl, show mA.2.length = 2 from rfl, ← e]
  decide +kernel
theorem lv_ord : OrderF mA = (8, 0) := by
  rw [OrderF, if_neg (by rw [lv_inv]; decide)]
  decide +kernel
theorem lit22 (h : H) (a b c d : Int) : ∃ h3, ((h.new (.cells false (ints [a, b]))).new (.cells false (ints [c, d]))).new (.cells false [.sl h.next 0 2 (.kn 2), .sl (h.next + 1) 0 2 (.kn 2)]) = h3 ∧ Fr h h3 ∧ SR h3 (.sl (h.next + 1 + 1) 0 2 (.kn 2)) [[a, b], [c, d]] ∧ h3.next = h.next + 3 := by
  refine ⟨_, rfl, (((Fr.refl h).new _).new _).new _, sr_two (ri := false) (rj := false) (rk := false) (i := h.next) (j := h.next + 1) ?_ ?_ ?_ ?_ ?_ ?_, rfl⟩
  · rw [H.get_new_ne _ (by simp only [H.next_new]; omega), H.get_new_ne _ (by simp only [H.next_new]; omega)]; exact H.get_new_same ..
  · rw [H.get_new_ne _ (by simp only [H.next_new]; omega)]; exact H.get_new_same (h.new _) _
  · exact H.get_new_same ((h.new _).new _) _
  · simp only [H.next_new]; omega
  · simp only [H.next_new]; omega
  · simp only [H.next_new]; omega
theorem litV22 {b0 h : H} (f0 : Fr b0 h) (a b c d : Int) (i j k m : Nat) (hi : b0.next ≤ i) (hj : i < j) (hk : j < k) (hm : k < m) : ∃ h3, litV (litV (litV h i (ints [a, b]) m) j (ints [c, d]) m) k [.sl i 0 2 (.kn 2), .sl j 0 2 (.kn 2)] m = h3 ∧ Fr b0 h3 ∧ SR h3 (.sl k 0 2 (.kn 2)) [[a, b], [c, d]] ∧ h3.next = m := by
  refine ⟨_, rfl, litV_fr (litV_fr (litV_fr f0 (by omega) (by omega) _) (by omega) (by omega) _) (by omega) (by omega) _, sr_two (ri := false) (rj := false) (rk := false) (i := i) (j := j) ?_ ?_ ?_ ?_ ?_ ?_, rfl⟩
  · rw [litV_ne _ _ _ (by omega), litV_ne _ _ _ (by omega)]; exact litV_get ..
  · rw [litV_ne _ _ _ (by omega)]; exact litV_get ..
  · exact litV_get ..
  · rw [litV_next]; omega
  · rw [litV_next]; omega
  · rw [litV_next]; omega
theorem fit22 (a b c d : Int) : Fit (5, [[a, b], [c, d]]) := ⟨by simp, fun i hi => by
  have : i = 0 ∨ i = 1 := by simp at hi; omega
  rcases this with rfl | rfl <;> simp⟩
set_option maxHeartbeats 8000000 in
theorem lives_ok (h : H) : Ev T n_law04_lives [] h (fun v h' => v = .bool true ∧ Fr h h') := by
  refine Ev_of t_law04_lives rfl ?_
  simp (disch := first | omega | (simp only [Qn] <;> omega)) only [go_sem, c_law04_lives, initV_eq, bls_int2, bls_sl2]
  obtain ⟨h1, e1, f1, s1, n1⟩ := lit22 h 1 2 3 4
  rw [e1]
  refine (of_ok _ _ h1 s1).mono ?_
  rintro w h2 ⟨rfl, f2⟩
  simp (disch := first | omega | (simp only [Qn] <;> omega)) only [go_sem, bls_int2, bls_sl2]
  obtain ⟨h3, e3, f3, s3, n3⟩ := lit22 h2 0 1 1 0
  rw [e3]
  refine (of_ok _ _ h3 s3).mono ?_
  rintro w h4 ⟨rfl, f4⟩
  have sA := ((s1.mono f2).mono f3).mono f4
  have sB := s3.mono f4
  have F4 := ((f1.trans f2).trans f3).trans f4
  have hstA := fun hh id => stV_agg2 hh id 0 (v := .int .i64 5) (u := .sl (h.next + 1 + 1) 0 2 (.kn 2)) rfl rfl
  have hstB := fun hh id => stV_agg2 hh id 0 (v := .int .i64 5) (u := .sl (h2.next + 1 + 1) 0 2 (.kn 2)) rfl rfl
  obtain ⟨ua, hua⟩ : ∃ u, V.sl (h.next + 1 + 1) 0 2 (.kn 2) = u := ⟨_, rfl⟩
  obtain ⟨ub, hub⟩ : ∃ u, V.sl (h2.next + 1 + 1) 0 2 (.kn 2) = u := ⟨_, rfl⟩
  rw [hua] at sA hstA
  rw [hub] at sB hstB
  rw [hua, hub]
  simp (disch := first | omega | (simp only [Qn] <;> omega)) only [go_sem]
  have hfa : Fr h4 (h4.new (.cells false [.int .i64 0, .nils])) := (Fr.refl h4).new _
  have hga : (h4.new (.cells false [.int .i64 0, .nils])).get h4.next = some (.cells false [.int .i64 0, .nils]) := H.get_new_same ..
  have hna : (h4.new (.cells false [.int .i64 0, .nils])).next = h4.next + 1 := H.next_new ..
  generalize h4.new (.cells false [.int .i64 0, .nils]) = ha at *
  rw [← hna]
  have hfb : Fr ha (ha.new (.cells false [.int .i64 0, .nils])) := (Fr.refl ha).new _
  have hgb : (ha.new (.cells false [.int .i64 0, .nils])).get ha.next = some (.cells false [.int .i64 0, .nils]) := H.get_new_same ..
  have hnb : (ha.new (.cells false [.int .i64 0, .nils])).next = ha.next + 1 := H.next_new ..
  generalize ha.new (.cells false [.int .i64 0, .nils]) = hb at *
  obtain ⟨A, hA⟩ : ∃ A, h4.next = A := ⟨_, rfl⟩
  obtain ⟨B, hB⟩ : ∃ B, ha.next = B := ⟨_, rfl⟩
  rw [hB] at hgb
  rw [hA] at hga
  have ga : hb.get A = some (.cells false [.int .i64 0, .nils]) := (hfb.get A (by omega)).trans hga
  have nab : B ≠ A := by omega
  rw [hA, hB]
  simp (disch := first | omega | (simp only [Qn] <;> omega)) only [go_sem, hstA, hstB, ga, hgb]
  have fC : Fr h4 ((hb.set A (some (.cells false [.int .i64 5, ua]))).set B (some (.cells false [.int .i64 5, ub]))) := (((hfa.trans hfb).set (by omega) _).set (by omega) _)
  have gA : ((hb.set A (some (.cells false [.int .i64 5, ua]))).set B (some (.cells false [.int .i64 5, ub]))).get A = some (.cells false [.int .i64 5, ua]) := by
    rw [H.get_set_ne _ (by omega)]; exact H.get_set_same ..
  have gB : ((hb.set A (some (.cells false [.int .i64 5, ua]))).set B (some (.cells false [.int .i64 5, ub]))).get B = some (.cells false [.int .i64 5, ub]) := H.get_set_same ..
  have nC : ((hb.set A (some (.cells false [.int .i64 5, ua]))).set B (some (.cells false [.int .i64 5, ub]))).next = B + 1 := by rw [H.next_set, H.next_set]; omega
  generalize (hb.set A (some (.cells false [.int .i64 5, ua]))).set B (some (.cells false [.int .i64 5, ub])) = hC at *
  have FC := F4.trans fC
  have MA : MatV hC (.agg [.int .i64 5, ua]) mA := ⟨ua, rfl, sA.mono fC⟩
  have MB : MatV hC (.agg [.int .i64 5, ub]) mB := ⟨ub, rfl, sB.mono fC⟩
  simp (disch := first | omega | (simp only [Qn] <;> omega)) only [go_sem, row_two gA, row_two gB]
  refine (Mul_ok _ _ mA mB hC MA MB (by decide) (by decide)).mono ?_
  rintro v h5 ⟨w, rfl, ⟨u5, ws5, rfl, R5⟩, f5⟩
  rw [lv_mul]
  rw [lv_mul] at R5
  have v5 := SV.what R5.own.sv
  have hst5 := fun hh id => stV_agg2 hh id 0 (v := .int .i64 5) (u := u5) rfl v5.2.1
  simp (disch := first | omega | (simp only [Qn] <;> omega)) only [go_sem, hst5, bxH_eq]
  have f6 := f5.trans (bxH_fr h5 5 u5)
  have s6 := R5.sr.mono (bxH_fr h5 5 u5)
  have g6 := bxH_get h5 5 u5
  have n6 := bxH_next h5 5 u5
  generalize bxH h5 5 u5 = h6 at *
  have gA6 := (f6.get A (by omega)).trans gA
  simp (disch := first | omega | (simp only [Qn] <;> omega)) only [go_sem, row_two gA6]
  refine (Det_ok _ mA h6 (MA.mono f6) (by decide)).mono ?_
  rintro v h7 ⟨rfl, f7⟩
  rw [lv_det]
  have f67 := f6.trans f7
  have gA7 := (f67.get A (by omega)).trans gA
  simp (disch := first | omega | (simp only [Qn] <;> omega)) only [go_sem, row_two gA7]
  refine (Inv_ok _ mA h7 (MA.mono f67) (by decide)).mono ?_
  rintro v h8 ⟨w, rfl, ⟨u8, ws8, rfl, R8⟩, f8⟩
  rw [lv_inv]
  rw [lv_inv] at R8
  have v8 := SV.what R8.own.sv
  have hst8 := fun hh id => stV_agg2 hh id 0 (v := .int .i64 5) (u := u8) rfl v8.2.1
  simp (disch := first | omega | (simp only [Qn] <;> omega)) only [go_sem, hst8, bxH_eq]
  have f9 := f8.trans (bxH_fr h8 5 u8)
  have s9 := R8.sr.mono (bxH_fr h8 5 u8)
  have g9 := bxH_get h8 5 u8
  have n9 := bxH_next h8 5 u8
  generalize bxH h8 5 u8 = h9 at *
  have F79 := f67.trans f9
  have gA9 := (F79.get A (by omega)).trans gA
  simp (disch := first | omega | (simp only [Qn] <;> omega)) only [go_sem, row_two gA9]
  refine (Order_ok _ mA h9 (MA.mono F79) (by decide)).mono ?_
  rintro v h10 ⟨rfl, f10⟩
  rw [lv_ord]
  have f5n := f5.next
  have f7n := f7.next
  have f8n := f8.next
  have f10n := f10.next
  have F10 := FC.trans (F79.trans f10)
  have g10 := ((f7.trans f9).trans f10).get h5.next (by omega)
  rw [g6] at g10
  have s10 := ((s6.mono f7).mono f9).mono f10
  have g10' := (f10.get h8.next (by omega)).trans g9
  have s10' := s9.mono f10
  have rb : (H.mk h10.tr (h10.next + 33)).row h5.next 0 2 = some [.int .i64 5, u5] := row_two g10
  simp (disch := first | omega | (simp only [Qn] <;> omega)) only [go_sem, rb, bls_int2, bls_sl2, litV_eq]
  obtain ⟨h11, e11, f11, s11, n11⟩ := litV22 (Fr.refl h10) 2 1 4 3 (h10.next + 2) (h10.next + 3) (h10.next + 4) (h10.next + 33) (by omega) (by omega) (by omega) (by omega)
  rw [e11]
  refine (of_ok _ _ h11 s11).mono ?_
  rintro w h12 ⟨rfl, f12⟩
  have r12 := row_two (((f11.trans f12).get h5.next (by omega)).trans g10)
  have e5 := SV.eqV R5.own.sv
  simp (disch := first | omega | (simp only [Qn] <;> omega)) only [go_sem, r12, e5]
  refine (is_ok _ _ 0 (5, [[2, 1], [4, 3]]) (5, [[2, 1], [4, 3]]) h12 ⟨u5, rfl, (s10.mono f11).mono f12⟩ ⟨_, rfl, s11.mono f12⟩ (fit22 ..) (fit22 ..)).mono ?_
  rintro v h13 ⟨rfl, f13⟩
  rw [decide_eq_true (show (0 : Int) = 0 ∧ ((5, [[2, 1], [4, 3]]) : Mat) = (5, [[2, 1], [4, 3]]) from ⟨rfl, rfl⟩)]
  have F13 := (f11.trans f12).trans f13
  have g13 := (F13.get h8.next (by omega)).trans g10'
  have n12 := f12.next
  have n13 := f13.next
  have r13 := row_two g13
  simp (disch := first | omega | (simp only [Qn] <;> omega)) only [go_sem, decide_true, r13, bls_int2, bls_sl2, litV_eq]
  obtain ⟨h14, e14, f14, s14, n14⟩ := litV22 F13 3 1 4 2 (h10.next + 18) (h10.next + 19) (h10.next + 20) h13.next (by omega) (by omega) (by omega) (by omega)
  rw [e14]
  refine (of_ok _ _ h14 s14).mono ?_
  rintro w h15 ⟨rfl, f15⟩
  have F15 := f14.trans f15
  have r15 := row_two ((F15.get h8.next (by omega)).trans g10')
  have e8 := SV.eqV R8.own.sv
  simp (disch := first | omega | (simp only [Qn] <;> omega)) only [go_sem, r15, e8]
  refine (is_ok _ _ 0 (5, [[3, 1], [4, 2]]) (5, [[3, 1], [4, 2]]) h15 ⟨u8, rfl, s10'.mono F15⟩ ⟨_, rfl, s14.mono f15⟩ (fit22 ..) (fit22 ..)).mono ?_
  rintro v h16 ⟨rfl, f16⟩
  rw [decide_eq_true (show (0 : Int) = 0 ∧ ((5, [[3, 1], [4, 2]]) : Mat) = (5, [[3, 1], [4, 2]]) from ⟨rfl, rfl⟩)]
  simp (disch := first | omega | (simp only [Qn] <;> omega)) only [go_sem, decide_true]
  exact F10.trans (F15.trans f16)
end Go.Proofs.Ytonhijbeddcmpaa
/- Layer 4: the laws' numbers: field, drawn; boxes; valid matrices. -/
namespace Go.Proofs.Ytonhijbeddcmpaa
open Go Go.Ay
set_option maxRecDepth 100000
theorem Own.fx {x : Nat} {h h' : H} {v : V} {sz : Nat} {ws : List V} {b : Nat} (o : Own h v sz ws b) (hx : x < b) (f : Fx x h h') : Own h' v sz ws b :=
  o.mono f.next fun id _ _ _ _ h1 h2 => f.get id h2 (by omega)
theorem Rws.fx {x : Nat} {h h' : H} {u : V} {ws : List V} {ll : List (List Int)} {lo : Nat} (r : Rws h u ws ll lo) (hx : x < lo) (f : Fx x h h') : Rws h' u ws ll lo :=
  ⟨Own.fx r.own hx f, All2.keep r.row fun w hw _ s => SI.fx s (r.frs w hw) hx f, r.dis, r.frs⟩
theorem MatO.fx {x : Nat} {h h' : H} {v : V} {a : Mat} {lo : Nat} (o : MatO h v a lo) (hx : x < lo) (f : Fx x h h') : MatO h' v a lo := by
  obtain ⟨u, ws, e, r⟩ := o
  exact ⟨u, ws, e, Rws.fx r hx f⟩
theorem lawfield_ok (k : Int) (h : H) : Ev T n_law04_field [.int .i64 k] h (fun v h' => ∃ p, v = .int .i64 p ∧ fieldF p = true ∧ Fr h h') := by
  refine Ev_of t_law04_field rfl ?_
  have hb : blsV h 1 [.int .i64 0] 7 [(0, 1, .int .i64 2), (1, 1, .int .i64 3), (2, 1, .int .i64 5), (3, 1, .int .i64 7), (4, 1, .int .i64 11), (5, 1, .int .i64 97), (6, 1, .int .i64 9973)] = some (.sl h.next 0 7 (.kn 7), h.new (.cells false (ints [2, 3, 5, 7, 11, 97, 9973]))) := rfl
  simp (disch := first | omega | (simp only [Qn] <;> omega)) only [go_sem, c_law04_field, initV_eq, hb]
  have hfa : Fr h (h.new (.cells false (ints [2, 3, 5, 7, 11, 97, 9973]))) := (Fr.refl h).new _
  have hga : (h.new (.cells false (ints [2, 3, 5, 7, 11, 97, 9973]))).get h.next = some (.cells false (ints [2, 3, 5, 7, 11, 97, 9973])) := H.get_new_same ..
  have hna : (h.new (.cells false (ints [2, 3, 5, 7, 11, 97, 9973]))).next = h.next + 1 := H.next_new ..
  generalize h.new (.cells false (ints [2, 3, 5, 7, 11, 97, 9973])) = ha at *
  refine (pick_ok k 7 ha (by omega) (by omega)).mono ?_
  rintro v h' ⟨rfl, rfl⟩
  have r := tmod_range k (show (0 : Int) < 7 by omega)
  obtain ⟨t, ht⟩ : ∃ t : Nat, k % 7 = (t : Int) := ⟨(k % 7).toNat, by omega⟩
  have ht7 : t < 7 := by omega
  rw [ht]
  have c : h'.cell h.next t = some (.int .i64 (([2, 3, 5, 7, 11, 97, 9973] : List Int).getD t 0)) := own_cell hga t ht7
  simp (disch := first | omega | (simp only [Qn] <;> omega)) only [go_sem, c]
  refine ⟨_, rfl, ?_, hfa⟩
  have key : ∀ t, t < 7 → fieldF (([2, 3, 5, 7, 11, 97, 9973] : List Int).getD t 0) = true := by decide +kernel
  exact key t ht7
/-- Entries that are residues. -/
def InP (p : Int) (n : Nat) (A : Mx) : Prop := ∀ i k, i < n → k < n → 0 ≤ A i k ∧ A i k < p
set_option maxHeartbeats 4000000 in
theorem drawn_ok (x : Nat) (l : List Int) (n : Nat) (p : Int) (h : H) (ht : Tk h x l) (hl : l.length < 1000000) (hn : n ≤ 64) (hp : 1 ≤ p ∧ p < 10000) :
    Ev T n_law04_drawn [.ptr x 0, .int .i64 (n : Int), .int .i64 p] h (fun w h' => ∃ A, InP p n A ∧ MatO h' w (p, mkR n n A) h.next ∧ Tk h' x l ∧ Fx x h h') := by
  have hx : x < h.next := by obtain ⟨_, _, _, _, _, _, h5⟩ := ht; exact h5
  refine Ev_of t_law04_drawn rfl ?_
  have hbl := bldV_fst (z1 := .int .i64 0) (z2 := .nils) (v := .int .i64 p) rfl rfl
  have hst := fun hh id => stV_agg2 hh id 0 (v := .int .i64 p) (u := .nils) rfl rfl
  simp (disch := first | omega | (simp only [Qn] <;> omega)) only [go_sem, c_law04_drawn, initV_eq, hbl]
  have hfa : Fr h (h.new (.cells false [.int .i64 0, .nils])) := (Fr.refl h).new _
  have hga : (h.new (.cells false [.int .i64 0, .nils])).get h.next = some (.cells false [.int .i64 0, .nils]) := H.get_new_same ..
  have hna : (h.new (.cells false [.int .i64 0, .nils])).next = h.next + 1 := H.next_new ..
  generalize h.new (.cells false [.int .i64 0, .nils]) = ha at *
  rw [← hna]
  simp (disch := first | omega | (simp only [Qn] <;> omega)) only [go_sem, hst, bxH_eq]
  have fB := hfa.trans (bxH_fr ha p .nils)
  have gB := bxH_get ha p .nils
  have nB := bxH_next ha p .nils
  have gA := ((bxH_fr ha p .nils).get h.next (by omega)).trans hga
  generalize bxH ha p .nils = hB at *
  obtain ⟨O, hO⟩ : ∃ O, ha.next = O := ⟨_, rfl⟩
  rw [hO] at gB nB
  rw [hO]
  refine Wp_loop (fun k' vars h3 => ∃ (i : Nat) (A : Mx) (u : V) (ws : List V), (∃ g : Nat → V, vars = [.ptr x 0, .int .i64 (n : Int), .int .i64 p, .ptr h.next 0, .ptr O 0, .int .i64 (i : Int), g 6, g 7, g 8, g 9]) ∧ i ≤ n ∧ (∀ a b, a < i → b < n → 0 ≤ A a b ∧ A a b < p) ∧ Rws h3 u ws (mkR i n A) (O + 1) ∧ h3.get O = some (.cells false [.int .i64 p, u]) ∧ h3.get h.next = some (.cells false [.int .i64 0, .nils]) ∧ O < h3.next ∧ Tk h3 x l ∧ Fx x h h3 ∧ k' = n - i) n
    ⟨0, fun _ _ => 0, .nils, [], ex_junk rfl, Nat.zero_le _, fun a b ha => absurd ha (Nat.not_lt_zero a), Rws.nils _ _, gB, gA, by omega, ht.mono fB, Fx.of fB, rfl⟩ ?_
  clear gB gA nB fB ht
  rintro k' vars h3 ⟨i, A, u, ws, ⟨g, rfl⟩, hi, hA, R3, g3, a3, o3, ht, FX, rfl⟩
  simp (disch := first | omega | (simp only [Qn] <;> omega)) only [go_sem]
  by_cases hlt : (i : Int) < (n : Int)
  · rw [decide_eq_true hlt]
    simp (disch := first | omega | (simp only [Qn] <;> omega)) only [go_sem]
    refine Wp_loop (fun k' vars h4 => ∃ (k : Nat) (r : Nat → Int) (v : V), (∃ g : Nat → V, vars = [.ptr x 0, .int .i64 (n : Int), .int .i64 p, .ptr h.next 0, .ptr O 0, .int .i64 (i : Int), v, .int .i64 (k : Int), g 8, g 9]) ∧ k ≤ n ∧ (∀ b, b < k → 0 ≤ r b ∧ r b < p) ∧ Own h4 v 1 (ints (mkV k r)) h3.next ∧ Tk h4 x l ∧ Fx x h3 h4 ∧ k' = n - k) n
      ⟨0, fun _ => 0, .nils, ex_junk rfl, Nat.zero_le _, fun b hb => absurd hb (Nat.not_lt_zero b), Own.nils _ _ _, ht, Fx.refl _ _, rfl⟩ ?_
    rintro k' vars h4 ⟨k, r, v, ⟨g, rfl⟩, hk, hr, ov, ht4, FX4, rfl⟩
    simp (disch := first | omega | (simp only [Qn] <;> omega)) only [go_sem]
    by_cases hlt2 : (k : Int) < (n : Int)
    · rw [decide_eq_true hlt2]
      simp (disch := first | omega | (simp only [Qn] <;> omega)) only [go_sem]
      refine (take_ok x l p h4 ht4 hl hp.1 (by omega)).mono ?_
      rintro vz h5 ⟨z, rfl, z1, z2, ht5, FX5⟩
      simp (disch := first | omega | (simp only [Qn] <;> omega)) only [go_sem, bls_int]
      have n34 := FX4.next
      have n45 := FX5.next
      have o5 := (Own.fx ov (by omega) FX5).fr ((Fr.refl h5).new (.cells false (ints [z])))
      have hy : SV (h5.new (.cells false (ints [z]))) (.sl h5.next 0 1 (.kn 1)) 1 (ints [z]) := SV.all rfl (by rw [H.next_new]; omega) (H.get_new_same ..) _
      obtain ⟨v6, h6, e6, a6⟩ := o5.app (bytes := 8) (n := k) (m := 1) (by rw [H.next_new]; omega) hy (by rw [ints_length, mkV_len, Nat.mul_one]) rfl (by omega) (by omega)
      simp (disch := first | omega | (simp only [Qn] <;> omega)) only [go_sem, e6]
      rw [show (k : Int) + 1 = ((k + 1 : Nat) : Int) from by omega]
      have n6 := a6.next
      rw [H.next_new] at n6
      have g6 : ∀ id, id < h3.next → h6.get id = h5.get id := fun id hid => (a6.get id (by rw [H.next_new]; omega) (own_apart o5 hid)).trans (H.get_new_ne _ (by omega) _)
      have e : ints (mkV k r) ++ ints [z] = ints (mkV (k + 1) fun b => if b = k then z else r b) := by
        rw [mkV_succ, if_pos rfl, ints_append, mkV_congr (g := r) fun b hb => if_neg (by omega)]
      have oo := a6.own
      rw [e] at oo
      refine ⟨n - (k + 1), by omega, k + 1, _, v6, ex_junk rfl, by omega, fun b hb => ?_, oo, ht5.low (by omega) fun id hid => g6 id (by omega), ⟨by omega, fun id hid hne => (g6 id hid).trans ((FX4.trans FX5).get id hid hne)⟩, rfl⟩
      by_cases e : b = k
      · rw [if_pos e]; exact ⟨z1, z2⟩
      · rw [if_neg e]; exact hr b (by omega)
    · rw [decide_eq_false hlt2]
      obtain rfl : n = k := by omega
      have n34 := FX4.next
      have g4 := (FX4.get O (by omega) (by omega)).trans g3
      have a4 := (FX4.get h.next (by omega) (by omega)).trans a3
      have cO : h4.cell O 1 = some u := by rw [H.cell_of g4]; rfl
      have vv := SV.what ov.sv
      have R4 := (Rws.fx R3 (by omega) FX4).fr ((Fr.refl h4).new (.cells false [v]))
      have hy : SV (h4.new (.cells false [v])) (.sl h4.next 0 1 (.kn 1)) 1 [v] := SV.all rfl (by rw [H.next_new]; omega) (H.get_new_same ..) _
      have hlen := R3.row.length
      rw [mkR_len] at hlen
      have sv4 : SI h4 v (mkV n r) := ov.sv
      obtain ⟨w, h6, e6, R6, n6, k6, q6⟩ := R4.app (by rw [H.next_new]; omega) hy (sv4.mono ((Fr.refl h4).new _)) (Own.dis R3.own ov) (Frs.le (Frs.own ov) (by omega)) (by omega)
      rw [H.next_new] at n6
      have hlow : ∀ id, id < O + 1 → h6.get id = h4.get id := fun id hid => (k6 id (by rw [H.next_new]; omega) (own_apart R4.own hid)).trans (H.get_new_ne _ (by omega) _)
      have g6 := (hlow O (by omega)).trans g4
      have hv := SV.what R6.own.sv
      have hst1 := fun hh => stV_one hv.1 hv.2.1 hh O 1
      have cO' : (h4.new (.cells false [v])).cell O 1 = some u := by rw [H.cell_new_ne _ (by omega)]; exact cO
      simp (disch := first | omega | (simp only [Qn] <;> omega)) only [go_sem, cO, bls_v h4 v vv.1 vv.2.1, e6, hst1, g6, putO_snd]
      rw [show (i : Int) + 1 = ((i + 1 : Nat) : Int) from by omega]
      have em : mkR i n A ++ [mkV n r] = mkR (i + 1) n (fun a b => if a = i then r b else A a b) := by
        rw [mkR_succ, mkR_congr (g := A) fun a b ha _ => if_neg (by omega), mkV_congr (f := fun b => if i = i then r b else A i b) (g := r) fun b _ => if_pos rfl]
      rw [em] at R6
      refine ⟨n - (i + 1), by omega, i + 1, _, w, _, ex_junk rfl, by omega, fun a b ha hb => ?_, R6.set (by omega) _, rfl, ?_, ?_, ?_, ?_, rfl⟩
      · by_cases e : a = i
        · rw [if_pos e]; exact hr b hb
        · rw [if_neg e]; exact hA a b (by omega) hb
      · exact (hlow h.next (by omega)).trans a4
      · show O < h6.next; omega
      · refine ht4.low (by show h4.next ≤ h6.next; omega) fun id hid => ?_
        rw [H.get_set_ne _ (by omega)]; exact hlow id (by omega)
      · refine ⟨by show h.next ≤ h6.next; have := FX.next; omega, fun id hid hne => ?_⟩
        rw [H.get_set_ne _ (by omega)]
        exact (hlow id (by omega)).trans ((FX.trans FX4).get id hid hne)
  · rw [decide_eq_false hlt]
    obtain rfl : n = i := by omega
    have rr := row_two g3
    have vu := SV.what R3.own.sv
    have hst2 := fun hh => stV_agg2 hh h.next 0 (v := .int .i64 p) (u := u) rfl vu.2.1
    have hrow := row_two (h := h3.set h.next (some (.cells false [.int .i64 p, u]))) (H.get_set_same ..)
    simp (disch := first | omega | (simp only [Qn] <;> omega)) only [go_sem, rr, hst2, a3, hrow]
    refine ⟨A, fun a b ha hb => hA a b ha hb, ⟨u, ws, rfl, (R3.set (by omega) _).le (by omega)⟩, ?_, FX.setf (Nat.le_refl _) _⟩
    refine ht.low (Nat.le_refl _) fun id hid => H.get_set_ne _ (by omega) _
end Go.Proofs.Ytonhijbeddcmpaa
/- Layer 4: valid square matrices; boxes. -/
namespace Go.Proofs.Ytonhijbeddcmpaa
open Go Go.Ay
set_option maxRecDepth 100000
/-- Valid square matrices. -/
structure Sq (p : Int) (n : Nat) : Prop where
  f : fieldF p = true
  n1 : 1 ≤ n
  n2 : n ≤ 64
theorem Sq.p {p : Int} {n : Nat} (s : Sq p n) : 2 ≤ p ∧ p < 10000 := fieldF_range s.f
theorem len0 {n : Nat} (h1 : 1 ≤ n) (A : Mx) : ((mkR n n A).getD 0 []).length = n := by rw [mkR_row _ h1, mkV_len]
theorem Sq.vd {p : Int} {n : Nat} (s : Sq p n) {A : Mx} (hA : InP p n A) : Vd (p, mkR n n A) n :=
  ⟨s.f, by simp only [mkR_len]; exact s.n1, by simp only [mkR_len]; exact s.n2, s.n1, s.n2, fun i hi => by
    simp only [mkR_len] at hi
    simp only
    rw [mkR_row _ hi, mkV_len], fun i k hi hk => by
    simp only [mkR_len] at hi
    simp only
    rw [mkR_ent _ hi hk]; exact (hA i k hi hk).1, fun i k hi hk => by
    simp only [mkR_len] at hi
    simp only
    rw [mkR_ent _ hi hk]; exact (hA i k hi hk).2⟩
theorem Sq.fit {p : Int} {n : Nat} (s : Sq p n) {A B : Mx} (hA : InP p n A) (hB : InP p n B) : fitF (p, mkR n n A) (p, mkR n n B) = 0 := by
  rw [fitF, vd_check (s.vd hA), vd_check (s.vd hB)]; simp
theorem Sq.fits {p : Int} {n : Nat} (s : Sq p n) (A : Mx) : Fit (p, mkR n n A) := by
  have := s.n2
  refine ⟨by simp only [mkR_len]; omega, fun i hi => ?_⟩
  simp only [mkR_len] at hi
  simp only
  rw [mkR_row _ hi, mkV_len]; omega
theorem Sq.la {p : Int} {n : Nat} (s : Sq p n) (A : Mx) : (((p, mkR n n A) : Mat).2.length : Int) ≤ 2 ^ 63 - 1 := by
  have := s.n2
  simp only [mkR_len]; omega
def mmP (p : Int) (n : Nat) (A B : Mx) : Mx := fun i k => mulM n A B i k % p
theorem Sq.mul {p : Int} {n : Nat} (s : Sq p n) {A B : Mx} (hA : InP p n A) (hB : InP p n B) : MulF (p, mkR n n A) (p, mkR n n B) = ((p, mkR n n (mmP p n A B)), 0) := by
  rw [MulF, s.fit hA hB, if_neg (by simp), if_neg (by simp only [mkR_len, len0 s.n1, ne_eq, not_true_eq_false, not_false_eq_true])]
  simp only [len0 s.n1, mulF, mkR_len]
  rw [mkR_congr fun i k hi hk => ?_]
  refine congrArg (· % p) (sm_congr fun j hj => ?_)
  rw [mkR_ent _ hi hj, mkR_ent _ hj hk]
theorem Sq.mm {p : Int} {n : Nat} (s : Sq p n) (A B : Mx) : InP p n (mmP p n A B) := fun i k _ _ => tmod_range _ (by have := s.p; omega)
theorem Sq.add {p : Int} {n : Nat} (s : Sq p n) {A B : Mx} (hA : InP p n A) (hB : InP p n B) : AddF (p, mkR n n A) (p, mkR n n B) = ((p, mkR n n (fun i k => (A i k + B i k) % p)), 0) := by
  rw [AddF, s.fit hA hB, if_neg (by simp), if_neg (by simp only [mkR_len, len0 s.n1, ne_eq, not_true_eq_false, or_self, not_false_eq_true])]
  simp only [len0 s.n1, mkR_len]
  rw [mkR_congr fun i k hi hk => ?_]
  rw [mkR_ent _ hi hk, mkR_ent _ hi hk, Int.one_mul]
theorem Sq.ad {p : Int} {n : Nat} (s : Sq p n) (A B : Mx) : InP p n (fun i k => (A i k + B i k) % p) := fun i k _ _ => tmod_range _ (by have := s.p; omega)
theorem Sq.turn {p : Int} {n : Nat} (s : Sq p n) {A : Mx} (hA : InP p n A) : TurnF (p, mkR n n A) = ((p, mkR n n (trM A)), 0) := by
  rw [TurnF, vd_check (s.vd hA), if_neg (by simp)]
  simp only [len0 s.n1, mkR_len]
  rw [mkR_congr fun i k hi hk => ?_]
  rw [mkR_ent _ hk hi]; rfl
theorem Sq.tr {p : Int} {n : Nat} {A : Mx} (hA : InP p n A) : InP p n (trM A) := fun i k hi hk => hA k i hk hi
theorem Sq.scale {p : Int} {n : Nat} (s : Sq p n) {A : Mx} (hA : InP p n A) (k : Int) : ScaleF (p, mkR n n A) k = ((p, mkR n n (fun i j => (k % p) * A i j % p)), 0) := by
  rw [ScaleF, vd_check (s.vd hA), if_neg (by simp)]
  simp only [len0 s.n1, mkR_len]
  rw [mkR_congr fun i j hi hj => ?_]
  rw [mkR_ent _ hi hj]
theorem Sq.sc {p : Int} {n : Nat} (s : Sq p n) (k : Int) (A : Mx) : InP p n (fun i j => (k % p) * A i j % p) := fun i k _ _ => tmod_range _ (by have := s.p; omega)
theorem Sq.one {p : Int} {n : Nat} (s : Sq p n) : OneF (n : Int) p = ((p, mkR n n idM), 0) := by
  have := s.n1
  have := s.n2
  rw [OneF, if_neg (by rw [s.f]; simp), if_neg (by omega), Int.toNat_natCast]; rfl
theorem Sq.on {p : Int} {n : Nat} (s : Sq p n) : InP p n idM := fun i k _ _ => by
  have := s.p
  simp only [idM]
  split <;> omega
/-- A box with a matrix. -/
def MB (h : H) (id : Nat) (a : Mat) : Prop := ∃ u, h.get id = some (.cells false [.int .i64 a.1, u]) ∧ SR h u a.2 ∧ id < h.next
theorem MB.mono {h h' : H} {id : Nat} {a : Mat} (b : MB h id a) (f : Fr h h') : MB h' id a := by
  obtain ⟨u, h1, h2, h3⟩ := b
  exact ⟨u, (f.get id h3).trans h1, h2.mono f, Nat.lt_of_lt_of_le h3 f.next⟩
theorem MB.row {h : H} {id : Nat} {p : Int} {L : List (List Int)} (b : MB h id (p, L)) : ∃ u, h.row id 0 2 = some [.int .i64 p, u] ∧ MatV h (.agg [.int .i64 p, u]) (p, L) := by
  obtain ⟨u, h1, h2, h3⟩ := b
  exact ⟨u, row_two h1, u, rfl, h2⟩
theorem MB.new {h : H} {p : Int} {L : List (List Int)} {u : V} (s : SR h u L) : MB (bxH h p u) h.next (p, L) :=
  ⟨u, bxH_get h p u, s.mono (bxH_fr h p u), by rw [bxH_next]; omega⟩
theorem d6' : decide ((0 : Int) ≠ 0) = false := by decide
theorem d0' : decide ((0 : Int) = 0) = true := by decide
/-! the laws -/
theorem mm_assoc {p : Int} {n : Nat} (A B C : Mx) : mkR n n (mmP p n (mmP p n A B) C) = mkR n n (mmP p n A (mmP p n B C)) := mkR_congr fun i k _ _ => by
  have em : ∀ a : Int, a % p % p = a % p := fun a => Int.emod_emod_of_dvd _ (Int.dvd_refl p)
  simp only [mmP]
  rw [mulM_mod (A' := mulM n A B) (B' := C) (fun j _ => em _) (fun _ _ => rfl), mulM_mod (A := A) (A' := A) (B' := mulM n B C) (fun _ _ => rfl) (fun j _ => em _), mulM_assoc]
theorem mm_dist {p : Int} {n : Nat} (A B C : Mx) : mkR n n (mmP p n A (fun i k => (B i k + C i k) % p)) = mkR n n (fun i k => (mmP p n A B i k + mmP p n A C i k) % p) := mkR_congr fun i k _ _ => by
  have em : ∀ a : Int, a % p % p = a % p := fun a => Int.emod_emod_of_dvd _ (Int.dvd_refl p)
  simp only [mmP]
  rw [mulM_mod (A' := A) (B' := fun i k => B i k + C i k) (fun _ _ => rfl) (fun j _ => em _), ← Int.add_emod]
  simp only [mulM]
  rw [← sm_add]
  exact congrArg (· % p) (sm_congr fun j _ => by rw [Int.mul_add])
theorem mm_turn {p : Int} {n : Nat} (A B : Mx) : mkR n n (trM (mmP p n A B)) = mkR n n (mmP p n (trM B) (trM A)) := mkR_congr fun i k _ _ => by
  simp only [mmP, trM, mulM]
  exact congrArg (· % p) (sm_congr fun j _ => Int.mul_comm _ _)
theorem mm_scale {p : Int} {n : Nat} (A : Mx) (k : Int) : mkR n n (fun i j => (k % p) * A i j % p) = mkR n n (mmP p n A (fun i j => (k % p) * idM i j % p)) := mkR_congr fun i j _ hj => by
  have em : ∀ a : Int, a % p % p = a % p := fun a => Int.emod_emod_of_dvd _ (Int.dvd_refl p)
  simp only [mmP]
  rw [mulM_mod (A := A) (A' := A) (B' := fun i j => (k % p) * idM i j) (fun _ _ => rfl) (fun l _ => em _)]
  simp only [mulM, idM]
  rw [sm_one (t := j) hj fun l _ hne => by rw [if_neg hne]; simp, if_pos rfl]
  congr 1
  grind
end Go.Proofs.Ytonhijbeddcmpaa
/- The law MatrixRing, walked. -/
namespace Go.Proofs.Ytonhijbeddcmpaa
open Go Go.Ay
set_option maxRecDepth 100000
set_option maxHeartbeats 16000000 in
theorem ring_ok (vl : V) (l : List Int) (pp nn kk : Int) (h : H) (hc : SI h vl l) (hcl : (l.length : Int) ≤ 2 ^ 63 - 1) : Ev T n_law04_MatrixRing [vl, .int .i64 pp, .int .i64 nn, .int .i64 kk] h (fun v _ => v = .bool true) := by
  refine Ev_of t_law04_MatrixRing rfl ?_
  simp (disch := first | omega | (simp only [Qn] <;> omega)) only [go_sem, c_law04_MatrixRing, initV_eq]
  refine (lives_ok h).mono ?_
  rintro v h0 ⟨rfl, g⟩
  replace hc := hc.mono g
  clear g
  simp (disch := first | omega | (simp only [Qn] <;> omega)) only [go_sem, hc.lens]
  refine iteW_dec (fun hlong => ?_) (fun hlong => ?_)
  · simp (disch := first | omega | (simp only [Qn] <;> omega)) only [go_sem]
  have hl : l.length < 1000000 := by omega
  simp (disch := first | omega | (simp only [Qn] <;> omega)) only [go_sem]
  refine (lawfield_ok pp _).mono ?_
  rintro v hb ⟨p, rfl, hf, fb⟩
  replace hc := hc.mono fb
  clear fb
  simp (disch := first | omega | (simp only [Qn] <;> omega)) only [go_sem]
  refine (pick_ok nn 5 hb (by omega) (by omega)).mono ?_
  rintro v h1 ⟨rfl, rfl⟩
  obtain ⟨n, hn⟩ : ∃ n : Nat, 1 + nn % 5 = (n : Int) := ⟨(1 + nn % 5).toNat, by omega⟩
  have s : Sq p n := ⟨hf, by omega, by omega⟩
  have hn5 : n ≤ 5 := by omega
  have hp := s.p
  have vc := SV.what hc
  have hbl : bldV [.nils, .int .i64 0] [(0, 1, vl)] = some (.agg [vl, .int .i64 0]) := bldV_fst (z1 := .nils) (z2 := .int .i64 0) (v := vl) vc.1 vc.2.1
  have hbo := fun hh => boxV_agg2 hh (v := vl) (u := .int .i64 0) vc.2.1 rfl
  simp (disch := first | omega | (simp only [Qn] <;> omega)) only [go_sem, hn, hbl, hbo]
  have hfx : Fr h1 (h1.new (.cells false [vl, .int .i64 0])) := (Fr.refl h1).new _
  have hgx : (h1.new (.cells false [vl, .int .i64 0])).get h1.next = some (.cells false [vl, .int .i64 0]) := H.get_new_same ..
  have hnx : (h1.new (.cells false [vl, .int .i64 0])).next = h1.next + 1 := H.next_new ..
  generalize h1.new (.cells false [vl, .int .i64 0]) = hx at *
  have ht : Tk hx h1.next l := ⟨vl, 0, hgx, hc.mono hfx, fun id off len c e => by
    rcases hc with ⟨h0, _⟩ | ⟨_, _, _, _, _, _, h0, _, h3, _⟩
    · rw [h0] at e; cases e
    · rw [h0] at e; cases e; exact h3, Nat.zero_le _, by omega⟩
  have htid : h1.next < hx.next := by omega
  clear hfx hgx hnx hbl hbo hc vc
  generalize h1.next = tid at *
  refine (drawn_ok tid l n p _ ht hl (by omega) (by omega)).mono ?_
  rintro v k0 ⟨A, iA, ⟨uA, wsA, rfl, RA⟩, ht0, f0⟩
  replace RA := RA.le (lo' := tid + 1) (by omega)
  clear ht
  have ht := ht0
  replace htid := Nat.lt_of_lt_of_le htid f0.next
  simp (disch := first | omega | (simp only [Qn] <;> omega)) only [go_sem]
  refine (drawn_ok tid l n p _ ht hl (by omega) (by omega)).mono ?_
  rintro v k1 ⟨B, iB, ⟨uB, wsB, rfl, RB⟩, ht1, f1⟩
  replace RB := RB.le (lo' := tid + 1) (by omega)
  replace RA := Rws.fx RA (Nat.lt_succ_self _) f1
  clear ht
  have ht := ht1
  replace htid := Nat.lt_of_lt_of_le htid f1.next
  simp (disch := first | omega | (simp only [Qn] <;> omega)) only [go_sem]
  refine (drawn_ok tid l n p _ ht hl (by omega) (by omega)).mono ?_
  rintro v k2 ⟨C, iC, ⟨uC, wsC, rfl, RC⟩, ht2, f2⟩
  replace RC := RC.le (lo' := tid + 1) (by omega)
  replace RA := Rws.fx RA (Nat.lt_succ_self _) f2
  replace RB := Rws.fx RB (Nat.lt_succ_self _) f2
  clear ht
  have ht := ht2
  replace htid := Nat.lt_of_lt_of_le htid f2.next
  simp (disch := first | omega | (simp only [Qn] <;> omega)) only [go_sem]
  have hfA : Fr k2 (k2.new (.cells false [.int .i64 0, .nils])) := (Fr.refl k2).new _
  have hgA : (k2.new (.cells false [.int .i64 0, .nils])).get k2.next = some (.cells false [.int .i64 0, .nils]) := H.get_new_same ..
  have hnA : (k2.new (.cells false [.int .i64 0, .nils])).next = k2.next + 1 := H.next_new ..
  generalize k2.new (.cells false [.int .i64 0, .nils]) = nA at *
  have hfB : Fr nA (nA.new (.cells false [.int .i64 0, .nils])) := (Fr.refl nA).new _
  have hgB : (nA.new (.cells false [.int .i64 0, .nils])).get nA.next = some (.cells false [.int .i64 0, .nils]) := H.get_new_same ..
  have hnB : (nA.new (.cells false [.int .i64 0, .nils])).next = nA.next + 1 := H.next_new ..
  generalize nA.new (.cells false [.int .i64 0, .nils]) = nB at *
  have hfC : Fr nB (nB.new (.cells false [.int .i64 0, .nils])) := (Fr.refl nB).new _
  have hgC : (nB.new (.cells false [.int .i64 0, .nils])).get nB.next = some (.cells false [.int .i64 0, .nils]) := H.get_new_same ..
  have hnC : (nB.new (.cells false [.int .i64 0, .nils])).next = nB.next + 1 := H.next_new ..
  generalize nB.new (.cells false [.int .i64 0, .nils]) = nC at *
  have F : Fr k2 nC := ((hfA.trans hfB).trans hfC)
  obtain ⟨bA, hbA⟩ : ∃ b, k2.next = b := ⟨_, rfl⟩
  have gA : nC.get bA = some (.cells false [.int .i64 0, .nils]) := by rw [← hbA]; exact (hfC.get _ (by omega)).trans ((hfB.get _ (by omega)).trans (hgA))
  have vA := SV.what RA.own.sv
  have stA := fun hh id => stV_agg2 hh id 0 (v := .int .i64 p) (u := uA) rfl vA.2.1
  have sA := RA.sr.mono F
  obtain ⟨bB, hbB⟩ : ∃ b, nA.next = b := ⟨_, rfl⟩
  have gB : nC.get bB = some (.cells false [.int .i64 0, .nils]) := by rw [← hbB]; exact (hfC.get _ (by omega)).trans (hgB)
  have vB := SV.what RB.own.sv
  have stB := fun hh id => stV_agg2 hh id 0 (v := .int .i64 p) (u := uB) rfl vB.2.1
  have sB := RB.sr.mono F
  obtain ⟨bC, hbC⟩ : ∃ b, nB.next = b := ⟨_, rfl⟩
  have gC : nC.get bC = some (.cells false [.int .i64 0, .nils]) := by rw [← hbC]; exact hgC
  have vC := SV.what RC.own.sv
  have stC := fun hh id => stV_agg2 hh id 0 (v := .int .i64 p) (u := uC) rfl vC.2.1
  have sC := RC.sr.mono F
  rw [← hnA, ← hnB, hbA, hbB, hbC]
  have neAB : bA ≠ bB := by omega
  have neAC : bA ≠ bC := by omega
  have neBA : bB ≠ bA := by omega
  have neBC : bB ≠ bC := by omega
  have neCA : bC ≠ bA := by omega
  have neCB : bC ≠ bB := by omega
  simp (disch := first | omega | (simp only [Qn] <;> omega)) only [go_sem, stA, stB, stC, gA, gB, gC]
  have qA : (((nC.set bA (some (.cells false [.int .i64 p, uA]))).set bB (some (.cells false [.int .i64 p, uB]))).set bC (some (.cells false [.int .i64 p, uC]))).get bA = some (.cells false [.int .i64 p, uA]) := by simp (disch := first | omega | (simp only [Qn] <;> omega)) only [go_sem]
  have qB : (((nC.set bA (some (.cells false [.int .i64 p, uA]))).set bB (some (.cells false [.int .i64 p, uB]))).set bC (some (.cells false [.int .i64 p, uC]))).get bB = some (.cells false [.int .i64 p, uB]) := by simp (disch := first | omega | (simp only [Qn] <;> omega)) only [go_sem]
  have qC : (((nC.set bA (some (.cells false [.int .i64 p, uA]))).set bB (some (.cells false [.int .i64 p, uB]))).set bC (some (.cells false [.int .i64 p, uC]))).get bC = some (.cells false [.int .i64 p, uC]) := by simp (disch := first | omega | (simp only [Qn] <;> omega)) only [go_sem]
  have fz : Fr k2 (((nC.set bA (some (.cells false [.int .i64 p, uA]))).set bB (some (.cells false [.int .i64 p, uB]))).set bC (some (.cells false [.int .i64 p, uC]))) := (((F.set (by omega) _).set (by omega) _).set (by omega) _)
  have nz : (((nC.set bA (some (.cells false [.int .i64 p, uA]))).set bB (some (.cells false [.int .i64 p, uB]))).set bC (some (.cells false [.int .i64 p, uC]))).next = nC.next := rfl
  have b_A : MB (((nC.set bA (some (.cells false [.int .i64 p, uA]))).set bB (some (.cells false [.int .i64 p, uB]))).set bC (some (.cells false [.int .i64 p, uC]))) bA (p, mkR n n A) := ⟨uA, qA, RA.sr.mono fz, by rw [nz]; omega⟩
  have b_B : MB (((nC.set bA (some (.cells false [.int .i64 p, uA]))).set bB (some (.cells false [.int .i64 p, uB]))).set bC (some (.cells false [.int .i64 p, uC]))) bB (p, mkR n n B) := ⟨uB, qB, RB.sr.mono fz, by rw [nz]; omega⟩
  have b_C : MB (((nC.set bA (some (.cells false [.int .i64 p, uA]))).set bB (some (.cells false [.int .i64 p, uB]))).set bC (some (.cells false [.int .i64 p, uC]))) bC (p, mkR n n C) := ⟨uC, qC, RC.sr.mono fz, by rw [nz]; omega⟩
  clear qA qB qC
  generalize (((nC.set bA (some (.cells false [.int .i64 p, uA]))).set bB (some (.cells false [.int .i64 p, uB]))).set bC (some (.cells false [.int .i64 p, uC]))) = kz at *
  clear fz nz F RA vA stA sA gA hfA hgA hnA hbA RB vB stB sB gB hfB hgB hnB hbB RC vC stC sC gC hfC hgC hnC hbC ht htid
  obtain ⟨a0, r0, q0⟩ := b_A.row
  obtain ⟨a1, r1, q1⟩ := b_B.row
  simp (disch := first | omega | (simp only [Qn] <;> omega)) only [go_sem, d6', d0', decide_true, r0, r1]
  refine (Mul_ok _ _ (p, mkR n n A) (p, mkR n n B) _ q0 q1 (s.la _) (s.la _)).mono ?_
  rintro v h10 ⟨w, rfl, ⟨u0, ws0, rfl, R0⟩, f0⟩
  have eq := s.mul iA iB
  rw [eq] at R0
  rw [eq]
  have st := fun hh id => stV_agg2 hh id 0 (v := .int .i64 p) (u := u0) rfl (SV.what R0.own.sv).2.1
  simp (disch := first | omega | (simp only [Qn] <;> omega)) only [go_sem, d6', d0', decide_true, st, bxH_eq, List.getElem?_cons_zero, List.getElem?_cons_succ]
  have fx := f0.trans (bxH_fr h10 p u0)
  replace b_A := b_A.mono fx
  replace b_B := b_B.mono fx
  replace b_C := b_C.mono fx
  have b_ab := MB.new (h := h10) (p := p) R0.sr
  have iab : InP p n (mmP p n A B) := s.mm _ _
  clear fx st eq f0 R0
  generalize bxH h10 p u0 = k10 at *
  generalize h10.next = j0 at *
  obtain ⟨a0, r0, q0⟩ := b_B.row
  obtain ⟨a1, r1, q1⟩ := b_C.row
  simp (disch := first | omega | (simp only [Qn] <;> omega)) only [go_sem, d6', d0', decide_true, r0, r1]
  refine (Mul_ok _ _ (p, mkR n n B) (p, mkR n n C) _ q0 q1 (s.la _) (s.la _)).mono ?_
  rintro v h11 ⟨w, rfl, ⟨u1, ws1, rfl, R1⟩, f1⟩
  have eq := s.mul iB iC
  rw [eq] at R1
  rw [eq]
  have st := fun hh id => stV_agg2 hh id 0 (v := .int .i64 p) (u := u1) rfl (SV.what R1.own.sv).2.1
  simp (disch := first | omega | (simp only [Qn] <;> omega)) only [go_sem, d6', d0', decide_true, st, bxH_eq, List.getElem?_cons_zero, List.getElem?_cons_succ]
  have fx := f1.trans (bxH_fr h11 p u1)
  replace b_A := b_A.mono fx
  replace b_B := b_B.mono fx
  replace b_C := b_C.mono fx
  replace b_ab := b_ab.mono fx
  have b_bc := MB.new (h := h11) (p := p) R1.sr
  have ibc : InP p n (mmP p n B C) := s.mm _ _
  clear fx st eq f1 R1
  generalize bxH h11 p u1 = k11 at *
  generalize h11.next = j1 at *
  obtain ⟨a0, r0, q0⟩ := b_ab.row
  obtain ⟨a1, r1, q1⟩ := b_C.row
  simp (disch := first | omega | (simp only [Qn] <;> omega)) only [go_sem, d6', d0', decide_true, r0, r1]
  refine (Mul_ok _ _ (p, mkR n n (mmP p n A B)) (p, mkR n n C) _ q0 q1 (s.la _) (s.la _)).mono ?_
  rintro v h12 ⟨w, rfl, ⟨u2, ws2, rfl, R2⟩, f2⟩
  have eq := s.mul iab iC
  rw [eq] at R2
  rw [eq]
  have st := fun hh id => stV_agg2 hh id 0 (v := .int .i64 p) (u := u2) rfl (SV.what R2.own.sv).2.1
  simp (disch := first | omega | (simp only [Qn] <;> omega)) only [go_sem, d6', d0', decide_true, st, bxH_eq, List.getElem?_cons_zero, List.getElem?_cons_succ]
  have fx := f2.trans (bxH_fr h12 p u2)
  replace b_A := b_A.mono fx
  replace b_B := b_B.mono fx
  replace b_C := b_C.mono fx
  replace b_ab := b_ab.mono fx
  replace b_bc := b_bc.mono fx
  have b_left := MB.new (h := h12) (p := p) R2.sr
  have ileft : InP p n (mmP p n (mmP p n A B) C) := s.mm _ _
  clear fx st eq f2 R2
  generalize bxH h12 p u2 = k12 at *
  generalize h12.next = j2 at *
  obtain ⟨a0, r0, q0⟩ := b_A.row
  obtain ⟨a1, r1, q1⟩ := b_bc.row
  simp (disch := first | omega | (simp only [Qn] <;> omega)) only [go_sem, d6', d0', decide_true, r0, r1]
  refine (Mul_ok _ _ (p, mkR n n A) (p, mkR n n (mmP p n B C)) _ q0 q1 (s.la _) (s.la _)).mono ?_
  rintro v h13 ⟨w, rfl, ⟨u3, ws3, rfl, R3⟩, f3⟩
  have eq := s.mul iA ibc
  rw [eq] at R3
  rw [eq]
  have st := fun hh id => stV_agg2 hh id 0 (v := .int .i64 p) (u := u3) rfl (SV.what R3.own.sv).2.1
  simp (disch := first | omega | (simp only [Qn] <;> omega)) only [go_sem, d6', d0', decide_true, st, bxH_eq, List.getElem?_cons_zero, List.getElem?_cons_succ]
  have fx := f3.trans (bxH_fr h13 p u3)
  replace b_A := b_A.mono fx
  replace b_B := b_B.mono fx
  replace b_C := b_C.mono fx
  replace b_ab := b_ab.mono fx
  replace b_bc := b_bc.mono fx
  replace b_left := b_left.mono fx
  have b_right := MB.new (h := h13) (p := p) R3.sr
  have iright : InP p n (mmP p n A (mmP p n B C)) := s.mm _ _
  clear fx st eq f3 R3
  generalize bxH h13 p u3 = k13 at *
  generalize h13.next = j3 at *
  obtain ⟨a0, r0, q0⟩ := b_B.row
  obtain ⟨a1, r1, q1⟩ := b_C.row
  simp (disch := first | omega | (simp only [Qn] <;> omega)) only [go_sem, d6', d0', decide_true, r0, r1]
  refine (Add_ok _ _ (p, mkR n n B) (p, mkR n n C) _ q0 q1 (s.la _) (s.la _)).mono ?_
  rintro v h14 ⟨w, rfl, ⟨u4, ws4, rfl, R4⟩, f4⟩
  have eq := s.add iB iC
  rw [eq] at R4
  rw [eq]
  have st := fun hh id => stV_agg2 hh id 0 (v := .int .i64 p) (u := u4) rfl (SV.what R4.own.sv).2.1
  simp (disch := first | omega | (simp only [Qn] <;> omega)) only [go_sem, d6', d0', decide_true, st, bxH_eq, List.getElem?_cons_zero, List.getElem?_cons_succ]
  have fx := f4.trans (bxH_fr h14 p u4)
  replace b_A := b_A.mono fx
  replace b_B := b_B.mono fx
  replace b_C := b_C.mono fx
  replace b_ab := b_ab.mono fx
  replace b_bc := b_bc.mono fx
  replace b_left := b_left.mono fx
  replace b_right := b_right.mono fx
  have b_sum := MB.new (h := h14) (p := p) R4.sr
  have isum : InP p n (fun i k => (B i k + C i k) % p) := s.ad _ _
  clear fx st eq f4 R4
  generalize bxH h14 p u4 = k14 at *
  generalize h14.next = j4 at *
  obtain ⟨a0, r0, q0⟩ := b_A.row
  obtain ⟨a1, r1, q1⟩ := b_sum.row
  simp (disch := first | omega | (simp only [Qn] <;> omega)) only [go_sem, d6', d0', decide_true, r0, r1]
  refine (Mul_ok _ _ (p, mkR n n A) (p, mkR n n (fun i k => (B i k + C i k) % p)) _ q0 q1 (s.la _) (s.la _)).mono ?_
  rintro v h15 ⟨w, rfl, ⟨u5, ws5, rfl, R5⟩, f5⟩
  have eq := s.mul iA isum
  rw [eq] at R5
  rw [eq]
  have st := fun hh id => stV_agg2 hh id 0 (v := .int .i64 p) (u := u5) rfl (SV.what R5.own.sv).2.1
  simp (disch := first | omega | (simp only [Qn] <;> omega)) only [go_sem, d6', d0', decide_true, st, bxH_eq, List.getElem?_cons_zero, List.getElem?_cons_succ]
  have fx := f5.trans (bxH_fr h15 p u5)
  replace b_A := b_A.mono fx
  replace b_B := b_B.mono fx
  replace b_C := b_C.mono fx
  replace b_ab := b_ab.mono fx
  replace b_bc := b_bc.mono fx
  replace b_left := b_left.mono fx
  replace b_right := b_right.mono fx
  replace b_sum := b_sum.mono fx
  have b_o := MB.new (h := h15) (p := p) R5.sr
  have io : InP p n (mmP p n A (fun i k => (B i k + C i k) % p)) := s.mm _ _
  clear fx st eq f5 R5
  generalize bxH h15 p u5 = k15 at *
  generalize h15.next = j5 at *
  obtain ⟨a0, r0, q0⟩ := b_A.row
  obtain ⟨a1, r1, q1⟩ := b_C.row
  simp (disch := first | omega | (simp only [Qn] <;> omega)) only [go_sem, d6', d0', decide_true, r0, r1]
  refine (Mul_ok _ _ (p, mkR n n A) (p, mkR n n C) _ q0 q1 (s.la _) (s.la _)).mono ?_
  rintro v h16 ⟨w, rfl, ⟨u6, ws6, rfl, R6⟩, f6⟩
  have eq := s.mul iA iC
  rw [eq] at R6
  rw [eq]
  have st := fun hh id => stV_agg2 hh id 0 (v := .int .i64 p) (u := u6) rfl (SV.what R6.own.sv).2.1
  simp (disch := first | omega | (simp only [Qn] <;> omega)) only [go_sem, d6', d0', decide_true, st, bxH_eq, List.getElem?_cons_zero, List.getElem?_cons_succ]
  have fx := f6.trans (bxH_fr h16 p u6)
  replace b_A := b_A.mono fx
  replace b_B := b_B.mono fx
  replace b_C := b_C.mono fx
  replace b_ab := b_ab.mono fx
  replace b_bc := b_bc.mono fx
  replace b_left := b_left.mono fx
  replace b_right := b_right.mono fx
  replace b_sum := b_sum.mono fx
  replace b_o := b_o.mono fx
  have b_ac := MB.new (h := h16) (p := p) R6.sr
  have iac : InP p n (mmP p n A C) := s.mm _ _
  clear fx st eq f6 R6
  generalize bxH h16 p u6 = k16 at *
  generalize h16.next = j6 at *
  obtain ⟨a0, r0, q0⟩ := b_ab.row
  obtain ⟨a1, r1, q1⟩ := b_ac.row
  simp (disch := first | omega | (simp only [Qn] <;> omega)) only [go_sem, d6', d0', decide_true, r0, r1]
  refine (Add_ok _ _ (p, mkR n n (mmP p n A B)) (p, mkR n n (mmP p n A C)) _ q0 q1 (s.la _) (s.la _)).mono ?_
  rintro v h17 ⟨w, rfl, ⟨u7, ws7, rfl, R7⟩, f7⟩
  have eq := s.add iab iac
  rw [eq] at R7
  rw [eq]
  have st := fun hh id => stV_agg2 hh id 0 (v := .int .i64 p) (u := u7) rfl (SV.what R7.own.sv).2.1
  simp (disch := first | omega | (simp only [Qn] <;> omega)) only [go_sem, d6', d0', decide_true, st, bxH_eq, List.getElem?_cons_zero, List.getElem?_cons_succ]
  have fx := f7.trans (bxH_fr h17 p u7)
  replace b_A := b_A.mono fx
  replace b_B := b_B.mono fx
  replace b_C := b_C.mono fx
  replace b_ab := b_ab.mono fx
  replace b_bc := b_bc.mono fx
  replace b_left := b_left.mono fx
  replace b_right := b_right.mono fx
  replace b_sum := b_sum.mono fx
  replace b_o := b_o.mono fx
  replace b_ac := b_ac.mono fx
  have b_two := MB.new (h := h17) (p := p) R7.sr
  have itwo : InP p n (fun i k => ((mmP p n A B) i k + (mmP p n A C) i k) % p) := s.ad _ _
  clear fx st eq f7 R7
  generalize bxH h17 p u7 = k17 at *
  generalize h17.next = j7 at *
  obtain ⟨a0, r0, q0⟩ := b_left.row
  obtain ⟨a1, r1, q1⟩ := b_right.row
  simp (disch := first | omega | (simp only [Qn] <;> omega)) only [go_sem, d6', d0', decide_true, r0, r1]
  refine (Same_ok _ _ (p, mkR n n (mmP p n (mmP p n A B) C)) (p, mkR n n (mmP p n A (mmP p n B C))) _ q0 q1 (s.fits _) (s.fits _)).mono ?_
  rintro v k18 ⟨rfl, f8⟩
  rw [decide_eq_true (show ((p, mkR n n (mmP p n (mmP p n A B) C)) : Mat) = (p, mkR n n (mmP p n A (mmP p n B C))) from by rw [mm_assoc A B C])]
  replace b_A := b_A.mono f8
  replace b_B := b_B.mono f8
  replace b_C := b_C.mono f8
  replace b_ab := b_ab.mono f8
  replace b_bc := b_bc.mono f8
  replace b_left := b_left.mono f8
  replace b_right := b_right.mono f8
  replace b_sum := b_sum.mono f8
  replace b_o := b_o.mono f8
  replace b_ac := b_ac.mono f8
  replace b_two := b_two.mono f8
  try simp (disch := first | omega | (simp only [Qn] <;> omega)) only [go_sem, d6', d0', decide_true]
  obtain ⟨a0, r0, q0⟩ := b_o.row
  obtain ⟨a1, r1, q1⟩ := b_two.row
  simp (disch := first | omega | (simp only [Qn] <;> omega)) only [go_sem, d6', d0', decide_true, r0, r1]
  refine (Same_ok _ _ (p, mkR n n (mmP p n A (fun i k => (B i k + C i k) % p))) (p, mkR n n (fun i k => ((mmP p n A B) i k + (mmP p n A C) i k) % p)) _ q0 q1 (s.fits _) (s.fits _)).mono ?_
  rintro v k19 ⟨rfl, f9⟩
  rw [decide_eq_true (show ((p, mkR n n (mmP p n A (fun i k => (B i k + C i k) % p))) : Mat) = (p, mkR n n (fun i k => ((mmP p n A B) i k + (mmP p n A C) i k) % p)) from by rw [mm_dist A B C])]
  replace b_A := b_A.mono f9
  replace b_B := b_B.mono f9
  replace b_C := b_C.mono f9
  replace b_ab := b_ab.mono f9
  replace b_bc := b_bc.mono f9
  replace b_left := b_left.mono f9
  replace b_right := b_right.mono f9
  replace b_sum := b_sum.mono f9
  replace b_o := b_o.mono f9
  replace b_ac := b_ac.mono f9
  replace b_two := b_two.mono f9
  try simp (disch := first | omega | (simp only [Qn] <;> omega)) only [go_sem, d6', d0', decide_true]
  obtain ⟨a0, r0, q0⟩ := b_A.row
  simp (disch := first | omega | (simp only [Qn] <;> omega)) only [go_sem, d6', d0', decide_true, r0]
  refine (Turn_ok _ (p, mkR n n A) _ q0 (s.la _)).mono ?_
  rintro v h20 ⟨w, rfl, ⟨u10, ws10, rfl, R10⟩, f10⟩
  have eq := s.turn iA
  rw [eq] at R10
  rw [eq]
  have st := fun hh id => stV_agg2 hh id 0 (v := .int .i64 p) (u := u10) rfl (SV.what R10.own.sv).2.1
  simp (disch := first | omega | (simp only [Qn] <;> omega)) only [go_sem, d6', d0', decide_true, st, bxH_eq, List.getElem?_cons_zero, List.getElem?_cons_succ]
  have fx := f10.trans (bxH_fr h20 p u10)
  replace b_A := b_A.mono fx
  replace b_B := b_B.mono fx
  replace b_C := b_C.mono fx
  replace b_ab := b_ab.mono fx
  replace b_bc := b_bc.mono fx
  replace b_left := b_left.mono fx
  replace b_right := b_right.mono fx
  replace b_sum := b_sum.mono fx
  replace b_o := b_o.mono fx
  replace b_ac := b_ac.mono fx
  replace b_two := b_two.mono fx
  have b_ta := MB.new (h := h20) (p := p) R10.sr
  have ita : InP p n (trM A) := Sq.tr iA
  clear fx st eq f10 R10
  generalize bxH h20 p u10 = k20 at *
  generalize h20.next = j10 at *
  obtain ⟨a0, r0, q0⟩ := b_B.row
  simp (disch := first | omega | (simp only [Qn] <;> omega)) only [go_sem, d6', d0', decide_true, r0]
  refine (Turn_ok _ (p, mkR n n B) _ q0 (s.la _)).mono ?_
  rintro v h21 ⟨w, rfl, ⟨u11, ws11, rfl, R11⟩, f11⟩
  have eq := s.turn iB
  rw [eq] at R11
  rw [eq]
  have st := fun hh id => stV_agg2 hh id 0 (v := .int .i64 p) (u := u11) rfl (SV.what R11.own.sv).2.1
  simp (disch := first | omega | (simp only [Qn] <;> omega)) only [go_sem, d6', d0', decide_true, st, bxH_eq, List.getElem?_cons_zero, List.getElem?_cons_succ]
  have fx := f11.trans (bxH_fr h21 p u11)
  replace b_A := b_A.mono fx
  replace b_B := b_B.mono fx
  replace b_C := b_C.mono fx
  replace b_ab := b_ab.mono fx
  replace b_bc := b_bc.mono fx
  replace b_left := b_left.mono fx
  replace b_right := b_right.mono fx
  replace b_sum := b_sum.mono fx
  replace b_o := b_o.mono fx
  replace b_ac := b_ac.mono fx
  replace b_two := b_two.mono fx
  replace b_ta := b_ta.mono fx
  have b_tb := MB.new (h := h21) (p := p) R11.sr
  have itb : InP p n (trM B) := Sq.tr iB
  clear fx st eq f11 R11
  generalize bxH h21 p u11 = k21 at *
  generalize h21.next = j11 at *
  obtain ⟨a0, r0, q0⟩ := b_ab.row
  simp (disch := first | omega | (simp only [Qn] <;> omega)) only [go_sem, d6', d0', decide_true, r0]
  refine (Turn_ok _ (p, mkR n n (mmP p n A B)) _ q0 (s.la _)).mono ?_
  rintro v h22 ⟨w, rfl, ⟨u12, ws12, rfl, R12⟩, f12⟩
  have eq := s.turn iab
  rw [eq] at R12
  rw [eq]
  have st := fun hh id => stV_agg2 hh id 0 (v := .int .i64 p) (u := u12) rfl (SV.what R12.own.sv).2.1
  simp (disch := first | omega | (simp only [Qn] <;> omega)) only [go_sem, d6', d0', decide_true, st, bxH_eq, List.getElem?_cons_zero, List.getElem?_cons_succ]
  have fx := f12.trans (bxH_fr h22 p u12)
  replace b_A := b_A.mono fx
  replace b_B := b_B.mono fx
  replace b_C := b_C.mono fx
  replace b_ab := b_ab.mono fx
  replace b_bc := b_bc.mono fx
  replace b_left := b_left.mono fx
  replace b_right := b_right.mono fx
  replace b_sum := b_sum.mono fx
  replace b_o := b_o.mono fx
  replace b_ac := b_ac.mono fx
  replace b_two := b_two.mono fx
  replace b_ta := b_ta.mono fx
  replace b_tb := b_tb.mono fx
  have b_tab := MB.new (h := h22) (p := p) R12.sr
  have itab : InP p n (trM (mmP p n A B)) := Sq.tr iab
  clear fx st eq f12 R12
  generalize bxH h22 p u12 = k22 at *
  generalize h22.next = j12 at *
  obtain ⟨a0, r0, q0⟩ := b_tb.row
  obtain ⟨a1, r1, q1⟩ := b_ta.row
  simp (disch := first | omega | (simp only [Qn] <;> omega)) only [go_sem, d6', d0', decide_true, r0, r1]
  refine (Mul_ok _ _ (p, mkR n n (trM B)) (p, mkR n n (trM A)) _ q0 q1 (s.la _) (s.la _)).mono ?_
  rintro v h23 ⟨w, rfl, ⟨u13, ws13, rfl, R13⟩, f13⟩
  have eq := s.mul itb ita
  rw [eq] at R13
  rw [eq]
  have st := fun hh id => stV_agg2 hh id 0 (v := .int .i64 p) (u := u13) rfl (SV.what R13.own.sv).2.1
  simp (disch := first | omega | (simp only [Qn] <;> omega)) only [go_sem, d6', d0', decide_true, st, bxH_eq, List.getElem?_cons_zero, List.getElem?_cons_succ]
  have fx := f13.trans (bxH_fr h23 p u13)
  replace b_A := b_A.mono fx
  replace b_B := b_B.mono fx
  replace b_C := b_C.mono fx
  replace b_ab := b_ab.mono fx
  replace b_bc := b_bc.mono fx
  replace b_left := b_left.mono fx
  replace b_right := b_right.mono fx
  replace b_sum := b_sum.mono fx
  replace b_o := b_o.mono fx
  replace b_ac := b_ac.mono fx
  replace b_two := b_two.mono fx
  replace b_ta := b_ta.mono fx
  replace b_tb := b_tb.mono fx
  replace b_tab := b_tab.mono fx
  have b_prod := MB.new (h := h23) (p := p) R13.sr
  have iprod : InP p n (mmP p n (trM B) (trM A)) := s.mm _ _
  clear fx st eq f13 R13
  generalize bxH h23 p u13 = k23 at *
  generalize h23.next = j13 at *
  try simp (disch := first | omega | (simp only [Qn] <;> omega)) only [go_sem, d6', d0', decide_true]
  refine (One_ok (n : Int) p _).mono ?_
  rintro v h24 ⟨w, rfl, ⟨u14, ws14, rfl, R14⟩, f14⟩
  have eq := s.one
  rw [eq] at R14
  rw [eq]
  have st := fun hh id => stV_agg2 hh id 0 (v := .int .i64 p) (u := u14) rfl (SV.what R14.own.sv).2.1
  simp (disch := first | omega | (simp only [Qn] <;> omega)) only [go_sem, d6', d0', decide_true, st, bxH_eq, List.getElem?_cons_zero, List.getElem?_cons_succ]
  have fx := f14.trans (bxH_fr h24 p u14)
  replace b_A := b_A.mono fx
  replace b_B := b_B.mono fx
  replace b_C := b_C.mono fx
  replace b_ab := b_ab.mono fx
  replace b_bc := b_bc.mono fx
  replace b_left := b_left.mono fx
  replace b_right := b_right.mono fx
  replace b_sum := b_sum.mono fx
  replace b_o := b_o.mono fx
  replace b_ac := b_ac.mono fx
  replace b_two := b_two.mono fx
  replace b_ta := b_ta.mono fx
  replace b_tb := b_tb.mono fx
  replace b_tab := b_tab.mono fx
  replace b_prod := b_prod.mono fx
  have b_id := MB.new (h := h24) (p := p) R14.sr
  have iid : InP p n idM := s.on
  clear fx st eq f14 R14
  generalize bxH h24 p u14 = k24 at *
  generalize h24.next = j14 at *
  obtain ⟨a0, r0, q0⟩ := b_id.row
  simp (disch := first | omega | (simp only [Qn] <;> omega)) only [go_sem, d6', d0', decide_true, r0]
  refine (Scale_ok _ (p, mkR n n idM) kk _ q0 (s.la _)).mono ?_
  rintro v h25 ⟨w, rfl, ⟨u15, ws15, rfl, R15⟩, f15⟩
  have eq := s.scale iid kk
  rw [eq] at R15
  rw [eq]
  have st := fun hh id => stV_agg2 hh id 0 (v := .int .i64 p) (u := u15) rfl (SV.what R15.own.sv).2.1
  simp (disch := first | omega | (simp only [Qn] <;> omega)) only [go_sem, d6', d0', decide_true, st, bxH_eq, List.getElem?_cons_zero, List.getElem?_cons_succ]
  have fx := f15.trans (bxH_fr h25 p u15)
  replace b_A := b_A.mono fx
  replace b_B := b_B.mono fx
  replace b_C := b_C.mono fx
  replace b_ab := b_ab.mono fx
  replace b_bc := b_bc.mono fx
  replace b_left := b_left.mono fx
  replace b_right := b_right.mono fx
  replace b_sum := b_sum.mono fx
  replace b_o := b_o.mono fx
  replace b_ac := b_ac.mono fx
  replace b_two := b_two.mono fx
  replace b_ta := b_ta.mono fx
  replace b_tb := b_tb.mono fx
  replace b_tab := b_tab.mono fx
  replace b_prod := b_prod.mono fx
  replace b_id := b_id.mono fx
  have b_kid := MB.new (h := h25) (p := p) R15.sr
  have ikid : InP p n (fun i j => (kk % p) * idM i j % p) := s.sc _ _
  clear fx st eq f15 R15
  generalize bxH h25 p u15 = k25 at *
  generalize h25.next = j15 at *
  obtain ⟨a0, r0, q0⟩ := b_A.row
  simp (disch := first | omega | (simp only [Qn] <;> omega)) only [go_sem, d6', d0', decide_true, r0]
  refine (Scale_ok _ (p, mkR n n A) kk _ q0 (s.la _)).mono ?_
  rintro v h26 ⟨w, rfl, ⟨u16, ws16, rfl, R16⟩, f16⟩
  have eq := s.scale iA kk
  rw [eq] at R16
  rw [eq]
  have st := fun hh id => stV_agg2 hh id 0 (v := .int .i64 p) (u := u16) rfl (SV.what R16.own.sv).2.1
  simp (disch := first | omega | (simp only [Qn] <;> omega)) only [go_sem, d6', d0', decide_true, st, bxH_eq, List.getElem?_cons_zero, List.getElem?_cons_succ]
  have fx := f16.trans (bxH_fr h26 p u16)
  replace b_A := b_A.mono fx
  replace b_B := b_B.mono fx
  replace b_C := b_C.mono fx
  replace b_ab := b_ab.mono fx
  replace b_bc := b_bc.mono fx
  replace b_left := b_left.mono fx
  replace b_right := b_right.mono fx
  replace b_sum := b_sum.mono fx
  replace b_o := b_o.mono fx
  replace b_ac := b_ac.mono fx
  replace b_two := b_two.mono fx
  replace b_ta := b_ta.mono fx
  replace b_tb := b_tb.mono fx
  replace b_tab := b_tab.mono fx
  replace b_prod := b_prod.mono fx
  replace b_id := b_id.mono fx
  replace b_kid := b_kid.mono fx
  have b_ka := MB.new (h := h26) (p := p) R16.sr
  have ika : InP p n (fun i j => (kk % p) * A i j % p) := s.sc _ _
  clear fx st eq f16 R16
  generalize bxH h26 p u16 = k26 at *
  generalize h26.next = j16 at *
  obtain ⟨a0, r0, q0⟩ := b_A.row
  obtain ⟨a1, r1, q1⟩ := b_kid.row
  simp (disch := first | omega | (simp only [Qn] <;> omega)) only [go_sem, d6', d0', decide_true, r0, r1]
  refine (Mul_ok _ _ (p, mkR n n A) (p, mkR n n (fun i j => (kk % p) * idM i j % p)) _ q0 q1 (s.la _) (s.la _)).mono ?_
  rintro v h27 ⟨w, rfl, ⟨u17, ws17, rfl, R17⟩, f17⟩
  have eq := s.mul iA ikid
  rw [eq] at R17
  rw [eq]
  have st := fun hh id => stV_agg2 hh id 0 (v := .int .i64 p) (u := u17) rfl (SV.what R17.own.sv).2.1
  simp (disch := first | omega | (simp only [Qn] <;> omega)) only [go_sem, d6', d0', decide_true, st, bxH_eq, List.getElem?_cons_zero, List.getElem?_cons_succ]
  have fx := f17.trans (bxH_fr h27 p u17)
  replace b_A := b_A.mono fx
  replace b_B := b_B.mono fx
  replace b_C := b_C.mono fx
  replace b_ab := b_ab.mono fx
  replace b_bc := b_bc.mono fx
  replace b_left := b_left.mono fx
  replace b_right := b_right.mono fx
  replace b_sum := b_sum.mono fx
  replace b_o := b_o.mono fx
  replace b_ac := b_ac.mono fx
  replace b_two := b_two.mono fx
  replace b_ta := b_ta.mono fx
  replace b_tb := b_tb.mono fx
  replace b_tab := b_tab.mono fx
  replace b_prod := b_prod.mono fx
  replace b_id := b_id.mono fx
  replace b_kid := b_kid.mono fx
  replace b_ka := b_ka.mono fx
  have b_also := MB.new (h := h27) (p := p) R17.sr
  have ialso : InP p n (mmP p n A (fun i j => (kk % p) * idM i j % p)) := s.mm _ _
  clear fx st eq f17 R17
  generalize bxH h27 p u17 = k27 at *
  generalize h27.next = j17 at *
  obtain ⟨a0, r0, q0⟩ := b_tab.row
  obtain ⟨a1, r1, q1⟩ := b_prod.row
  simp (disch := first | omega | (simp only [Qn] <;> omega)) only [go_sem, d6', d0', decide_true, r0, r1]
  refine (Same_ok _ _ (p, mkR n n (trM (mmP p n A B))) (p, mkR n n (mmP p n (trM B) (trM A))) _ q0 q1 (s.fits _) (s.fits _)).mono ?_
  rintro v k28 ⟨rfl, f18⟩
  rw [decide_eq_true (show ((p, mkR n n (trM (mmP p n A B))) : Mat) = (p, mkR n n (mmP p n (trM B) (trM A))) from by rw [mm_turn A B])]
  replace b_A := b_A.mono f18
  replace b_B := b_B.mono f18
  replace b_C := b_C.mono f18
  replace b_ab := b_ab.mono f18
  replace b_bc := b_bc.mono f18
  replace b_left := b_left.mono f18
  replace b_right := b_right.mono f18
  replace b_sum := b_sum.mono f18
  replace b_o := b_o.mono f18
  replace b_ac := b_ac.mono f18
  replace b_two := b_two.mono f18
  replace b_ta := b_ta.mono f18
  replace b_tb := b_tb.mono f18
  replace b_tab := b_tab.mono f18
  replace b_prod := b_prod.mono f18
  replace b_id := b_id.mono f18
  replace b_kid := b_kid.mono f18
  replace b_ka := b_ka.mono f18
  replace b_also := b_also.mono f18
  try simp (disch := first | omega | (simp only [Qn] <;> omega)) only [go_sem, d6', d0', decide_true]
  obtain ⟨a0, r0, q0⟩ := b_ka.row
  obtain ⟨a1, r1, q1⟩ := b_also.row
  simp (disch := first | omega | (simp only [Qn] <;> omega)) only [go_sem, d6', d0', decide_true, r0, r1]
  refine (Same_ok _ _ (p, mkR n n (fun i j => (kk % p) * A i j % p)) (p, mkR n n (mmP p n A (fun i j => (kk % p) * idM i j % p))) _ q0 q1 (s.fits _) (s.fits _)).mono ?_
  rintro v k29 ⟨rfl, f19⟩
  rw [decide_eq_true (show ((p, mkR n n (fun i j => (kk % p) * A i j % p)) : Mat) = (p, mkR n n (mmP p n A (fun i j => (kk % p) * idM i j % p))) from by rw [mm_scale A kk])]
  replace b_A := b_A.mono f19
  replace b_B := b_B.mono f19
  replace b_C := b_C.mono f19
  replace b_ab := b_ab.mono f19
  replace b_bc := b_bc.mono f19
  replace b_left := b_left.mono f19
  replace b_right := b_right.mono f19
  replace b_sum := b_sum.mono f19
  replace b_o := b_o.mono f19
  replace b_ac := b_ac.mono f19
  replace b_two := b_two.mono f19
  replace b_ta := b_ta.mono f19
  replace b_tb := b_tb.mono f19
  replace b_tab := b_tab.mono f19
  replace b_prod := b_prod.mono f19
  replace b_id := b_id.mono f19
  replace b_kid := b_kid.mono f19
  replace b_ka := b_ka.mono f19
  replace b_also := b_also.mono f19
  try simp (disch := first | omega | (simp only [Qn] <;> omega)) only [go_sem, d6', d0', decide_true]
end Go.Proofs.Ytonhijbeddcmpaa
