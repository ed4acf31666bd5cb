/- Layer 4: the laws' helpers: of, is, lives. Layer 4: the laws' numbers: field, drawn; boxes; valid matrices. Layer 4: valid square matrices; boxes. Layer 4: powers. Layer 4: determinants, inverses and powers of valid square matrices. The law MatrixInverse, walked. -/
import Derived.Test.YtonhijbeddcmpaaM4ytoM4re
/- Layer 4: the laws' helpers: of, is, lives. -/
namespace Go.Proofs.Ytonhijbeddcmpaa
open Go Go.Ay
set_option maxRecDepth 100000
theorem bls_int2 (h : H) (x y : Int) : blsV h 1 [.int .i64 0] 2 [(0, 1, .int .i64 x), (1, 1, .int .i64 y)] = some (.sl h.next 0 2 (.kn 2), h.new (.cells false (ints [x, y]))) := by
  have e : zerosV [V.int .i64 0] 2 = [.int .i64 0, .int .i64 0] := rfl
  simp [blsV, fillV, e, V.cells, V.one, putAt, ints]
theorem bls_sl2 (h : H) (a b c a' b' c' : Nat) (d' dd : Cap) : blsV h 1 [.nils] 2 [(0, 1, .sl a b c dd), (1, 1, .sl a' b' c' d')] = some (.sl h.next 0 2 (.kn 2), h.new (.cells false [.sl a b c dd, .sl a' b' c' d'])) := bls_two h rfl rfl rfl rfl
theorem sr_two {h : H} {i j k : Nat} {ri rj rk : Bool} {a b : List Int} (gi : h.get i = some (.cells ri (ints a))) (gj : h.get j = some (.cells rj (ints b))) (gk : h.get k = some (.cells rk [.sl i 0 a.length (.kn a.length), .sl j 0 b.length (.kn b.length)])) (hi : i < h.next) (hj : j < h.next) (hk : k < h.next) : SR h (.sl k 0 2 (.kn 2)) [a, b] :=
  ⟨_, SV.all rfl hk gk _, SI.own hi gi _, SI.own hj gj _, trivial⟩
theorem of_ok (u : V) (rows : List (List Int)) (h : H) (hu : SR h u rows) : Ev T n_law04_of [u] h (fun w h' => w = .agg [.int .i64 5, u] ∧ Fr h h') := by
  refine Ev_of t_law04_of rfl ?_
  have hw := SV.what hu.choose_spec.1
  have hbl := bldV_two (z1 := .int .i64 0) (z2 := .nils) (v := .int .i64 5) (u := u) rfl rfl hw.1 hw.2.1
  have hst := fun hh id => stV_agg2 hh id 0 (v := .int .i64 5) (u := u) rfl hw.2.1
  have hrow := row_two (bxH_get h 5 u)
  simp (disch := first | omega | (simp only [Qn] <;> omega)) only [go_sem, c_law04_of, initV_eq, hbl, hst, bxH_eq, hrow]
  exact bxH_fr h 5 u
theorem is_ok (va vb : V) (e : Int) (a b : Mat) (h : H) (ha : MatV h va a) (hb : MatV h vb b) (fa : Fit a) (fb : Fit b) : Ev T n_law04_is [va, .int .i64 e, vb] h (fun v h' => v = .bool (decide (e = 0 ∧ a = b)) ∧ Fr h h') := by
  obtain ⟨ua, rfl, hua⟩ := ha
  obtain ⟨ub, rfl, hub⟩ := hb
  refine Ev_of t_law04_is rfl ?_
  have wa := SV.what hua.choose_spec.1
  have wb := SV.what hub.choose_spec.1
  simp (disch := first | omega | (simp only [Qn] <;> omega)) only [go_sem, c_law04_is, initV_eq, boxV_agg2 h (v := .int .i64 a.1) rfl wa.2.1]
  have hfx : Fr h (h.new (.cells false [.int .i64 a.1, ua])) := (Fr.refl h).new _
  have hgx : (h.new (.cells false [.int .i64 a.1, ua])).get h.next = some (.cells false [.int .i64 a.1, ua]) := H.get_new_same ..
  have hnx : (h.new (.cells false [.int .i64 a.1, ua])).next = h.next + 1 := H.next_new ..
  generalize h.new (.cells false [.int .i64 a.1, ua]) = hx at *
  simp (disch := first | omega | (simp only [Qn] <;> omega)) only [go_sem, boxV_agg2 hx (v := .int .i64 b.1) rfl wb.2.1]
  have hfy : Fr hx (hx.new (.cells false [.int .i64 b.1, ub])) := (Fr.refl hx).new _
  have hgy : (hx.new (.cells false [.int .i64 b.1, ub])).get hx.next = some (.cells false [.int .i64 b.1, ub]) := H.get_new_same ..
  have hny : (hx.new (.cells false [.int .i64 b.1, ub])).next = hx.next + 1 := H.next_new ..
  generalize hx.new (.cells false [.int .i64 b.1, ub]) = hy at *
  have F := hfx.trans hfy
  have rx := row_two ((hfy.get h.next (by omega)).trans hgx)
  have ry := row_two hgy
  by_cases he : e = 0
  · rw [decide_eq_true he]
    simp (disch := first | omega | (simp only [Qn] <;> omega)) only [go_sem, rx, ry]
    refine (Same_ok _ _ a b hy ⟨ua, rfl, hua.mono F⟩ ⟨ub, rfl, hub.mono F⟩ fa fb).mono ?_
    rintro v h3 ⟨rfl, f3⟩
    simp (disch := first | omega | (simp only [Qn] <;> omega)) only [go_sem]
    refine ⟨?_, F.trans f3⟩
    congr 1
    rw [decide_eq_decide]
    exact ⟨fun h => ⟨he, h⟩, fun h => h.2⟩
  · rw [decide_eq_false he]
    simp (disch := first | omega | (simp only [Qn] <;> omega)) only [go_sem, undef_eq]
    exact ⟨by rw [decide_eq_false fun h => he h.1], F⟩
def mA : Mat := (5, [[1, 2], [3, 4]])
def mB : Mat := (5, [[0, 1], [1, 0]])
theorem lv_mul : MulF mA mB = ((5, [[2, 1], [4, 3]]), 0) := by decide +kernel
theorem lv_det : DetF mA = (3, 0) := by decide +kernel
theorem lv_sq : sqF mA = 0 := by decide +kernel
theorem lv_inv : InvF mA = ((5, [[3, 1], [4, 2]]), 0) := by
  have i : IsInv 5 2 (ent mA.2) (ent [[3, 1], [4, 2]]) := ⟨fun i j hi hj => (by decide : ∀ i, i < 2 → ∀ j, j < 2 → 0 ≤ ent [[3, 1], [4, 2]] i j) i hi j hj, fun i j hi hj => (by decide : ∀ i, i < 2 → ∀ j, j < 2 → ent [[3, 1], [4, 2]] i j < 5) i hi j hj, fun i j hi hj => (by decide +kernel : ∀ i, i < 2 → ∀ j, j < 2 → mulM 2 (ent [[3, 1], [4, 2]]) (ent mA.2) i j % 5 = idM i j % 5) i hi j hj⟩
  have e := invX_eq i
  rw [InvF, if_neg (by rw [lv_sq]; decide), if_neg (by decide +kernel)]
  rw [show mA.1 = 5 from rfl, show mA.2.length = 2 from rfl, ← e]
  decide +kernel
theorem lv_ord : OrderF mA = (8, 0) := by
  rw [OrderF, if_neg (by rw [lv_inv]; decide)]
  decide +kernel
theorem lit22 (h : H) (a b c d : Int) : ∃ h3, ((h.new (.cells false (ints [a, b]))).new (.cells false (ints [c, d]))).new (.cells false [.sl h.next 0 2 (.kn 2), .sl (h.next + 1) 0 2 (.kn 2)]) = h3 ∧ Fr h h3 ∧ SR h3 (.sl (h.next + 1 + 1) 0 2 (.kn 2)) [[a, b], [c, d]] ∧ h3.next = h.next + 3 := by
  refine ⟨_, rfl, (((Fr.refl h).new _).new _).new _, sr_two (ri := false) (rj := false) (rk := false) (i := h.next) (j := h.next + 1) ?_ ?_ ?_ ?_ ?_ ?_, rfl⟩
  · rw [H.get_new_ne _ (by simp only [H.next_new]; omega), H.get_new_ne _ (by simp only [H.next_new]; omega)]; exact H.get_new_same ..
  · rw [H.get_new_ne _ (by simp only [H.next_new]; omega)]; exact H.get_new_same (h.new _) _
  · exact H.get_new_same ((h.new _).new _) _
  · simp only [H.next_new]; omega
  · simp only [H.next_new]; omega
  · simp only [H.next_new]; omega
theorem litV22 {b0 h : H} (f0 : Fr b0 h) (a b c d : Int) (i j k m : Nat) (hi : b0.next ≤ i) (hj : i < j) (hk : j < k) (hm : k < m) : ∃ h3, litV (litV (litV h i (ints [a, b]) m) j (ints [c, d]) m) k [.sl i 0 2 (.kn 2), .sl j 0 2 (.kn 2)] m = h3 ∧ Fr b0 h3 ∧ SR h3 (.sl k 0 2 (.kn 2)) [[a, b], [c, d]] ∧ h3.next = m := by
  refine ⟨_, rfl, litV_fr (litV_fr (litV_fr f0 (by omega) (by omega) _) (by omega) (by omega) _) (by omega) (by omega) _, sr_two (ri := false) (rj := false) (rk := false) (i := i) (j := j) ?_ ?_ ?_ ?_ ?_ ?_, rfl⟩
  · rw [litV_ne _ _ _ (by omega), litV_ne _ _ _ (by omega)]; exact litV_get ..
  · rw [litV_ne _ _ _ (by omega)]; exact litV_get ..
  · exact litV_get ..
  · rw [litV_next]; omega
  · rw [litV_next]; omega
  · rw [litV_next]; omega
theorem fit22 (a b c d : Int) : Fit (5, [[a, b], [c, d]]) := ⟨by simp, fun i hi => by
  have : i = 0 ∨ i = 1 := by simp at hi; omega
  rcases this with rfl | rfl <;> simp⟩
set_option maxHeartbeats 8000000 in
theorem lives_ok (h : H) : Ev T n_law04_lives [] h (fun v h' => v = .bool true ∧ Fr h h') := by
  refine Ev_of t_law04_lives rfl ?_
  simp (disch := first | omega | (simp only [Qn] <;> omega)) only [go_sem, c_law04_lives, initV_eq, bls_int2, bls_sl2]
  obtain ⟨h1, e1, f1, s1, n1⟩ := lit22 h 1 2 3 4
  rw [e1]
  refine (of_ok _ _ h1 s1).mono ?_
  rintro w h2 ⟨rfl, f2⟩
  simp (disch := first | omega | (simp only [Qn] <;> omega)) only [go_sem, bls_int2, bls_sl2]
  obtain ⟨h3, e3, f3, s3, n3⟩ := lit22 h2 0 1 1 0
  rw [e3]
  refine (of_ok _ _ h3 s3).mono ?_
  rintro w h4 ⟨rfl, f4⟩
  have sA := ((s1.mono f2).mono f3).mono f4
  have sB := s3.mono f4
  have F4 := ((f1.trans f2).trans f3).trans f4
  have hstA := fun hh id => stV_agg2 hh id 0 (v := .int .i64 5) (u := .sl (h.next + 1 + 1) 0 2 (.kn 2)) rfl rfl
  have hstB := fun hh id => stV_agg2 hh id 0 (v := .int .i64 5) (u := .sl (h2.next + 1 + 1) 0 2 (.kn 2)) rfl rfl
  obtain ⟨ua, hua⟩ : ∃ u, V.sl (h.next + 1 + 1) 0 2 (.kn 2) = u := ⟨_, rfl⟩
  obtain ⟨ub, hub⟩ : ∃ u, V.sl (h2.next + 1 + 1) 0 2 (.kn 2) = u := ⟨_, rfl⟩
  rw [hua] at sA hstA
  rw [hub] at sB hstB
  rw [hua, hub]
  simp (disch := first | omega | (simp only [Qn] <;> omega)) only [go_sem]
  have hfa : Fr h4 (h4.new (.cells false [.int .i64 0, .nils])) := (Fr.refl h4).new _
  have hga : (h4.new (.cells false [.int .i64 0, .nils])).get h4.next = some (.cells false [.int .i64 0, .nils]) := H.get_new_same ..
  have hna : (h4.new (.cells false [.int .i64 0, .nils])).next = h4.next + 1 := H.next_new ..
  generalize h4.new (.cells false [.int .i64 0, .nils]) = ha at *
  rw [← hna]
  have hfb : Fr ha (ha.new (.cells false [.int .i64 0, .nils])) := (Fr.refl ha).new _
  have hgb : (ha.new (.cells false [.int .i64 0, .nils])).get ha.next = some (.cells false [.int .i64 0, .nils]) := H.get_new_same ..
  have hnb : (ha.new (.cells false [.int .i64 0, .nils])).next = ha.next + 1 := H.next_new ..
  generalize ha.new (.cells false [.int .i64 0, .nils]) = hb at *
  obtain ⟨A, hA⟩ : ∃ A, h4.next = A := ⟨_, rfl⟩
  obtain ⟨B, hB⟩ : ∃ B, ha.next = B := ⟨_, rfl⟩
  rw [hB] at hgb
  rw [hA] at hga
  have ga : hb.get A = some (.cells false [.int .i64 0, .nils]) := (hfb.get A (by omega)).trans hga
  have nab : B ≠ A := by omega
  rw [hA, hB]
  simp (disch := first | omega | (simp only [Qn] <;> omega)) only [go_sem, hstA, hstB, ga, hgb]
  have fC : Fr h4 ((hb.set A (some (.cells false [.int .i64 5, ua]))).set B (some (.cells false [.int .i64 5, ub]))) := (((hfa.trans hfb).set (by omega) _).set (by omega) _)
  have gA : ((hb.set A (some (.cells false [.int .i64 5, ua]))).set B (some (.cells false [.int .i64 5, ub]))).get A = some (.cells false [.int .i64 5, ua]) := by
    rw [H.get_set_ne _ (by omega)]; exact H.get_set_same ..
  have gB : ((hb.set A (some (.cells false [.int .i64 5, ua]))).set B (some (.cells false [.int .i64 5, ub]))).get B = some (.cells false [.int .i64 5, ub]) := H.get_set_same ..
  have nC : ((hb.set A (some (.cells false [.int .i64 5, ua]))).set B (some (.cells false [.int .i64 5, ub]))).next = B + 1 := by rw [H.next_set, H.next_set]; omega
  generalize (hb.set A (some (.cells false [.int .i64 5, ua]))).set B (some (.cells false [.int .i64 5, ub])) = hC at *
  have FC := F4.trans fC
  have MA : MatV hC (.agg [.int .i64 5, ua]) mA := ⟨ua, rfl, sA.mono fC⟩
  have MB : MatV hC (.agg [.int .i64 5, ub]) mB := ⟨ub, rfl, sB.mono fC⟩
  simp (disch := first | omega | (simp only [Qn] <;> omega)) only [go_sem, row_two gA, row_two gB]
  refine (Mul_ok _ _ mA mB hC MA MB (by decide) (by decide)).mono ?_
  rintro v h5 ⟨w, rfl, ⟨u5, ws5, rfl, R5⟩, f5⟩
  rw [lv_mul]
  rw [lv_mul] at R5
  have v5 := SV.what R5.own.sv
  have hst5 := fun hh id => stV_agg2 hh id 0 (v := .int .i64 5) (u := u5) rfl v5.2.1
  simp (disch := first | omega | (simp only [Qn] <;> omega)) only [go_sem, hst5, bxH_eq]
  have f6 := f5.trans (bxH_fr h5 5 u5)
  have s6 := R5.sr.mono (bxH_fr h5 5 u5)
  have g6 := bxH_get h5 5 u5
  have n6 := bxH_next h5 5 u5
  generalize bxH h5 5 u5 = h6 at *
  have gA6 := (f6.get A (by omega)).trans gA
  simp (disch := first | omega | (simp only [Qn] <;> omega)) only [go_sem, row_two gA6]
  refine (Det_ok _ mA h6 (MA.mono f6) (by decide)).mono ?_
  rintro v h7 ⟨rfl, f7⟩
  rw [lv_det]
  have f67 := f6.trans f7
  have gA7 := (f67.get A (by omega)).trans gA
  simp (disch := first | omega | (simp only [Qn] <;> omega)) only [go_sem, row_two gA7]
  refine (Inv_ok _ mA h7 (MA.mono f67) (by decide)).mono ?_
  rintro v h8 ⟨w, rfl, ⟨u8, ws8, rfl, R8⟩, f8⟩
  rw [lv_inv]
  rw [lv_inv] at R8
  have v8 := SV.what R8.own.sv
  have hst8 := fun hh id => stV_agg2 hh id 0 (v := .int .i64 5) (u := u8) rfl v8.2.1
  simp (disch := first | omega | (simp only [Qn] <;> omega)) only [go_sem, hst8, bxH_eq]
  have f9 := f8.trans (bxH_fr h8 5 u8)
  have s9 := R8.sr.mono (bxH_fr h8 5 u8)
  have g9 := bxH_get h8 5 u8
  have n9 := bxH_next h8 5 u8
  generalize bxH h8 5 u8 = h9 at *
  have F79 := f67.trans f9
  have gA9 := (F79.get A (by omega)).trans gA
  simp (disch := first | omega | (simp only [Qn] <;> omega)) only [go_sem, row_two gA9]
  refine (Order_ok _ mA h9 (MA.mono F79) (by decide)).mono ?_
  rintro v h10 ⟨rfl, f10⟩
  rw [lv_ord]
  have f5n := f5.next
  have f7n := f7.next
  have f8n := f8.next
  have f10n := f10.next
  have F10 := FC.trans (F79.trans f10)
  have g10 := ((f7.trans f9).trans f10).get h5.next (by omega)
  rw [g6] at g10
  have s10 := ((s6.mono f7).mono f9).mono f10
  have g10' := (f10.get h8.next (by omega)).trans g9
  have s10' := s9.mono f10
  have rb : (H.mk h10.tr (h10.next + 33)).row h5.next 0 2 = some [.int .i64 5, u5] := row_two g10
  simp (disch := first | omega | (simp only [Qn] <;> omega)) only [go_sem, rb, bls_int2, bls_sl2, litV_eq]
  obtain ⟨h11, e11, f11, s11, n11⟩ := litV22 (Fr.refl h10) 2 1 4 3 (h10.next + 2) (h10.next + 3) (h10.next + 4) (h10.next + 33) (by omega) (by omega) (by omega) (by omega)
  rw [e11]
  refine (of_ok _ _ h11 s11).mono ?_
  rintro w h12 ⟨rfl, f12⟩
  have r12 := row_two (((f11.trans f12).get h5.next (by omega)).trans g10)
  have e5 := SV.eqV R5.own.sv
  simp (disch := first | omega | (simp only [Qn] <;> omega)) only [go_sem, r12, e5]
  refine (is_ok _ _ 0 (5, [[2, 1], [4, 3]]) (5, [[2, 1], [4, 3]]) h12 ⟨u5, rfl, (s10.mono f11).mono f12⟩ ⟨_, rfl, s11.mono f12⟩ (fit22 ..) (fit22 ..)).mono ?_
  rintro v h13 ⟨rfl, f13⟩
  rw [decide_eq_true (show (0 : Int) = 0 ∧ ((5, [[2, 1], [4, 3]]) : Mat) = (5, [[2, 1], [4, 3]]) from ⟨rfl, rfl⟩)]
  have F13 := (f11.trans f12).trans f13
  have g13 := (F13.get h8.next (by omega)).trans g10'
  have n12 := f12.next
  have n13 := f13.next
  have r13 := row_two g13
  simp (disch := first | omega | (simp only [Qn] <;> omega)) only [go_sem, decide_true, r13, bls_int2, bls_sl2, litV_eq]
  obtain ⟨h14, e14, f14, s14, n14⟩ := litV22 F13 3 1 4 2 (h10.next + 18) (h10.next + 19) (h10.next + 20) h13.next (by omega) (by omega) (by omega) (by omega)
  rw [e14]
  refine (of_ok _ _ h14 s14).mono ?_
  rintro w h15 ⟨rfl, f15⟩
  have F15 := f14.trans f15
  have r15 := row_two ((F15.get h8.next (by omega)).trans g10')
  have e8 := SV.eqV R8.own.sv
  simp (disch := first | omega | (simp only [Qn] <;> omega)) only [go_sem, r15, e8]
  refine (is_ok _ _ 0 (5, [[3, 1], [4, 2]]) (5, [[3, 1], [4, 2]]) h15 ⟨u8, rfl, s10'.mono F15⟩ ⟨_, rfl, s14.mono f15⟩ (fit22 ..) (fit22 ..)).mono ?_
  rintro v h16 ⟨rfl, f16⟩
  rw [decide_eq_true (show (0 : Int) = 0 ∧ ((5, [[3, 1], [4, 2]]) : Mat) = (5, [[3, 1], [4, 2]]) from ⟨rfl, rfl⟩)]
  simp (disch := first | omega | (simp only [Qn] <;> omega)) only [go_sem, decide_true]
  exact F10.trans (F15.trans f16)
end Go.Proofs.Ytonhijbeddcmpaa
/- Layer 4: the laws' numbers: field, drawn; boxes; valid matrices. -/
namespace Go.Proofs.Ytonhijbeddcmpaa
open Go Go.Ay
set_option maxRecDepth 100000
theorem Own.fx {x : Nat} {h h' : H} {v : V} {sz : Nat} {ws : List V} {b : Nat} (o : Own h v sz ws b) (hx : x < b) (f : Fx x h h') : Own h' v sz ws b :=
  o.mono f.next fun id _ _ _ _ h1 h2 => f.get id h2 (by omega)
theorem Rws.fx {x : Nat} {h h' : H} {u : V} {ws : List V} {ll : List (List Int)} {lo : Nat} (r : Rws h u ws ll lo) (hx : x < lo) (f : Fx x h h') : Rws h' u ws ll lo :=
  ⟨Own.fx r.own hx f, All2.keep r.row fun w hw _ s => SI.fx s (r.frs w hw) hx f, r.dis, r.frs⟩
theorem MatO.fx {x : Nat} {h h' : H} {v : V} {a : Mat} {lo : Nat} (o : MatO h v a lo) (hx : x < lo) (f : Fx x h h') : MatO h' v a lo := by
  obtain ⟨u, ws, e, r⟩ := o
  exact ⟨u, ws, e, Rws.fx r hx f⟩
theorem lawfield_ok (k : Int) (h : H) : Ev T n_law04_field [.int .i64 k] h (fun v h' => ∃ p, v = .int .i64 p ∧ fieldF p = true ∧ Fr h h') := by
  refine Ev_of t_law04_field rfl ?_
  have hb : blsV h 1 [.int .i64 0] 7 [(0, 1, .int .i64 2), (1, 1, .int .i64 3), (2, 1, .int .i64 5), (3, 1, .int .i64 7), (4, 1, .int .i64 11), (5, 1, .int .i64 97), (6, 1, .int .i64 9973)] = some (.sl h.next 0 7 (.kn 7), h.new (.cells false (ints [2, 3, 5, 7, 11, 97, 9973]))) := rfl
  simp (disch := first | omega | (simp only [Qn] <;> omega)) only [go_sem, c_law04_field, initV_eq, hb]
  have hfa : Fr h (h.new (.cells false (ints [2, 3, 5, 7, 11, 97, 9973]))) := (Fr.refl h).new _
  have hga : (h.new (.cells false (ints [2, 3, 5, 7, 11, 97, 9973]))).get h.next = some (.cells false (ints [2, 3, 5, 7, 11, 97, 9973])) := H.get_new_same ..
  have hna : (h.new (.cells false (ints [2, 3, 5, 7, 11, 97, 9973]))).next = h.next + 1 := H.next_new ..
  generalize h.new (.cells false (ints [2, 3, 5, 7, 11, 97, 9973])) = ha at *
  refine (pick_ok k 7 ha (by omega) (by omega)).mono ?_
  rintro v h' ⟨rfl, rfl⟩
  have r := tmod_range k (show (0 : Int) < 7 by omega)
  obtain ⟨t, ht⟩ : ∃ t : Nat, k % 7 = (t : Int) := ⟨(k % 7).toNat, by omega⟩
  have ht7 : t < 7 := by omega
  rw [ht]
  have c : h'.cell h.next t = some (.int .i64 (([2, 3, 5, 7, 11, 97, 9973] : List Int).getD t 0)) := own_cell hga t ht7
  simp (disch := first | omega | (simp only [Qn] <;> omega)) only [go_sem, c]
  refine ⟨_, rfl, ?_, hfa⟩
  have key : ∀ t, t < 7 → fieldF (([2, 3, 5, 7, 11, 97, 9973] : List Int).getD t 0) = true := by decide +kernel
  exact key t ht7
/-- Entries that are residues. -/
def InP (p : Int) (n : Nat) (A : Mx) : Prop := ∀ i k, i < n → k < n → 0 ≤ A i k ∧ A i k < p
set_option maxHeartbeats 4000000 in
theorem drawn_ok (x : Nat) (l : List Int) (n : Nat) (p : Int) (h : H) (ht : Tk h x l) (hl : l.length < 1000000) (hn : n ≤ 64) (hp : 1 ≤ p ∧ p < 10000) :
    Ev T n_law04_drawn [.ptr x 0, .int .i64 (n : Int), .int .i64 p] h (fun w h' => ∃ A, InP p n A ∧ MatO h' w (p, mkR n n A) h.next ∧ Tk h' x l ∧ Fx x h h') := by
  have hx : x < h.next := by obtain ⟨_, _, _, _, _, _, h5⟩ := ht; exact h5
  refine Ev_of t_law04_drawn rfl ?_
  have hbl := bldV_fst (z1 := .int .i64 0) (z2 := .nils) (v := .int .i64 p) rfl rfl
  have hst := fun hh id => stV_agg2 hh id 0 (v := .int .i64 p) (u := .nils) rfl rfl
  simp (disch := first | omega | (simp only [Qn] <;> omega)) only [go_sem, c_law04_drawn, initV_eq, hbl]
  have hfa : Fr h (h.new (.cells false [.int .i64 0, .nils])) := (Fr.refl h).new _
  have hga : (h.new (.cells false [.int .i64 0, .nils])).get h.next = some (.cells false [.int .i64 0, .nils]) := H.get_new_same ..
  have hna : (h.new (.cells false [.int .i64 0, .nils])).next = h.next + 1 := H.next_new ..
  generalize h.new (.cells false [.int .i64 0, .nils]) = ha at *
  rw [← hna]
  simp (disch := first | omega | (simp only [Qn] <;> omega)) only [go_sem, hst, bxH_eq]
  have fB := hfa.trans (bxH_fr ha p .nils)
  have gB := bxH_get ha p .nils
  have nB := bxH_next ha p .nils
  have gA := ((bxH_fr ha p .nils).get h.next (by omega)).trans hga
  generalize bxH ha p .nils = hB at *
  obtain ⟨O, hO⟩ : ∃ O, ha.next = O := ⟨_, rfl⟩
  rw [hO] at gB nB
  rw [hO]
  refine Wp_loop (fun k' vars h3 => ∃ (i : Nat) (A : Mx) (u : V) (ws : List V), (∃ g : Nat → V, vars = [.ptr x 0, .int .i64 (n : Int), .int .i64 p, .ptr h.next 0, .ptr O 0, .int .i64 (i : Int), g 6, g 7, g 8, g 9]) ∧ i ≤ n ∧ (∀ a b, a < i → b < n → 0 ≤ A a b ∧ A a b < p) ∧ Rws h3 u ws (mkR i n A) (O + 1) ∧ h3.get O = some (.cells false [.int .i64 p, u]) ∧ h3.get h.next = some (.cells false [.int .i64 0, .nils]) ∧ O < h3.next ∧ Tk h3 x l ∧ Fx x h h3 ∧ k' = n - i) n
    ⟨0, fun _ _ => 0, .nils, [], ex_junk rfl, Nat.zero_le _, fun a b ha => absurd ha (Nat.not_lt_zero a), Rws.nils _ _, gB, gA, by omega, ht.mono fB, Fx.of fB, rfl⟩ ?_
  clear gB gA nB fB ht
  rintro k' vars h3 ⟨i, A, u, ws, ⟨g, rfl⟩, hi, hA, R3, g3, a3, o3, ht, FX, rfl⟩
  simp (disch := first | omega | (simp only [Qn] <;> omega)) only [go_sem]
  by_cases hlt : (i : Int) < (n : Int)
  · rw [decide_eq_true hlt]
    simp (disch := first | omega | (simp only [Qn] <;> omega)) only [go_sem]
    refine Wp_loop (fun k' vars h4 => ∃ (k : Nat) (r : Nat → Int) (v : V), (∃ g : Nat → V, vars = [.ptr x 0, .int .i64 (n : Int), .int .i64 p, .ptr h.next 0, .ptr O 0, .int .i64 (i : Int), v, .int .i64 (k : Int), g 8, g 9]) ∧ k ≤ n ∧ (∀ b, b < k → 0 ≤ r b ∧ r b < p) ∧ Own h4 v 1 (ints (mkV k r)) h3.next ∧ Tk h4 x l ∧ Fx x h3 h4 ∧ k' = n - k) n
      ⟨0, fun _ => 0, .nils, ex_junk rfl, Nat.zero_le _, fun b hb => absurd hb (Nat.not_lt_zero b), Own.nils _ _ _, ht, Fx.refl _ _, rfl⟩ ?_
    rintro k' vars h4 ⟨k, r, v, ⟨g, rfl⟩, hk, hr, ov, ht4, FX4, rfl⟩
    simp (disch := first | omega | (simp only [Qn] <;> omega)) only [go_sem]
    by_cases hlt2 : (k : Int) < (n : Int)
    · rw [decide_eq_true hlt2]
      simp (disch := first | omega | (simp only [Qn] <;> omega)) only [go_sem]
      refine (take_ok x l p h4 ht4 hl hp.1 (by omega)).mono ?_
      rintro vz h5 ⟨z, rfl, z1, z2, ht5, FX5⟩
      simp (disch := first | omega | (simp only [Qn] <;> omega)) only [go_sem, bls_int]
      have n34 := FX4.next
      have n45 := FX5.next
      have o5 := (Own.fx ov (by omega) FX5).fr ((Fr.refl h5).new (.cells false (ints [z])))
      have hy : SV (h5.new (.cells false (ints [z]))) (.sl h5.next 0 1 (.kn 1)) 1 (ints [z]) := SV.all rfl (by rw [H.next_new]; omega) (H.get_new_same ..) _
      obtain ⟨v6, h6, e6, a6⟩ := o5.app (bytes := 8) (n := k) (m := 1) (by rw [H.next_new]; omega) hy (by rw [ints_length, mkV_len, Nat.mul_one]) rfl (by omega) (by omega)
      simp (disch := first | omega | (simp only [Qn] <;> omega)) only [go_sem, e6]
      rw [show (k : Int) + 1 = ((k + 1 : Nat) : Int) from by omega]
      have n6 := a6.next
      rw [H.next_new] at n6
      have g6 : ∀ id, id < h3.next → h6.get id = h5.get id := fun id hid => (a6.get id (by rw [H.next_new]; omega) (own_apart o5 hid)).trans (H.get_new_ne _ (by omega) _)
      have e : ints (mkV k r) ++ ints [z] = ints (mkV (k + 1) fun b => if b = k then z else r b) := by
        rw [mkV_succ, if_pos rfl, ints_append, mkV_congr (g := r) fun b hb => if_neg (by omega)]
      have oo := a6.own
      rw [e] at oo
      refine ⟨n - (k + 1), by omega, k + 1, _, v6, ex_junk rfl, by omega, fun b hb => ?_, oo, ht5.low (by omega) fun id hid => g6 id (by omega), ⟨by omega, fun id hid hne => (g6 id hid).trans ((FX4.trans FX5).get id hid hne)⟩, rfl⟩
      by_cases e : b = k
      · rw [if_pos e]; exact ⟨z1, z2⟩
      · rw [if_neg e]; exact hr b (by omega)
    · rw [decide_eq_false hlt2]
      obtain rfl : n = k := by omega
      have n34 := FX4.next
      have g4 := (FX4.get O (by omega) (by omega)).trans g3
      have a4 := (FX4.get h.next (by omega) (by omega)).trans a3
      have cO : h4.cell O 1 = some u := by rw [H.cell_of g4]; rfl
      have vv := SV.what ov.sv
      have R4 := (Rws.fx R3 (by omega) FX4).fr ((Fr.refl h4).new (.cells false [v]))
      have hy : SV (h4.new (.cells false [v])) (.sl h4.next 0 1 (.kn 1)) 1 [v] := SV.all rfl (by rw [H.next_new]; omega) (H.get_new_same ..) _
      have hlen := R3.row.length
      rw [mkR_len] at hlen
      have sv4 : SI h4 v (mkV n r) := ov.sv
      obtain ⟨w, h6, e6, R6, n6, k6, q6⟩ := R4.app (by rw [H.next_new]; omega) hy (sv4.mono ((Fr.refl h4).new _)) (Own.dis R3.own ov) (Frs.le (Frs.own ov) (by omega)) (by omega)
      rw [H.next_new] at n6
      have hlow : ∀ id, id < O + 1 → h6.get id = h4.get id := fun id hid => (k6 id (by rw [H.next_new]; omega) (own_apart R4.own hid)).trans (H.get_new_ne _ (by omega) _)
      have g6 := (hlow O (by omega)).trans g4
      have hv := SV.what R6.own.sv
      have hst1 := fun hh => stV_one hv.1 hv.2.1 hh O 1
      have cO' : (h4.new (.cells false [v])).cell O 1 = some u := by rw [H.cell_new_ne _ (by omega)]; exact cO
      simp (disch := first | omega | (simp only [Qn] <;> omega)) only [go_sem, cO, bls_v h4 v vv.1 vv.2.1, e6, hst1, g6, putO_snd]
      rw [show (i : Int) + 1 = ((i + 1 : Nat) : Int) from by omega]
      have em : mkR i n A ++ [mkV n r] = mkR (i + 1) n (fun a b => if a = i then r b else A a b) := by
        rw [mkR_succ, mkR_congr (g := A) fun a b ha _ => if_neg (by omega), mkV_congr (f := fun b => if i = i then r b else A i b) (g := r) fun b _ => if_pos rfl]
      rw [em] at R6
      refine ⟨n - (i + 1), by omega, i + 1, _, w, _, ex_junk rfl, by omega, fun a b ha hb => ?_, R6.set (by omega) _, rfl, ?_, ?_, ?_, ?_, rfl⟩
      · by_cases e : a = i
        · rw [if_pos e]; exact hr b hb
        · rw [if_neg e]; exact hA a b (by omega) hb
      · exact (hlow h.next (by omega)).trans a4
      · show O < h6.next; omega
      · refine ht4.low (by show h4.next ≤ h6.next; omega) fun id hid => ?_
        rw [H.get_set_ne _ (by omega)]; exact hlow id (by omega)
      · refine ⟨by show h.next ≤ h6.next; have := FX.next; omega, fun id hid hne => ?_⟩
        rw [H.get_set_ne _ (by omega)]
        exact (hlow id (by omega)).trans ((FX.trans FX4).get id hid hne)
  · rw [decide_eq_false hlt]
    obtain rfl : n = i := by omega
    have rr := row_two g3
    have vu := SV.what R3.own.sv
    have hst2 := fun hh => stV_agg2 hh h.next 0 (v := .int .i64 p) (u := u) rfl vu.2.1
    have hrow := row_two (h := h3.set h.next (some (.cells false [.int .i64 p, u]))) (H.get_set_same ..)
    simp (disch := first | omega | (simp only [Qn] <;> omega)) only [go_sem, rr, hst2, a3, hrow]
    refine ⟨A, fun a b ha hb => hA a b ha hb, ⟨u, ws, rfl, (R3.set (by omega) _).le (by omega)⟩, ?_, FX.setf (Nat.le_refl _) _⟩
    refine ht.low (Nat.le_refl _) fun id hid => H.get_set_ne _ (by omega) _
end Go.Proofs.Ytonhijbeddcmpaa
/- Layer 4: valid square matrices; boxes. -/
namespace Go.Proofs.Ytonhijbeddcmpaa
open Go Go.Ay
set_option maxRecDepth 100000
/-- Valid square matrices. -/
structure Sq (p : Int) (n : Nat) : Prop where
  f : fieldF p = true
  n1 : 1 ≤ n
  n2 : n ≤ 64
theorem Sq.p {p : Int} {n : Nat} (s : Sq p n) : 2 ≤ p ∧ p < 10000 := fieldF_range s.f
theorem len0 {n : Nat} (h1 : 1 ≤ n) (A : Mx) : ((mkR n n A).getD 0 []).length = n := by rw [mkR_row _ h1, mkV_len]
theorem Sq.vd {p : Int} {n : Nat} (s : Sq p n) {A : Mx} (hA : InP p n A) : Vd (p, mkR n n A) n :=
  ⟨s.f, by simp only [mkR_len]; exact s.n1, by simp only [mkR_len]; exact s.n2, s.n1, s.n2, fun i hi => by
    simp only [mkR_len] at hi
    simp only
    rw [mkR_row _ hi, mkV_len], fun i k hi hk => by
    simp only [mkR_len] at hi
    simp only
    rw [mkR_ent _ hi hk]; exact (hA i k hi hk).1, fun i k hi hk => by
    simp only [mkR_len] at hi
    simp only
    rw [mkR_ent _ hi hk]; exact (hA i k hi hk).2⟩
theorem Sq.fit {p : Int} {n : Nat} (s : Sq p n) {A B : Mx} (hA : InP p n A) (hB : InP p n B) : fitF (p, mkR n n A) (p, mkR n n B) = 0 := by
  rw [fitF, vd_check (s.vd hA), vd_check (s.vd hB)]; simp
theorem Sq.fits {p : Int} {n : Nat} (s : Sq p n) (A : Mx) : Fit (p, mkR n n A) := by
  have := s.n2
  refine ⟨by simp only [mkR_len]; omega, fun i hi => ?_⟩
  simp only [mkR_len] at hi
  simp only
  rw [mkR_row _ hi, mkV_len]; omega
theorem Sq.la {p : Int} {n : Nat} (s : Sq p n) (A : Mx) : (((p, mkR n n A) : Mat).2.length : Int) ≤ 2 ^ 63 - 1 := by
  have := s.n2
  simp only [mkR_len]; omega
def mmP (p : Int) (n : Nat) (A B : Mx) : Mx := fun i k => mulM n A B i k % p
theorem Sq.mul {p : Int} {n : Nat} (s : Sq p n) {A B : Mx} (hA : InP p n A) (hB : InP p n B) : MulF (p, mkR n n A) (p, mkR n n B) = ((p, mkR n n (mmP p n A B)), 0) := by
  rw [MulF, s.fit hA hB, if_neg (by simp), if_neg (by simp only [mkR_len, len0 s.n1, ne_eq, not_true_eq_false, not_false_eq_true])]
  simp only [len0 s.n1, mulF, mkR_len]
  rw [mkR_congr fun i k hi hk => ?_]
  refine congrArg (· % p) (sm_congr fun j hj => ?_)
  rw [mkR_ent _ hi hj, mkR_ent _ hj hk]
theorem Sq.mm {p : Int} {n : Nat} (s : Sq p n) (A B : Mx) : InP p n (mmP p n A B) := fun i k _ _ => tmod_range _ (by have := s.p; omega)
theorem Sq.add {p : Int} {n : Nat} (s : Sq p n) {A B : Mx} (hA : InP p n A) (hB : InP p n B) : AddF (p, mkR n n A) (p, mkR n n B) = ((p, mkR n n (fun i k => (A i k + B i k) % p)), 0) := by
  rw [AddF, s.fit hA hB, if_neg (by simp), if_neg (by simp only [mkR_len, len0 s.n1, ne_eq, not_true_eq_false, or_self, not_false_eq_true])]
  simp only [len0 s.n1, mkR_len]
  rw [mkR_congr fun i k hi hk => ?_]
  rw [mkR_ent _ hi hk, mkR_ent _ hi hk, Int.one_mul]
theorem Sq.ad {p : Int} {n : Nat} (s : Sq p n) (A B : Mx) : InP p n (fun i k => (A i k + B i k) % p) := fun i k _ _ => tmod_range _ (by have := s.p; omega)
theorem Sq.turn {p : Int} {n : Nat} (s : Sq p n) {A : Mx} (hA : InP p n A) : TurnF (p, mkR n n A) = ((p, mkR n n (trM A)), 0) := by
  rw [TurnF, vd_check (s.vd hA), if_neg (by simp)]
  simp only [len0 s.n1, mkR_len]
  rw [mkR_congr fun i k hi hk => ?_]
  rw [mkR_ent _ hk hi]; rfl
theorem Sq.tr {p : Int} {n : Nat} {A : Mx} (hA : InP p n A) : InP p n (trM A) := fun i k hi hk => hA k i hk hi
theorem Sq.scale {p : Int} {n : Nat} (s : Sq p n) {A : Mx} (hA : InP p n A) (k : Int) : ScaleF (p, mkR n n A) k = ((p, mkR n n (fun i j => (k % p) * A i j % p)), 0) := by
  rw [ScaleF, vd_check (s.vd hA), if_neg (by simp)]
  simp only [len0 s.n1, mkR_len]
  rw [mkR_congr fun i j hi hj => ?_]
  rw [mkR_ent _ hi hj]
theorem Sq.sc {p : Int} {n : Nat} (s : Sq p n) (k : Int) (A : Mx) : InP p n (fun i j => (k % p) * A i j % p) := fun i k _ _ => tmod_range _ (by have := s.p; omega)
theorem Sq.one {p : Int} {n : Nat} (s : Sq p n) : OneF (n : Int) p = ((p, mkR n n idM), 0) := by
  have := s.n1
  have := s.n2
  rw [OneF, if_neg (by rw [s.f]; simp), if_neg (by omega), Int.toNat_natCast]; rfl
theorem Sq.on {p : Int} {n : Nat} (s : Sq p n) : InP p n idM := fun i k _ _ => by
  have := s.p
  simp only [idM]
  split <;> omega
/-- A box with a matrix. -/
def MB (h : H) (id : Nat) (a : Mat) : Prop := ∃ u, h.get id = some (.cells false [.int .i64 a.1, u]) ∧ SR h u a.2 ∧ id < h.next
theorem MB.mono {h h' : H} {id : Nat} {a : Mat} (b : MB h id a) (f : Fr h h') : MB h' id a := by
  obtain ⟨u, h1, h2, h3⟩ := b
  exact ⟨u, (f.get id h3).trans h1, h2.mono f, Nat.lt_of_lt_of_le h3 f.next⟩
theorem MB.row {h : H} {id : Nat} {p : Int} {L : List (List Int)} (b : MB h id (p, L)) : ∃ u, h.row id 0 2 = some [.int .i64 p, u] ∧ MatV h (.agg [.int .i64 p, u]) (p, L) := by
  obtain ⟨u, h1, h2, h3⟩ := b
  exact ⟨u, row_two h1, u, rfl, h2⟩
theorem MB.new {h : H} {p : Int} {L : List (List Int)} {u : V} (s : SR h u L) : MB (bxH h p u) h.next (p, L) :=
  ⟨u, bxH_get h p u, s.mono (bxH_fr h p u), by rw [bxH_next]; omega⟩
theorem d6' : decide ((0 : Int) ≠ 0) = false := by decide
theorem d0' : decide ((0 : Int) = 0) = true := by decide
/-! the laws -/
theorem mm_assoc {p : Int} {n : Nat} (A B C : Mx) : mkR n n (mmP p n (mmP p n A B) C) = mkR n n (mmP p n A (mmP p n B C)) := mkR_congr fun i k _ _ => by
  have em : ∀ a : Int, a % p % p = a % p := fun a => Int.emod_emod_of_dvd _ (Int.dvd_refl p)
  simp only [mmP]
  rw [mulM_mod (A' := mulM n A B) (B' := C) (fun j _ => em _) (fun _ _ => rfl), mulM_mod (A := A) (A' := A) (B' := mulM n B C) (fun _ _ => rfl) (fun j _ => em _), mulM_assoc]
theorem mm_dist {p : Int} {n : Nat} (A B C : Mx) : mkR n n (mmP p n A (fun i k => (B i k + C i k) % p)) = mkR n n (fun i k => (mmP p n A B i k + mmP p n A C i k) % p) := mkR_congr fun i k _ _ => by
  have em : ∀ a : Int, a % p % p = a % p := fun a => Int.emod_emod_of_dvd _ (Int.dvd_refl p)
  simp only [mmP]
  rw [mulM_mod (A' := A) (B' := fun i k => B i k + C i k) (fun _ _ => rfl) (fun j _ => em _), ← Int.add_emod]
  simp only [mulM]
  rw [← sm_add]
  exact congrArg (· % p) (sm_congr fun j _ => by rw [Int.mul_add])
theorem mm_turn {p : Int} {n : Nat} (A B : Mx) : mkR n n (trM (mmP p n A B)) = mkR n n (mmP p n (trM B) (trM A)) := mkR_congr fun i k _ _ => by
  simp only [mmP, trM, mulM]
  exact congrArg (· % p) (sm_congr fun j _ => Int.mul_comm _ _)
theorem mm_scale {p : Int} {n : Nat} (A : Mx) (k : Int) : mkR n n (fun i j => (k % p) * A i j % p) = mkR n n (mmP p n A (fun i j => (k % p) * idM i j % p)) := mkR_congr fun i j _ hj => by
  have em : ∀ a : Int, a % p % p = a % p := fun a => Int.emod_emod_of_dvd _ (Int.dvd_refl p)
  simp only [mmP]
  rw [mulM_mod (A := A) (A' := A) (B' := fun i j => (k % p) * idM i j) (fun _ _ => rfl) (fun l _ => em _)]
  simp only [mulM, idM]
  rw [sm_one (t := j) hj fun l _ hne => by rw [if_neg hne]; simp, if_pos rfl]
  congr 1
  grind
end Go.Proofs.Ytonhijbeddcmpaa
/- Layer 4: powers. -/
namespace Go.Proofs.Ytonhijbeddcmpaa
open Go Go.Ay
set_option maxRecDepth 100000
theorem wrap_u64 {n : Int} (h1 : 0 ≤ n) (h2 : n < 18446744073709551616) : IntKind.u64.wrap n = n := by
  have : IntKind.u64.wrap n = n % 18446744073709551616 := by
    simp [IntKind.wrap, IntKind.bits, IntKind.signed]
  rw [this, Int.emod_eq_of_lt h1 h2]
theorem wrap_u64_neg {n : Int} (h1 : -18446744073709551616 ≤ n) (h2 : n < 0) : IntKind.u64.wrap n = n + 18446744073709551616 := by
  have : IntKind.u64.wrap n = n % 18446744073709551616 := by
    simp [IntKind.wrap, IntKind.bits, IntKind.signed]
  rw [this, ← Int.add_emod_right, Int.emod_eq_of_lt (by omega) (by omega)]
def pwG (n : Nat) : Nat → Mat → Mat → Nat → Mat
  | 0, out, _, _ => out
  | f + 1, out, x, left => if left = 0 then out else pwG n f (if left % 2 = 1 then mulF out x n n else out) (mulF x x n n) (left / 2)
noncomputable def PowF (a : Mat) (k : Int) : Mat × Int :=
  if sqF a ≠ 0 then ((0, []), sqF a)
  else if k < 0 ∧ (InvF a).2 ≠ 0 then ((0, []), (InvF a).2)
  else (pwG a.2.length 64 (oneF a.2.length a.1) (if k < 0 then (InvF a).1 else a) k.natAbs, 0)
/-- A unit has an inverse. -/
theorem inv_ex {p : Int} (hp : isP p = true) {m : Nat} {A : Mx} (hd : det (m + 1) A % p ≠ 0) : ∃ X, IsInv p (m + 1) A X := by
  have P := isP_pr hp
  have h2 := P.two
  have hr := tmod_range (det (m + 1) A) (show 0 < p by omega)
  have f := fermat P (a := det (m + 1) A % p) (by omega) (by omega)
  rw [show (p.toNat : Int) = p by omega] at f
  obtain ⟨e, he⟩ : ∃ e, (det (m + 1) A % p) ^ (p.toNat - 2) = e := ⟨_, rfl⟩
  rw [he] at f
  have em : ∀ a : Int, a % p % p = a % p := fun a => Int.emod_emod_of_dvd _ (Int.dvd_refl p)
  have f2 : e * det (m + 1) A % p = 1 := by
    rw [Int.mul_comm, mul_mod (em (det (m + 1) A)).symm (rfl : e % p = e % p)]; exact f
  refine ⟨fun i j => e * adjM m A i j % p, fun i j _ _ => (tmod_range _ (by omega)).1, fun i j _ _ => (tmod_range _ (by omega)).2, fun i j hi hj => ?_⟩
  rw [mulM_mod (A' := fun i j => e * adjM m A i j) (B' := A) (fun k _ => em _) (fun _ _ => rfl)]
  have e1 : mulM (m + 1) (fun i j => e * adjM m A i j) A i j = e * mulM (m + 1) (adjM m A) A i j := by
    simp only [mulM]
    rw [← sm_mul]
    exact sm_congr fun k _ => by rw [Int.mul_assoc]
  rw [e1, adj_mul A hi hj]
  simp only [idM]
  split
  · rw [f2]; exact (one_mod (by omega)).symm
  · rw [Int.mul_zero]
theorem inv_vd {a : Mat} (h : (InvF a).2 = 0) : ∃ X, IsInv a.1 a.2.length (ent a.2) X ∧ (InvF a).1 = (a.1, mkR a.2.length a.2.length X) ∧ InP a.1 a.2.length X := by
  have hz := inv_sq h
  have da := sq_vd hz
  have hd : ¬ det a.2.length (ent a.2) % a.1 = 0 := fun e => by
    rw [InvF, if_neg (by simp [hz]), if_pos e] at h
    cases h
  obtain ⟨m, hm⟩ : ∃ m, a.2.length = m + 1 := ⟨a.2.length - 1, by have := da.r1; omega⟩
  have hP : isP a.1 = true := by
    have := da.p
    simp only [fieldF, Bool.and_eq_true] at this; exact this.2
  rw [InvF, if_neg (by simp [hz]), if_neg hd]
  rw [hm] at hd ⊢
  obtain ⟨X, hX⟩ := inv_ex hP hd
  exact ⟨X, hX, by rw [invX_eq hX], fun i k hi hk => ⟨hX.lo i k hi hk, hX.hi i k hi hk⟩⟩
/-- A slice in no block of the list. -/
def Away (bad : List Nat) (v : V) : Prop := ∀ id off n c, v = .sl id off n c → id ∉ bad
/-- Rows in no block of the list. -/
def SRa (h : H) (u : V) (ll : List (List Int)) (bad : List Nat) : Prop := ∃ ws, SV h u 1 ws ∧ All2 (SI h) ws ll ∧ Away bad u ∧ ∀ w ∈ ws, Away bad w
theorem SRa.sr {h : H} {u : V} {ll : List (List Int)} {bad : List Nat} (s : SRa h u ll bad) : SR h u ll := by
  obtain ⟨ws, h1, h2, _⟩ := s; exact ⟨ws, h1, h2⟩
theorem SRa.fr {h h' : H} {u : V} {ll : List (List Int)} {bad : List Nat} (s : SRa h u ll bad) (f : Fr h h') : SRa h' u ll bad := by
  obtain ⟨ws, h1, h2, h3, h4⟩ := s
  exact ⟨ws, h1.mono f, h2.mono fun _ _ x => x.mono f, h3, h4⟩
theorem SRa.set {h : H} {u : V} {ll : List (List Int)} {bad : List Nat} (s : SRa h u ll bad) {x : Nat} (hx : x ∈ bad) (o : Option Ob) : SRa (h.set x o) u ll bad := by
  obtain ⟨ws, h1, h2, h3, h4⟩ := s
  refine ⟨ws, ?_, All2.keep h2 fun w hw _ q => SI.keep q (Nat.le_refl _) fun id off n c e => H.get_set_ne h (fun e2 => h4 w hw _ _ _ _ e (by rw [e2]; exact hx)) o, h3, h4⟩
  rcases h1 with h1 | ⟨id, off, len, cap, ro, vs, q1, q2, q3, q4, q5, q6⟩
  · exact .inl h1
  · exact .inr ⟨id, off, len, cap, ro, vs, q1, q2, q3, by rw [H.get_set_ne h (fun e2 => h3 _ _ _ _ q1 (by rw [e2]; exact hx))]; exact q4, q5, q6⟩
theorem SV.lt {h : H} {v : V} {sz : Nat} {ws : List V} (s : SV h v sz ws) {id off n : Nat} {c : Cap} (e : v = .sl id off n c) : id < h.next := by
  rcases s with ⟨h1, _⟩ | ⟨id', o', l', c', _, _, h1, _, h3, _⟩
  · rw [h1] at e; cases e
  · rw [h1] at e; cases e; exact h3
theorem all2_lt {h : H} {ws : List V} {ll : List (List Int)} (a : All2 (SI h) ws ll) {w : V} (hw : w ∈ ws) {id off n : Nat} {c : Cap} (e : w = .sl id off n c) : id < h.next := by
  obtain ⟨i, hi, rfl⟩ := List.mem_iff_getElem.1 hw
  exact SI.lt (a.get i hi (by rw [← a.length]; exact hi)) e
/-- From of old. -/
theorem SRa.old {h : H} {u : V} {ll : List (List Int)} {bad : List Nat} (s : SR h u ll) (hb : ∀ b ∈ bad, h.next ≤ b) : SRa h u ll bad := by
  obtain ⟨ws, h1, h2⟩ := s
  exact ⟨ws, h1, h2, fun id off n c e hm => by have := SV.lt h1 e; have := hb id hm; omega, fun w hw id off n c e hm => by have := all2_lt h2 hw e; have := hb id hm; omega⟩
/-- New. -/
theorem SRa.new {h : H} {u : V} {ws : List V} {ll : List (List Int)} {lo : Nat} {bad : List Nat} (r : Rws h u ws ll lo) (hb : ∀ b ∈ bad, b < lo ∨ h.next ≤ b) : SRa h u ll bad :=
  ⟨ws, r.own.sv, r.row, fun id off n c e hm => by
    have := SV.lt r.own.sv e
    have := Frs.own r.own _ _ _ _ e
    have := hb id hm; omega, fun w hw id off n c e hm => by
    have := all2_lt r.row hw e
    have := r.frs w hw _ _ _ _ e
    have := hb id hm; omega⟩
structure PI0 (p : Int) (n : Nat) (rc : LRec) (L6 O9 XB LID A3 : Nat) (base : H) (left : Nat) (out x : Mat) (uo ux : V) (hh : H) : Prop where
  gL : hh.get LID = some (.loop rc)
  g6 : hh.get L6 = some (.cells false [.int .u64 (left : Int)])
  g9 : hh.get O9 = some (.cells false [.int .i64 p, uo])
  gX : hh.get XB = some (.cells false [.int .i64 p, ux])
  so : SRa hh uo out.2 [L6, O9, XB, LID, A3]
  sx : SRa hh ux x.2 [L6, O9, XB, LID, A3]
  o1 : out.1 = p
  x1 : x.1 = p
  vo : Vd out n
  vx : Vd x n
  lo : out.2.length = n
  lx : x.2.length = n
  lt : LID < hh.next
  fr : Fr base hh
def DN (p : Int) (rc : LRec) (O9 LID : Nat) (RES : Mat) (base : H) (L6 XB A3 : Nat) (hh : H) : Prop := ∃ uo, hh.get LID = some (.loop { rc with st := .done, pend := some (.exit 0) }) ∧ hh.get O9 = some (.cells false [.int .i64 p, uo]) ∧ SRa hh uo RES.2 [L6, O9, XB, LID, A3] ∧ Fr base hh ∧ RES.1 = p
theorem PI0.set {p : Int} {n : Nat} {rc : LRec} {L6 O9 XB LID A3 : Nat} {base : H} {left : Nat} {out x : Mat} {uo ux : V} {hh : H} (k : PI0 p n rc L6 O9 XB LID A3 base left out x uo ux hh) (hs : base.next ≤ L6 ∧ L6 < O9 ∧ O9 < XB ∧ XB < LID) (rc' : LRec) : PI0 p n rc' L6 O9 XB LID A3 base left out x uo ux (hh.set LID (some (.loop rc'))) :=
  ⟨H.get_set_same .., by rw [H.get_set_ne _ (by omega)]; exact k.g6, by rw [H.get_set_ne _ (by omega)]; exact k.g9, by rw [H.get_set_ne _ (by omega)]; exact k.gX, k.so.set (by simp) _, k.sx.set (by simp) _, k.o1, k.x1, k.vo, k.vx, k.lo, k.lx, k.lt, k.fr.set (by omega) _⟩
theorem SRa.ext {h : H} {u : V} {ll : List (List Int)} {bad bad' : List Nat} (s : SRa h u ll bad) (hb : ∀ b ∈ bad', b ∈ bad ∨ h.next ≤ b) : SRa h u ll bad' := by
  obtain ⟨ws, h1, h2, h3, h4⟩ := s
  refine ⟨ws, h1, h2, fun id off n c e hm => ?_, fun w hw id off n c e hm => ?_⟩
  · rcases hb id hm with q | q
    · exact h3 _ _ _ _ e q
    · have := SV.lt h1 e; omega
  · rcases hb id hm with q | q
    · exact h4 w hw _ _ _ _ e q
    · have := all2_lt h2 hw e; omega
theorem iteW_then {p : Nat → Option Ay.Fn} {rd : Option Nat} {a b c : C} {vars : List V} {h : H} {Q : E → List V → H → Prop} {v : V} (J : List V → H → Prop) (h1 : iteW p rd a b vars h (fun e vs h' => e = .norm ∧ J vs h' ∨ e ≠ .norm ∧ Q e vs h') v) (h2 : ∀ vs h', J vs h' → Wp p rd c vs h' Q) : iteW p rd a b vars h (thenP p rd c Q) v := by
  have key : ∀ e vs h', (e = .norm ∧ J vs h' ∨ e ≠ .norm ∧ Q e vs h') → thenP p rd c Q e vs h' := fun e vs h' q => by
    rcases q with ⟨rfl, q⟩ | ⟨hne, q⟩
    · exact h2 vs h' q
    · cases e
      · exact absurd rfl hne
      · exact q
      · exact q
  cases v with
  | bool t =>
    cases t
    · exact Wp.mono (show Wp p rd b vars h _ from h1) key
    · exact Wp.mono (show Wp p rd a vars h _ from h1) key
  | _ => exact (show False from h1).elim
theorem PI0.frm {p : Int} {n : Nat} {rc : LRec} {L6 O9 XB LID A3 : Nat} {base : H} {left : Nat} {out x : Mat} {uo ux : V} {hh h' : H} (k : PI0 p n rc L6 O9 XB LID A3 base left out x uo ux hh) (hs : base.next ≤ L6 ∧ L6 < O9 ∧ O9 < XB ∧ XB < LID) (f : Fr hh h') : PI0 p n rc L6 O9 XB LID A3 base left out x uo ux h' := by
  have ltL := k.lt
  exact ⟨(f.get _ (by omega)).trans k.gL, (f.get _ (by omega)).trans k.g6, (f.get _ (by omega)).trans k.g9, (f.get _ (by omega)).trans k.gX, k.so.fr f, k.sx.fr f, k.o1, k.x1, k.vo, k.vx, k.lo, k.lx, Nat.lt_of_lt_of_le k.lt f.next, k.fr.trans f⟩
theorem PI0.setO {p : Int} {n : Nat} {rc : LRec} {L6 O9 XB LID A3 : Nat} {base : H} {left : Nat} {out x out' : Mat} {uo ux uo' : V} {hh : H} (k : PI0 p n rc L6 O9 XB LID A3 base left out x uo ux hh) (hs : base.next ≤ L6 ∧ L6 < O9 ∧ O9 < XB ∧ XB < LID) (so : SRa hh uo' out'.2 [L6, O9, XB, LID, A3]) (o1 : out'.1 = p) (vo : Vd out' n) (lo : out'.2.length = n) : PI0 p n rc L6 O9 XB LID A3 base left out' x uo' ux (hh.set O9 (some (.cells false [.int .i64 p, uo']))) :=
  ⟨by rw [H.get_set_ne _ (by omega)]; exact k.gL, by rw [H.get_set_ne _ (by omega)]; exact k.g6, H.get_set_same .., by rw [H.get_set_ne _ (by omega)]; exact k.gX, so.set (by simp) _, k.sx.set (by simp) _, o1, k.x1, vo, k.vx, lo, k.lx, k.lt, k.fr.set (by omega) _⟩
theorem PI0.setX {p : Int} {n : Nat} {rc : LRec} {L6 O9 XB LID A3 : Nat} {base : H} {left : Nat} {out x x' : Mat} {uo ux ux' : V} {hh : H} (k : PI0 p n rc L6 O9 XB LID A3 base left out x uo ux hh) (hs : base.next ≤ L6 ∧ L6 < O9 ∧ O9 < XB ∧ XB < LID) (sx : SRa hh ux' x'.2 [L6, O9, XB, LID, A3]) (x1 : x'.1 = p) (vx : Vd x' n) (lx : x'.2.length = n) : PI0 p n rc L6 O9 XB LID A3 base left out x' uo ux' (hh.set XB (some (.cells false [.int .i64 p, ux']))) :=
  ⟨by rw [H.get_set_ne _ (by omega)]; exact k.gL, by rw [H.get_set_ne _ (by omega)]; exact k.g6, by rw [H.get_set_ne _ (by omega)]; exact k.g9, H.get_set_same .., k.so.set (by simp) _, sx.set (by simp) _, k.o1, x1, k.vo, vx, k.lo, lx, k.lt, k.fr.set (by omega) _⟩
theorem PI0.setL {p : Int} {n : Nat} {rc : LRec} {L6 O9 XB LID A3 : Nat} {base : H} {left : Nat} {out x : Mat} {uo ux : V} {hh : H} (k : PI0 p n rc L6 O9 XB LID A3 base left out x uo ux hh) (hs : base.next ≤ L6 ∧ L6 < O9 ∧ O9 < XB ∧ XB < LID) (left' : Nat) : PI0 p n rc L6 O9 XB LID A3 base left' out x uo ux (hh.set L6 (some (.cells false [.int .u64 (left' : Int)]))) :=
  ⟨by rw [H.get_set_ne _ (by omega)]; exact k.gL, H.get_set_same .., by rw [H.get_set_ne _ (by omega)]; exact k.g9, by rw [H.get_set_ne _ (by omega)]; exact k.gX, k.so.set (by simp) _, k.sx.set (by simp) _, k.o1, k.x1, k.vo, k.vx, k.lo, k.lx, k.lt, k.fr.set (by omega) _⟩
theorem squares_ok (p : Int) (u : V) (h : H) (hu : u.one = true) : Ev T n_matrix_squares [.agg [.int .i64 p, u]] h (fun v h' => v = .fn 87 [] [.ptr h.next 0] ∧ h' = h.new (.cells false [.int .i64 p, u])) := by
  refine Ev_of t_matrix_squares rfl ?_
  simp (disch := first | omega | (simp only [Qn] <;> omega)) only [go_sem, c_matrix_squares, initV_eq, boxV_agg2 h (v := .int .i64 p) rfl hu]
set_option maxHeartbeats 16000000 in
theorem Pow_ok (va : V) (a : Mat) (k : Int) (h : H) (ha : MatV h va a) (la : (a.2.length : Int) ≤ 2 ^ 63 - 1) (hk : -9223372036854775808 ≤ k ∧ k < 9223372036854775808) :
    Ev T n_matrix_Pow [va, .int .i64 k] h (fun v h' => ∃ w, v = .tup [w, .int .i64 (PowF a k).2] ∧ MatV h' w (PowF a k).1 ∧ Fr h h') := by
  obtain ⟨ua, rfl, hua⟩ := ha
  refine Ev_of t_matrix_Pow rfl ?_
  have wa := SV.what hua.choose_spec.1
  simp (disch := first | omega | (simp only [Qn] <;> omega)) only [go_sem, c_matrix_Pow, initV_eq, boxV_agg2 h (v := .int .i64 a.1) rfl wa.2.1]
  have hfx : Fr h (h.new (.cells false [.int .i64 a.1, ua])) := (Fr.refl h).new _
  have hgx : (h.new (.cells false [.int .i64 a.1, ua])).get h.next = some (.cells false [.int .i64 a.1, ua]) := H.get_new_same ..
  have hnx : (h.new (.cells false [.int .i64 a.1, ua])).next = h.next + 1 := H.next_new ..
  generalize h.new (.cells false [.int .i64 a.1, ua]) = hx at *
  have hfy : Fr hx (hx.new (.cells false [.int .i64 0, .nils])) := (Fr.refl hx).new _
  have hgy : (hx.new (.cells false [.int .i64 0, .nils])).get hx.next = some (.cells false [.int .i64 0, .nils]) := H.get_new_same ..
  have hny : (hx.new (.cells false [.int .i64 0, .nils])).next = hx.next + 1 := H.next_new ..
  generalize hx.new (.cells false [.int .i64 0, .nils]) = hy at *
  have F := hfx.trans hfy
  have gx := (hfy.get h.next (by omega)).trans hgx
  simp (disch := first | omega | (simp only [Qn] <;> omega)) only [go_sem, row_two gx]
  refine (square_ok _ a hy ⟨ua, rfl, hua.mono F⟩ la).mono ?_
  rintro v h5 ⟨rfl, f5⟩
  have F5 := F.trans f5
  have gx5 := (f5.get h.next (by omega)).trans gx
  have gy5 := (f5.get hx.next (by omega)).trans hgy
  have n5 := f5.next
  rw [← hnx]
  obtain ⟨A2, hA2⟩ : ∃ A2, h.next = A2 := ⟨_, rfl⟩
  obtain ⟨A3, hA3⟩ : ∃ A3, hx.next = A3 := ⟨_, rfl⟩
  rw [hA2] at gx5
  rw [hA3] at gy5
  rw [hA2, hA3]
  have hst0 := fun hh => stV_agg2 hh A3 0 (v := .int .i64 0) (u := .nils) rfl rfl
  simp (disch := first | omega | (simp only [Qn] <;> omega)) only [go_sem]
  refine iteW_dec (fun he => ?_) (fun he => ?_)
  · have hrow := row_two (h := h5.set A3 (some (.cells false [.int .i64 0, .nils]))) (H.get_set_same ..)
    simp (disch := first | omega | (simp only [Qn] <;> omega)) only [go_sem, bldV_nil, hst0, gy5, hrow]
    have e : PowF a k = ((0, []), sqF a) := by rw [PowF, if_pos he]
    rw [e]
    exact ⟨_, rfl, ⟨.nils, rfl, SR.nils _⟩, F5.set (by omega) _⟩
  have hz : sqF a = 0 := Classical.byContradiction he
  have da := sq_vd hz
  obtain ⟨n, hn⟩ : ∃ n, a.2.length = n := ⟨_, rfl⟩
  rw [hn] at da
  have hr1 := da.r1
  have hr2 := da.r2
  rw [hn] at hr1 hr2
  have hp := fieldF_range da.p
  have hst6 := fun hh id (z : Int) => stV_one (y := .int .u64 z) rfl rfl hh id 0
  simp (disch := first | omega | (simp only [Qn] <;> omega)) only [go_sem]
  obtain ⟨L6, hL6⟩ : ∃ L6, h5.next = L6 := ⟨_, rfl⟩
  obtain ⟨w, hw⟩ : ∃ w, IntKind.u64.wrap k = w := ⟨_, rfl⟩
  rw [hL6, hw]
  have fB : Fr h5 ((h5.new (.cells false [.int .u64 0])).set L6 (some (.cells false [.int .u64 w]))) := ((Fr.refl h5).new _).set (by omega) _
  have gB : ((h5.new (.cells false [.int .u64 0])).set L6 (some (.cells false [.int .u64 w]))).get L6 = some (.cells false [.int .u64 w]) := H.get_set_same ..
  have nB : ((h5.new (.cells false [.int .u64 0])).set L6 (some (.cells false [.int .u64 w]))).next = L6 + 1 := by rw [H.next_set, H.next_new, hL6]
  generalize (h5.new (.cells false [.int .u64 0])).set L6 (some (.cells false [.int .u64 w])) = hB at *
  have gxB := (fB.get A2 (by omega)).trans gx5
  have gyB := (fB.get A3 (by omega)).trans gy5
  have sB := hua.mono (F5.trans fB)
  refine iteW_then (fun vs h7 => ∃ (b : Mat) (ub : V) (m : Nat), (∃ g : Nat → V, vs = [g 0, g 1, .ptr A2 0, .ptr A3 0, g 4, g 5, .ptr L6 0, g 7, g 8, g 9, g 10, g 11, g 12, g 13, g 14, g 15, g 16, g 17]) ∧ h7.get A2 = some (.cells false [.int .i64 a.1, ub]) ∧ h7.get L6 = some (.cells false [.int .u64 (m : Int)]) ∧ h7.get A3 = some (.cells false [.int .i64 0, .nils]) ∧ SRa h7 ub b.2 [A2, A3, L6] ∧ Vd b n ∧ b.1 = a.1 ∧ b.2.length = n ∧ m ≤ 9223372036854775808 ∧ Fr h h7 ∧ L6 < h7.next ∧ PowF a k = (pwG n 64 (oneF n a.1) b m, 0)) ?_ ?_
  · refine iteW_dec (fun hneg => ?_) (fun hneg => ?_)
    · simp (disch := first | omega | (simp only [Qn] <;> omega)) only [go_sem, row_two gxB]
      refine (Inv_ok _ a hB ⟨ua, rfl, sB⟩ la).mono ?_
      rintro v h7 ⟨wi, rfl, ⟨ui, wsi, rfl, RI⟩, f7⟩
      have vi := SV.what RI.own.sv
      have hst7 := fun hh id => stV_agg2 hh id 0 (v := .int .i64 (InvF a).1.1) (u := ui) rfl vi.2.1
      simp (disch := first | omega | (simp only [Qn] <;> omega)) only [go_sem, hst7, bxH_eq]
      have fC := bxH_fr h7 (InvF a).1.1 ui
      have gC := bxH_get h7 (InvF a).1.1 ui
      have nC := bxH_next h7 (InvF a).1.1 ui
      have RC := RI.fr fC
      generalize bxH h7 (InvF a).1.1 ui = hC at *
      have fBC := f7.trans fC
      have n7 := f7.next
      have gyC := (fBC.get A3 (by omega)).trans gyB
      have gxC := (fBC.get A2 (by omega)).trans gxB
      have g6C := (fBC.get L6 (by omega)).trans gB
      refine iteW_dec (fun he1 => ?_) (fun he1 => ?_)
      · have hrow := row_two (h := hC.set A3 (some (.cells false [.int .i64 0, .nils]))) (H.get_set_same ..)
        simp (disch := first | omega | (simp only [Qn] <;> omega)) only [go_sem, bldV_nil, hst0, gyC]
        have e : PowF a k = ((0, []), (InvF a).2) := by rw [PowF, if_neg (by simp [hz]), if_pos ⟨hneg, he1⟩]
        have hrow := row_two (h := hC.set A3 (some (.cells false [.int .i64 0, .nils]))) (H.get_set_same ..)
        refine .inr ⟨(fun q => nomatch q), ?_⟩
        simp (disch := first | omega | (simp only [Qn] <;> omega)) only [go_sem, hrow]
        rw [e]
        exact ⟨_, rfl, ⟨.nils, rfl, SR.nils _⟩, ((F5.trans fB).trans fBC).set (by omega) _⟩
      · have rC := row_two gC
        have hstA := fun hh => stV_agg2 hh A2 0 (v := .int .i64 (InvF a).1.1) (u := ui) rfl vi.2.1
        have rCb : (H.mk hC.tr (hC.next + 5)).row h7.next 0 2 = some [.int .i64 (InvF a).1.1, ui] := rC
        have c6 : hC.cell L6 0 = some (.int .u64 w) := by rw [H.cell_of g6C]; rfl
        have hw2 : w = k + 18446744073709551616 := by rw [← hw, wrap_u64_neg (by omega) (by omega)]
        have hwn : IntKind.u64.wrap (0 - w) = -k := by rw [wrap_u64_neg (by omega) (by omega)]; omega
        have hstm := fun hh (z : Int) => stV_one (y := .int .u64 z) rfl rfl hh L6 0
        have hpm := fun (hh : H) (z : Int) => putO_one (vs := [.int .u64 w]) (off := 0) (by simp) hh L6 (.int .u64 z)
        have hi0 : (InvF a).2 = 0 := Classical.byContradiction he1
        obtain ⟨X, hX, eX, iX⟩ := inv_vd hi0
        rw [hn] at hX eX iX
        have sq : Sq a.1 n := ⟨da.p, hr1, hr2⟩
        have fD : Fr h (((H.mk hC.tr (hC.next + 5)).set A2 (some (.cells false [.int .i64 (InvF a).1.1, ui]))).set L6 (some (.cells false [.int .u64 (-k)]))) := (((((F5.trans fB).trans fBC).bump (by omega)).set (by omega) _).set (by omega) _)
        have RD : SRa (((H.mk hC.tr (hC.next + 5)).set A2 (some (.cells false [.int .i64 (InvF a).1.1, ui]))).set L6 (some (.cells false [.int .u64 (-k)]))) ui (InvF a).1.2 [A2, A3, L6] := (((SRa.new (bad := [A2, A3, L6]) RC fun b hb => by
          simp only [List.mem_cons, List.not_mem_nil, or_false] at hb
          omega).fr ((Fr.refl hC).bump (n := hC.next + 5) (by omega))).set (by simp) _).set (by simp) _
        simp (disch := first | omega | (simp only [Qn] <;> omega)) only [go_sem, rCb, c6, hstA, gxC, eqV_int, hwn, hstm, g6C, hpm]
        refine .inl ⟨(InvF a).1, ui, k.natAbs, ex_junk rfl, by rw [eX], by rw [show (k.natAbs : Int) = -k by omega], gyC, RD, by rw [eX]; exact sq.vd iX, by rw [eX], by rw [eX]; exact mkR_len .., by omega, fD, by omega, ?_⟩
        rw [PowF, if_neg (by simp [hz]), if_neg (by simp [hi0]), if_pos hneg, hn]
    · simp (disch := first | omega | (simp only [Qn] <;> omega)) only [go_sem]
      refine .inl ⟨a, ua, k.natAbs, ex_junk rfl, gxB, ?_, gyB, ?_, da, rfl, hn, by omega, F5.trans fB, by omega, ?_⟩
      · rw [gB, ← hw, wrap_u64 (by omega) (by omega), show (k.natAbs : Int) = k by omega]
      · exact (SRa.old (bad := [A2, A3, L6]) hua fun b hb => by
          simp only [List.mem_cons, List.not_mem_nil, or_false] at hb
          have := F5.next
          omega).fr (F5.trans fB)
      · rw [PowF, if_neg (by simp [hz]), if_neg (fun q => hneg q.1), if_neg hneg, hn]
  · rintro vs h7 ⟨b, ub, m, ⟨g, rfl⟩, gA2, g6, gA3, sb, db, hb1, hbn, hm, F7, l6, hres⟩
    clear gxB gyB sB gB nB fB hst6 hw
    have x0 : h7.cell A2 0 = some (.int .i64 a.1) := by rw [H.cell_of gA2]; rfl
    have x1 : h7.cell A2 1 = some ub := by rw [H.cell_of gA2]; rfl
    have lB : lensV ub = some (.int .i64 (n : Int)) := by rw [← hbn]; exact sb.sr.lens
    simp (disch := first | omega | (simp only [Qn] <;> omega)) only [go_sem, x0, x1, lB]
    refine (one_ok n a.1 h7 hr1 hr2).mono ?_
    rintro v h8 ⟨⟨u8, ws8, rfl, R8⟩, f8⟩
    have v8 := SV.what R8.own.sv
    have hst8 := fun hh id => stV_agg2 hh id 0 (v := .int .i64 (oneF n a.1).1) (u := u8) rfl v8.2.1
    simp (disch := first | omega | (simp only [Qn] <;> omega)) only [go_sem, hst8, bxH_eq]
    have fC := bxH_fr h8 (oneF n a.1).1 u8
    have gC := bxH_get h8 (oneF n a.1).1 u8
    have nC := bxH_next h8 (oneF n a.1).1 u8
    have RC := R8.fr fC
    generalize bxH h8 (oneF n a.1).1 u8 = hC at *
    obtain ⟨O9, hO9⟩ : ∃ O9, h8.next = O9 := ⟨_, rfl⟩
    rw [hO9] at gC nC
    rw [hO9]
    have n8 := f8.next
    have fC7 := f8.trans fC
    have gA2C := (fC7.get A2 (by omega)).trans gA2
    have gA3C := (fC7.get A3 (by omega)).trans gA3
    have g6C := (fC7.get L6 (by omega)).trans g6
    have sbC := sb.fr fC7
    simp (disch := first | omega | (simp only [Qn] <;> omega)) only [go_sem, row_two gA2C]
    refine (squares_ok a.1 ub hC (SV.what sbC.sr.choose_spec.1).2.1).mono ?_
    rintro v h9 ⟨rfl, rfl⟩
    have hfx9 : Fr hC (hC.new (.cells false [.int .i64 a.1, ub])) := (Fr.refl hC).new _
    have hgx9 : (hC.new (.cells false [.int .i64 a.1, ub])).get hC.next = some (.cells false [.int .i64 a.1, ub]) := H.get_new_same ..
    have hnx9 : (hC.new (.cells false [.int .i64 a.1, ub])).next = hC.next + 1 := H.next_new ..
    generalize hC.new (.cells false [.int .i64 a.1, ub]) = hX at *
    obtain ⟨XB, hXB⟩ : ∃ XB, hC.next = XB := ⟨_, rfl⟩
    rw [hXB] at hgx9 hnx9
    rw [hXB]
    obtain ⟨LID, hLID⟩ : ∃ LID, hX.next = LID := ⟨_, rfl⟩
    simp (disch := first | omega | (simp only [Qn] <;> omega)) only [go_sem]
    rw [hLID]
    generalize hrc : LRec.mk _ _ _ _ _ _ = rc
    refine ⟨rfl, ?_⟩
    obtain ⟨base, hbase⟩ : ∃ base, base = H.mk h7.tr L6 := ⟨_, rfl⟩
    have nb : base.next = L6 := by rw [hbase]
    have gb : ∀ id, base.get id = h7.get id := fun id => by rw [hbase]; rfl
    have f57 := F5.next
    have Fb : Fr h base := ⟨by omega, fun id hid => (gb id).trans (F7.get id hid)⟩
    have Fb7 : Fr base h7 := ⟨by omega, fun id hid => (gb id).symm⟩
    have hs : base.next ≤ L6 ∧ L6 < O9 ∧ O9 < XB ∧ XB < LID := ⟨by omega, by omega, by omega, by omega⟩
    have nLX : LID ≠ L6 ∧ LID ≠ O9 ∧ LID ≠ XB := ⟨by omega, by omega, by omega⟩
    obtain ⟨RES, hRES⟩ : ∃ R, pwG n 64 (oneF n a.1) b m = R := ⟨_, rfl⟩
    have hRp : ∀ f out x left, out.1 = a.1 → (pwG n f out x left).1 = a.1 := fun f => by
      induction f with
      | zero => intro out x left h; exact h
      | succ f ih =>
        intro out x left h
        rw [pwG]
        split
        · exact h
        · apply ih
          split
          · exact h
          · exact h
    have hY : ∀ f left out x uo ux hh, PI0 a.1 n rc L6 O9 XB LID A3 base left out x uo ux hh → left < 2 ^ f → left ≤ 9223372036854775808 → pwG n f out x left = RES →
        Ey T LID [.agg [.int .i64 a.1, ux]] hh (fun v hh' => (v = .bool true ∧ ∃ f' left' out' uo', f = f' + 1 ∧ PI0 a.1 n rc L6 O9 XB LID A3 base left' out' x uo' ux hh' ∧ left' < 2 ^ f' ∧ left' ≤ 9223372036854775808 ∧ pwG n f' out' (mulF x x n n) left' = RES) ∨ (v = .bool false ∧ DN a.1 rc O9 LID RES base L6 XB A3 hh')) := by
      intro f left out x uo ux hh K hlf hl63 hpw
      refine Ey_of K.gL (by rw [← hrc]; rfl) ?_
      have hux := SV.what K.sx.sr.choose_spec.1
      have hstx := fun hh id => stV_agg2 hh id 0 (v := .int .i64 a.1) (u := ux) rfl hux.2.1
      have ltL := K.lt
      have K1 : PI0 a.1 n rc L6 O9 XB LID A3 base left out x uo ux (bxH hh a.1 ux) := by
        have f := bxH_fr hh a.1 ux
        exact ⟨(f.get _ (by omega)).trans K.gL, (f.get _ (by omega)).trans K.g6, (f.get _ (by omega)).trans K.g9, (f.get _ (by omega)).trans K.gX, K.so.fr f, K.sx.fr f, K.o1, K.x1, K.vo, K.vx, K.lo, K.lx, by rw [bxH_next]; omega, K.fr.trans f⟩
      have gbx := bxH_get hh a.1 ux
      have nbx := bxH_next hh a.1 ux
      subst hrc
      simp (disch := first | omega | (simp only [Qn] <;> omega)) only [go_sem, List.zip_cons_cons, List.zip_nil_left, hstx, bxH_eq]
      refine ⟨_, K1.gL, rfl, ?_⟩
      generalize bxH hh a.1 ux = h1 at *
      have K2 := fun rc' => K1.set hs rc'
      generalize hrb : LRec.mk _ _ _ _ LSt.busy _ = rb
      have K3 := K2 rb
      have gbx2 : (h1.set LID (some (.loop rb))).get hh.next = some (.cells false [.int .i64 a.1, ux]) := by rw [H.get_set_ne _ (by omega)]; exact gbx
      have n2 : (h1.set LID (some (.loop rb))).next = h1.next := rfl
      generalize h1.set LID (some (.loop rb)) = h2 at *
      clear K2
      have c6 : h2.cell L6 0 = some (.int .u64 (left : Int)) := by rw [H.cell_of K3.g6]; rfl
      have c61 : h1.cell L6 0 = some (.int .u64 (left : Int)) := by rw [H.cell_of K1.g6]; rfl
      simp (disch := first | omega | (simp only [Qn] <;> omega)) only [go_sem, c61]
      by_cases h0 : (left : Int) = 0
      · rw [decide_eq_true h0]
        simp (disch := first | omega | (simp only [Qn] <;> omega)) only [go_sem]
        refine ⟨_, K3.gL, ?_⟩
        have K4 := fun rc' => K3.set hs rc'
        refine .inr ⟨rfl, uo, ?_, (K4 _).g9, ?_, (K4 _).fr, ?_⟩
        · rw [← hrb]; exact H.get_set_same ..
        · have e : RES = out := by
            rw [← hpw]
            cases f with
            | zero => rfl
            | succ f => rw [pwG, if_pos (by omega)]
          rw [e]
          exact (K4 _).so
        · rw [← hpw]; exact hRp _ _ _ _ K.o1
      · rw [decide_eq_false h0]
        obtain ⟨f', rfl⟩ : ∃ f', f = f' + 1 := by
          cases f with
          | zero => simp at hlf; omega
          | succ f => exact ⟨f, rfl⟩
        rw [pwG, if_neg (by omega)] at hpw
        have hlf2 : left / 2 < 2 ^ f' := by rw [Nat.pow_succ] at hlf; omega
        have em : (left : Int).tmod 2 = ((left % 2 : Nat) : Int) := tmod_nat left 2
        have ed : (left : Int).tdiv 2 = ((left / 2 : Nat) : Int) := rfl
        have ew : IntKind.u64.wrap ((left / 2 : Nat) : Int) = ((left / 2 : Nat) : Int) := wrap_u64 (by omega) (by omega)
        have hst6 := fun hh (z : Int) => stV_one (y := .int .u64 z) rfl rfl hh L6 0
        have hpm := fun (hh : H) (z : Int) => putO_one (vs := [.int .u64 (left : Int)]) (off := 0) (by simp) hh L6 (.int .u64 z)
        simp (disch := first | omega | (simp only [Qn] <;> omega)) only [go_sem, c6, em]
        by_cases hodd : ((left % 2 : Nat) : Int) = 1
        · rw [decide_eq_true hodd]
          rw [if_pos (by omega)] at hpw
          have n1 : LID < h2.next := K3.lt
          simp (disch := first | omega | (simp only [Qn] <;> omega)) only [go_sem, row_two K3.g9, row_two gbx2]
          refine (mul_ok _ _ out x n n h2 ⟨uo, by rw [K3.o1], K3.so.sr⟩ ⟨ux, by rw [K3.x1], K3.sx.sr⟩ K3.vo K3.vx (by rw [K3.o1, K3.x1]) K3.lx.symm).mono ?_
          rintro v h3 ⟨⟨um, wsm, rfl, RM⟩, f3⟩
          have vm := SV.what RM.own.sv
          have e1 : (mulF out x n n).1 = a.1 := K3.o1
          have hstm := fun hh id => stV_agg2 hh id 0 (v := .int .i64 (mulF out x n n).1) (u := um) rfl vm.2.1
          rw [e1] at hstm
          rw [e1]
          have K4 := (K3.frm hs f3).setO hs (SRa.new (bad := [L6, O9, XB, LID, A3]) RM fun b hb => by
            simp only [List.mem_cons, List.not_mem_nil, or_false] at hb
            omega) e1 (K3.vo.mul K3.vx) (by rw [mulF, mkR_len]; exact K3.lo)
          have g93 := (K3.frm hs f3).g9
          have g63 := (K3.frm hs f3).g6
          have c63 : h3.cell L6 0 = some (.int .u64 (left : Int)) := by rw [H.cell_of g63]; rfl
          have K5 := K4.setL hs (left / 2)
          simp (disch := first | omega | (simp only [Qn] <;> omega)) only [go_sem, hstm, g93, c63, ed, ew, hst6, g63, hpm]
          generalize (h3.set O9 (some (.cells false [.int .i64 a.1, um]))).set L6 (some (.cells false [.int .u64 ((left / 2 : Nat) : Int)])) = h5 at *
          refine ⟨rb, K5.gL, .inl ⟨rfl, f', left / 2, mulF out x n n, um, rfl, ?_, hlf2, by omega, hpw⟩⟩
          subst hrb
          exact K5.set hs _
        · rw [decide_eq_false hodd]
          rw [if_neg (by omega)] at hpw
          have K5 := K3.setL hs (left / 2)
          simp (disch := first | omega | (simp only [Qn] <;> omega)) only [go_sem, c6, ed, ew, hst6, K3.g6, hpm]
          generalize h2.set L6 (some (.cells false [.int .u64 ((left / 2 : Nat) : Int)])) = h5 at *
          refine ⟨rb, K5.gL, .inl ⟨rfl, f', left / 2, out, uo, rfl, ?_, hlf2, by omega, hpw⟩⟩
          subst hrb
          exact K5.set hs _
    have K0 : PI0 a.1 n rc L6 O9 XB LID A3 base m (oneF n a.1) b u8 ub (hX.new (.loop rc)) := by
      have fN : Fr hC (hX.new (.loop rc)) := hfx9.new _
      have gN : ∀ id, id < XB → (hX.new (.loop rc)).get id = hC.get id := fun id hid => fN.get id (by omega)
      refine ⟨by rw [← hLID]; exact H.get_new_same .., (gN _ (by omega)).trans g6C, (gN _ (by omega)).trans gC, ?_, ?_, ?_, rfl, hb1, ?_, db, by simp only [oneF, mkR_len], hbn, by rw [H.next_new]; omega, (Fb7.trans fC7).trans fN⟩
      · rw [H.get_new_ne _ (by omega)]; exact hgx9
      · exact (SRa.new (bad := [L6, O9, XB, LID, A3]) R8 fun q hq => by
          simp only [List.mem_cons, List.not_mem_nil, or_false] at hq
          omega).fr (fC.trans fN)
      · exact (sb.ext (bad' := [L6, O9, XB, LID, A3]) fun q hq => by
          simp only [List.mem_cons, List.not_mem_nil, or_false] at hq ⊢
          omega).fr (fC7.trans fN)
      · have sq : Sq a.1 n := ⟨da.p, hr1, hr2⟩
        exact sq.vd sq.on
    have hpw0 : m < 2 ^ 64 := by omega
    have loop : Ev T 87 [.yl LID, .ptr XB 0] (hX.new (.loop rc)) (fun _ hh => DN a.1 rc O9 LID RES base L6 XB A3 hh) := by
      refine Ev_of t_matrix_squares_1 rfl ?_
      simp (disch := first | omega | (simp only [Qn] <;> omega)) only [go_sem, c_matrix_squares_1, initV_eq]
      refine Wp_loop (fun f vars hh => ∃ (left : Nat) (out x : Mat) (uo ux : V), (∃ g : Nat → V, vars = [.yl LID, .ptr XB 0, g 2]) ∧ PI0 a.1 n rc L6 O9 XB LID A3 base left out x uo ux hh ∧ left < 2 ^ f ∧ left ≤ 9223372036854775808 ∧ pwG n f out x left = RES) 64
        ⟨m, _, b, _, _, ex_junk rfl, K0, hpw0, hm, hRES⟩ ?_
      rintro f vars hh ⟨left, out, x, uo, ux, ⟨g, rfl⟩, K, hlf, hl63, hpw⟩
      simp (disch := first | omega | (simp only [Qn] <;> omega)) only [go_sem, row_two K.gX]
      refine (hY f left out x uo ux hh K hlf hl63 hpw).mono ?_
      rintro v h3 (⟨rfl, f', left', out', uo', rfl, K3, hlf', hl63', hpw'⟩ | ⟨rfl, hd⟩)
      · have n1 : LID < h3.next := K3.lt
        simp (disch := first | omega | (simp only [Qn] <;> omega)) only [go_sem, row_two K3.gX]
        refine (mul_ok _ _ x x n n h3 ⟨ux, by rw [K3.x1], K3.sx.sr⟩ ⟨ux, by rw [K3.x1], K3.sx.sr⟩ K3.vx K3.vx rfl K3.lx.symm).mono ?_
        rintro v h4 ⟨⟨um, wsm, rfl, RM⟩, f4⟩
        have vm := SV.what RM.own.sv
        have e1 : (mulF x x n n).1 = a.1 := K3.x1
        have hstm := fun hh id => stV_agg2 hh id 0 (v := .int .i64 (mulF x x n n).1) (u := um) rfl vm.2.1
        rw [e1] at hstm
        rw [e1]
        have gX4 := (K3.frm hs f4).gX
        have K4 := (K3.frm hs f4).setX hs (x' := mulF x x n n) (SRa.new (bad := [L6, O9, XB, LID, A3]) RM fun b hb => by
            simp only [List.mem_cons, List.not_mem_nil, or_false] at hb
            omega) e1 (K3.vx.mul K3.vx) (by rw [mulF, mkR_len]; exact K3.lx)
        simp (disch := first | omega | (simp only [Qn] <;> omega)) only [go_sem, hstm, gX4]
        exact ⟨f', by omega, left', out', mulF x x n n, uo', um, ex_junk rfl, K4, hlf', hl63', hpw'⟩
      · simp (disch := first | omega | (simp only [Qn] <;> omega)) only [go_sem]
        exact hd
    refine loop.mono ?_
    rintro _ h10 ⟨uo, gL, g9, so, f10, hR1⟩
    refine ⟨_, gL, by simp, ?_⟩
    have g3b : base.get A3 = some (.cells false [.int .i64 0, .nils]) := (gb A3).trans gA3
    have g310 := (f10.get A3 (by omega)).trans g3b
    have vo := SV.what so.sr.choose_spec.1
    have hst9 := fun hh id => stV_agg2 hh id 0 (v := .int .i64 a.1) (u := uo) rfl vo.2.1
    simp only [Option.getD_some]
    generalize hrb2 : Ob.loop _ = rb2
    have nl3 : LID ≠ A3 := by omega
    have r9 := row_two (h := h10.set LID (some rb2)) (id := O9) (ro := false) (v := .int .i64 a.1) (u := uo) (by rw [H.get_set_ne _ (by omega)]; exact g9)
    have hrow := row_two (h := (h10.set LID (some rb2)).set A3 (some (.cells false [.int .i64 a.1, uo]))) (H.get_set_same ..)
    simp (disch := first | omega | (simp only [Qn] <;> omega)) only [go_sem, r9, hst9, g310, hrow]
    rw [hres, hRES]
    have sF : SR ((h10.set LID (some rb2)).set A3 (some (.cells false [.int .i64 a.1, uo]))) uo RES.2 := ((so.set (by simp) _).set (by simp) _).sr
    exact ⟨_, rfl, ⟨uo, by rw [hR1], sF⟩, (((Fb.trans f10).set (by omega) _).set (by omega) _)⟩
end Go.Proofs.Ytonhijbeddcmpaa
/- Layer 4: determinants, inverses and powers of valid square matrices. -/
namespace Go.Proofs.Ytonhijbeddcmpaa
open Go Go.Ay
set_option maxRecDepth 100000
theorem emm (p a : Int) : a % p % p = a % p := Int.emod_emod_of_dvd _ (Int.dvd_refl p)
/-- Congruent. -/
def Em (p : Int) (n : Nat) (A B : Mx) : Prop := ∀ i j, i < n → j < n → A i j % p = B i j % p
theorem Em.refl (p : Int) (n : Nat) (A : Mx) : Em p n A A := fun _ _ _ _ => rfl
theorem Em.symm {p : Int} {n : Nat} {A B : Mx} (h : Em p n A B) : Em p n B A := fun i j hi hj => (h i j hi hj).symm
theorem Em.trans {p : Int} {n : Nat} {A B C : Mx} (h : Em p n A B) (k : Em p n B C) : Em p n A C := fun i j hi hj => (h i j hi hj).trans (k i j hi hj)
theorem Em.mul {p : Int} {n : Nat} {A A' B B' : Mx} (h : Em p n A A') (k : Em p n B B') : Em p n (mulM n A B) (mulM n A' B') := fun i j hi hj => mulM_mod (fun l hl => h i l hi hl) (fun l hl => k l j hl hj)
theorem Em.of {p : Int} {n : Nat} {A B : Mx} (h : ∀ i j, i < n → j < n → A i j = B i j) : Em p n A B := fun i j hi hj => by rw [h i j hi hj]
theorem Em.assoc (p : Int) (n : Nat) (A B C : Mx) : Em p n (mulM n (mulM n A B) C) (mulM n A (mulM n B C)) := fun i j _ _ => by rw [mulM_assoc]
theorem Em.mm (p : Int) (n : Nat) (A B : Mx) : Em p n (mmP p n A B) (mulM n A B) := fun i j _ _ => emm p _
theorem Em.rows {p : Int} {n : Nat} {A B : Mx} (h : Em p n A B) (hA : InP p n A) (hB : InP p n B) : mkR n n A = mkR n n B := mkR_congr fun i k hi hk => by
  have := h i k hi hk
  rwa [Int.emod_eq_of_lt (hA i k hi hk).1 (hA i k hi hk).2, Int.emod_eq_of_lt (hB i k hi hk).1 (hB i k hi hk).2] at this
theorem Em.idl (p : Int) (n : Nat) (A : Mx) : Em p n (mulM n idM A) A := fun i j hi _ => by rw [id_mulM n A hi]
theorem Em.idr (p : Int) (n : Nat) (A : Mx) : Em p n (mulM n A idM) A := fun i j _ hj => by rw [mulM_id n A hj]
theorem pw_add (p : Int) (n : Nat) (A : Mx) (a b : Nat) : Em p n (mulM n (pwM n A a) (pwM n A b)) (pwM n A (a + b)) := by
  induction a with
  | zero => rw [Nat.zero_add]; exact Em.idl p n _
  | succ a ih =>
    rw [show a + 1 + b = (a + b) + 1 by omega]
    exact (Em.assoc p n A (pwM n A a) (pwM n A b)).trans ((Em.refl p n A).mul ih)
theorem pw_one (p : Int) (n : Nat) (A : Mx) : Em p n (pwM n A 1) A := Em.idr p n A
theorem pw_last (p : Int) (n : Nat) (A : Mx) (k : Nat) : Em p n (mulM n (pwM n A k) A) (pwM n A (k + 1)) :=
  ((Em.refl p n _).mul (pw_one p n A).symm).trans (pw_add p n A k 1)
theorem Sq.mulF {p : Int} {n : Nat} (s : Sq p n) (A B : Mx) : mulF (p, mkR n n A) (p, mkR n n B) n n = (p, mkR n n (mmP p n A B)) := by
  simp only [Proofs.Ytonhijbeddcmpaa.mulF, mkR_len]
  rw [mkR_congr fun i k hi hk => ?_]
  refine congrArg (· % p) (sm_congr fun j hj => ?_)
  rw [mkR_ent _ hi hj, mkR_ent _ hj hk]
theorem Sq.pw {p : Int} {n : Nat} (s : Sq p n) (A : Mx) : ∀ f e t m (O B : Mx), InP p n O → InP p n B → Em p n O (pwM n A e) → Em p n B (pwM n A t) → m < 2 ^ f → pwG n f (p, mkR n n O) (p, mkR n n B) m = (p, mkR n n (fun i j => pwM n A (e + t * m) i j % p))
  | 0, e, t, m, O, B, hO, hB, eO, eB, hm => by
    have : m = 0 := by simp at hm; exact hm
    subst this
    rw [pwG, Nat.mul_zero, Nat.add_zero]
    congr 1
    exact Em.rows (eO.trans fun i j _ _ => (emm p _).symm) hO fun i j _ _ => tmod_range _ (by have := s.p; omega)
  | f + 1, e, t, m, O, B, hO, hB, eO, eB, hm => by
    have hp := s.p
    rw [pwG]
    by_cases h0 : m = 0
    · subst h0
      rw [if_pos rfl, Nat.mul_zero, Nat.add_zero]
      congr 1
      exact Em.rows (eO.trans fun i j _ _ => (emm p _).symm) hO fun i j _ _ => tmod_range _ (by omega)
    · rw [if_neg h0, s.mulF, s.mulF]
      have e2 : Em p n (mmP p n B B) (pwM n A (t + t)) := (Em.mm p n B B).trans ((eB.mul eB).trans (pw_add p n A t t))
      have hf : m / 2 < 2 ^ f := by rw [Nat.pow_succ] at hm; omega
      by_cases ho : m % 2 = 1
      · rw [if_pos ho]
        have e1 : Em p n (mmP p n O B) (pwM n A (e + t)) := (Em.mm p n O B).trans ((eO.mul eB).trans (pw_add p n A e t))
        rw [Sq.pw s A f (e + t) (t + t) (m / 2) _ _ (s.mm _ _) (s.mm _ _) e1 e2 hf]
        have : e + t + (t + t) * (m / 2) = e + t * m := by
          obtain ⟨q, hq⟩ : ∃ q, m = 2 * q + 1 := ⟨m / 2, by omega⟩
          subst hq
          rw [show (2 * q + 1) / 2 = q by omega]
          grind
        rw [this]
      · rw [if_neg ho]
        rw [Sq.pw s A f e (t + t) (m / 2) _ _ hO (s.mm _ _) eO e2 hf]
        have : e + (t + t) * (m / 2) = e + t * m := by
          obtain ⟨q, hq⟩ : ∃ q, m = 2 * q := ⟨m / 2, by omega⟩
          subst hq
          rw [show (2 * q) / 2 = q by omega]
          grind
        rw [this]
theorem Sq.sqF {p : Int} {n : Nat} (s : Sq p n) {A : Mx} (hA : InP p n A) : sqF (p, mkR n n A) = 0 := by
  rw [Proofs.Ytonhijbeddcmpaa.sqF, vd_check (s.vd hA), if_neg (by simp), if_neg (by simp only [mkR_len, len0 s.n1, ne_eq, not_true_eq_false, not_false_eq_true])]
theorem det_ent (n : Nat) (A : Mx) : det n (ent (mkR n n A)) = det n A := det_congr fun i j hi hj => mkR_ent _ hi hj
theorem Sq.det {p : Int} {n : Nat} (s : Sq p n) {A : Mx} (hA : InP p n A) : DetF (p, mkR n n A) = (Ay.det n A % p, 0) := by
  rw [DetF, s.sqF hA, if_neg (by simp)]
  simp only [mkR_len, det_ent]
theorem Sq.isP {p : Int} {n : Nat} (s : Sq p n) : isP p = true := by
  have := s.f
  simp only [fieldF, Bool.and_eq_true] at this; exact this.2
theorem isInv_ent {p : Int} {n : Nat} {A X : Mx} (h : IsInv p n A X) : IsInv p n (ent (mkR n n A)) X :=
  ⟨h.lo, h.hi, fun i j hi hj => by
    rw [mulM_mod (A' := X) (B' := A) (fun _ _ => rfl) (fun k hk => by rw [mkR_ent _ hk hj])]; exact h.left i j hi hj⟩
theorem Sq.inv {p : Int} {n : Nat} (s : Sq p n) {A : Mx} (hA : InP p n A) : (Ay.det n A % p = 0 ∧ InvF (p, mkR n n A) = ((0, []), 15)) ∨ (Ay.det n A % p ≠ 0 ∧ ∃ X, IsInv p n A X ∧ InP p n X ∧ InvF (p, mkR n n A) = ((p, mkR n n X), 0)) := by
  by_cases hd : Ay.det n A % p = 0
  · refine .inl ⟨hd, ?_⟩
    rw [InvF, s.sqF hA, if_neg (by simp), if_pos (by simp only [mkR_len, det_ent]; exact hd)]
  · obtain ⟨m, hm⟩ : ∃ m, n = m + 1 := ⟨n - 1, by have := s.n1; omega⟩
    subst hm
    obtain ⟨X, hX⟩ := inv_ex s.isP hd
    refine .inr ⟨hd, X, hX, fun i k hi hk => ⟨hX.lo i k hi hk, hX.hi i k hi hk⟩, ?_⟩
    rw [InvF, s.sqF hA, if_neg (by simp), if_neg (by simp only [mkR_len, det_ent]; exact hd)]
    simp only [mkR_len]
    rw [← invX_eq (isInv_ent hX)]
/-- The power of a unit. -/
def pwZ (p : Int) (n : Nat) (A X : Mx) (k : Int) : Mx := fun i j => (if k < 0 then pwM n X k.natAbs i j else pwM n A k.natAbs i j) % p
theorem Sq.pz {p : Int} {n : Nat} (s : Sq p n) (A X : Mx) (k : Int) : InP p n (pwZ p n A X k) := fun i j _ _ => tmod_range _ (by have := s.p; omega)
theorem Sq.inI {p : Int} {n : Nat} (s : Sq p n) : oneF n p = (p, mkR n n idM) := rfl
theorem Sq.pow {p : Int} {n : Nat} (s : Sq p n) {A X : Mx} (hA : InP p n A) (hX : InP p n X) (eX : InvF (p, mkR n n A) = ((p, mkR n n X), 0)) (k : Int) (hk : -9223372036854775808 ≤ k ∧ k < 9223372036854775808) : PowF (p, mkR n n A) k = ((p, mkR n n (pwZ p n A X k)), 0) := by
  rw [PowF, s.sqF hA, if_neg (by simp), eX, if_neg (by simp)]
  simp only [mkR_len]
  rw [s.inI]
  by_cases h : k < 0
  · rw [if_pos h, s.pw X 64 0 1 k.natAbs idM X s.on hX (Em.refl p n _) (pw_one p n X).symm (by omega), Nat.one_mul, Nat.zero_add]
    rw [show pwZ p n A X k = fun i j => pwM n X k.natAbs i j % p from by funext i j; simp only [pwZ, if_pos h]]
  · rw [if_neg h, s.pw A 64 0 1 k.natAbs idM A s.on hA (Em.refl p n _) (pw_one p n A).symm (by omega), Nat.one_mul, Nat.zero_add]
    rw [show pwZ p n A X k = fun i j => pwM n A k.natAbs i j % p from by funext i j; simp only [pwZ, if_neg h]]
/-- Where there is no inverse. -/
theorem Sq.powS {p : Int} {n : Nat} (s : Sq p n) {A : Mx} (hA : InP p n A) (eX : InvF (p, mkR n n A) = ((0, []), 15)) : PowF (p, mkR n n A) (-1) = ((0, []), 15) := by
  rw [PowF, s.sqF hA, if_neg (by simp), eX, if_pos (by simp)]
theorem Sq.ordS {p : Int} {n : Nat} {A : Mx} (eX : InvF (p, mkR n n A) = ((0, []), 15)) : OrderF (p, mkR n n A) = (0, 15) := by
  rw [OrderF, eX, if_pos (by simp)]
/-- A power and one of the inverse. -/
theorem pw_cancel {p : Int} {n : Nat} {A X : Mx} (h : Em p n (mulM n A X) idM) : ∀ a b, Em p n (mulM n (pwM n A (a + b)) (pwM n X b)) (pwM n A a)
  | a, 0 => Em.idr p n _
  | a, b + 1 => by
    have e1 : Em p n (mulM n (pwM n A (a + (b + 1))) (pwM n X (b + 1))) (mulM n (mulM n (pwM n A (a + b)) A) (mulM n X (pwM n X b))) := ((pw_last p n A (a + b)).symm).mul (Em.refl p n _)
    have e2 : Em p n (mulM n (mulM n (pwM n A (a + b)) A) (mulM n X (pwM n X b))) (mulM n (pwM n A (a + b)) (mulM n (mulM n A X) (pwM n X b))) := (Em.assoc p n _ A _).trans ((Em.refl p n _).mul (Em.assoc p n A X _).symm)
    have e3 : Em p n (mulM n (pwM n A (a + b)) (mulM n (mulM n A X) (pwM n X b))) (mulM n (pwM n A (a + b)) (pwM n X b)) := (Em.refl p n _).mul ((h.mul (Em.refl p n _)).trans (Em.idl p n _))
    exact e1.trans (e2.trans (e3.trans (pw_cancel h a b)))
theorem pw_cancel' {p : Int} {n : Nat} {A X : Mx} (h : Em p n (mulM n A X) idM) : ∀ a b, Em p n (mulM n (pwM n A b) (pwM n X (a + b))) (pwM n X a)
  | a, 0 => Em.idl p n _
  | a, b + 1 => by
    have e1 : Em p n (mulM n (pwM n A (b + 1)) (pwM n X (a + (b + 1)))) (mulM n (mulM n (pwM n A b) A) (mulM n X (pwM n X (a + b)))) := ((pw_last p n A b).symm).mul (Em.refl p n _)
    have e2 : Em p n (mulM n (mulM n (pwM n A b) A) (mulM n X (pwM n X (a + b)))) (mulM n (pwM n A b) (mulM n (mulM n A X) (pwM n X (a + b)))) := (Em.assoc p n _ A _).trans ((Em.refl p n _).mul (Em.assoc p n A X _).symm)
    have e3 : Em p n (mulM n (pwM n A b) (mulM n (mulM n A X) (pwM n X (a + b)))) (mulM n (pwM n A b) (pwM n X (a + b))) := (Em.refl p n _).mul ((h.mul (Em.refl p n _)).trans (Em.idl p n _))
    exact e1.trans (e2.trans (e3.trans (pw_cancel' h a b)))
theorem pwZ_neg {p : Int} {n : Nat} {A X : Mx} {k : Int} (h : k < 0) : Em p n (pwZ p n A X k) (pwM n X k.natAbs) := fun i j _ _ => by simp only [pwZ, if_pos h]; exact emm p _
theorem pwZ_pos {p : Int} {n : Nat} {A X : Mx} {k : Int} (h : ¬ k < 0) : Em p n (pwZ p n A X k) (pwM n A k.natAbs) := fun i j _ _ => by simp only [pwZ, if_neg h]; exact emm p _
/-- Powers add up. -/
theorem pwZ_add {p : Int} {n : Nat} {A X : Mx} (h1 : Em p n (mulM n A X) idM) (h2 : Em p n (mulM n X A) idM) (x y : Int) : Em p n (mulM n (pwZ p n A X x) (pwZ p n A X y)) (pwZ p n A X (x + y)) := by
  by_cases hx : x < 0
  · by_cases hy : y < 0
    · refine ((pwZ_neg hx).mul (pwZ_neg hy)).trans ((pw_add p n X _ _).trans ?_)
      rw [show x.natAbs + y.natAbs = (x + y).natAbs by omega]
      exact (pwZ_neg (by omega)).symm
    · refine ((pwZ_neg hx).mul (pwZ_pos hy)).trans ?_
      by_cases hz : x + y < 0
      · rw [show x.natAbs = (x + y).natAbs + y.natAbs by omega]
        exact (pw_cancel h2 _ _).trans (pwZ_neg hz).symm
      · rw [show y.natAbs = (x + y).natAbs + x.natAbs by omega]
        exact (pw_cancel' h2 _ _).trans (pwZ_pos hz).symm
  · by_cases hy : y < 0
    · refine ((pwZ_pos hx).mul (pwZ_neg hy)).trans ?_
      by_cases hz : x + y < 0
      · rw [show y.natAbs = (x + y).natAbs + x.natAbs by omega]
        exact (pw_cancel' h1 _ _).trans (pwZ_neg hz).symm
      · rw [show x.natAbs = (x + y).natAbs + y.natAbs by omega]
        exact (pw_cancel h1 _ _).trans (pwZ_pos hz).symm
    · refine ((pwZ_pos hx).mul (pwZ_pos hy)).trans ((pw_add p n A _ _).trans ?_)
      rw [show x.natAbs + y.natAbs = (x + y).natAbs by omega]
      exact (pwZ_pos (by omega)).symm
theorem bad_ok (va : V) (a : Mat) (e w : Int) (h : H) (ha : MatV h va a) : Ev T n_law04_bad [va, .int .i64 e, .int .i64 w] h (fun v h' => v = .bool (decide (e = w ∧ a.1 = 0 ∧ a.2.length = 0)) ∧ Fr h h') := by
  obtain ⟨u, rfl, hu⟩ := ha
  obtain ⟨p, A⟩ := a
  simp only at hu
  refine Ev_of t_law04_bad rfl ?_
  have wa := SV.what hu.choose_spec.1
  simp (disch := first | omega | (simp only [Qn] <;> omega)) only [go_sem, c_law04_bad, initV_eq, boxV_agg2 h (v := .int .i64 p) rfl wa.2.1]
  have hfx : Fr h (h.new (.cells false [.int .i64 p, u])) := (Fr.refl h).new _
  have hgx : (h.new (.cells false [.int .i64 p, u])).get h.next = some (.cells false [.int .i64 p, u]) := H.get_new_same ..
  have hnx : (h.new (.cells false [.int .i64 p, u])).next = h.next + 1 := H.next_new ..
  generalize h.new (.cells false [.int .i64 p, u]) = hx at *
  have x0 : hx.cell h.next 0 = some (.int .i64 p) := by rw [H.cell_of hgx]; rfl
  have x1 : hx.cell h.next 1 = some u := by rw [H.cell_of hgx]; rfl
  by_cases h1 : e = w
  · rw [decide_eq_true h1]
    simp (disch := first | omega | (simp only [Qn] <;> omega)) only [go_sem, x0]
    by_cases h2 : p = 0
    · rw [decide_eq_true h2]
      simp (disch := first | omega | (simp only [Qn] <;> omega)) only [go_sem, x1, hu.lens]
      refine ⟨?_, hfx⟩
      congr 1
      rw [decide_eq_decide]
      exact ⟨fun h => ⟨h1, h2, by omega⟩, fun h => by have := h.2.2; omega⟩
    · rw [decide_eq_false h2]
      simp (disch := first | omega | (simp only [Qn] <;> omega)) only [go_sem, undef_eq]
      exact ⟨by rw [decide_eq_false fun h => h2 h.2.1], hfx⟩
  · rw [decide_eq_false h1]
    simp (disch := first | omega | (simp only [Qn] <;> omega)) only [go_sem, undef_eq]
    exact ⟨by rw [decide_eq_false fun h => h1 h.1], hfx⟩
end Go.Proofs.Ytonhijbeddcmpaa
/- The law MatrixInverse, walked. -/
namespace Go.Proofs.Ytonhijbeddcmpaa
open Go Go.Ay
set_option maxRecDepth 100000
set_option maxHeartbeats 32000000 in
theorem inverse_ok (vl : V) (l : List Int) (pp nn xx yy : Int) (h : H) (hc : SI h vl l) (hcl : (l.length : Int) ≤ 2 ^ 63 - 1) : Ev T n_law04_MatrixInverse [vl, .int .i64 pp, .int .i64 nn, .int .i64 xx, .int .i64 yy] h (fun v _ => v = .bool true) := by
  refine Ev_of t_law04_MatrixInverse rfl ?_
  simp (disch := first | omega | (simp only [Qn] <;> omega)) only [go_sem, c_law04_MatrixInverse, initV_eq]
  refine (lives_ok h).mono ?_
  rintro v h0 ⟨rfl, g⟩
  replace hc := hc.mono g
  clear g
  simp (disch := first | omega | (simp only [Qn] <;> omega)) only [go_sem, hc.lens]
  refine iteW_dec (fun hlong => ?_) (fun hlong => ?_)
  · simp (disch := first | omega | (simp only [Qn] <;> omega)) only [go_sem]
  have hl : l.length < 1000000 := by omega
  simp (disch := first | omega | (simp only [Qn] <;> omega)) only [go_sem]
  refine (lawfield_ok pp _).mono ?_
  rintro v hb ⟨p, rfl, hf, fb⟩
  replace hc := hc.mono fb
  clear fb
  simp (disch := first | omega | (simp only [Qn] <;> omega)) only [go_sem]
  refine (pick_ok nn 5 hb (by omega) (by omega)).mono ?_
  rintro v h1 ⟨rfl, rfl⟩
  obtain ⟨n, hn⟩ : ∃ n : Nat, 1 + nn % 5 = (n : Int) := ⟨(1 + nn % 5).toNat, by omega⟩
  have s : Sq p n := ⟨hf, by omega, by omega⟩
  have hn5 : n ≤ 5 := by omega
  have hp := s.p
  have vc := SV.what hc
  have hbl : bldV [.nils, .int .i64 0] [(0, 1, vl)] = some (.agg [vl, .int .i64 0]) := bldV_fst (z1 := .nils) (z2 := .int .i64 0) (v := vl) vc.1 vc.2.1
  have hbo := fun hh => boxV_agg2 hh (v := vl) (u := .int .i64 0) vc.2.1 rfl
  simp (disch := first | omega | (simp only [Qn] <;> omega)) only [go_sem, hn, hbl, hbo]
  have hfx : Fr h1 (h1.new (.cells false [vl, .int .i64 0])) := (Fr.refl h1).new _
  have hgx : (h1.new (.cells false [vl, .int .i64 0])).get h1.next = some (.cells false [vl, .int .i64 0]) := H.get_new_same ..
  have hnx : (h1.new (.cells false [vl, .int .i64 0])).next = h1.next + 1 := H.next_new ..
  generalize h1.new (.cells false [vl, .int .i64 0]) = hx at *
  have ht : Tk hx h1.next l := ⟨vl, 0, hgx, hc.mono hfx, fun id off len c e => by
    rcases hc with ⟨h0, _⟩ | ⟨_, _, _, _, _, _, h0, _, h3, _⟩
    · rw [h0] at e; cases e
    · rw [h0] at e; cases e; exact h3, Nat.zero_le _, by omega⟩
  have htid : h1.next < hx.next := by omega
  clear hfx hgx hnx hbl hbo hc vc
  generalize h1.next = tid at *
  refine (drawn_ok tid l n p _ ht hl (by omega) (by omega)).mono ?_
  rintro v k0 ⟨A, iA, ⟨uA, wsA, rfl, RA⟩, ht0, f0⟩
  replace RA := RA.le (lo' := tid + 1) (by omega)
  clear ht
  have ht := ht0
  replace htid := Nat.lt_of_lt_of_le htid f0.next
  simp (disch := first | omega | (simp only [Qn] <;> omega)) only [go_sem]
  refine (drawn_ok tid l n p _ ht hl (by omega) (by omega)).mono ?_
  rintro v k1 ⟨B, iB, ⟨uB, wsB, rfl, RB⟩, ht1, f1⟩
  replace RB := RB.le (lo' := tid + 1) (by omega)
  replace RA := Rws.fx RA (Nat.lt_succ_self _) f1
  clear ht
  have ht := ht1
  replace htid := Nat.lt_of_lt_of_le htid f1.next
  simp (disch := first | omega | (simp only [Qn] <;> omega)) only [go_sem]
  have hfA : Fr k1 (k1.new (.cells false [.int .i64 0, .nils])) := (Fr.refl k1).new _
  have hgA : (k1.new (.cells false [.int .i64 0, .nils])).get k1.next = some (.cells false [.int .i64 0, .nils]) := H.get_new_same ..
  have hnA : (k1.new (.cells false [.int .i64 0, .nils])).next = k1.next + 1 := H.next_new ..
  generalize k1.new (.cells false [.int .i64 0, .nils]) = nA at *
  have hfB : Fr nA (nA.new (.cells false [.int .i64 0, .nils])) := (Fr.refl nA).new _
  have hgB : (nA.new (.cells false [.int .i64 0, .nils])).get nA.next = some (.cells false [.int .i64 0, .nils]) := H.get_new_same ..
  have hnB : (nA.new (.cells false [.int .i64 0, .nils])).next = nA.next + 1 := H.next_new ..
  generalize nA.new (.cells false [.int .i64 0, .nils]) = nB at *
  have F : Fr k1 nB := (hfA.trans hfB)
  obtain ⟨bA, hbA⟩ : ∃ b, k1.next = b := ⟨_, rfl⟩
  have gA : nB.get bA = some (.cells false [.int .i64 0, .nils]) := by rw [← hbA]; exact (hfB.get _ (by omega)).trans (hgA)
  have vA := SV.what RA.own.sv
  have stA := fun hh id => stV_agg2 hh id 0 (v := .int .i64 p) (u := uA) rfl vA.2.1
  have sA := RA.sr.mono F
  obtain ⟨bB, hbB⟩ : ∃ b, nA.next = b := ⟨_, rfl⟩
  have gB : nB.get bB = some (.cells false [.int .i64 0, .nils]) := by rw [← hbB]; exact hgB
  have vB := SV.what RB.own.sv
  have stB := fun hh id => stV_agg2 hh id 0 (v := .int .i64 p) (u := uB) rfl vB.2.1
  have sB := RB.sr.mono F
  rw [← hnA, hbA, hbB]
  have neAB : bA ≠ bB := by omega
  have neBA : bB ≠ bA := by omega
  simp (disch := first | omega | (simp only [Qn] <;> omega)) only [go_sem, stA, stB, gA, gB]
  have qA : ((nB.set bA (some (.cells false [.int .i64 p, uA]))).set bB (some (.cells false [.int .i64 p, uB]))).get bA = some (.cells false [.int .i64 p, uA]) := by simp (disch := first | omega | (simp only [Qn] <;> omega)) only [go_sem]
  have qB : ((nB.set bA (some (.cells false [.int .i64 p, uA]))).set bB (some (.cells false [.int .i64 p, uB]))).get bB = some (.cells false [.int .i64 p, uB]) := by simp (disch := first | omega | (simp only [Qn] <;> omega)) only [go_sem]
  have fz : Fr k1 ((nB.set bA (some (.cells false [.int .i64 p, uA]))).set bB (some (.cells false [.int .i64 p, uB]))) := ((F.set (by omega) _).set (by omega) _)
  have nz : ((nB.set bA (some (.cells false [.int .i64 p, uA]))).set bB (some (.cells false [.int .i64 p, uB]))).next = nB.next := rfl
  have b_A : MB ((nB.set bA (some (.cells false [.int .i64 p, uA]))).set bB (some (.cells false [.int .i64 p, uB]))) bA (p, mkR n n A) := ⟨uA, qA, RA.sr.mono fz, by rw [nz]; omega⟩
  have b_B : MB ((nB.set bA (some (.cells false [.int .i64 p, uA]))).set bB (some (.cells false [.int .i64 p, uB]))) bB (p, mkR n n B) := ⟨uB, qB, RB.sr.mono fz, by rw [nz]; omega⟩
  clear qA qB
  generalize ((nB.set bA (some (.cells false [.int .i64 p, uA]))).set bB (some (.cells false [.int .i64 p, uB]))) = kz at *
  clear fz nz F RA vA stA sA gA hfA hgA hnA hbA RB vB stB sB gB hfB hgB hnB hbB ht htid
  obtain ⟨a0, r0, q0⟩ := b_A.row
  obtain ⟨a1, r1, q1⟩ := b_B.row
  simp (disch := first | omega | (simp only [Qn] <;> omega)) only [go_sem, d6', d0', decide_true, r0, r1]
  refine (Mul_ok _ _ (p, mkR n n A) (p, mkR n n B) _ q0 q1 (s.la _) (s.la _)).mono ?_
  rintro v h10 ⟨w, rfl, ⟨u0, ws0, rfl, R0⟩, f0⟩
  have eq := s.mul iA iB
  rw [eq] at R0
  rw [eq]
  have st := fun hh id => stV_agg2 hh id 0 (v := .int .i64 p) (u := u0) rfl (SV.what R0.own.sv).2.1
  simp (disch := first | omega | (simp only [Qn] <;> omega)) only [go_sem, d6', d0', decide_true, st, bxH_eq, List.getElem?_cons_zero, List.getElem?_cons_succ]
  have fx := f0.trans (bxH_fr h10 p u0)
  replace b_A := b_A.mono fx
  replace b_B := b_B.mono fx
  have b_ab := MB.new (h := h10) (p := p) R0.sr
  have iab : InP p n (mmP p n A B) := s.mm _ _
  clear fx st eq f0 R0
  generalize bxH h10 p u0 = k10 at *
  generalize h10.next = j0 at *
  obtain ⟨a0, r0, q0⟩ := b_A.row
  simp (disch := first | omega | (simp only [Qn] <;> omega)) only [go_sem, d6', d0', decide_true, r0]
  refine (Det_ok _ (p, mkR n n A) _ q0 (s.la _)).mono ?_
  rintro v k11 ⟨rfl, f1⟩
  rw [s.det iA]
  replace b_A := b_A.mono f1
  replace b_B := b_B.mono f1
  replace b_ab := b_ab.mono f1
  clear f1
  try simp (disch := first | omega | (simp only [Qn] <;> omega)) only [go_sem, d6', d0', decide_true, List.getElem?_cons_zero, List.getElem?_cons_succ]
  obtain ⟨a0, r0, q0⟩ := b_B.row
  simp (disch := first | omega | (simp only [Qn] <;> omega)) only [go_sem, d6', d0', decide_true, r0]
  refine (Det_ok _ (p, mkR n n B) _ q0 (s.la _)).mono ?_
  rintro v k12 ⟨rfl, f2⟩
  rw [s.det iB]
  replace b_A := b_A.mono f2
  replace b_B := b_B.mono f2
  replace b_ab := b_ab.mono f2
  clear f2
  try simp (disch := first | omega | (simp only [Qn] <;> omega)) only [go_sem, d6', d0', decide_true, List.getElem?_cons_zero, List.getElem?_cons_succ]
  obtain ⟨a0, r0, q0⟩ := b_ab.row
  simp (disch := first | omega | (simp only [Qn] <;> omega)) only [go_sem, d6', d0', decide_true, r0]
  refine (Det_ok _ (p, mkR n n (mmP p n A B)) _ q0 (s.la _)).mono ?_
  rintro v k13 ⟨rfl, f3⟩
  rw [s.det iab]
  replace b_A := b_A.mono f3
  replace b_B := b_B.mono f3
  replace b_ab := b_ab.mono f3
  clear f3
  try simp (disch := first | omega | (simp only [Qn] <;> omega)) only [go_sem, d6', d0', decide_true, List.getElem?_cons_zero, List.getElem?_cons_succ]
  have dm : Ay.det n (mmP p n A B) % p = (Ay.det n A % p) * (Ay.det n B % p) % p := by
    rw [det_mod (Em.mm p n A B), det_mul, Int.mul_emod]
  rw [dm]
  have r1 := tmod_range (Ay.det n A) (show 0 < p by omega)
  have r2 := tmod_range (Ay.det n B) (show 0 < p by omega)
  obtain ⟨D1, hD1⟩ : ∃ D, Ay.det n A % p = D := ⟨_, rfl⟩
  obtain ⟨D2, hD2⟩ : ∃ D, Ay.det n B % p = D := ⟨_, rfl⟩
  rw [hD1] at r1
  rw [hD2] at r2
  rw [hD1, hD2]
  have mb := mul_bound r1.1 r1.2 r2.1 r2.2 hp.2
  have em := nonneg_tmod (p := p) mb.1
  have e1 : decide (D1 < 0) = false := decide_eq_false (by omega)
  have e2 : decide (p ≤ D1) = false := decide_eq_false (by omega)
  have e3 : decide (D2 < 0) = false := decide_eq_false (by omega)
  have e4 : decide (p ≤ D2) = false := decide_eq_false (by omega)
  have e5 : decide (D1 * D2 % p ≠ D1 * D2 % p) = false := decide_eq_false (by simp)
  simp (disch := first | omega | (simp only [Qn] <;> omega)) only [go_sem, d6', d0', e1, e2, e3, e4, em, e5]
  clear em mb e1 e2 e3 e4 e5 dm
  try simp (disch := first | omega | (simp only [Qn] <;> omega)) only [go_sem, d6', d0', decide_true]
  refine (One_ok (n : Int) p _).mono ?_
  rintro v h14 ⟨w, rfl, ⟨u4, ws4, rfl, R4⟩, f4⟩
  have eq := s.one
  rw [eq] at R4
  rw [eq]
  have st := fun hh id => stV_agg2 hh id 0 (v := .int .i64 p) (u := u4) rfl (SV.what R4.own.sv).2.1
  simp (disch := first | omega | (simp only [Qn] <;> omega)) only [go_sem, d6', d0', decide_true, st, bxH_eq, List.getElem?_cons_zero, List.getElem?_cons_succ]
  have fx := f4.trans (bxH_fr h14 p u4)
  replace b_A := b_A.mono fx
  replace b_B := b_B.mono fx
  replace b_ab := b_ab.mono fx
  have b_id := MB.new (h := h14) (p := p) R4.sr
  have iid : InP p n idM := s.on
  clear fx st eq f4 R4
  generalize bxH h14 p u4 = k14 at *
  generalize h14.next = j4 at *
  rcases s.inv iA with ⟨hd, eI⟩ | ⟨hd, Y, hY, iY, eI⟩
  · obtain ⟨a0, r0, q0⟩ := b_A.row
    simp (disch := first | omega | (simp only [Qn] <;> omega)) only [go_sem, d6', d0', decide_true, r0]
    refine (Inv_ok _ (p, mkR n n A) _ q0 (s.la _)).mono ?_
    rintro v h15 ⟨w, rfl, ⟨u5, ws5, rfl, R5⟩, f5⟩
    rw [eI] at R5
    rw [eI]
    have st := fun hh id => stV_agg2 hh id 0 (v := .int .i64 0) (u := u5) rfl (SV.what R5.own.sv).2.1
    simp (disch := first | omega | (simp only [Qn] <;> omega)) only [go_sem, st, bxH_eq]
    have fx := f5.trans (bxH_fr h15 0 u5)
    replace b_A := b_A.mono fx
    have b_I : MB (bxH h15 0 u5) h15.next (0, []) := MB.new R5.sr
    have hd0 : D1 = 0 := by rw [← hD1]; exact hd
    rw [decide_eq_true hd0]
    clear fx st f5 R5
    generalize bxH h15 0 u5 = k15 at *
    generalize h15.next = j5 at *
    obtain ⟨a0, r0, q0⟩ := b_A.row
    simp (disch := first | omega | (simp only [Qn] <;> omega)) only [go_sem, r0]
    refine (Pow_ok _ (p, mkR n n A) (-1) _ q0 (s.la _) (by omega)).mono ?_
    rintro v h50 ⟨w, rfl, ⟨u50, rfl, R50⟩, f50⟩
    rw [s.powS iA eI] at R50
    rw [s.powS iA eI]
    have st := fun hh id => stV_agg2 hh id 0 (v := .int .i64 0) (u := u50) rfl (SV.what R50.choose_spec.1).2.1
    simp (disch := first | omega | (simp only [Qn] <;> omega)) only [go_sem, st, bxH_eq]
    have fx := f50.trans (bxH_fr h50 0 u50)
    replace b_A := b_A.mono fx
    replace b_I := b_I.mono fx
    generalize bxH h50 0 u50 = k50 at *
    obtain ⟨a0, r0, q0⟩ := b_A.row
    simp (disch := first | omega | (simp only [Qn] <;> omega)) only [go_sem, r0]
    refine (Order_ok _ (p, mkR n n A) _ q0 (s.la _)).mono ?_
    rintro v h51 ⟨rfl, f51⟩
    rw [Sq.ordS eI]
    replace b_I := b_I.mono f51
    obtain ⟨a9, r9, q9⟩ := b_I.row
    simp (disch := first | omega | (simp only [Qn] <;> omega)) only [go_sem, r9]
    refine (bad_ok _ (0, []) 15 15 _ q9).mono ?_
    rintro v h52 ⟨rfl, f52⟩
    rw [decide_eq_true (show (15 : Int) = 15 ∧ ((0, []) : Mat).1 = 0 ∧ ((0, []) : Mat).2.length = 0 from ⟨rfl, rfl, rfl⟩)]
    have d15 : decide ((15 : Int) = 15) = true := by decide
    simp (disch := first | omega | (simp only [Qn] <;> omega)) only [go_sem, d15, decide_true]
  · obtain ⟨a0, r0, q0⟩ := b_A.row
    simp (disch := first | omega | (simp only [Qn] <;> omega)) only [go_sem, d6', d0', decide_true, r0]
    refine (Inv_ok _ (p, mkR n n A) _ q0 (s.la _)).mono ?_
    rintro v h16 ⟨w, rfl, ⟨u6, ws6, rfl, R6⟩, f6⟩
    have eq := eI
    rw [eq] at R6
    rw [eq]
    have st := fun hh id => stV_agg2 hh id 0 (v := .int .i64 p) (u := u6) rfl (SV.what R6.own.sv).2.1
    simp (disch := first | omega | (simp only [Qn] <;> omega)) only [go_sem, d6', d0', decide_true, st, bxH_eq, List.getElem?_cons_zero, List.getElem?_cons_succ]
    have fx := f6.trans (bxH_fr h16 p u6)
    replace b_A := b_A.mono fx
    replace b_B := b_B.mono fx
    replace b_ab := b_ab.mono fx
    replace b_id := b_id.mono fx
    have b_inv := MB.new (h := h16) (p := p) R6.sr
    have iinv : InP p n Y := iY
    clear fx st eq f6 R6
    generalize bxH h16 p u6 = k16 at *
    generalize h16.next = j6 at *
    have hd0 : ¬ D1 = 0 := by rw [← hD1]; exact hd
    rw [decide_eq_false hd0]
    obtain ⟨a0, r0, q0⟩ := b_inv.row
    obtain ⟨a1, r1, q1⟩ := b_A.row
    simp (disch := first | omega | (simp only [Qn] <;> omega)) only [go_sem, d6', d0', decide_true, r0, r1]
    refine (Mul_ok _ _ (p, mkR n n Y) (p, mkR n n A) _ q0 q1 (s.la _) (s.la _)).mono ?_
    rintro v h17 ⟨w, rfl, ⟨u7, ws7, rfl, R7⟩, f7⟩
    have eq := s.mul iinv iA
    rw [eq] at R7
    rw [eq]
    have st := fun hh id => stV_agg2 hh id 0 (v := .int .i64 p) (u := u7) rfl (SV.what R7.own.sv).2.1
    simp (disch := first | omega | (simp only [Qn] <;> omega)) only [go_sem, d6', d0', decide_true, st, bxH_eq, List.getElem?_cons_zero, List.getElem?_cons_succ]
    have fx := f7.trans (bxH_fr h17 p u7)
    replace b_A := b_A.mono fx
    replace b_B := b_B.mono fx
    replace b_ab := b_ab.mono fx
    replace b_id := b_id.mono fx
    replace b_inv := b_inv.mono fx
    have b_left := MB.new (h := h17) (p := p) R7.sr
    have ileft : InP p n (mmP p n Y A) := s.mm _ _
    clear fx st eq f7 R7
    generalize bxH h17 p u7 = k17 at *
    generalize h17.next = j7 at *
    obtain ⟨a0, r0, q0⟩ := b_A.row
    obtain ⟨a1, r1, q1⟩ := b_inv.row
    simp (disch := first | omega | (simp only [Qn] <;> omega)) only [go_sem, d6', d0', decide_true, r0, r1]
    refine (Mul_ok _ _ (p, mkR n n A) (p, mkR n n Y) _ q0 q1 (s.la _) (s.la _)).mono ?_
    rintro v h18 ⟨w, rfl, ⟨u8, ws8, rfl, R8⟩, f8⟩
    have eq := s.mul iA iinv
    rw [eq] at R8
    rw [eq]
    have st := fun hh id => stV_agg2 hh id 0 (v := .int .i64 p) (u := u8) rfl (SV.what R8.own.sv).2.1
    simp (disch := first | omega | (simp only [Qn] <;> omega)) only [go_sem, d6', d0', decide_true, st, bxH_eq, List.getElem?_cons_zero, List.getElem?_cons_succ]
    have fx := f8.trans (bxH_fr h18 p u8)
    replace b_A := b_A.mono fx
    replace b_B := b_B.mono fx
    replace b_ab := b_ab.mono fx
    replace b_id := b_id.mono fx
    replace b_inv := b_inv.mono fx
    replace b_left := b_left.mono fx
    have b_right := MB.new (h := h18) (p := p) R8.sr
    have iright : InP p n (mmP p n A Y) := s.mm _ _
    clear fx st eq f8 R8
    generalize bxH h18 p u8 = k18 at *
    generalize h18.next = j8 at *
    have rx := tmod_range xx (show (0 : Int) < 41 by omega)
    have ry := tmod_range yy (show (0 : Int) < 41 by omega)
    try simp (disch := first | omega | (simp only [Qn] <;> omega)) only [go_sem, d6', d0', decide_true]
    refine (pick_ok xx 41 _ (by omega) (by omega)).mono ?_
    rintro v hx1 ⟨rfl, rfl⟩
    simp (disch := first | omega | (simp only [Qn] <;> omega)) only [go_sem]
    refine (pick_ok yy 41 _ (by omega) (by omega)).mono ?_
    rintro v hx2 ⟨rfl, rfl⟩
    obtain ⟨x, hx⟩ : ∃ x, xx % 41 - 20 = x := ⟨_, rfl⟩
    obtain ⟨y, hy⟩ : ∃ y, yy % 41 - 20 = y := ⟨_, rfl⟩
    try simp (disch := first | omega | (simp only [Qn] <;> omega)) only [go_sem]
    rw [hx, hy]
    have hxr : -20 ≤ x ∧ x ≤ 20 := by omega
    have hyr : -20 ≤ y ∧ y ≤ 20 := by omega
    obtain ⟨a0, r0, q0⟩ := b_A.row
    simp (disch := first | omega | (simp only [Qn] <;> omega)) only [go_sem, d6', d0', decide_true, r0]
    refine (Pow_ok _ (p, mkR n n A) x _ q0 (s.la _) (by omega)).mono ?_
    rintro v h19 ⟨w, rfl, ⟨u9, rfl, R9⟩, f9⟩
    have eq := s.pow iA iY eI x (by omega)
    rw [eq] at R9
    rw [eq]
    have st := fun hh id => stV_agg2 hh id 0 (v := .int .i64 p) (u := u9) rfl (SV.what R9.choose_spec.1).2.1
    simp (disch := first | omega | (simp only [Qn] <;> omega)) only [go_sem, d6', d0', decide_true, st, bxH_eq, List.getElem?_cons_zero, List.getElem?_cons_succ]
    have fx := f9.trans (bxH_fr h19 p u9)
    replace b_A := b_A.mono fx
    replace b_B := b_B.mono fx
    replace b_ab := b_ab.mono fx
    replace b_id := b_id.mono fx
    replace b_inv := b_inv.mono fx
    replace b_left := b_left.mono fx
    replace b_right := b_right.mono fx
    have b_px := MB.new (h := h19) (p := p) R9
    have ipx : InP p n (pwZ p n A Y x) := s.pz _ _ _
    clear fx st eq f9 R9
    generalize bxH h19 p u9 = k19 at *
    generalize h19.next = j9 at *
    obtain ⟨a0, r0, q0⟩ := b_A.row
    simp (disch := first | omega | (simp only [Qn] <;> omega)) only [go_sem, d6', d0', decide_true, r0]
    refine (Pow_ok _ (p, mkR n n A) y _ q0 (s.la _) (by omega)).mono ?_
    rintro v h20 ⟨w, rfl, ⟨u10, rfl, R10⟩, f10⟩
    have eq := s.pow iA iY eI y (by omega)
    rw [eq] at R10
    rw [eq]
    have st := fun hh id => stV_agg2 hh id 0 (v := .int .i64 p) (u := u10) rfl (SV.what R10.choose_spec.1).2.1
    simp (disch := first | omega | (simp only [Qn] <;> omega)) only [go_sem, d6', d0', decide_true, st, bxH_eq, List.getElem?_cons_zero, List.getElem?_cons_succ]
    have fx := f10.trans (bxH_fr h20 p u10)
    replace b_A := b_A.mono fx
    replace b_B := b_B.mono fx
    replace b_ab := b_ab.mono fx
    replace b_id := b_id.mono fx
    replace b_inv := b_inv.mono fx
    replace b_left := b_left.mono fx
    replace b_right := b_right.mono fx
    replace b_px := b_px.mono fx
    have b_py := MB.new (h := h20) (p := p) R10
    have ipy : InP p n (pwZ p n A Y y) := s.pz _ _ _
    clear fx st eq f10 R10
    generalize bxH h20 p u10 = k20 at *
    generalize h20.next = j10 at *
    obtain ⟨a0, r0, q0⟩ := b_A.row
    simp (disch := first | omega | (simp only [Qn] <;> omega)) only [go_sem, d6', d0', decide_true, r0]
    refine (Pow_ok _ (p, mkR n n A) (x + y) _ q0 (s.la _) (by omega)).mono ?_
    rintro v h21 ⟨w, rfl, ⟨u11, rfl, R11⟩, f11⟩
    have eq := s.pow iA iY eI (x + y) (by omega)
    rw [eq] at R11
    rw [eq]
    have st := fun hh id => stV_agg2 hh id 0 (v := .int .i64 p) (u := u11) rfl (SV.what R11.choose_spec.1).2.1
    simp (disch := first | omega | (simp only [Qn] <;> omega)) only [go_sem, d6', d0', decide_true, st, bxH_eq, List.getElem?_cons_zero, List.getElem?_cons_succ]
    have fx := f11.trans (bxH_fr h21 p u11)
    replace b_A := b_A.mono fx
    replace b_B := b_B.mono fx
    replace b_ab := b_ab.mono fx
    replace b_id := b_id.mono fx
    replace b_inv := b_inv.mono fx
    replace b_left := b_left.mono fx
    replace b_right := b_right.mono fx
    replace b_px := b_px.mono fx
    replace b_py := b_py.mono fx
    have b_sum := MB.new (h := h21) (p := p) R11
    have isum : InP p n (pwZ p n A Y (x + y)) := s.pz _ _ _
    clear fx st eq f11 R11
    generalize bxH h21 p u11 = k21 at *
    generalize h21.next = j11 at *
    obtain ⟨a0, r0, q0⟩ := b_px.row
    obtain ⟨a1, r1, q1⟩ := b_py.row
    simp (disch := first | omega | (simp only [Qn] <;> omega)) only [go_sem, d6', d0', decide_true, r0, r1]
    refine (Mul_ok _ _ (p, mkR n n (pwZ p n A Y x)) (p, mkR n n (pwZ p n A Y y)) _ q0 q1 (s.la _) (s.la _)).mono ?_
    rintro v h22 ⟨w, rfl, ⟨u12, ws12, rfl, R12⟩, f12⟩
    have eq := s.mul ipx ipy
    rw [eq] at R12
    rw [eq]
    have st := fun hh id => stV_agg2 hh id 0 (v := .int .i64 p) (u := u12) rfl (SV.what R12.own.sv).2.1
    simp (disch := first | omega | (simp only [Qn] <;> omega)) only [go_sem, d6', d0', decide_true, st, bxH_eq, List.getElem?_cons_zero, List.getElem?_cons_succ]
    have fx := f12.trans (bxH_fr h22 p u12)
    replace b_A := b_A.mono fx
    replace b_B := b_B.mono fx
    replace b_ab := b_ab.mono fx
    replace b_id := b_id.mono fx
    replace b_inv := b_inv.mono fx
    replace b_left := b_left.mono fx
    replace b_right := b_right.mono fx
    replace b_px := b_px.mono fx
    replace b_py := b_py.mono fx
    replace b_sum := b_sum.mono fx
    have b_both := MB.new (h := h22) (p := p) R12.sr
    have iboth : InP p n (mmP p n (pwZ p n A Y x) (pwZ p n A Y y)) := s.mm _ _
    clear fx st eq f12 R12
    generalize bxH h22 p u12 = k22 at *
    generalize h22.next = j12 at *
    have hYl : Em p n (mulM n Y A) idM := hY.left
    have hYr : Em p n (mulM n A Y) idM := fun i j hi hj => right_of_left hY.left hi hj
    have eL := ((Em.mm p n Y A).trans hYl).rows (s.mm _ _) s.on
    have eR := ((Em.mm p n A Y).trans hYr).rows (s.mm _ _) s.on
    have eS := ((Em.mm p n (pwZ p n A Y x) (pwZ p n A Y y)).trans (pwZ_add hYr hYl x y)).symm.rows (s.pz _ _ _) (s.mm _ _)
    obtain ⟨a0, r0, q0⟩ := b_left.row
    obtain ⟨a1, r1, q1⟩ := b_id.row
    simp (disch := first | omega | (simp only [Qn] <;> omega)) only [go_sem, d6', d0', decide_true, r0, r1]
    refine (Same_ok _ _ (p, mkR n n (mmP p n Y A)) (p, mkR n n idM) _ q0 q1 (s.fits _) (s.fits _)).mono ?_
    rintro v k23 ⟨rfl, f13⟩
    rw [decide_eq_true (show ((p, mkR n n (mmP p n Y A)) : Mat) = (p, mkR n n idM) from by rw [eL])]
    replace b_A := b_A.mono f13
    replace b_B := b_B.mono f13
    replace b_ab := b_ab.mono f13
    replace b_id := b_id.mono f13
    replace b_inv := b_inv.mono f13
    replace b_left := b_left.mono f13
    replace b_right := b_right.mono f13
    replace b_px := b_px.mono f13
    replace b_py := b_py.mono f13
    replace b_sum := b_sum.mono f13
    replace b_both := b_both.mono f13
    try simp (disch := first | omega | (simp only [Qn] <;> omega)) only [go_sem, d6', d0', decide_true]
    obtain ⟨a0, r0, q0⟩ := b_right.row
    obtain ⟨a1, r1, q1⟩ := b_id.row
    simp (disch := first | omega | (simp only [Qn] <;> omega)) only [go_sem, d6', d0', decide_true, r0, r1]
    refine (Same_ok _ _ (p, mkR n n (mmP p n A Y)) (p, mkR n n idM) _ q0 q1 (s.fits _) (s.fits _)).mono ?_
    rintro v k24 ⟨rfl, f14⟩
    rw [decide_eq_true (show ((p, mkR n n (mmP p n A Y)) : Mat) = (p, mkR n n idM) from by rw [eR])]
    replace b_A := b_A.mono f14
    replace b_B := b_B.mono f14
    replace b_ab := b_ab.mono f14
    replace b_id := b_id.mono f14
    replace b_inv := b_inv.mono f14
    replace b_left := b_left.mono f14
    replace b_right := b_right.mono f14
    replace b_px := b_px.mono f14
    replace b_py := b_py.mono f14
    replace b_sum := b_sum.mono f14
    replace b_both := b_both.mono f14
    try simp (disch := first | omega | (simp only [Qn] <;> omega)) only [go_sem, d6', d0', decide_true]
    obtain ⟨a0, r0, q0⟩ := b_sum.row
    obtain ⟨a1, r1, q1⟩ := b_both.row
    simp (disch := first | omega | (simp only [Qn] <;> omega)) only [go_sem, d6', d0', decide_true, r0, r1]
    refine (Same_ok _ _ (p, mkR n n (pwZ p n A Y (x + y))) (p, mkR n n (mmP p n (pwZ p n A Y x) (pwZ p n A Y y))) _ q0 q1 (s.fits _) (s.fits _)).mono ?_
    rintro v k25 ⟨rfl, f15⟩
    rw [decide_eq_true (show ((p, mkR n n (pwZ p n A Y (x + y))) : Mat) = (p, mkR n n (mmP p n (pwZ p n A Y x) (pwZ p n A Y y))) from by rw [eS])]
    replace b_A := b_A.mono f15
    replace b_B := b_B.mono f15
    replace b_ab := b_ab.mono f15
    replace b_id := b_id.mono f15
    replace b_inv := b_inv.mono f15
    replace b_left := b_left.mono f15
    replace b_right := b_right.mono f15
    replace b_px := b_px.mono f15
    replace b_py := b_py.mono f15
    replace b_sum := b_sum.mono f15
    replace b_both := b_both.mono f15
    try simp (disch := first | omega | (simp only [Qn] <;> omega)) only [go_sem, d6', d0', decide_true]
end Go.Proofs.Ytonhijbeddcmpaa
