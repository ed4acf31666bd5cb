/- Layer 4: the laws' helpers: of, is, lives. Layer 4: the laws' numbers: field, drawn; boxes; valid matrices. Layer 4: valid square matrices; boxes. The characteristic polynomial by leading parts (Samuelson, Berkowitz), and of a bent matrix. Two rows and the same two columns change places; a multiple of a row is taken off another, and of a column put on: the characteristic polynomial stays. Layer 4: rows in their places. Layer 4: bent. Layer 4: Poly. Layer 4: Trace. Layer 4: the reference's square, Trace. Layer 4: the reference's inverse of a number. The step of Samuelson and Berkowitz, as a convolution. -/
import Derived.Test.YtonhijbeddcmpaaM4ytoM4re
import Derived.Test.YtonhijbeddcmpaaDt1toDt6
/- Layer 4: the laws' helpers: of, is, lives. -/
namespace Go.Proofs.Ytonhijbeddcmpaa
open Go Go.Ay
set_option maxRecDepth 100000
theorem bls_int2 (h : H) (x y : Int) : blsV h 1 [.int .i64 0] 2 [(0, 1, .int .i64 x), (1, 1, .int .i64 y)] = some (.sl h.next 0 2 (.kn 2), h.new (.cells false (ints [x, y]))) := by
  have e : zerosV [V.int .i64 0] 2 = [.int .i64 0, .int .i64 0] := rfl
  simp [blsV, fillV, e, V.cells, V.one, putAt, ints]
theorem bls_sl2 (h : H) (a b c a' b' c' : Nat) (d' dd : Cap) : blsV h 1 [.nils] 2 [(0, 1, .sl a b c dd), (1, 1, .sl a' b' c' d')] = some (.sl h.next 0 2 (.kn 2), h.new (.cells false [.sl a b c dd, .sl a' b' c' d'])) := bls_two h rfl rfl rfl rfl
theorem sr_two {h : H} {i j k : Nat} {ri rj rk : Bool} {a b : List Int} (gi : h.get i = some (.cells ri (ints a))) (gj : h.get j = some (.cells rj (ints b))) (gk : h.get k = some (.cells rk [.sl i 0 a.length (.kn a.length), .sl j 0 b.length (.kn b.length)])) (hi : i < h.next) (hj : j < h.next) (hk : k < h.next) : SR h (.sl k 0 2 (.kn 2)) [a, b] :=
  ⟨_, SV.all rfl hk gk _, SI.own hi gi _, SI.own hj gj _, trivial⟩
theorem of_ok (u : V) (rows : List (List Int)) (h : H) (hu : SR h u rows) : Ev T n_law04_of [u] h (fun w h' => w = .agg [.int .i64 5, u] ∧ Fr h h') := by
  refine Ev_of t_law04_of rfl ?_
  have hw := SV.what hu.choose_spec.1
  have hbl := bldV_two (z1 := .int .i64 0) (z2 := .nils) (v := .int .i64 5) (u := u) rfl rfl hw.1 hw.2.1
  have hst := fun hh id => stV_agg2 hh id 0 (v := .int .i64 5) (u := u) rfl hw.2.1
  have hrow := row_two (bxH_get h 5 u)
  simp (disch := first | omega | (simp only [Qn] <;> omega)) only [go_sem, c_law04_of, initV_eq, hbl, hst, bxH_eq, hrow]
  exact bxH_fr h 5 u
theorem is_ok (va vb : V) (e : Int) (a b : Mat) (h : H) (ha : MatV h va a) (hb : MatV h vb b) (fa : Fit a) (fb : Fit b) : Ev T n_law04_is [va, .int .i64 e, vb] h (fun v h' => v = .bool (decide (e = 0 ∧ a = b)) ∧ Fr h h') := by
  obtain ⟨ua, rfl, hua⟩ := ha
  obtain ⟨ub, rfl, hub⟩ := hb
  refine Ev_of t_law04_is rfl ?_
  have wa := SV.what hua.choose_spec.1
  have wb := SV.what hub.choose_spec.1
  simp (disch := first | omega | (simp only [Qn] <;> omega)) only [go_sem, c_law04_is, initV_eq, boxV_agg2 h (v := .int .i64 a.1) rfl wa.2.1]
  have hfx : Fr h (h.new (.cells false [.int .i64 a.1, ua])) := (Fr.refl h).new _
  have hgx : (h.new (.cells false [.int .i64 a.1, ua])).get h.next = some (.cells false [.int .i64 a.1, ua]) := H.get_new_same ..
  have hnx : (h.new (.cells false [.int .i64 a.1, ua])).next = h.next + 1 := H.next_new ..
  generalize h.new (.cells false [.int .i64 a.1, ua]) = hx at *
  simp (disch := first | omega | (simp only [Qn] <;> omega)) only [go_sem, boxV_agg2 hx (v := .int .i64 b.1) rfl wb.2.1]
  have hfy : Fr hx (hx.new (.cells false [.int .i64 b.1, ub])) := (Fr.refl hx).new _
  have hgy : (hx.new (.cells false [.int .i64 b.1, ub])).get hx.next = some (.cells false [.int .i64 b.1, ub]) := H.get_new_same ..
  have hny : (hx.new (.cells false [.int .i64 b.1, ub])).next = hx.next + 1 := H.next_new ..
  generalize hx.new (.cells false [.int .i64 b.1, ub]) = hy at *
  have F := hfx.trans hfy
  have rx := row_two ((hfy.get h.next (by omega)).trans hgx)
  have ry := row_two hgy
  by_cases he : e = 0
  · rw [decide_eq_true he]
    simp (disch := first | omega | (simp only [Qn] <;> omega)) only [go_sem, rx, ry]
    refine (Same_ok _ _ a b hy ⟨ua, rfl, hua.mono F⟩ ⟨ub, rfl, hub.mono F⟩ fa fb).mono ?_
    rintro v h3 ⟨rfl, f3⟩
    simp (disch := first | omega | (simp only [Qn] <;> omega)) only [go_sem]
    refine ⟨?_, F.trans f3⟩
    congr 1
    rw [decide_eq_decide]
    exact ⟨fun h => ⟨he, h⟩, fun h => h.2⟩
  · rw [decide_eq_false he]
    simp (disch := first | omega | (simp only [Qn] <;> omega)) only [go_sem, undef_eq]
    exact ⟨by rw [decide_eq_false fun h => he h.1], F⟩
def mA : Mat := (5, [[1, 2], [3, 4]])
def mB : Mat := (5, [[0, 1], [1, 0]])
theorem lv_mul : MulF mA mB = ((5, [[2, 1], [4, 3]]), 0) := by decide +kernel
theorem lv_det : DetF mA = (3, 0) := by decide +kernel
theorem lv_sq : sqF mA = 0 := by decide +kernel
theorem lv_inv : InvF mA = ((5, [[3, 1], [4, 2]]), 0) := by
  have i : IsInv 5 2 (ent mA.2) (ent [[3, 1], [4, 2]]) := ⟨fun i j hi hj => (by decide : ∀ i, i < 2 → ∀ j, j < 2 → 0 ≤ ent [[3, 1], [4, 2]] i j) i hi j hj, fun i j hi hj => (by decide : ∀ i, i < 2 → ∀ j, j < 2 → ent [[3, 1], [4, 2]] i j < 5) i hi j hj, fun i j hi hj => (by decide +kernel : ∀ i, i < 2 → ∀ j, j < 2 → mulM 2 (ent [[3, 1], [4, 2]]) (ent mA.2) i j % 5 = idM i j % 5) i hi j hj⟩
  have e := invX_eq i
  rw [InvF, if_neg (by rw [lv_sq]; decide), if_neg (by decide +kernel)]
  rw [show mA.1 = 5 from rfl, show mA.2.length = 2 from rfl, ← e]
  decide +kernel
theorem lv_ord : OrderF mA = (8, 0) := by
  rw [OrderF, if_neg (by rw [lv_inv]; decide)]
  decide +kernel
theorem lit22 (h : H) (a b c d : Int) : ∃ h3, ((h.new (.cells false (ints [a, b]))).new (.cells false (ints [c, d]))).new (.cells false [.sl h.next 0 2 (.kn 2), .sl (h.next + 1) 0 2 (.kn 2)]) = h3 ∧ Fr h h3 ∧ SR h3 (.sl (h.next + 1 + 1) 0 2 (.kn 2)) [[a, b], [c, d]] ∧ h3.next = h.next + 3 := by
  refine ⟨_, rfl, (((Fr.refl h).new _).new _).new _, sr_two (ri := false) (rj := false) (rk := false) (i := h.next) (j := h.next + 1) ?_ ?_ ?_ ?_ ?_ ?_, rfl⟩
  · rw [H.get_new_ne _ (by simp only [H.next_new]; omega), H.get_new_ne _ (by simp only [H.next_new]; omega)]; exact H.get_new_same ..
  · rw [H.get_new_ne _ (by simp only [H.next_new]; omega)]; exact H.get_new_same (h.new _) _
  · exact H.get_new_same ((h.new _).new _) _
  · simp only [H.next_new]; omega
  · simp only [H.next_new]; omega
  · simp only [H.next_new]; omega
theorem litV22 {b0 h : H} (f0 : Fr b0 h) (a b c d : Int) (i j k m : Nat) (hi : b0.next ≤ i) (hj : i < j) (hk : j < k) (hm : k < m) : ∃ h3, litV (litV (litV h i (ints [a, b]) m) j (ints [c, d]) m) k [.sl i 0 2 (.kn 2), .sl j 0 2 (.kn 2)] m = h3 ∧ Fr b0 h3 ∧ SR h3 (.sl k 0 2 (.kn 2)) [[a, b], [c, d]] ∧ h3.next = m := by
  refine ⟨_, rfl, litV_fr (litV_fr (litV_fr f0 (by omega) (by omega) _) (by omega) (by omega) _) (by omega) (by omega) _, sr_two (ri := false) (rj := false) (rk := false) (i := i) (j := j) ?_ ?_ ?_ ?_ ?_ ?_, rfl⟩
  · rw [litV_ne _ _ _ (by omega), litV_ne _ _ _ (by omega)]; exact litV_get ..
  · rw [litV_ne _ _ _ (by omega)]; exact litV_get ..
  · exact litV_get ..
  · rw [litV_next]; omega
  · rw [litV_next]; omega
  · rw [litV_next]; omega
theorem fit22 (a b c d : Int) : Fit (5, [[a, b], [c, d]]) := ⟨by simp, fun i hi => by
  have : i = 0 ∨ i = 1 := by simp at hi; omega
  rcases this with rfl | rfl <;> simp⟩
set_option maxHeartbeats 8000000 in
theorem lives_ok (h : H) : Ev T n_law04_lives [] h (fun v h' => v = .bool true ∧ Fr h h') := by
  refine Ev_of t_law04_lives rfl ?_
  simp (disch := first | omega | (simp only [Qn] <;> omega)) only [go_sem, c_law04_lives, initV_eq, bls_int2, bls_sl2]
  obtain ⟨h1, e1, f1, s1, n1⟩ := lit22 h 1 2 3 4
  rw [e1]
  refine (of_ok _ _ h1 s1).mono ?_
  rintro w h2 ⟨rfl, f2⟩
  simp (disch := first | omega | (simp only [Qn] <;> omega)) only [go_sem, bls_int2, bls_sl2]
  obtain ⟨h3, e3, f3, s3, n3⟩ := lit22 h2 0 1 1 0
  rw [e3]
  refine (of_ok _ _ h3 s3).mono ?_
  rintro w h4 ⟨rfl, f4⟩
  have sA := ((s1.mono f2).mono f3).mono f4
  have sB := s3.mono f4
  have F4 := ((f1.trans f2).trans f3).trans f4
  have hstA := fun hh id => stV_agg2 hh id 0 (v := .int .i64 5) (u := .sl (h.next + 1 + 1) 0 2 (.kn 2)) rfl rfl
  have hstB := fun hh id => stV_agg2 hh id 0 (v := .int .i64 5) (u := .sl (h2.next + 1 + 1) 0 2 (.kn 2)) rfl rfl
  obtain ⟨ua, hua⟩ : ∃ u, V.sl (h.next + 1 + 1) 0 2 (.kn 2) = u := ⟨_, rfl⟩
  obtain ⟨ub, hub⟩ : ∃ u, V.sl (h2.next + 1 + 1) 0 2 (.kn 2) = u := ⟨_, rfl⟩
  rw [hua] at sA hstA
  rw [hub] at sB hstB
  rw [hua, hub]
  simp (disch := first | omega | (simp only [Qn] <;> omega)) only [go_sem]
  have hfa : Fr h4 (h4.new (.cells false [.int .i64 0, .nils])) := (Fr.refl h4).new _
  have hga : (h4.new (.cells false [.int .i64 0, .nils])).get h4.next = some (.cells false [.int .i64 0, .nils]) := H.get_new_same ..
  have hna : (h4.new (.cells false [.int .i64 0, .nils])).next = h4.next + 1 := H.next_new ..
  generalize h4.new (.cells false [.int .i64 0, .nils]) = ha at *
  rw [← hna]
  have hfb : Fr ha (ha.new (.cells false [.int .i64 0, .nils])) := (Fr.refl ha).new _
  have hgb : (ha.new (.cells false [.int .i64 0, .nils])).get ha.next = some (.cells false [.int .i64 0, .nils]) := H.get_new_same ..
  have hnb : (ha.new (.cells false [.int .i64 0, .nils])).next = ha.next + 1 := H.next_new ..
  generalize ha.new (.cells false [.int .i64 0, .nils]) = hb at *
  obtain ⟨A, hA⟩ : ∃ A, h4.next = A := ⟨_, rfl⟩
  obtain ⟨B, hB⟩ : ∃ B, ha.next = B := ⟨_, rfl⟩
  rw [hB] at hgb
  rw [hA] at hga
  have ga : hb.get A = some (.cells false [.int .i64 0, .nils]) := (hfb.get A (by omega)).trans hga
  have nab : B ≠ A := by omega
  rw [hA, hB]
  simp (disch := first | omega | (simp only [Qn] <;> omega)) only [go_sem, hstA, hstB, ga, hgb]
  have fC : Fr h4 ((hb.set A (some (.cells false [.int .i64 5, ua]))).set B (some (.cells false [.int .i64 5, ub]))) := (((hfa.trans hfb).set (by omega) _).set (by omega) _)
  have gA : ((hb.set A (some (.cells false [.int .i64 5, ua]))).set B (some (.cells false [.int .i64 5, ub]))).get A = some (.cells false [.int .i64 5, ua]) := by
    rw [H.get_set_ne _ (by omega)]; exact H.get_set_same ..
  have gB : ((hb.set A (some (.cells false [.int .i64 5, ua]))).set B (some (.cells false [.int .i64 5, ub]))).get B = some (.cells false [.int .i64 5, ub]) := H.get_set_same ..
  have nC : ((hb.set A (some (.cells false [.int .i64 5, ua]))).set B (some (.cells false [.int .i64 5, ub]))).next = B + 1 := by rw [H.next_set, H.next_set]; omega
  generalize (hb.set A (some (.cells false [.int .i64 5, ua]))).set B (some (.cells false [.int .i64 5, ub])) = hC at *
  have FC := F4.trans fC
  have MA : MatV hC (.agg [.int .i64 5, ua]) mA := ⟨ua, rfl, sA.mono fC⟩
  have MB : MatV hC (.agg [.int .i64 5, ub]) mB := ⟨ub, rfl, sB.mono fC⟩
  simp (disch := first | omega | (simp only [Qn] <;> omega)) only [go_sem, row_two gA, row_two gB]
  refine (Mul_ok _ _ mA mB hC MA MB (by decide) (by decide)).mono ?_
  rintro v h5 ⟨w, rfl, ⟨u5, ws5, rfl, R5⟩, f5⟩
  rw [lv_mul]
  rw [lv_mul] at R5
  have v5 := SV.what R5.own.sv
  have hst5 := fun hh id => stV_agg2 hh id 0 (v := .int .i64 5) (u := u5) rfl v5.2.1
  simp (disch := first | omega | (simp only [Qn] <;> omega)) only [go_sem, hst5, bxH_eq]
  have f6 := f5.trans (bxH_fr h5 5 u5)
  have s6 := R5.sr.mono (bxH_fr h5 5 u5)
  have g6 := bxH_get h5 5 u5
  have n6 := bxH_next h5 5 u5
  generalize bxH h5 5 u5 = h6 at *
  have gA6 := (f6.get A (by omega)).trans gA
  simp (disch := first | omega | (simp only [Qn] <;> omega)) only [go_sem, row_two gA6]
  refine (Det_ok _ mA h6 (MA.mono f6) (by decide)).mono ?_
  rintro v h7 ⟨rfl, f7⟩
  rw [lv_det]
  have f67 := f6.trans f7
  have gA7 := (f67.get A (by omega)).trans gA
  simp (disch := first | omega | (simp only [Qn] <;> omega)) only [go_sem, row_two gA7]
  refine (Inv_ok _ mA h7 (MA.mono f67) (by decide)).mono ?_
  rintro v h8 ⟨w, rfl, ⟨u8, ws8, rfl, R8⟩, f8⟩
  rw [lv_inv]
  rw [lv_inv] at R8
  have v8 := SV.what R8.own.sv
  have hst8 := fun hh id => stV_agg2 hh id 0 (v := .int .i64 5) (u := u8) rfl v8.2.1
  simp (disch := first | omega | (simp only [Qn] <;> omega)) only [go_sem, hst8, bxH_eq]
  have f9 := f8.trans (bxH_fr h8 5 u8)
  have s9 := R8.sr.mono (bxH_fr h8 5 u8)
  have g9 := bxH_get h8 5 u8
  have n9 := bxH_next h8 5 u8
  generalize bxH h8 5 u8 = h9 at *
  have F79 := f67.trans f9
  have gA9 := (F79.get A (by omega)).trans gA
  simp (disch := first | omega | (simp only [Qn] <;> omega)) only [go_sem, row_two gA9]
  refine (Order_ok _ mA h9 (MA.mono F79) (by decide)).mono ?_
  rintro v h10 ⟨rfl, f10⟩
  rw [lv_ord]
  have f5n := f5.next
  have f7n := f7.next
  have f8n := f8.next
  have f10n := f10.next
  have F10 := FC.trans (F79.trans f10)
  have g10 := ((f7.trans f9).trans f10).get h5.next (by omega)
  rw [g6] at g10
  have s10 := ((s6.mono f7).mono f9).mono f10
  have g10' := (f10.get h8.next (by omega)).trans g9
  have s10' := s9.mono f10
  have rb : (H.mk h10.tr (h10.next + 33)).row h5.next 0 2 = some [.int .i64 5, u5] := row_two g10
  simp (disch := first | omega | (simp only [Qn] <;> omega)) only [go_sem, rb, bls_int2, bls_sl2, litV_eq]
  obtain ⟨h11, e11, f11, s11, n11⟩ := litV22 (Fr.refl h10) 2 1 4 3 (h10.next + 2) (h10.next + 3) (h10.next + 4) (h10.next + 33) (by omega) (by omega) (by omega) (by omega)
  rw [e11]
  refine (of_ok _ _ h11 s11).mono ?_
  rintro w h12 ⟨rfl, f12⟩
  have r12 := row_two (((f11.trans f12).get h5.next (by omega)).trans g10)
  have e5 := SV.eqV R5.own.sv
  simp (disch := first | omega | (simp only [Qn] <;> omega)) only [go_sem, r12, e5]
  refine (is_ok _ _ 0 (5, [[2, 1], [4, 3]]) (5, [[2, 1], [4, 3]]) h12 ⟨u5, rfl, (s10.mono f11).mono f12⟩ ⟨_, rfl, s11.mono f12⟩ (fit22 ..) (fit22 ..)).mono ?_
  rintro v h13 ⟨rfl, f13⟩
  rw [decide_eq_true (show (0 : Int) = 0 ∧ ((5, [[2, 1], [4, 3]]) : Mat) = (5, [[2, 1], [4, 3]]) from ⟨rfl, rfl⟩)]
  have F13 := (f11.trans f12).trans f13
  have g13 := (F13.get h8.next (by omega)).trans g10'
  have n12 := f12.next
  have n13 := f13.next
  have r13 := row_two g13
  simp (disch := first | omega | (simp only [Qn] <;> omega)) only [go_sem, decide_true, r13, bls_int2, bls_sl2, litV_eq]
  obtain ⟨h14, e14, f14, s14, n14⟩ := litV22 F13 3 1 4 2 (h10.next + 18) (h10.next + 19) (h10.next + 20) h13.next (by omega) (by omega) (by omega) (by omega)
  rw [e14]
  refine (of_ok _ _ h14 s14).mono ?_
  rintro w h15 ⟨rfl, f15⟩
  have F15 := f14.trans f15
  have r15 := row_two ((F15.get h8.next (by omega)).trans g10')
  have e8 := SV.eqV R8.own.sv
  simp (disch := first | omega | (simp only [Qn] <;> omega)) only [go_sem, r15, e8]
  refine (is_ok _ _ 0 (5, [[3, 1], [4, 2]]) (5, [[3, 1], [4, 2]]) h15 ⟨u8, rfl, s10'.mono F15⟩ ⟨_, rfl, s14.mono f15⟩ (fit22 ..) (fit22 ..)).mono ?_
  rintro v h16 ⟨rfl, f16⟩
  rw [decide_eq_true (show (0 : Int) = 0 ∧ ((5, [[3, 1], [4, 2]]) : Mat) = (5, [[3, 1], [4, 2]]) from ⟨rfl, rfl⟩)]
  simp (disch := first | omega | (simp only [Qn] <;> omega)) only [go_sem, decide_true]
  exact F10.trans (F15.trans f16)
end Go.Proofs.Ytonhijbeddcmpaa

/- Layer 4: the laws' numbers: field, drawn; boxes; valid matrices. -/
namespace Go.Proofs.Ytonhijbeddcmpaa
open Go Go.Ay
set_option maxRecDepth 100000
theorem Own.fx {x : Nat} {h h' : H} {v : V} {sz : Nat} {ws : List V} {b : Nat} (o : Own h v sz ws b) (hx : x < b) (f : Fx x h h') : Own h' v sz ws b :=
  o.mono f.next fun id _ _ _ _ h1 h2 => f.get id h2 (by omega)
theorem Rws.fx {x : Nat} {h h' : H} {u : V} {ws : List V} {ll : List (List Int)} {lo : Nat} (r : Rws h u ws ll lo) (hx : x < lo) (f : Fx x h h') : Rws h' u ws ll lo :=
  ⟨Own.fx r.own hx f, All2.keep r.row fun w hw _ s => SI.fx s (r.frs w hw) hx f, r.dis, r.frs⟩
theorem MatO.fx {x : Nat} {h h' : H} {v : V} {a : Mat} {lo : Nat} (o : MatO h v a lo) (hx : x < lo) (f : Fx x h h') : MatO h' v a lo := by
  obtain ⟨u, ws, e, r⟩ := o
  exact ⟨u, ws, e, Rws.fx r hx f⟩
/-- Entries that are residues. -/
def InP (p : Int) (n : Nat) (A : Mx) : Prop := ∀ i k, i < n → k < n → 0 ≤ A i k ∧ A i k < p
set_option maxHeartbeats 4000000 in
theorem drawn_ok (x : Nat) (l : List Int) (n : Nat) (p : Int) (h : H) (ht : Tk h x l) (hl : l.length < 1000000) (hn : n ≤ 64) (hp : 1 ≤ p ∧ p < 10000) :
    Ev T n_law04_drawn [.ptr x 0, .int .i64 (n : Int), .int .i64 p] h (fun w h' => ∃ A, InP p n A ∧ MatO h' w (p, mkR n n A) h.next ∧ Tk h' x l ∧ Fx x h h') := by
  have hx : x < h.next := by obtain ⟨_, _, _, _, _, _, h5⟩ := ht; exact h5
  refine Ev_of t_law04_drawn rfl ?_
  have hbl := bldV_fst (z1 := .int .i64 0) (z2 := .nils) (v := .int .i64 p) rfl rfl
  have hst := fun hh id => stV_agg2 hh id 0 (v := .int .i64 p) (u := .nils) rfl rfl
  simp (disch := first | omega | (simp only [Qn] <;> omega)) only [go_sem, c_law04_drawn, initV_eq, hbl]
  have hfa : Fr h (h.new (.cells false [.int .i64 0, .nils])) := (Fr.refl h).new _
  have hga : (h.new (.cells false [.int .i64 0, .nils])).get h.next = some (.cells false [.int .i64 0, .nils]) := H.get_new_same ..
  have hna : (h.new (.cells false [.int .i64 0, .nils])).next = h.next + 1 := H.next_new ..
  generalize h.new (.cells false [.int .i64 0, .nils]) = ha at *
  rw [← hna]
  simp (disch := first | omega | (simp only [Qn] <;> omega)) only [go_sem, hst, bxH_eq]
  have fB := hfa.trans (bxH_fr ha p .nils)
  have gB := bxH_get ha p .nils
  have nB := bxH_next ha p .nils
  have gA := ((bxH_fr ha p .nils).get h.next (by omega)).trans hga
  generalize bxH ha p .nils = hB at *
  obtain ⟨O, hO⟩ : ∃ O, ha.next = O := ⟨_, rfl⟩
  rw [hO] at gB nB
  rw [hO]
  refine Wp_loop (fun k' vars h3 => ∃ (i : Nat) (A : Mx) (u : V) (ws : List V), (∃ g : Nat → V, vars = [.ptr x 0, .int .i64 (n : Int), .int .i64 p, .ptr h.next 0, .ptr O 0, .int .i64 (i : Int), g 6, g 7, g 8, g 9]) ∧ i ≤ n ∧ (∀ a b, a < i → b < n → 0 ≤ A a b ∧ A a b < p) ∧ Rws h3 u ws (mkR i n A) (O + 1) ∧ h3.get O = some (.cells false [.int .i64 p, u]) ∧ h3.get h.next = some (.cells false [.int .i64 0, .nils]) ∧ O < h3.next ∧ Tk h3 x l ∧ Fx x h h3 ∧ k' = n - i) n
    ⟨0, fun _ _ => 0, .nils, [], ex_junk rfl, Nat.zero_le _, fun a b ha => absurd ha (Nat.not_lt_zero a), Rws.nils _ _, gB, gA, by omega, ht.mono fB, Fx.of fB, rfl⟩ ?_
  clear gB gA nB fB ht
  rintro k' vars h3 ⟨i, A, u, ws, ⟨g, rfl⟩, hi, hA, R3, g3, a3, o3, ht, FX, rfl⟩
  simp (disch := first | omega | (simp only [Qn] <;> omega)) only [go_sem]
  by_cases hlt : (i : Int) < (n : Int)
  · rw [decide_eq_true hlt]
    simp (disch := first | omega | (simp only [Qn] <;> omega)) only [go_sem]
    refine Wp_loop (fun k' vars h4 => ∃ (k : Nat) (r : Nat → Int) (v : V), (∃ g : Nat → V, vars = [.ptr x 0, .int .i64 (n : Int), .int .i64 p, .ptr h.next 0, .ptr O 0, .int .i64 (i : Int), v, .int .i64 (k : Int), g 8, g 9]) ∧ k ≤ n ∧ (∀ b, b < k → 0 ≤ r b ∧ r b < p) ∧ Own h4 v 1 (ints (mkV k r)) h3.next ∧ Tk h4 x l ∧ Fx x h3 h4 ∧ k' = n - k) n
      ⟨0, fun _ => 0, .nils, ex_junk rfl, Nat.zero_le _, fun b hb => absurd hb (Nat.not_lt_zero b), Own.nils _ _ _, ht, Fx.refl _ _, rfl⟩ ?_
    rintro k' vars h4 ⟨k, r, v, ⟨g, rfl⟩, hk, hr, ov, ht4, FX4, rfl⟩
    simp (disch := first | omega | (simp only [Qn] <;> omega)) only [go_sem]
    by_cases hlt2 : (k : Int) < (n : Int)
    · rw [decide_eq_true hlt2]
      simp (disch := first | omega | (simp only [Qn] <;> omega)) only [go_sem]
      refine (take_ok x l p h4 ht4 hl hp.1 (by omega)).mono ?_
      rintro vz h5 ⟨z, rfl, z1, z2, ht5, FX5⟩
      simp (disch := first | omega | (simp only [Qn] <;> omega)) only [go_sem, bls_int]
      have n34 := FX4.next
      have n45 := FX5.next
      have o5 := (Own.fx ov (by omega) FX5).fr ((Fr.refl h5).new (.cells false (ints [z])))
      have hy : SV (h5.new (.cells false (ints [z]))) (.sl h5.next 0 1 (.kn 1)) 1 (ints [z]) := SV.all rfl (by rw [H.next_new]; omega) (H.get_new_same ..) _
      obtain ⟨v6, h6, e6, a6⟩ := o5.app (bytes := 8) (n := k) (m := 1) (by rw [H.next_new]; omega) hy (by rw [ints_length, mkV_len, Nat.mul_one]) rfl (by omega) (by omega)
      simp (disch := first | omega | (simp only [Qn] <;> omega)) only [go_sem, e6]
      rw [show (k : Int) + 1 = ((k + 1 : Nat) : Int) from by omega]
      have n6 := a6.next
      rw [H.next_new] at n6
      have g6 : ∀ id, id < h3.next → h6.get id = h5.get id := fun id hid => (a6.get id (by rw [H.next_new]; omega) (own_apart o5 hid)).trans (H.get_new_ne _ (by omega) _)
      have e : ints (mkV k r) ++ ints [z] = ints (mkV (k + 1) fun b => if b = k then z else r b) := by
        rw [mkV_succ, if_pos rfl, ints_append, mkV_congr (g := r) fun b hb => if_neg (by omega)]
      have oo := a6.own
      rw [e] at oo
      refine ⟨n - (k + 1), by omega, k + 1, _, v6, ex_junk rfl, by omega, fun b hb => ?_, oo, ht5.low (by omega) fun id hid => g6 id (by omega), ⟨by omega, fun id hid hne => (g6 id hid).trans ((FX4.trans FX5).get id hid hne)⟩, rfl⟩
      by_cases e : b = k
      · rw [if_pos e]; exact ⟨z1, z2⟩
      · rw [if_neg e]; exact hr b (by omega)
    · rw [decide_eq_false hlt2]
      obtain rfl : n = k := by omega
      have n34 := FX4.next
      have g4 := (FX4.get O (by omega) (by omega)).trans g3
      have a4 := (FX4.get h.next (by omega) (by omega)).trans a3
      have cO : h4.cell O 1 = some u := by rw [H.cell_of g4]; rfl
      have vv := SV.what ov.sv
      have R4 := (Rws.fx R3 (by omega) FX4).fr ((Fr.refl h4).new (.cells false [v]))
      have hy : SV (h4.new (.cells false [v])) (.sl h4.next 0 1 (.kn 1)) 1 [v] := SV.all rfl (by rw [H.next_new]; omega) (H.get_new_same ..) _
      have hlen := R3.row.length
      rw [mkR_len] at hlen
      have sv4 : SI h4 v (mkV n r) := ov.sv
      obtain ⟨w, h6, e6, R6, n6, k6, q6⟩ := R4.app (by rw [H.next_new]; omega) hy (sv4.mono ((Fr.refl h4).new _)) (Own.dis R3.own ov) (Frs.le (Frs.own ov) (by omega)) (by omega)
      rw [H.next_new] at n6
      have hlow : ∀ id, id < O + 1 → h6.get id = h4.get id := fun id hid => (k6 id (by rw [H.next_new]; omega) (own_apart R4.own hid)).trans (H.get_new_ne _ (by omega) _)
      have g6 := (hlow O (by omega)).trans g4
      have hv := SV.what R6.own.sv
      have hst1 := fun hh => stV_one hv.1 hv.2.1 hh O 1
      have cO' : (h4.new (.cells false [v])).cell O 1 = some u := by rw [H.cell_new_ne _ (by omega)]; exact cO
      simp (disch := first | omega | (simp only [Qn] <;> omega)) only [go_sem, cO, bls_v h4 v vv.1 vv.2.1, e6, hst1, g6, putO_snd]
      rw [show (i : Int) + 1 = ((i + 1 : Nat) : Int) from by omega]
      have em : mkR i n A ++ [mkV n r] = mkR (i + 1) n (fun a b => if a = i then r b else A a b) := by
        rw [mkR_succ, mkR_congr (g := A) fun a b ha _ => if_neg (by omega), mkV_congr (f := fun b => if i = i then r b else A i b) (g := r) fun b _ => if_pos rfl]
      rw [em] at R6
      refine ⟨n - (i + 1), by omega, i + 1, _, w, _, ex_junk rfl, by omega, fun a b ha hb => ?_, R6.set (by omega) _, rfl, ?_, ?_, ?_, ?_, rfl⟩
      · by_cases e : a = i
        · rw [if_pos e]; exact hr b hb
        · rw [if_neg e]; exact hA a b (by omega) hb
      · exact (hlow h.next (by omega)).trans a4
      · show O < h6.next; omega
      · refine ht4.low (by show h4.next ≤ h6.next; omega) fun id hid => ?_
        rw [H.get_set_ne _ (by omega)]; exact hlow id (by omega)
      · refine ⟨by show h.next ≤ h6.next; have := FX.next; omega, fun id hid hne => ?_⟩
        rw [H.get_set_ne _ (by omega)]
        exact (hlow id (by omega)).trans ((FX.trans FX4).get id hid hne)
  · rw [decide_eq_false hlt]
    obtain rfl : n = i := by omega
    have rr := row_two g3
    have vu := SV.what R3.own.sv
    have hst2 := fun hh => stV_agg2 hh h.next 0 (v := .int .i64 p) (u := u) rfl vu.2.1
    have hrow := row_two (h := h3.set h.next (some (.cells false [.int .i64 p, u]))) (H.get_set_same ..)
    simp (disch := first | omega | (simp only [Qn] <;> omega)) only [go_sem, rr, hst2, a3, hrow]
    refine ⟨A, fun a b ha hb => hA a b ha hb, ⟨u, ws, rfl, (R3.set (by omega) _).le (by omega)⟩, ?_, FX.setf (Nat.le_refl _) _⟩
    refine ht.low (Nat.le_refl _) fun id hid => H.get_set_ne _ (by omega) _
end Go.Proofs.Ytonhijbeddcmpaa

/- Layer 4: valid square matrices; boxes. -/
namespace Go.Proofs.Ytonhijbeddcmpaa
open Go Go.Ay
set_option maxRecDepth 100000
/-- Valid square matrices. -/
structure Sq (p : Int) (n : Nat) : Prop where
  f : fieldF p = true
  n1 : 1 ≤ n
  n2 : n ≤ 64
theorem Sq.p {p : Int} {n : Nat} (s : Sq p n) : 2 ≤ p ∧ p < 10000 := fieldF_range s.f
theorem len0 {n : Nat} (h1 : 1 ≤ n) (A : Mx) : ((mkR n n A).getD 0 []).length = n := by rw [mkR_row _ h1, mkV_len]
theorem Sq.vd {p : Int} {n : Nat} (s : Sq p n) {A : Mx} (hA : InP p n A) : Vd (p, mkR n n A) n :=
  ⟨s.f, by simp only [mkR_len]; exact s.n1, by simp only [mkR_len]; exact s.n2, s.n1, s.n2, fun i hi => by
    simp only [mkR_len] at hi
    simp only
    rw [mkR_row _ hi, mkV_len], fun i k hi hk => by
    simp only [mkR_len] at hi
    simp only
    rw [mkR_ent _ hi hk]; exact (hA i k hi hk).1, fun i k hi hk => by
    simp only [mkR_len] at hi
    simp only
    rw [mkR_ent _ hi hk]; exact (hA i k hi hk).2⟩
theorem Sq.fit {p : Int} {n : Nat} (s : Sq p n) {A B : Mx} (hA : InP p n A) (hB : InP p n B) : fitF (p, mkR n n A) (p, mkR n n B) = 0 := by
  rw [fitF, vd_check (s.vd hA), vd_check (s.vd hB)]; simp
theorem Sq.fits {p : Int} {n : Nat} (s : Sq p n) (A : Mx) : Fit (p, mkR n n A) := by
  have := s.n2
  refine ⟨by simp only [mkR_len]; omega, fun i hi => ?_⟩
  simp only [mkR_len] at hi
  simp only
  rw [mkR_row _ hi, mkV_len]; omega
theorem Sq.la {p : Int} {n : Nat} (s : Sq p n) (A : Mx) : (((p, mkR n n A) : Mat).2.length : Int) ≤ 2 ^ 63 - 1 := by
  have := s.n2
  simp only [mkR_len]; omega
def mmP (p : Int) (n : Nat) (A B : Mx) : Mx := fun i k => mulM n A B i k % p
theorem Sq.mul {p : Int} {n : Nat} (s : Sq p n) {A B : Mx} (hA : InP p n A) (hB : InP p n B) : MulF (p, mkR n n A) (p, mkR n n B) = ((p, mkR n n (mmP p n A B)), 0) := by
  rw [MulF, s.fit hA hB, if_neg (by simp), if_neg (by simp only [mkR_len, len0 s.n1, ne_eq, not_true_eq_false, not_false_eq_true])]
  simp only [len0 s.n1, mulF, mkR_len]
  rw [mkR_congr fun i k hi hk => ?_]
  refine congrArg (· % p) (sm_congr fun j hj => ?_)
  rw [mkR_ent _ hi hj, mkR_ent _ hj hk]
theorem Sq.mm {p : Int} {n : Nat} (s : Sq p n) (A B : Mx) : InP p n (mmP p n A B) := fun i k _ _ => tmod_range _ (by have := s.p; omega)
theorem Sq.add {p : Int} {n : Nat} (s : Sq p n) {A B : Mx} (hA : InP p n A) (hB : InP p n B) : AddF (p, mkR n n A) (p, mkR n n B) = ((p, mkR n n (fun i k => (A i k + B i k) % p)), 0) := by
  rw [AddF, s.fit hA hB, if_neg (by simp), if_neg (by simp only [mkR_len, len0 s.n1, ne_eq, not_true_eq_false, or_self, not_false_eq_true])]
  simp only [len0 s.n1, mkR_len]
  rw [mkR_congr fun i k hi hk => ?_]
  rw [mkR_ent _ hi hk, mkR_ent _ hi hk, Int.one_mul]
theorem Sq.ad {p : Int} {n : Nat} (s : Sq p n) (A B : Mx) : InP p n (fun i k => (A i k + B i k) % p) := fun i k _ _ => tmod_range _ (by have := s.p; omega)
theorem Sq.turn {p : Int} {n : Nat} (s : Sq p n) {A : Mx} (hA : InP p n A) : TurnF (p, mkR n n A) = ((p, mkR n n (trM A)), 0) := by
  rw [TurnF, vd_check (s.vd hA), if_neg (by simp)]
  simp only [len0 s.n1, mkR_len]
  rw [mkR_congr fun i k hi hk => ?_]
  rw [mkR_ent _ hk hi]; rfl
theorem Sq.tr {p : Int} {n : Nat} {A : Mx} (hA : InP p n A) : InP p n (trM A) := fun i k hi hk => hA k i hk hi
theorem Sq.sc {p : Int} {n : Nat} (s : Sq p n) (k : Int) (A : Mx) : InP p n (fun i j => (k % p) * A i j % p) := fun i k _ _ => tmod_range _ (by have := s.p; omega)
theorem Sq.one {p : Int} {n : Nat} (s : Sq p n) : OneF (n : Int) p = ((p, mkR n n idM), 0) := by
  have := s.n1
  have := s.n2
  rw [OneF, if_neg (by rw [s.f]; simp), if_neg (by omega), Int.toNat_natCast]; rfl
theorem Sq.on {p : Int} {n : Nat} (s : Sq p n) : InP p n idM := fun i k _ _ => by
  have := s.p
  simp only [idM]
  split <;> omega
/-- A box with a matrix. -/
def MB (h : H) (id : Nat) (a : Mat) : Prop := ∃ u, h.get id = some (.cells false [.int .i64 a.1, u]) ∧ SR h u a.2 ∧ id < h.next
theorem MB.mono {h h' : H} {id : Nat} {a : Mat} (b : MB h id a) (f : Fr h h') : MB h' id a := by
  obtain ⟨u, h1, h2, h3⟩ := b
  exact ⟨u, (f.get id h3).trans h1, h2.mono f, Nat.lt_of_lt_of_le h3 f.next⟩
theorem MB.row {h : H} {id : Nat} {p : Int} {L : List (List Int)} (b : MB h id (p, L)) : ∃ u, h.row id 0 2 = some [.int .i64 p, u] ∧ MatV h (.agg [.int .i64 p, u]) (p, L) := by
  obtain ⟨u, h1, h2, h3⟩ := b
  exact ⟨u, row_two h1, u, rfl, h2⟩
theorem MB.new {h : H} {p : Int} {L : List (List Int)} {u : V} (s : SR h u L) : MB (bxH h p u) h.next (p, L) :=
  ⟨u, bxH_get h p u, s.mono (bxH_fr h p u), by rw [bxH_next]; omega⟩
/-! the laws -/
end Go.Proofs.Ytonhijbeddcmpaa

/- The characteristic polynomial by leading parts (Samuelson, Berkowitz), and of a bent matrix. -/
namespace Go.Ay
def vkB (n : Nat) (A : Mx) : Nat → Nat → Int
  | 0, j => A n j
  | d + 1, j => sm n (fun m => vkB n A d m * A m j)
def tzB (n : Nat) (A : Mx) : Nat → Int
  | 0 => 1
  | 1 => - A n n
  | d + 2 => - sm n (fun j => vkB n A d j * A j n)
theorem chp_high (n : Nat) (A : Mx) (k : Nat) (h : n < k) : chp n A k = 0 := dpl_high n _ _ k h
def wkB (m : Nat) (A : Mx) (k i : Nat) : Int := sm (m + 1) (fun j => A (m + 1) j * adC m A k j i)
theorem wk_rec (m : Nat) (A : Mx) {i : Nat} (hi : i < m + 1) (k : Nat) (hk : k + 1 < m + 2) : wkB m A k i = sm (m + 1) (fun l => wkB m A (k + 1) l * A l i) + A (m + 1) i * chp (m + 1) A (k + 1) := by
  have e : ∀ j, j < m + 1 → A (m + 1) j * adC m A k j i = sm (m + 1) (fun l => A (m + 1) j * adC m A (k + 1) j l * A l i) + (if j = i then A (m + 1) j * chp (m + 1) A (k + 1) else 0) := fun j hj => by
    have r := adC_rec m A hj hi (k + 1) hk
    simp only [shf, if_neg (Nat.succ_ne_zero k), Nat.add_sub_cancel] at r
    have z : (if k + 1 < m + 1 then sm (m + 1) (fun l => adC m A (k + 1) j l * A l i) else 0) = sm (m + 1) (fun l => adC m A (k + 1) j l * A l i) := by
      by_cases h : k + 1 < m + 1
      · rw [if_pos h]
      · rw [if_neg h]
        exact (sm_zeros fun l _ => by rw [adC, dpl_high m _ _ _ (by omega)]; simp).symm
    rw [z] at r
    have e1 : sm (m + 1) (fun l => A (m + 1) j * adC m A (k + 1) j l * A l i) = A (m + 1) j * sm (m + 1) (fun l => adC m A (k + 1) j l * A l i) := by
      rw [← sm_mul]; exact sm_congr fun l _ => by grind
    rw [e1, show adC m A k j i = (if j = i then chp (m + 1) A (k + 1) else 0) + sm (m + 1) (fun l => adC m A (k + 1) j l * A l i) by omega]
    split <;> grind
  rw [wkB, sm_congr e, sm_add, sm_swap, sm_pick hi (fun j => A (m + 1) j * chp (m + 1) A (k + 1))]
  congr 1
  refine sm_congr fun l _ => ?_
  rw [wkB, sm_mulr]
theorem wk_eq (m : Nat) (A : Mx) : ∀ d k, k + d = m + 1 → ∀ i, i < m + 1 → wkB m A k i = sm d (fun s => vkB (m + 1) A s i * chp (m + 1) A (k + 1 + s))
  | 0, k, h, i, _ => by
    rw [sm_zero, wkB]
    exact sm_zeros fun j _ => by rw [adC, dpl_high m _ _ _ (by omega)]; simp
  | d + 1, k, h, i, hi => by
    rw [wk_rec m A hi k (by omega), sm_first d]
    have e : ∀ l, l < m + 1 → wkB m A (k + 1) l * A l i = sm d (fun s => vkB (m + 1) A s l * A l i * chp (m + 1) A (k + 1 + (s + 1))) := fun l hl => by
      rw [wk_eq m A d (k + 1) (by omega) l hl, ← sm_mulr]
      exact sm_congr fun s _ => by
        rw [show k + 1 + 1 + s = k + 1 + (s + 1) by omega]; grind
    rw [sm_congr e, sm_swap, Int.add_comm]
    congr 1
    refine sm_congr fun s _ => ?_
    rw [sm_mulr]
    rfl
theorem chp_zero (A : Mx) (k : Nat) : chp 0 A k = if k = 0 then 1 else 0 := rfl
/-- One row and one column more. -/
theorem chp_succ : ∀ (n : Nat) (A : Mx) (k : Nat), k < n + 2 → chp (n + 1) A k = shf (chp n A) k + tzB n A 1 * chp n A k + sm (n - k) (fun s => tzB n A (s + 2) * chp n A (k + 1 + s))
  | 0, A, k, hk => by
    refine chp_uniq (c := fun k => shf (chp 0 A) k + tzB 0 A 1 * chp 0 A k + sm (0 - k) (fun s => tzB 0 A (s + 2) * chp 0 A (k + 1 + s))) (fun t _ => ?_) k hk
    simp [det, pev, sm, chM, chp_zero, shf, tzB, sgn, Int.pow_succ]
    omega
  | m + 1, A, k, hk => by
    refine chp_uniq (c := fun k => shf (chp (m + 1) A) k + tzB (m + 1) A 1 * chp (m + 1) A k + sm (m + 1 - k) (fun s => tzB (m + 1) A (s + 2) * chp (m + 1) A (k + 1 + s))) (fun t _ => ?_) k hk
    rw [det_border, det_chp]
    have e1 : ∀ k, k < m + 3 → shf (chp (m + 1) A) k + tzB (m + 1) A 1 * chp (m + 1) A k + sm (m + 1 - k) (fun s => tzB (m + 1) A (s + 2) * chp (m + 1) A (k + 1 + s)) = shf (chp (m + 1) A) k + tzB (m + 1) A 1 * chp (m + 1) A k - sm (m + 1) (fun i => wkB m A k i * A i (m + 1)) := fun k hk => by
      have e : sm (m + 1) (fun i => wkB m A k i * A i (m + 1)) = - sm (m + 1 - k) (fun s => tzB (m + 1) A (s + 2) * chp (m + 1) A (k + 1 + s)) := by
        by_cases hk2 : k ≤ m + 1
        · have e2 : ∀ i, i < m + 1 → wkB m A k i * A i (m + 1) = sm (m + 1 - k) (fun s => vkB (m + 1) A s i * A i (m + 1) * chp (m + 1) A (k + 1 + s)) := fun i hi => by
            rw [wk_eq m A (m + 1 - k) k (by omega) i hi, ← sm_mulr]
            exact sm_congr fun s _ => by grind
          rw [sm_congr e2, sm_swap, ← sm_neg]
          refine sm_congr fun s _ => ?_
          rw [sm_mulr, tzB, Int.neg_mul, Int.neg_neg]
        · rw [show m + 1 - k = 0 by omega, sm_zero]
          exact sm_zeros fun i _ => by
            rw [wkB, sm_zeros fun j _ => by rw [adC, dpl_high m _ _ _ (by omega)]; simp]
            simp
      rw [e]; omega
    rw [pev_congr e1, pev_sub, pev_add, pev_mul, pev_shf, pev_more (n := m + 1 + 1) (m := m + 1 + 1 + 1) (c := chp (m + 1) A) (by omega) fun k h1 h2 => chp_high _ _ _ (by omega)]
    have e2 : pev (m + 1 + 1 + 1) (fun k => sm (m + 1) (fun i => wkB m A k i * A i (m + 1))) t = sm (m + 1) (fun i => sm (m + 1) (fun j => chM A t (m + 1) j * adjM m (chM A t) j i * chM A t i (m + 1))) := by
      rw [pev_sum]
      refine sm_congr fun i hi => ?_
      have e3 : ∀ j, j < m + 1 → chM A t (m + 1) j * adjM m (chM A t) j i * chM A t i (m + 1) = pev (m + 1) (fun k => A (m + 1) j * adC m A k j i) t * A i (m + 1) := fun j hj => by
        rw [adC_ev, pev_mul]
        simp only [chM]
        rw [if_neg (by omega), if_neg (by omega)]
        grind
      rw [sm_congr e3, sm_mulr, ← pev_sum, Int.mul_comm, ← pev_mul]
      rw [pev_more (n := m + 1) (m := m + 1 + 1 + 1) (by omega) fun k h1 h2 => by
        rw [wkB, sm_zeros fun j _ => by rw [adC, dpl_high m _ _ _ (by omega)]; simp]
        simp]
      exact pev_congr (fun k _ => by rw [wkB, Int.mul_comm]) t
    rw [e2]
    have e4 : chM A t (m + 1) (m + 1) = t - A (m + 1) (m + 1) := by simp only [chM, if_true]
    rw [e4]
    simp only [tzB]
    grind
/-- The outer coefficients. -/
theorem chp_lead : ∀ (n : Nat) (A : Mx), chp n A n = 1
  | 0, _ => rfl
  | n + 1, A => by
    rw [chp_succ n A (n + 1) (by omega), show n - (n + 1) = 0 by omega, sm_zero, chp_high n A (n + 1) (by omega), shf, if_neg (by omega), Nat.add_sub_cancel, chp_lead n A]
    omega
/-! bent matrices -/
end Go.Ay

/- Two rows and the same two columns change places; a multiple of a row is taken off another, and of a column put on: the characteristic polynomial stays. -/
namespace Go.Ay
def sw (a b i : Nat) : Nat := if i = a then b else if i = b then a else i
theorem sw_lt {a b i n : Nat} (ha : a < n) (hb : b < n) (hi : i < n) : sw a b i < n := by unfold sw; split <;> (try split) <;> omega
theorem sw_inj {a b i j : Nat} : sw a b i = sw a b j ↔ i = j := by unfold sw; split <;> split <;> (try split) <;> (try split) <;> omega
theorem sw_left (a b : Nat) : sw a b a = b := if_pos rfl
theorem sw_right (a b : Nat) : sw a b b = a := by unfold sw; split <;> simp_all
theorem sw_other {a b i : Nat} (h1 : i ≠ a) (h2 : i ≠ b) : sw a b i = i := by unfold sw; rw [if_neg h1, if_neg h2]
theorem sw_self (a i : Nat) : sw a a i = i := by unfold sw; split <;> simp_all
theorem swp_sw (A : Mx) {a b : Nat} (h : a ≠ b) (i j : Nat) : swp A a b i j = A (sw a b i) j := by
  by_cases h1 : i = a
  · subst h1; rw [swp_left A h, sw_left]
  · by_cases h2 : i = b
    · subst h2; rw [swp_right, sw_right]
    · rw [swp_other A h1 h2, sw_other h1 h2]
theorem det_sw {n a b : Nat} (ha : a < n) (hb : b < n) (h : a ≠ b) (A : Mx) : det n (fun i j => A (sw a b i) (sw a b j)) = det n A := by
  have e1 : det n (fun i j => A (sw a b i) (sw a b j)) = - det n (fun i j => A i (sw a b j)) := by
    rw [← (det_alt n).swap ha hb h]
    exact det_congr fun i j _ _ => (swp_sw (fun i j => A i (sw a b j)) h i j).symm
  have e2 : det n (fun i j => A i (sw a b j)) = - det n A := by
    rw [← det_tr n A, ← (det_alt n).swap ha hb h, ← det_tr]
    exact det_congr fun i j _ _ => (swp_sw (trM A) h i j).symm
  rw [e1, e2]; omega
theorem chp_swap {n a b : Nat} (ha : a < n) (hb : b < n) (A : Mx) (k : Nat) (hk : k < n + 1) : chp n (fun i j => A (sw a b i) (sw a b j)) k = chp n A k := by
  by_cases h : a = b
  · subst h
    exact chp_congr (fun i j _ _ => by simp only [sw_self]) k hk
  · refine chp_uniq (fun t _ => ?_) k hk
    rw [← det_chp, ← det_sw ha hb h (chM A t)]
    exact det_congr fun i j _ _ => by simp only [chM, sw_inj]
/-- On the way to a bent matrix: the first c columns are. -/
structure Bnt (p : Int) (n : Nat) (A : Mx) (c : Nat) (B : Mx) : Prop where
  rng : ∀ i j, i < n → j < n → 0 ≤ B i j ∧ B i j < p
  low : ∀ i j, i < n → j < c → j + 1 < i → B i j = 0
  chp : ∀ q, q < n + 1 → chp n B q % p = chp n A q % p
theorem Bnt.start {p : Int} {n : Nat} {A B : Mx} (hA : ∀ i j, i < n → j < n → 0 ≤ A i j ∧ A i j < p) (e : ∀ i j, i < n → j < n → B i j = A i j) : Bnt p n A 0 B :=
  ⟨fun i j hi hj => by rw [e i j hi hj]; exact hA i j hi hj, fun i j _ hj => absurd hj (Nat.not_lt_zero j), fun q hq => by rw [chp_congr e q hq]⟩
theorem Bnt.congr {p : Int} {n c : Nat} {A B B' : Mx} (b : Bnt p n A c B) (e : ∀ i j, i < n → j < n → B' i j = B i j) (hc : c ≤ n) : Bnt p n A c B' :=
  ⟨fun i j hi hj => by rw [e i j hi hj]; exact b.rng i j hi hj, fun i j hi hj h => by rw [e i j hi (by omega)]; exact b.low i j hi hj h, fun q hq => by rw [chp_congr e q hq]; exact b.chp q hq⟩
theorem Bnt.skip {p : Int} {n c : Nat} {A B : Mx} (b : Bnt p n A c B) (h : ∀ i, c + 1 < i → i < n → B i c = 0) : Bnt p n A (c + 1) B :=
  ⟨b.rng, fun i j hi hj h1 => by
    by_cases e : j = c
    · subst e; exact h i h1 hi
    · exact b.low i j hi (by omega) h1, b.chp⟩
theorem Bnt.swap {p : Int} {n c r : Nat} {A B B' : Mx} (b : Bnt p n A c B) (hr : r < n) (hc : c + 1 < n) (hcr : c + 1 ≤ r) (e : ∀ i j, i < n → j < n → B' i j = B (sw r (c + 1) i) (sw r (c + 1) j)) : Bnt p n A c B' := by
  refine ⟨fun i j hi hj => ?_, fun i j hi hj h => ?_, fun q hq => ?_⟩
  · rw [e i j hi hj]; exact b.rng _ _ (sw_lt hr hc hi) (sw_lt hr hc hj)
  · rw [e i j hi (by omega), sw_other (show j ≠ r by omega) (show j ≠ c + 1 by omega)]
    refine b.low _ j (sw_lt hr hc hi) hj ?_
    unfold sw
    split
    · omega
    · split
      · omega
      · exact h
  · rw [chp_congr e q hq, chp_swap hr hc B q hq]; exact b.chp q hq
end Go.Ay

/- Layer 4: rows in their places. -/
namespace Go.Proofs.Ytonhijbeddcmpaa
open Go Go.Ay
set_option maxRecDepth 100000
/-- Rows of c numbers, each in a block of its own, and the block of the rows. -/
structure Gc (h : H) (R n c : Nat) (ρ : Nat → Nat) (κ : Nat → Cap) (τ : Nat → List V) (f : Nat → Nat → Int) (lo : Nat) : Prop where
  gR : h.get R = some (.cells false ((List.range n).map fun i => V.sl (ρ i) 0 c (κ i)))
  row : ∀ i, i < n → h.get (ρ i) = some (.cells false (ints (mkV c (f i)) ++ τ i))
  inj : ∀ i j, i < n → j < n → ρ i = ρ j → i = j
  hR : lo ≤ R
  ltR : R < h.next
  hρ : ∀ i, i < n → lo ≤ ρ i
  ltρ : ∀ i, i < n → ρ i < h.next
  ne : ∀ i, i < n → ρ i ≠ R
section
variable {h h' : H} {R n c : Nat} {ρ : Nat → Nat} {κ : Nat → Cap} {τ : Nat → List V} {f : Nat → Nat → Int} {lo : Nat}
theorem Gc.fr (g : Gc h R n c ρ κ τ f lo) (F : Fr h h') : Gc h' R n c ρ κ τ f lo :=
  ⟨(F.get R g.ltR).trans g.gR, fun i hi => (F.get _ (g.ltρ i hi)).trans (g.row i hi), g.inj, g.hR, Nat.lt_of_lt_of_le g.ltR F.next, g.hρ, fun i hi => Nat.lt_of_lt_of_le (g.ltρ i hi) F.next, g.ne⟩
theorem Gc.congr {f' : Nat → Nat → Int} (g : Gc h R n c ρ κ τ f lo) (e : ∀ i k, i < n → k < c → f i k = f' i k) : Gc h R n c ρ κ τ f' lo :=
  ⟨g.gR, fun i hi => by rw [g.row i hi, mkV_congr fun k hk => e i k hi hk], g.inj, g.hR, g.ltR, g.hρ, g.ltρ, g.ne⟩
theorem Gc.si (g : Gc h R n c ρ κ τ f lo) {i : Nat} (hi : i < n) : SI h (.sl (ρ i) 0 c (κ i)) (mkV c (f i)) :=
  .inr ⟨ρ i, 0, c, κ i, false, _, rfl, by rw [ints_length, mkV_len, Nat.mul_one], g.ltρ i hi, g.row i hi, by rw [List.length_append, ints_length, mkV_len]; omega, by
    rw [List.drop_zero, Nat.mul_one, List.take_append_of_le_length (by rw [ints_length, mkV_len]; omega), List.take_of_length_le (by rw [ints_length, mkV_len]; omega)]⟩
theorem Gc.put (g : Gc h R n c ρ κ τ f lo) {i k : Nat} (hi : i < n) (hk : k < c) (x : Int) :
    putO (h.get (ρ i)) h (ρ i) k [.int .i64 x] = some (h.set (ρ i) (some (.cells false (ints (mkV c (upF f i k x i)) ++ τ i)))) ∧ Gc (h.set (ρ i) (some (.cells false (ints (mkV c (upF f i k x i)) ++ τ i)))) R n c ρ κ τ (upF f i k x) lo := by
  have e : (mkV c (f i)).set k x = mkV c (upF f i k x i) := by
    rw [mkV_set]
    exact mkV_congr fun j _ => by
      simp only [upF, true_and]
  refine ⟨by rw [g.row i hi, putO_one (by rw [List.length_append, ints_length, mkV_len]; omega), List.set_append_left _ _ (by rw [ints_length, mkV_len]; exact hk), ints_set, e], ⟨?_, fun j hj => ?_, g.inj, g.hR, g.ltR, g.hρ, g.ltρ, g.ne⟩⟩
  · rw [H.get_set_ne _ (fun e => g.ne i hi e.symm)]; exact g.gR
  · by_cases e : j = i
    · subst e; rw [H.get_set_same]
    · rw [H.get_set_ne _ fun h => e (g.inj j i hj hi h), g.row j hj, mkV_congr fun b _ => ?_]
      simp only [upF]
      rw [if_neg fun h => e h.1]
theorem Gc.sr (g : Gc h R n c ρ κ τ f lo) (cap : Cap) : SR h (.sl R 0 n cap) (mkR n c f) := by
  refine ⟨(List.range n).map fun i => V.sl (ρ i) 0 c (κ i), ?_, All2.of_get (by simp [mkR]) fun i h1 h2 => ?_⟩
  · exact SV.all (by simp) g.ltR g.gR cap
  · simp only [List.length_map, List.length_range] at h1
    simp only [List.getElem_map, List.getElem_range, mkR]
    exact g.si h1
/-- Two rows change places. -/
theorem Gc.swap (g : Gc h R n c ρ κ τ f lo) {a b : Nat} (ha : a < n) (hb : b < n) :
    Gc (h.set R (some (.cells false ((((List.range n).map fun i => V.sl (ρ i) 0 c (κ i)).set a (.sl (ρ b) 0 c (κ b))).set b (.sl (ρ a) 0 c (κ a)))))) R n c (fun i => ρ (sw a b i)) (fun i => κ (sw a b i)) (fun i => τ (sw a b i)) (fun i k => f (sw a b i) k) lo := by
  have el : (((List.range n).map fun i => V.sl (ρ i) 0 c (κ i)).set a (.sl (ρ b) 0 c (κ b))).set b (.sl (ρ a) 0 c (κ a)) = (List.range n).map fun i => V.sl (ρ (sw a b i)) 0 c (κ (sw a b i)) := by
    refine List.ext_getElem (by simp) fun i h1 h2 => ?_
    rw [List.getElem_set, List.getElem_set, List.getElem_map, List.getElem_map, List.getElem_range]
    by_cases e1 : b = i
    · subst e1; rw [if_pos rfl, sw_right]
    · rw [if_neg e1]
      by_cases e2 : a = i
      · subst e2; rw [if_pos rfl, sw_left]
      · rw [if_neg e2, sw_other (Ne.symm e2) (Ne.symm e1)]
  rw [el]
  refine ⟨H.get_set_same .., fun i hi => ?_, fun i j hi hj e => ?_, g.hR, g.ltR, fun i hi => g.hρ _ (sw_lt ha hb hi), fun i hi => g.ltρ _ (sw_lt ha hb hi), fun i hi => g.ne _ (sw_lt ha hb hi)⟩
  · rw [H.get_set_ne _ (g.ne _ (sw_lt ha hb hi))]
    exact g.row _ (sw_lt ha hb hi)
  · exact sw_inj.1 (g.inj _ _ (sw_lt ha hb hi) (sw_lt ha hb hj) e)
theorem Gc.same (g : Gc h R n c ρ κ τ f lo) (e : ∀ id, h'.get id = h.get id) (en : h'.next = h.next) : Gc h' R n c ρ κ τ f lo :=
  ⟨(e R).trans g.gR, fun i hi => (e _).trans (g.row i hi), g.inj, g.hR, by rw [en]; exact g.ltR, g.hρ, fun i hi => by rw [en]; exact g.ltρ i hi, g.ne⟩
def upN {α : Type} (ρ : Nat → α) (i : Nat) (x : α) : Nat → α := fun j => if j = i then x else ρ j
theorem own_open {w : V} {l : List Int} {b : Nat} (o : Own h w 1 (ints l) b) (hl : 0 < l.length) : ∃ id cap rest, w = .sl id 0 l.length cap ∧ b ≤ id ∧ id < h.next ∧ h.get id = some (.cells false (ints l ++ rest)) := by
  rcases o with ⟨_, h0⟩ | ⟨id, m, cap, rest, h1, h2, _, h3, h4, h5⟩
  · have : (ints l).length = 0 := by rw [h0]; rfl
    rw [ints_length] at this; omega
  · rw [ints_length, Nat.mul_one] at h2
    subst h2
    exact ⟨id, cap, rest, h1, h3, h4, h5⟩
end
end Go.Proofs.Ytonhijbeddcmpaa

/- Layer 4: bent. -/
namespace Go.Proofs.Ytonhijbeddcmpaa
open Go Go.Ay
set_option maxRecDepth 100000
/-- The first i rows are laid. -/
structure Gp (h : H) (R n c i : Nat) (ρ : Nat → Nat) (f : Nat → Nat → Int) (lo : Nat) : Prop where
  gR : h.get R = some (.cells false ((List.range n).map fun j => if j < i then V.sl (ρ j) 0 c (.un 1) else .nils))
  row : ∀ j, j < i → h.get (ρ j) = some (.cells false (ints (mkV c (f j))))
  inj : ∀ a b, a < i → b < i → ρ a = ρ b → a = b
  hR : lo ≤ R
  ltR : R < h.next
  hρ : ∀ j, j < i → R < ρ j
  ltρ : ∀ j, j < i → ρ j < h.next
theorem Gp.zero {h : H} {R n c : Nat} {f : Nat → Nat → Int} {lo : Nat} (g : h.get R = some (.cells false (List.replicate n .nils))) (h1 : lo ≤ R) (h2 : R < h.next) : Gp h R n c 0 (fun _ => 0) f lo :=
  ⟨by rw [g]; congr 2; refine List.ext_getElem (by simp) fun i _ _ => ?_; simp, fun j hj => absurd hj (Nat.not_lt_zero j), fun a b ha => absurd ha (Nat.not_lt_zero a), h1, h2, fun j hj => absurd hj (Nat.not_lt_zero j), fun j hj => absurd hj (Nat.not_lt_zero j)⟩
theorem Gp.step {h h' : H} {R n c i : Nat} {ρ : Nat → Nat} {f : Nat → Nat → Int} {lo : Nat} (g : Gp h R n c i ρ f lo) (hi : i < n) (F : Fr h h') {id : Nat} (h1 : h.next ≤ id) (h2 : id < h'.next) (h3 : h'.get id = some (.cells false (ints (mkV c (f i))))) :
    putO (h'.get R) h' R i [.sl id 0 c (.un 1)] = some (h'.set R (some (.cells false (((List.range n).map fun j => if j < i then V.sl (ρ j) 0 c (.un 1) else .nils).set i (.sl id 0 c (.un 1)))))) ∧
    Gp (h'.set R (some (.cells false (((List.range n).map fun j => if j < i then V.sl (ρ j) 0 c (.un 1) else .nils).set i (.sl id 0 c (.un 1)))))) R n c (i + 1) (upN ρ i id) f lo := by
  have lR := g.ltR
  have gR' := (F.get R lR).trans g.gR
  refine ⟨by rw [gR', putO_one (by simpa using hi)], ?_⟩
  have el : ((List.range n).map fun j => if j < i then V.sl (ρ j) 0 c (.un 1) else .nils).set i (.sl id 0 c (.un 1)) = (List.range n).map fun j => if j < i + 1 then V.sl (upN ρ i id j) 0 c (.un 1) else .nils := by
    refine List.ext_getElem (by simp) fun j _ _ => ?_
    rw [List.getElem_set, List.getElem_map, List.getElem_map, List.getElem_range]
    simp only [upN]
    by_cases e : i = j
    · subst e; simp
    · rw [if_neg e, if_neg (Ne.symm e)]
      by_cases e2 : j < i
      · rw [if_pos e2, if_pos (by omega)]
      · rw [if_neg e2, if_neg (by omega)]
  rw [el]
  have hne : id ≠ R := by omega
  refine ⟨H.get_set_same .., fun j hj => ?_, fun a b ha hb e => ?_, g.hR, Nat.lt_of_lt_of_le lR F.next, fun j hj => ?_, fun j hj => ?_⟩
  · simp only [upN]
    by_cases e : j = i
    · subst e; rw [if_pos rfl, H.get_set_ne _ hne]; exact h3
    · have := g.hρ j (by omega)
      rw [if_neg e, H.get_set_ne _ (by omega)]
      exact (F.get _ (g.ltρ j (by omega))).trans (g.row j (by omega))
  · simp only [upN] at e
    by_cases e1 : a = i
    · by_cases e2 : b = i
      · omega
      · have := g.ltρ b (by omega)
        rw [if_pos e1, if_neg e2] at e; omega
    · have := g.ltρ a (by omega)
      by_cases e2 : b = i
      · rw [if_neg e1, if_pos e2] at e; omega
      · rw [if_neg e1, if_neg e2] at e
        exact g.inj a b (by omega) (by omega) e
  · simp only [upN]
    split
    · omega
    · exact g.hρ j (by omega)
  · simp only [upN]
    split
    · exact h2
    · exact Nat.lt_of_lt_of_le (g.ltρ j (by omega)) F.next
theorem Gp.done {h : H} {R n c : Nat} {ρ : Nat → Nat} {f : Nat → Nat → Int} {lo : Nat} (g : Gp h R n c n ρ f lo) : Gc h R n c ρ (fun _ => .un 1) (fun _ => []) f lo := by
  refine ⟨?_, fun i hi => by rw [List.append_nil]; exact g.row i hi, g.inj, g.hR, g.ltR, fun i hi => Nat.le_trans g.hR (Nat.le_of_lt (g.hρ i hi)), g.ltρ, fun i hi => by have := g.hρ i hi; omega⟩
  rw [g.gR]
  congr 2
  refine List.ext_getElem (by simp) fun j h1 _ => ?_
  simp only [List.length_map, List.length_range] at h1
  rw [List.getElem_map, List.getElem_map, List.getElem_range, if_pos h1]
end Go.Proofs.Ytonhijbeddcmpaa

/- Layer 4: Poly. -/
namespace Go.Proofs.Ytonhijbeddcmpaa
open Go Go.Ay
set_option maxRecDepth 100000
theorem bls_i1 (h : H) (x : Int) : blsV h 1 [.int .i64 0] 1 [(0, 1, .int .i64 x)] = some (.sl h.next 0 1 (.kn 1), h.new (.cells false (ints [x]))) := by
  have e : zerosV [V.int .i64 0] 1 = [.int .i64 0] := rfl
  simp [blsV, fillV, e, putAt, V.cells, V.one, ints]
end Go.Proofs.Ytonhijbeddcmpaa

/- Layer 4: Trace. -/
namespace Go.Proofs.Ytonhijbeddcmpaa
open Go Go.Ay
set_option maxRecDepth 100000
end Go.Proofs.Ytonhijbeddcmpaa

/- Layer 4: the reference's square, Trace. -/
namespace Go.Proofs.Ytonhijbeddcmpaa
open Go Go.Ay
set_option maxRecDepth 100000
end Go.Proofs.Ytonhijbeddcmpaa

/- Layer 4: the reference's inverse of a number. -/
namespace Go.Proofs.Ytonhijbeddcmpaa
open Go Go.Ay
set_option maxRecDepth 100000
end Go.Proofs.Ytonhijbeddcmpaa

/- The step of Samuelson and Berkowitz, as a convolution. -/
namespace Go.Ay
end Go.Ay

