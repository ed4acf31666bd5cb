/- Layer 4: the laws' helpers: of, is, lives. Layer 4: the laws' numbers: field, drawn; boxes; valid matrices. Layer 4: valid square matrices; boxes. The characteristic polynomial by leading parts (Samuelson, Berkowitz), and of a bent matrix. Two rows and the same two columns change places; a multiple of a row is taken off another, and of a column put on: the characteristic polynomial stays. Layer 4: rows in their places. Layer 4: bent. Layer 4: Poly. Layer 4: Trace. Layer 4: the reference's square, Trace. Layer 4: the reference's inverse of a number. The step of Samuelson and Berkowitz, as a convolution. -/
import Derived.Test.YtonhijbeddcmpaaM4ytoM4re
import Derived.Test.YtonhijbeddcmpaaM4mtoDt6
/- Layer 4: the laws' helpers: of, is, lives. -/
namespace Go.Proofs.Ytonhijbeddcmpaa
open Go Go.Ay
set_option maxRecDepth 100000
theorem bls_int2 (h : H) (x y : Int) : blsV h 1 [.int .i64 0] 2 [(0, 1, .int .i64 x), (1, 1, .int .i64 y)] = some (.sl h.next 0 2 (.kn 2), h.new (.cells false (ints [x, y]))) := by
  have e : zerosV [V.int .i64 0] 2 = [.int .i64 0, .int .i64 0] := rfl
  simp [blsV, fillV, e, V.cells, V.one, putAt, ints]
theorem bls_sl2 (h : H) (a b c a' b' c' : Nat) (d' dd : Cap) : blsV h 1 [.nils] 2 [(0, 1, .sl a b c dd), (1, 1, .sl a' b' c' d')] = some (.sl h.next 0 2 (.kn 2), h.new (.cells false [.sl a b c dd, .sl a' b' c' d'])) := bls_two h rfl rfl rfl rfl
theorem sr_two {h : H} {i j k : Nat} {ri rj rk : Bool} {a b : List Int} (gi : h.get i = some (.cells ri (ints a))) (gj : h.get j = some (.cells rj (ints b))) (gk : h.get k = some (.cells rk [.sl i 0 a.length (.kn a.length), .sl j 0 b.length (.kn b.length)])) (hi : i < h.next) (hj : j < h.next) (hk : k < h.next) : SR h (.sl k 0 2 (.kn 2)) [a, b] :=
  ⟨_, SV.all rfl hk gk _, SI.own hi gi _, SI.own hj gj _, trivial⟩
theorem of_ok (u : V) (rows : List (List Int)) (h : H) (hu : SR h u rows) : Ev T n_law04_of [u] h (fun w h' => w = .agg [.int .i64 5, u] ∧ Fr h h') := by
  refine Ev_of t_law04_of rfl ?_
  have hw := SV.what hu.choose_spec.1
  have hbl := bldV_two (z1 := .int .i64 0) (z2 := .nils) (v := .int .i64 5) (u := u) rfl rfl hw.1 hw.2.1
  have hst := fun hh id => stV_agg2 hh id 0 (v := .int .i64 5) (u := u) rfl hw.2.1
  have hrow := row_two (bxH_get h 5 u)
  simp (disch := first | omega | (simp only [Qn] <;> omega)) only [go_sem, c_law04_of, initV_eq, hbl, hst, bxH_eq, hrow]
  exact bxH_fr h 5 u
theorem is_ok (va vb : V) (e : Int) (a b : Mat) (h : H) (ha : MatV h va a) (hb : MatV h vb b) (fa : Fit a) (fb : Fit b) : Ev T n_law04_is [va, .int .i64 e, vb] h (fun v h' => v = .bool (decide (e = 0 ∧ a = b)) ∧ Fr h h') := by
  obtain ⟨ua, rfl, hua⟩ := ha
  obtain ⟨ub, rfl, hub⟩ := hb
  refine Ev_of t_law04_is rfl ?_
  have wa := SV.what hua.choose_spec.1
  have wb := SV.what hub.choose_spec.1
  simp (disch := first | omega | (simp only [Qn] <;> omega)) only [go_sem, c_law04_is, initV_eq, boxV_agg2 h (v := .int .i64 a.1) rfl wa.2.1]
  have hfx : Fr h (h.new (.cells false [.int .i64 a.1, ua])) := (Fr.refl h).new _
  have hgx : (h.new (.cells false [.int .i64 a.1, ua])).get h.next = some (.cells false [.int .i64 a.1, ua]) := H.get_new_same ..
  have hnx : (h.new (.cells false [.int .i64 a.1, ua])).next = h.next + 1 := H.next_new ..
  generalize h.new (.cells false [.int .i64 a.1, ua]) = hx at *
  simp (disch := first | omega | (simp only [Qn] <;> omega)) only [go_sem, boxV_agg2 hx (v := .int .i64 b.1) rfl wb.2.1]
  have hfy : Fr hx (hx.new (.cells false [.int .i64 b.1, ub])) := (Fr.refl hx).new _
  have hgy : (hx.new (.cells false [.int .i64 b.1, ub])).get hx.next = some (.cells false [.int .i64 b.1, ub]) := H.get_new_same ..
  have hny : (hx.new (.cells false [.int .i64 b.1, ub])).next = hx.next + 1 := H.next_new ..
  generalize hx.new (.cells false [.int .i64 b.1, ub]) = hy at *
  have F := hfx.trans hfy
  have rx := row_two ((hfy.get h.next (by omega)).trans hgx)
  have ry := row_two hgy
  by_cases he : e = 0
  · rw [decide_eq_true he]
    simp (disch := first | omega | (simp only [Qn] <;> omega)) only [go_sem, rx, ry]
    refine (Same_ok _ _ a b hy ⟨ua, rfl, hua.mono F⟩ ⟨ub, rfl, hub.mono F⟩ fa fb).mono ?_
    rintro v h3 ⟨rfl, f3⟩
    simp (disch := first | omega | (simp only [Qn] <;> omega)) only [go_sem]
    refine ⟨?_, F.trans f3⟩
    congr 1
    rw [decide_eq_decide]
    exact ⟨fun h => ⟨he, h⟩, fun h => h.2⟩
  · rw [decide_eq_false he]
    simp (disch := first | omega | (simp only [Qn] <;> omega)) only [go_sem, undef_eq]
    exact ⟨by rw [decide_eq_false fun h => he h.1], F⟩
def mA : Mat := (5, [[1, 2], [3, 4]])
def mB : Mat := (5, [[0, 1], [1, 0]])
theorem lv_mul : MulF mA mB = ((5, [[2, 1], [4, 3]]), 0) := by decide +kernel
theorem lv_det : DetF mA = (3, 0) := by decide +kernel
theorem lv_sq : sqF mA = 0 := by decide +kernel
theorem lv_inv : InvF mA = ((5, [[3, 1], [4, 2]]), 0) := by
  have i : IsInv 5 2 (ent mA.2) (ent [[3, 1], [4, 2]]) := ⟨fun i j hi hj => (by decide : ∀ i, i < 2 → ∀ j, j < 2 → 0 ≤ ent [[3, 1], [4, 2]] i j) i hi j hj, fun i j hi hj => (by decide : ∀ i, i < 2 → ∀ j, j < 2 → ent [[3, 1], [4, 2]] i j < 5) i hi j hj, fun i j hi hj => (by decide +kernel : ∀ i, i < 2 → ∀ j, j < 2 → mulM 2 (ent [[3, 1], [4, 2]]) (ent mA.2) i j % 5 = idM i j % 5) i hi j hj⟩
  have e := invX_eq i
  rw [InvF, if_neg (by rw [lv_sq]; decide), if_neg (by decide +kernel)]
  rw [show mA.1 = 5 from rfl, show mA.2.length = 2 from rfl, ← e]
  decide +kernel
theorem lv_ord : OrderF mA = (8, 0) := by
  rw [OrderF, if_neg (by rw [lv_inv]; decide)]
  decide +kernel
theorem lit22 (h : H) (a b c d : Int) : ∃ h3, ((h.new (.cells false (ints [a, b]))).new (.cells false (ints [c, d]))).new (.cells false [.sl h.next 0 2 (.kn 2), .sl (h.next + 1) 0 2 (.kn 2)]) = h3 ∧ Fr h h3 ∧ SR h3 (.sl (h.next + 1 + 1) 0 2 (.kn 2)) [[a, b], [c, d]] ∧ h3.next = h.next + 3 := by
  refine ⟨_, rfl, (((Fr.refl h).new _).new _).new _, sr_two (ri := false) (rj := false) (rk := false) (i := h.next) (j := h.next + 1) ?_ ?_ ?_ ?_ ?_ ?_, rfl⟩
  · rw [H.get_new_ne _ (by simp only [H.next_new]; omega), H.get_new_ne _ (by simp only [H.next_new]; omega)]; exact H.get_new_same ..
  · rw [H.get_new_ne _ (by simp only [H.next_new]; omega)]; exact H.get_new_same (h.new _) _
  · exact H.get_new_same ((h.new _).new _) _
  · simp only [H.next_new]; omega
  · simp only [H.next_new]; omega
  · simp only [H.next_new]; omega
theorem litV22 {b0 h : H} (f0 : Fr b0 h) (a b c d : Int) (i j k m : Nat) (hi : b0.next ≤ i) (hj : i < j) (hk : j < k) (hm : k < m) : ∃ h3, litV (litV (litV h i (ints [a, b]) m) j (ints [c, d]) m) k [.sl i 0 2 (.kn 2), .sl j 0 2 (.kn 2)] m = h3 ∧ Fr b0 h3 ∧ SR h3 (.sl k 0 2 (.kn 2)) [[a, b], [c, d]] ∧ h3.next = m := by
  refine ⟨_, rfl, litV_fr (litV_fr (litV_fr f0 (by omega) (by omega) _) (by omega) (by omega) _) (by omega) (by omega) _, sr_two (ri := false) (rj := false) (rk := false) (i := i) (j := j) ?_ ?_ ?_ ?_ ?_ ?_, rfl⟩
  · rw [litV_ne _ _ _ (by omega), litV_ne _ _ _ (by omega)]; exact litV_get ..
  · rw [litV_ne _ _ _ (by omega)]; exact litV_get ..
  · exact litV_get ..
  · rw [litV_next]; omega
  · rw [litV_next]; omega
  · rw [litV_next]; omega
theorem fit22 (a b c d : Int) : Fit (5, [[a, b], [c, d]]) := ⟨by simp, fun i hi => by
  have : i = 0 ∨ i = 1 := by simp at hi; omega
  rcases this with rfl | rfl <;> simp⟩
set_option maxHeartbeats 8000000 in
theorem lives_ok (h : H) : Ev T n_law04_lives [] h (fun v h' => v = .bool true ∧ Fr h h') := by
  refine Ev_of t_law04_lives rfl ?_
  simp (disch := first | omega | (simp only [Qn] <;> omega)) only [go_sem, c_law04_lives, initV_eq, bls_int2, bls_sl2]
  obtain ⟨h1, e1, f1, s1, n1⟩ := lit22 h 1 2 3 4
  rw [e1]
  refine (of_ok _ _ h1 s1).mono ?_
  rintro w h2 ⟨rfl, f2⟩
  simp (disch := first | omega | (simp only [Qn] <;> omega)) only [go_sem, bls_int2, bls_sl2]
  obtain ⟨h3, e3, f3, s3, n3⟩ := lit22 h2 0 1 1 0
  rw [e3]
  refine (of_ok _ _ h3 s3).mono ?_
  rintro w h4 ⟨rfl, f4⟩
  have sA := ((s1.mono f2).mono f3).mono f4
  have sB := s3.mono f4
  have F4 := ((f1.trans f2).trans f3).trans f4
  have hstA := fun hh id => stV_agg2 hh id 0 (v := .int .i64 5) (u := .sl (h.next + 1 + 1) 0 2 (.kn 2)) rfl rfl
  have hstB := fun hh id => stV_agg2 hh id 0 (v := .int .i64 5) (u := .sl (h2.next + 1 + 1) 0 2 (.kn 2)) rfl rfl
  obtain ⟨ua, hua⟩ : ∃ u, V.sl (h.next + 1 + 1) 0 2 (.kn 2) = u := ⟨_, rfl⟩
  obtain ⟨ub, hub⟩ : ∃ u, V.sl (h2.next + 1 + 1) 0 2 (.kn 2) = u := ⟨_, rfl⟩
  rw [hua] at sA hstA
  rw [hub] at sB hstB
  rw [hua, hub]
  simp (disch := first | omega | (simp only [Qn] <;> omega)) only [go_sem]
  have hfa : Fr h4 (h4.new (.cells false [.int .i64 0, .nils])) := (Fr.refl h4).new _
  have hga : (h4.new (.cells false [.int .i64 0, .nils])).get h4.next = some (.cells false [.int .i64 0, .nils]) := H.get_new_same ..
  have hna : (h4.new (.cells false [.int .i64 0, .nils])).next = h4.next + 1 := H.next_new ..
  generalize h4.new (.cells false [.int .i64 0, .nils]) = ha at *
  rw [← hna]
  have hfb : Fr ha (ha.new (.cells false [.int .i64 0, .nils])) := (Fr.refl ha).new _
  have hgb : (ha.new (.cells false [.int .i64 0, .nils])).get ha.next = some (.cells false [.int .i64 0, .nils]) := H.get_new_same ..
  have hnb : (ha.new (.cells false [.int .i64 0, .nils])).next = ha.next + 1 := H.next_new ..
  generalize ha.new (.cells false [.int .i64 0, .nils]) = hb at *
  obtain ⟨A, hA⟩ : ∃ A, h4.next = A := ⟨_, rfl⟩
  obtain ⟨B, hB⟩ : ∃ B, ha.next = B := ⟨_, rfl⟩
  rw [hB] at hgb
  rw [hA] at hga
  have ga : hb.get A = some (.cells false [.int .i64 0, .nils]) := (hfb.get A (by omega)).trans hga
  have nab : B ≠ A := by omega
  rw [hA, hB]
  simp (disch := first | omega | (simp only [Qn] <;> omega)) only [go_sem, hstA, hstB, ga, hgb]
  have fC : Fr h4 ((hb.set A (some (.cells false [.int .i64 5, ua]))).set B (some (.cells false [.int .i64 5, ub]))) := (((hfa.trans hfb).set (by omega) _).set (by omega) _)
  have gA : ((hb.set A (some (.cells false [.int .i64 5, ua]))).set B (some (.cells false [.int .i64 5, ub]))).get A = some (.cells false [.int .i64 5, ua]) := by
    rw [H.get_set_ne _ (by omega)]; exact H.get_set_same ..
  have gB : ((hb.set A (some (.cells false [.int .i64 5, ua]))).set B (some (.cells false [.int .i64 5, ub]))).get B = some (.cells false [.int .i64 5, ub]) := H.get_set_same ..
  have nC : ((hb.set A (some (.cells false [.int .i64 5, ua]))).set B (some (.cells false [.int .i64 5, ub]))).next = B + 1 := by rw [H.next_set, H.next_set]; omega
  generalize (hb.set A (some (.cells false [.int .i64 5, ua]))).set B (some (.cells false [.int .i64 5, ub])) = hC at *
  have FC := F4.trans fC
  have MA : MatV hC (.agg [.int .i64 5, ua]) mA := ⟨ua, rfl, sA.mono fC⟩
  have MB : MatV hC (.agg [.int .i64 5, ub]) mB := ⟨ub, rfl, sB.mono fC⟩
  simp (disch := first | omega | (simp only [Qn] <;> omega)) only [go_sem, row_two gA, row_two gB]
  refine (Mul_ok _ _ mA mB hC MA MB (by decide) (by decide)).mono ?_
  rintro v h5 ⟨w, rfl, ⟨u5, ws5, rfl, R5⟩, f5⟩
  rw [lv_mul]
  rw [lv_mul] at R5
  have v5 := SV.what R5.own.sv
  have hst5 := fun hh id => stV_agg2 hh id 0 (v := .int .i64 5) (u := u5) rfl v5.2.1
  simp (disch := first | omega | (simp only [Qn] <;> omega)) only [go_sem, hst5, bxH_eq]
  have f6 := f5.trans (bxH_fr h5 5 u5)
  have s6 := R5.sr.mono (bxH_fr h5 5 u5)
  have g6 := bxH_get h5 5 u5
  have n6 := bxH_next h5 5 u5
  generalize bxH h5 5 u5 = h6 at *
  have gA6 := (f6.get A (by omega)).trans gA
  simp (disch := first | omega | (simp only [Qn] <;> omega)) only [go_sem, row_two gA6]
  refine (Det_ok _ mA h6 (MA.mono f6) (by decide)).mono ?_
  rintro v h7 ⟨rfl, f7⟩
  rw [lv_det]
  have f67 := f6.trans f7
  have gA7 := (f67.get A (by omega)).trans gA
  simp (disch := first | omega | (simp only [Qn] <;> omega)) only [go_sem, row_two gA7]
  refine (Inv_ok _ mA h7 (MA.mono f67) (by decide)).mono ?_
  rintro v h8 ⟨w, rfl, ⟨u8, ws8, rfl, R8⟩, f8⟩
  rw [lv_inv]
  rw [lv_inv] at R8
  have v8 := SV.what R8.own.sv
  have hst8 := fun hh id => stV_agg2 hh id 0 (v := .int .i64 5) (u := u8) rfl v8.2.1
  simp (disch := first | omega | (simp only [Qn] <;> omega)) only [go_sem, hst8, bxH_eq]
  have f9 := f8.trans (bxH_fr h8 5 u8)
  have s9 := R8.sr.mono (bxH_fr h8 5 u8)
  have g9 := bxH_get h8 5 u8
  have n9 := bxH_next h8 5 u8
  generalize bxH h8 5 u8 = h9 at *
  have F79 := f67.trans f9
  have gA9 := (F79.get A (by omega)).trans gA
  simp (disch := first | omega | (simp only [Qn] <;> omega)) only [go_sem, row_two gA9]
  refine (Order_ok _ mA h9 (MA.mono F79) (by decide)).mono ?_
  rintro v h10 ⟨rfl, f10⟩
  rw [lv_ord]
  have f5n := f5.next
  have f7n := f7.next
  have f8n := f8.next
  have f10n := f10.next
  have F10 := FC.trans (F79.trans f10)
  have g10 := ((f7.trans f9).trans f10).get h5.next (by omega)
  rw [g6] at g10
  have s10 := ((s6.mono f7).mono f9).mono f10
  have g10' := (f10.get h8.next (by omega)).trans g9
  have s10' := s9.mono f10
  have rb : (H.mk h10.tr (h10.next + 33)).row h5.next 0 2 = some [.int .i64 5, u5] := row_two g10
  simp (disch := first | omega | (simp only [Qn] <;> omega)) only [go_sem, rb, bls_int2, bls_sl2, litV_eq]
  obtain ⟨h11, e11, f11, s11, n11⟩ := litV22 (Fr.refl h10) 2 1 4 3 (h10.next + 2) (h10.next + 3) (h10.next + 4) (h10.next + 33) (by omega) (by omega) (by omega) (by omega)
  rw [e11]
  refine (of_ok _ _ h11 s11).mono ?_
  rintro w h12 ⟨rfl, f12⟩
  have r12 := row_two (((f11.trans f12).get h5.next (by omega)).trans g10)
  have e5 := SV.eqV R5.own.sv
  simp (disch := first | omega | (simp only [Qn] <;> omega)) only [go_sem, r12, e5]
  refine (is_ok _ _ 0 (5, [[2, 1], [4, 3]]) (5, [[2, 1], [4, 3]]) h12 ⟨u5, rfl, (s10.mono f11).mono f12⟩ ⟨_, rfl, s11.mono f12⟩ (fit22 ..) (fit22 ..)).mono ?_
  rintro v h13 ⟨rfl, f13⟩
  rw [decide_eq_true (show (0 : Int) = 0 ∧ ((5, [[2, 1], [4, 3]]) : Mat) = (5, [[2, 1], [4, 3]]) from ⟨rfl, rfl⟩)]
  have F13 := (f11.trans f12).trans f13
  have g13 := (F13.get h8.next (by omega)).trans g10'
  have n12 := f12.next
  have n13 := f13.next
  have r13 := row_two g13
  simp (disch := first | omega | (simp only [Qn] <;> omega)) only [go_sem, decide_true, r13, bls_int2, bls_sl2, litV_eq]
  obtain ⟨h14, e14, f14, s14, n14⟩ := litV22 F13 3 1 4 2 (h10.next + 18) (h10.next + 19) (h10.next + 20) h13.next (by omega) (by omega) (by omega) (by omega)
  rw [e14]
  refine (of_ok _ _ h14 s14).mono ?_
  rintro w h15 ⟨rfl, f15⟩
  have F15 := f14.trans f15
  have r15 := row_two ((F15.get h8.next (by omega)).trans g10')
  have e8 := SV.eqV R8.own.sv
  simp (disch := first | omega | (simp only [Qn] <;> omega)) only [go_sem, r15, e8]
  refine (is_ok _ _ 0 (5, [[3, 1], [4, 2]]) (5, [[3, 1], [4, 2]]) h15 ⟨u8, rfl, s10'.mono F15⟩ ⟨_, rfl, s14.mono f15⟩ (fit22 ..) (fit22 ..)).mono ?_
  rintro v h16 ⟨rfl, f16⟩
  rw [decide_eq_true (show (0 : Int) = 0 ∧ ((5, [[3, 1], [4, 2]]) : Mat) = (5, [[3, 1], [4, 2]]) from ⟨rfl, rfl⟩)]
  simp (disch := first | omega | (simp only [Qn] <;> omega)) only [go_sem, decide_true]
  exact F10.trans (F15.trans f16)
end Go.Proofs.Ytonhijbeddcmpaa

/- Layer 4: the laws' numbers: field, drawn; boxes; valid matrices. -/
namespace Go.Proofs.Ytonhijbeddcmpaa
open Go Go.Ay
set_option maxRecDepth 100000
theorem Own.fx {x : Nat} {h h' : H} {v : V} {sz : Nat} {ws : List V} {b : Nat} (o : Own h v sz ws b) (hx : x < b) (f : Fx x h h') : Own h' v sz ws b :=
  o.mono f.next fun id _ _ _ _ h1 h2 => f.get id h2 (by omega)
theorem Rws.fx {x : Nat} {h h' : H} {u : V} {ws : List V} {ll : List (List Int)} {lo : Nat} (r : Rws h u ws ll lo) (hx : x < lo) (f : Fx x h h') : Rws h' u ws ll lo :=
  ⟨Own.fx r.own hx f, All2.keep r.row fun w hw _ s => SI.fx s (r.frs w hw) hx f, r.dis, r.frs⟩
theorem MatO.fx {x : Nat} {h h' : H} {v : V} {a : Mat} {lo : Nat} (o : MatO h v a lo) (hx : x < lo) (f : Fx x h h') : MatO h' v a lo := by
  obtain ⟨u, ws, e, r⟩ := o
  exact ⟨u, ws, e, Rws.fx r hx f⟩
/-- Entries that are residues. -/
def InP (p : Int) (n : Nat) (A : Mx) : Prop := ∀ i k, i < n → k < n → 0 ≤ A i k ∧ A i k < p
end Go.Proofs.Ytonhijbeddcmpaa

/- Layer 4: valid square matrices; boxes. -/
namespace Go.Proofs.Ytonhijbeddcmpaa
open Go Go.Ay
set_option maxRecDepth 100000
/-- Valid square matrices. -/
structure Sq (p : Int) (n : Nat) : Prop where
  f : fieldF p = true
  n1 : 1 ≤ n
  n2 : n ≤ 64
theorem Sq.p {p : Int} {n : Nat} (s : Sq p n) : 2 ≤ p ∧ p < 10000 := fieldF_range s.f
theorem len0 {n : Nat} (h1 : 1 ≤ n) (A : Mx) : ((mkR n n A).getD 0 []).length = n := by rw [mkR_row _ h1, mkV_len]
theorem Sq.vd {p : Int} {n : Nat} (s : Sq p n) {A : Mx} (hA : InP p n A) : Vd (p, mkR n n A) n :=
  ⟨s.f, by simp only [mkR_len]; exact s.n1, by simp only [mkR_len]; exact s.n2, s.n1, s.n2, fun i hi => by
    simp only [mkR_len] at hi
    simp only
    rw [mkR_row _ hi, mkV_len], fun i k hi hk => by
    simp only [mkR_len] at hi
    simp only
    rw [mkR_ent _ hi hk]; exact (hA i k hi hk).1, fun i k hi hk => by
    simp only [mkR_len] at hi
    simp only
    rw [mkR_ent _ hi hk]; exact (hA i k hi hk).2⟩
theorem Sq.fit {p : Int} {n : Nat} (s : Sq p n) {A B : Mx} (hA : InP p n A) (hB : InP p n B) : fitF (p, mkR n n A) (p, mkR n n B) = 0 := by
  rw [fitF, vd_check (s.vd hA), vd_check (s.vd hB)]; simp
theorem Sq.la {p : Int} {n : Nat} (s : Sq p n) (A : Mx) : (((p, mkR n n A) : Mat).2.length : Int) ≤ 2 ^ 63 - 1 := by
  have := s.n2
  simp only [mkR_len]; omega
def mmP (p : Int) (n : Nat) (A B : Mx) : Mx := fun i k => mulM n A B i k % p
theorem Sq.mul {p : Int} {n : Nat} (s : Sq p n) {A B : Mx} (hA : InP p n A) (hB : InP p n B) : MulF (p, mkR n n A) (p, mkR n n B) = ((p, mkR n n (mmP p n A B)), 0) := by
  rw [MulF, s.fit hA hB, if_neg (by simp), if_neg (by simp only [mkR_len, len0 s.n1, ne_eq, not_true_eq_false, not_false_eq_true])]
  simp only [len0 s.n1, mulF, mkR_len]
  rw [mkR_congr fun i k hi hk => ?_]
  refine congrArg (· % p) (sm_congr fun j hj => ?_)
  rw [mkR_ent _ hi hj, mkR_ent _ hj hk]
theorem Sq.mm {p : Int} {n : Nat} (s : Sq p n) (A B : Mx) : InP p n (mmP p n A B) := fun i k _ _ => tmod_range _ (by have := s.p; omega)
theorem Sq.add {p : Int} {n : Nat} (s : Sq p n) {A B : Mx} (hA : InP p n A) (hB : InP p n B) : AddF (p, mkR n n A) (p, mkR n n B) = ((p, mkR n n (fun i k => (A i k + B i k) % p)), 0) := by
  rw [AddF, s.fit hA hB, if_neg (by simp), if_neg (by simp only [mkR_len, len0 s.n1, ne_eq, not_true_eq_false, or_self, not_false_eq_true])]
  simp only [len0 s.n1, mkR_len]
  rw [mkR_congr fun i k hi hk => ?_]
  rw [mkR_ent _ hi hk, mkR_ent _ hi hk, Int.one_mul]
theorem Sq.ad {p : Int} {n : Nat} (s : Sq p n) (A B : Mx) : InP p n (fun i k => (A i k + B i k) % p) := fun i k _ _ => tmod_range _ (by have := s.p; omega)
theorem Sq.turn {p : Int} {n : Nat} (s : Sq p n) {A : Mx} (hA : InP p n A) : TurnF (p, mkR n n A) = ((p, mkR n n (trM A)), 0) := by
  rw [TurnF, vd_check (s.vd hA), if_neg (by simp)]
  simp only [len0 s.n1, mkR_len]
  rw [mkR_congr fun i k hi hk => ?_]
  rw [mkR_ent _ hk hi]; rfl
theorem Sq.tr {p : Int} {n : Nat} {A : Mx} (hA : InP p n A) : InP p n (trM A) := fun i k hi hk => hA k i hk hi
theorem Sq.sc {p : Int} {n : Nat} (s : Sq p n) (k : Int) (A : Mx) : InP p n (fun i j => (k % p) * A i j % p) := fun i k _ _ => tmod_range _ (by have := s.p; omega)
theorem Sq.one {p : Int} {n : Nat} (s : Sq p n) : OneF (n : Int) p = ((p, mkR n n idM), 0) := by
  have := s.n1
  have := s.n2
  rw [OneF, if_neg (by rw [s.f]; simp), if_neg (by omega), Int.toNat_natCast]; rfl
theorem Sq.on {p : Int} {n : Nat} (s : Sq p n) : InP p n idM := fun i k _ _ => by
  have := s.p
  simp only [idM]
  split <;> omega
/-- A box with a matrix. -/
def MB (h : H) (id : Nat) (a : Mat) : Prop := ∃ u, h.get id = some (.cells false [.int .i64 a.1, u]) ∧ SR h u a.2 ∧ id < h.next
theorem MB.mono {h h' : H} {id : Nat} {a : Mat} (b : MB h id a) (f : Fr h h') : MB h' id a := by
  obtain ⟨u, h1, h2, h3⟩ := b
  exact ⟨u, (f.get id h3).trans h1, h2.mono f, Nat.lt_of_lt_of_le h3 f.next⟩
theorem MB.row {h : H} {id : Nat} {p : Int} {L : List (List Int)} (b : MB h id (p, L)) : ∃ u, h.row id 0 2 = some [.int .i64 p, u] ∧ MatV h (.agg [.int .i64 p, u]) (p, L) := by
  obtain ⟨u, h1, h2, h3⟩ := b
  exact ⟨u, row_two h1, u, rfl, h2⟩
theorem MB.new {h : H} {p : Int} {L : List (List Int)} {u : V} (s : SR h u L) : MB (bxH h p u) h.next (p, L) :=
  ⟨u, bxH_get h p u, s.mono (bxH_fr h p u), by rw [bxH_next]; omega⟩
/-! the laws -/
end Go.Proofs.Ytonhijbeddcmpaa

/- The characteristic polynomial by leading parts (Samuelson, Berkowitz), and of a bent matrix. -/
namespace Go.Ay
theorem sm_rev (n : Nat) (f : Nat → Int) : sm n (fun i => f (n - 1 - i)) = sm n f := by
  induction n with
  | zero => rfl
  | succ n ih =>
    rw [sm_first, sm_succ, ← ih]
    have : sm n (fun k => f (n + 1 - 1 - (k + 1))) = sm n (fun i => f (n - 1 - i)) := sm_congr fun k _ => by rw [show n + 1 - 1 - (k + 1) = n - 1 - k by omega]
    rw [this]
    simp only [Nat.add_sub_cancel, Nat.sub_zero]
    omega
theorem chp_high (n : Nat) (A : Mx) (k : Nat) (h : n < k) : chp n A k = 0 := dpl_high n _ _ k h
theorem chp_zero (A : Mx) (k : Nat) : chp 0 A k = if k = 0 then 1 else 0 := rfl
/-! bent matrices -/
def belB (A : Mx) (n : Nat) : Nat → Int
  | 0 => 1
  | d + 1 => belB A n d * A (n - d) (n - d - 1)
theorem bel_top (A : Mx) (n : Nat) : ∀ d, belB A (n + 1) (d + 1) = A (n + 1) n * belB A n d
  | 0 => by simp [belB]
  | d + 1 => by
    rw [belB, bel_top A n d, belB, show n + 1 - (d + 1) = n - d by omega]
    grind
theorem bent_minor {A : Mx} {t : Int} (h : ∀ i j, j + 1 < i → A i j = 0) : ∀ d j, det (j + d + 1) (del (chM A t) j (j + d + 1)) = sgn (d + 1) * belB A (j + d + 1) (d + 1) * det j (chM A t)
  | d, j => by
    have e : det (j + d + 1) (del (chM A t) j (j + d + 1)) = - A (j + d + 1) (j + d) * det (j + d) (del (del (chM A t) j (j + d + 1)) (j + d) (j + d)) := by
      have row : ∀ c, c < j + d + 1 → del (chM A t) j (j + d + 1) (j + d) c = - A (j + d + 1) c := fun c hc => by
        simp only [del, skp]
        rw [if_neg (by omega), if_pos hc]
        simp only [chM]
        rw [if_neg (by omega)]; omega
      rw [det_row (n := j + d) (i := j + d) (by omega), sm_one (t := j + d) (by omega) fun c hc hne => by
        rw [row c hc, h _ _ (by omega)]; simp, row _ (by omega), sgn_two, Int.one_mul]
    rw [e]
    cases d with
    | zero =>
      have e2 : det (j + 0) (del (del (chM A t) j (j + 0 + 1)) (j + 0) (j + 0)) = det j (chM A t) := det_congr fun r c hr hc => by
        simp only [del, Nat.add_zero]
        rw [Nat.add_zero] at hr hc
        rw [show skp j r = r by unfold skp; rw [if_pos hr], show skp j c = c by unfold skp; rw [if_pos hc], show skp j r = r by unfold skp; rw [if_pos hr], show skp (j + 1) c = c by unfold skp; rw [if_pos (by omega)]]
      rw [e2]
      simp [belB, sgn]
    | succ d =>
      have e2 : det (j + (d + 1)) (del (del (chM A t) j (j + (d + 1) + 1)) (j + (d + 1)) (j + (d + 1))) = det (j + d + 1) (del (chM A t) j (j + d + 1)) := det_congr fun r c hr hc => by
        simp only [del]
        rw [show skp (j + (d + 1)) r = r by unfold skp; rw [if_pos (by omega)], show skp (j + (d + 1)) c = c by unfold skp; rw [if_pos (by omega)], show skp (j + (d + 1) + 1) c = c by unfold skp; rw [if_pos (by omega)], show skp (j + d + 1) c = c by unfold skp; rw [if_pos (by omega)]]
      rw [e2, bent_minor h d j, show j + (d + 1) + 1 = (j + d + 1) + 1 by omega, bel_top A (j + d + 1) (d + 1), show j + (d + 1) = j + d + 1 by omega, sgn_succ (d + 1)]
      grind
theorem chp_bent {A : Mx} (h : ∀ i j, j + 1 < i → A i j = 0) (n k : Nat) (hk : k < n + 2) : chp (n + 1) A k = shf (chp n A) k - A n n * chp n A k - sm n (fun d => A (n - 1 - d) n * belB A n (d + 1) * chp (n - 1 - d) A k) := by
  refine chp_uniq (c := fun k => shf (chp n A) k - A n n * chp n A k - sm n (fun d => A (n - 1 - d) n * belB A n (d + 1) * chp (n - 1 - d) A k)) (fun t _ => ?_) k hk
  rw [det_col (j := n) (by omega), exc, sm_succ, pev_sub, pev_sub, pev_mul, pev_shf, pev_more (n := n + 1) (m := n + 2) (c := chp n A) (by omega) fun k h1 h2 => chp_high _ _ _ (by omega)]
  have e1 : det n (del (chM A t) n n) = pev (n + 1) (chp n A) t := by
    rw [← det_chp]
    exact det_congr fun i j hi hj => by
      simp only [del, skp]
      rw [if_pos hi, if_pos hj]
  have e2 : chM A t n n = t - A n n := by simp only [chM, if_true]
  rw [e1, e2, sgn_two, Int.one_mul]
  have e3 : ∀ i, i < n → sgn (i + n) * chM A t i n * det n (del (chM A t) i n) = - (A i n * belB A n (n - i) * det i (chM A t)) := fun i hi => by
    obtain ⟨d, rfl⟩ : ∃ d, n = i + d + 1 := ⟨n - i - 1, by omega⟩
    rw [bent_minor h d i, show i + d + 1 - i = d + 1 by omega, show i + (i + d + 1) = (i + i) + (d + 1) by omega, sgn_add, sgn_two, Int.one_mul]
    have s := sgn_sq (d + 1)
    have e : chM A t i (i + d + 1) = - A i (i + d + 1) := by simp only [chM]; rw [if_neg (by omega)]; omega
    rw [e]
    grind
  rw [sm_congr e3, sm_neg]
  have e4 : pev (n + 1 + 1) (fun k => sm n (fun d => A (n - 1 - d) n * belB A n (d + 1) * chp (n - 1 - d) A k)) t = sm n (fun i => A i n * belB A n (n - i) * det i (chM A t)) := by
    rw [pev_sum]
    have e5 : ∀ d, d < n → pev (n + 1 + 1) (fun k => A (n - 1 - d) n * belB A n (d + 1) * chp (n - 1 - d) A k) t = (fun i => A i n * belB A n (n - i) * det i (chM A t)) (n - 1 - d) := fun d hd => by
      simp only
      rw [pev_mul, det_chp, pev_more (n := n - 1 - d + 1) (m := n + 1 + 1) (by omega) fun k h1 h2 => chp_high _ _ _ (by omega), show n - (n - 1 - d) = d + 1 by omega]
    rw [sm_congr e5]
    exact sm_rev n (fun i => A i n * belB A n (n - i) * det i (chM A t))
  rw [e4]
  grind
end Go.Ay

/- Two rows and the same two columns change places; a multiple of a row is taken off another, and of a column put on: the characteristic polynomial stays. -/
namespace Go.Ay
def sw (a b i : Nat) : Nat := if i = a then b else if i = b then a else i
theorem sw_lt {a b i n : Nat} (ha : a < n) (hb : b < n) (hi : i < n) : sw a b i < n := by unfold sw; split <;> (try split) <;> omega
theorem sw_inj {a b i j : Nat} : sw a b i = sw a b j ↔ i = j := by unfold sw; split <;> split <;> (try split) <;> (try split) <;> omega
theorem sw_left (a b : Nat) : sw a b a = b := if_pos rfl
theorem sw_right (a b : Nat) : sw a b b = a := by unfold sw; split <;> simp_all
theorem sw_other {a b i : Nat} (h1 : i ≠ a) (h2 : i ≠ b) : sw a b i = i := by unfold sw; rw [if_neg h1, if_neg h2]
theorem sw_self (a i : Nat) : sw a a i = i := by unfold sw; split <;> simp_all
theorem swp_sw (A : Mx) {a b : Nat} (h : a ≠ b) (i j : Nat) : swp A a b i j = A (sw a b i) j := by
  by_cases h1 : i = a
  · subst h1; rw [swp_left A h, sw_left]
  · by_cases h2 : i = b
    · subst h2; rw [swp_right, sw_right]
    · rw [swp_other A h1 h2, sw_other h1 h2]
theorem det_sw {n a b : Nat} (ha : a < n) (hb : b < n) (h : a ≠ b) (A : Mx) : det n (fun i j => A (sw a b i) (sw a b j)) = det n A := by
  have e1 : det n (fun i j => A (sw a b i) (sw a b j)) = - det n (fun i j => A i (sw a b j)) := by
    rw [← (det_alt n).swap ha hb h]
    exact det_congr fun i j _ _ => (swp_sw (fun i j => A i (sw a b j)) h i j).symm
  have e2 : det n (fun i j => A i (sw a b j)) = - det n A := by
    rw [← det_tr n A, ← (det_alt n).swap ha hb h, ← det_tr]
    exact det_congr fun i j _ _ => (swp_sw (trM A) h i j).symm
  rw [e1, e2]; omega
theorem chp_swap {n a b : Nat} (ha : a < n) (hb : b < n) (A : Mx) (k : Nat) (hk : k < n + 1) : chp n (fun i j => A (sw a b i) (sw a b j)) k = chp n A k := by
  by_cases h : a = b
  · subst h
    exact chp_congr (fun i j _ _ => by simp only [sw_self]) k hk
  · refine chp_uniq (fun t _ => ?_) k hk
    rw [← det_chp, ← det_sw ha hb h (chM A t)]
    exact det_congr fun i j _ _ => by simp only [chM, sw_inj]
/-- A shear. -/
def shear (A : Mx) (k c : Nat) (f : Int) : Mx := fun i j => (if i = k then A k j - f * A c j else A i j) + (if j = c then f * (if i = k then A k k - f * A c k else A i k) else 0)
theorem det_rowadd {n k c : Nat} (hk : k < n) (hc : c < n) (h : k ≠ c) (f : Int) (X : Mx) : det n (fun i j => if i = k then X k j - f * X c j else X i j) = det n X := by
  rw [← (det_alt n).add_row X hc hk (Ne.symm h) (-f)]
  refine det_congr fun i j _ _ => ?_
  simp only [setR]
  split
  · grind
  · rfl
theorem det_coladd {n k c : Nat} (hk : k < n) (hc : c < n) (h : k ≠ c) (f : Int) (X : Mx) : det n (fun i j => X i j + (if j = c then f * X i k else 0)) = det n X := by
  rw [← det_tr n X, ← (det_alt n).add_row (trM X) hk hc h f, ← det_tr]
  refine det_congr fun i j _ _ => ?_
  simp only [setR, trM]
  split
  · rename_i e; subst e; grind
  · grind
theorem chp_shear {n k c : Nat} (hk : k < n) (hc : c < n) (h : k ≠ c) (f : Int) (A : Mx) (q : Nat) (hq : q < n + 1) : chp n (shear A k c f) q = chp n A q := by
  refine chp_uniq (fun t _ => ?_) q hq
  rw [← det_chp, ← (det_coladd hk hc h f (fun i j => if i = k then chM A t k j - f * chM A t c j else chM A t i j)).trans (det_rowadd hk hc h f (chM A t))]
  refine det_congr fun i j _ _ => ?_
  simp only [chM, shear]
  by_cases h1 : i = k
  · subst h1
    by_cases h2 : j = c
    · subst h2
      simp only [if_true, if_neg h, if_neg (Ne.symm h)]
      grind
    · by_cases h3 : i = j
      · subst h3
        simp only [if_true, if_neg h2, if_neg (Ne.symm h)]
        grind
      · simp only [if_true, if_neg h2, if_neg h3, if_neg (Ne.symm h2)]
        grind
  · by_cases h2 : j = c
    · subst h2
      simp only [if_neg h1, if_true]
      grind
    · simp only [if_neg h1, if_neg h2]
      grind
/-- On the way to a bent matrix: the first c columns are. -/
structure Bnt (p : Int) (n : Nat) (A : Mx) (c : Nat) (B : Mx) : Prop where
  rng : ∀ i j, i < n → j < n → 0 ≤ B i j ∧ B i j < p
  low : ∀ i j, i < n → j < c → j + 1 < i → B i j = 0
  chp : ∀ q, q < n + 1 → chp n B q % p = chp n A q % p
theorem Bnt.start {p : Int} {n : Nat} {A B : Mx} (hA : ∀ i j, i < n → j < n → 0 ≤ A i j ∧ A i j < p) (e : ∀ i j, i < n → j < n → B i j = A i j) : Bnt p n A 0 B :=
  ⟨fun i j hi hj => by rw [e i j hi hj]; exact hA i j hi hj, fun i j _ hj => absurd hj (Nat.not_lt_zero j), fun q hq => by rw [chp_congr e q hq]⟩
theorem Bnt.congr {p : Int} {n c : Nat} {A B B' : Mx} (b : Bnt p n A c B) (e : ∀ i j, i < n → j < n → B' i j = B i j) (hc : c ≤ n) : Bnt p n A c B' :=
  ⟨fun i j hi hj => by rw [e i j hi hj]; exact b.rng i j hi hj, fun i j hi hj h => by rw [e i j hi (by omega)]; exact b.low i j hi hj h, fun q hq => by rw [chp_congr e q hq]; exact b.chp q hq⟩
theorem Bnt.skip {p : Int} {n c : Nat} {A B : Mx} (b : Bnt p n A c B) (h : ∀ i, c + 1 < i → i < n → B i c = 0) : Bnt p n A (c + 1) B :=
  ⟨b.rng, fun i j hi hj h1 => by
    by_cases e : j = c
    · subst e; exact h i h1 hi
    · exact b.low i j hi (by omega) h1, b.chp⟩
theorem Bnt.swap {p : Int} {n c r : Nat} {A B B' : Mx} (b : Bnt p n A c B) (hr : r < n) (hc : c + 1 < n) (hcr : c + 1 ≤ r) (e : ∀ i j, i < n → j < n → B' i j = B (sw r (c + 1) i) (sw r (c + 1) j)) : Bnt p n A c B' := by
  refine ⟨fun i j hi hj => ?_, fun i j hi hj h => ?_, fun q hq => ?_⟩
  · rw [e i j hi hj]; exact b.rng _ _ (sw_lt hr hc hi) (sw_lt hr hc hj)
  · rw [e i j hi (by omega), sw_other (show j ≠ r by omega) (show j ≠ c + 1 by omega)]
    refine b.low _ j (sw_lt hr hc hi) hj ?_
    unfold sw
    split
    · omega
    · split
      · omega
      · exact h
  · rw [chp_congr e q hq, chp_swap hr hc B q hq]; exact b.chp q hq
theorem Bnt.shear {p : Int} {n c k : Nat} {A B B' : Mx} (b : Bnt p n A c B) (hp : 0 < p) (hk : k < n) (hck : c + 1 < k) (f : Int) (e : ∀ i j, i < n → j < n → B' i j = shear B k (c + 1) f i j % p) : Bnt p n A c B' := by
  refine ⟨fun i j hi hj => ?_, fun i j hi hj h => ?_, fun q hq => ?_⟩
  · rw [e i j hi hj]; exact ⟨Int.emod_nonneg _ (by omega), Int.emod_lt_of_pos _ hp⟩
  · rw [e i j hi (by omega)]
    simp only [Ay.shear]
    rw [if_neg (show j ≠ c + 1 by omega), b.low (c + 1) j (by omega) hj (by omega)]
    split
    · rename_i h1
      rw [← h1, b.low i j hi hj h]; simp
    · rw [b.low i j hi hj h]; simp
  · rw [chp_mod (B := Ay.shear B k (c + 1) f) (fun i j hi hj => by rw [e i j hi hj, Int.emod_emod_of_dvd _ (Int.dvd_refl p)]) q, chp_shear hk (by omega) (by omega) f B q hq]
    exact b.chp q hq
/-- The column: zeros come, and stay. -/
theorem shear_col {p : Int} {n c k : Nat} {B B' : Mx} {x : Int} (hp : 1 < p) (hk : k < n) (hck : c + 1 < k) (hb : ∀ i j, i < n → j < n → 0 ≤ B i j ∧ B i j < p) (hx : x * B (c + 1) c % p = 1) (e : ∀ i j, i < n → j < n → B' i j = shear B k (c + 1) (B k c * x % p) i j % p) :
    B' k c = 0 ∧ ∀ i, i < n → i ≠ k → B' i c = B i c := by
  refine ⟨?_, fun i hi h => ?_⟩
  · rw [e k c hk (by omega)]
    simp only [shear, if_true]
    rw [if_neg (show ¬ c = c + 1 by omega), Int.add_zero]
    have h1 : B k c * x % p * B (c + 1) c % p = B k c % p := by
      rw [Int.mul_emod, Int.emod_emod_of_dvd _ (Int.dvd_refl p), ← Int.mul_emod, Int.mul_assoc, Int.mul_emod, hx, Int.mul_one, Int.emod_emod_of_dvd _ (Int.dvd_refl p)]
    rw [Int.sub_emod, h1, Int.sub_self, Int.zero_emod]
  · rw [e i c hi (by omega)]
    simp only [shear]
    rw [if_neg h, if_neg (by omega), Int.add_zero]
    have := hb i c hi (by omega)
    exact Int.emod_eq_of_lt this.1 this.2
end Go.Ay

/- Layer 4: rows in their places. -/
namespace Go.Proofs.Ytonhijbeddcmpaa
open Go Go.Ay
set_option maxRecDepth 100000
/-- Rows of c numbers, each in a block of its own, and the block of the rows. -/
structure Gc (h : H) (R n c : Nat) (ρ : Nat → Nat) (κ : Nat → Cap) (τ : Nat → List V) (f : Nat → Nat → Int) (lo : Nat) : Prop where
  gR : h.get R = some (.cells false ((List.range n).map fun i => V.sl (ρ i) 0 c (κ i)))
  row : ∀ i, i < n → h.get (ρ i) = some (.cells false (ints (mkV c (f i)) ++ τ i))
  inj : ∀ i j, i < n → j < n → ρ i = ρ j → i = j
  hR : lo ≤ R
  ltR : R < h.next
  hρ : ∀ i, i < n → lo ≤ ρ i
  ltρ : ∀ i, i < n → ρ i < h.next
  ne : ∀ i, i < n → ρ i ≠ R
section
variable {h h' : H} {R n c : Nat} {ρ : Nat → Nat} {κ : Nat → Cap} {τ : Nat → List V} {f : Nat → Nat → Int} {lo : Nat}
theorem Gc.fr (g : Gc h R n c ρ κ τ f lo) (F : Fr h h') : Gc h' R n c ρ κ τ f lo :=
  ⟨(F.get R g.ltR).trans g.gR, fun i hi => (F.get _ (g.ltρ i hi)).trans (g.row i hi), g.inj, g.hR, Nat.lt_of_lt_of_le g.ltR F.next, g.hρ, fun i hi => Nat.lt_of_lt_of_le (g.ltρ i hi) F.next, g.ne⟩
theorem Gc.congr {f' : Nat → Nat → Int} (g : Gc h R n c ρ κ τ f lo) (e : ∀ i k, i < n → k < c → f i k = f' i k) : Gc h R n c ρ κ τ f' lo :=
  ⟨g.gR, fun i hi => by rw [g.row i hi, mkV_congr fun k hk => e i k hi hk], g.inj, g.hR, g.ltR, g.hρ, g.ltρ, g.ne⟩
theorem Gc.cR (g : Gc h R n c ρ κ τ f lo) : ∀ i, i < n → h.cell R i = some (.sl (ρ i) 0 c (κ i)) := fun i hi => by
  rw [H.cell_of g.gR, List.getElem?_map, List.getElem?_range hi]; rfl
theorem Gc.cρ (g : Gc h R n c ρ κ τ f lo) : ∀ i k, i < n → k < c → h.cell (ρ i) k = some (.int .i64 (f i k)) := fun i k hi hk => by
  rw [H.cell_of (g.row i hi), List.getElem?_append_left (by rw [ints_length, mkV_len]; exact hk), ints_getD (by rw [mkV_len]; exact hk), mkV_get _ hk]
theorem Gc.si (g : Gc h R n c ρ κ τ f lo) {i : Nat} (hi : i < n) : SI h (.sl (ρ i) 0 c (κ i)) (mkV c (f i)) :=
  .inr ⟨ρ i, 0, c, κ i, false, _, rfl, by rw [ints_length, mkV_len, Nat.mul_one], g.ltρ i hi, g.row i hi, by rw [List.length_append, ints_length, mkV_len]; omega, by
    rw [List.drop_zero, Nat.mul_one, List.take_append_of_le_length (by rw [ints_length, mkV_len]; omega), List.take_of_length_le (by rw [ints_length, mkV_len]; omega)]⟩
theorem Gc.put (g : Gc h R n c ρ κ τ f lo) {i k : Nat} (hi : i < n) (hk : k < c) (x : Int) :
    putO (h.get (ρ i)) h (ρ i) k [.int .i64 x] = some (h.set (ρ i) (some (.cells false (ints (mkV c (upF f i k x i)) ++ τ i)))) ∧ Gc (h.set (ρ i) (some (.cells false (ints (mkV c (upF f i k x i)) ++ τ i)))) R n c ρ κ τ (upF f i k x) lo := by
  have e : (mkV c (f i)).set k x = mkV c (upF f i k x i) := by
    rw [mkV_set]
    exact mkV_congr fun j _ => by
      simp only [upF, true_and]
  refine ⟨by rw [g.row i hi, putO_one (by rw [List.length_append, ints_length, mkV_len]; omega), List.set_append_left _ _ (by rw [ints_length, mkV_len]; exact hk), ints_set, e], ⟨?_, fun j hj => ?_, g.inj, g.hR, g.ltR, g.hρ, g.ltρ, g.ne⟩⟩
  · rw [H.get_set_ne _ (fun e => g.ne i hi e.symm)]; exact g.gR
  · by_cases e : j = i
    · subst e; rw [H.get_set_same]
    · rw [H.get_set_ne _ fun h => e (g.inj j i hj hi h), g.row j hj, mkV_congr fun b _ => ?_]
      simp only [upF]
      rw [if_neg fun h => e h.1]
theorem Gc.sr (g : Gc h R n c ρ κ τ f lo) (cap : Cap) : SR h (.sl R 0 n cap) (mkR n c f) := by
  refine ⟨(List.range n).map fun i => V.sl (ρ i) 0 c (κ i), ?_, All2.of_get (by simp [mkR]) fun i h1 h2 => ?_⟩
  · exact SV.all (by simp) g.ltR g.gR cap
  · simp only [List.length_map, List.length_range] at h1
    simp only [List.getElem_map, List.getElem_range, mkR]
    exact g.si h1
/-- Two rows change places. -/
theorem Gc.swap (g : Gc h R n c ρ κ τ f lo) {a b : Nat} (ha : a < n) (hb : b < n) :
    Gc (h.set R (some (.cells false ((((List.range n).map fun i => V.sl (ρ i) 0 c (κ i)).set a (.sl (ρ b) 0 c (κ b))).set b (.sl (ρ a) 0 c (κ a)))))) R n c (fun i => ρ (sw a b i)) (fun i => κ (sw a b i)) (fun i => τ (sw a b i)) (fun i k => f (sw a b i) k) lo := by
  have el : (((List.range n).map fun i => V.sl (ρ i) 0 c (κ i)).set a (.sl (ρ b) 0 c (κ b))).set b (.sl (ρ a) 0 c (κ a)) = (List.range n).map fun i => V.sl (ρ (sw a b i)) 0 c (κ (sw a b i)) := by
    refine List.ext_getElem (by simp) fun i h1 h2 => ?_
    rw [List.getElem_set, List.getElem_set, List.getElem_map, List.getElem_map, List.getElem_range]
    by_cases e1 : b = i
    · subst e1; rw [if_pos rfl, sw_right]
    · rw [if_neg e1]
      by_cases e2 : a = i
      · subst e2; rw [if_pos rfl, sw_left]
      · rw [if_neg e2, sw_other (Ne.symm e2) (Ne.symm e1)]
  rw [el]
  refine ⟨H.get_set_same .., fun i hi => ?_, fun i j hi hj e => ?_, g.hR, g.ltR, fun i hi => g.hρ _ (sw_lt ha hb hi), fun i hi => g.ltρ _ (sw_lt ha hb hi), fun i hi => g.ne _ (sw_lt ha hb hi)⟩
  · rw [H.get_set_ne _ (g.ne _ (sw_lt ha hb hi))]
    exact g.row _ (sw_lt ha hb hi)
  · exact sw_inj.1 (g.inj _ _ (sw_lt ha hb hi) (sw_lt ha hb hj) e)
theorem Gc.same (g : Gc h R n c ρ κ τ f lo) (e : ∀ id, h'.get id = h.get id) (en : h'.next = h.next) : Gc h' R n c ρ κ τ f lo :=
  ⟨(e R).trans g.gR, fun i hi => (e _).trans (g.row i hi), g.inj, g.hR, by rw [en]; exact g.ltR, g.hρ, fun i hi => by rw [en]; exact g.ltρ i hi, g.ne⟩
theorem set_twice (h : H) (R : Nat) (a b : Option Ob) : ∀ id, ((h.set R a).set R b).get id = (h.set R b).get id := fun id => by
  rw [H.get_set, H.get_set, H.get_set]
  split <;> rfl
def upN {α : Type} (ρ : Nat → α) (i : Nat) (x : α) : Nat → α := fun j => if j = i then x else ρ j
theorem own_open {w : V} {l : List Int} {b : Nat} (o : Own h w 1 (ints l) b) (hl : 0 < l.length) : ∃ id cap rest, w = .sl id 0 l.length cap ∧ b ≤ id ∧ id < h.next ∧ h.get id = some (.cells false (ints l ++ rest)) := by
  rcases o with ⟨_, h0⟩ | ⟨id, m, cap, rest, h1, h2, _, h3, h4, h5⟩
  · have : (ints l).length = 0 := by rw [h0]; rfl
    rw [ints_length] at this; omega
  · rw [ints_length, Nat.mul_one] at h2
    subst h2
    exact ⟨id, cap, rest, h1, h3, h4, h5⟩
/-- A new row takes a place. -/
theorem Gc.rowset (g : Gc h R n c ρ κ τ f lo) (F : Fr h h') {i : Nat} (hi : i < n) {u : Nat → Int} {id : Nat} {cap : Cap} {rest : List V} (h1 : h.next ≤ id) (h2 : id < h'.next) (h3 : h'.get id = some (.cells false (ints (mkV c u) ++ rest))) :
    Gc (h'.set R (some (.cells false (((List.range n).map fun i => V.sl (ρ i) 0 c (κ i)).set i (.sl id 0 c cap))))) R n c (upN ρ i id) (upN κ i cap) (upN τ i rest) (fun a k => if a = i then u k else f a k) lo := by
  have g' := g.fr F
  have lR := g.ltR
  have el : ((List.range n).map fun i => V.sl (ρ i) 0 c (κ i)).set i (.sl id 0 c cap) = (List.range n).map fun j => V.sl (upN ρ i id j) 0 c (upN κ i cap j) := by
    refine List.ext_getElem (by simp) fun j _ _ => ?_
    rw [List.getElem_set, List.getElem_map, List.getElem_map, List.getElem_range]
    simp only [upN]
    by_cases e : i = j
    · subst e; simp
    · rw [if_neg e, if_neg (Ne.symm e), if_neg (Ne.symm e)]
  rw [el]
  have hne : id ≠ R := by omega
  refine ⟨H.get_set_same .., fun j hj => ?_, fun a b ha hb e => ?_, g.hR, g'.ltR, fun j hj => ?_, fun j hj => ?_, fun j hj => ?_⟩
  · simp only [upN]
    by_cases e : j = i
    · subst e
      simp only [if_true]
      rw [H.get_set_ne _ hne]; exact h3
    · simp only [if_neg e]
      rw [H.get_set_ne _ (g.ne j hj)]; exact g'.row j hj
  · simp only [upN] at e
    have la := g.ltρ a ha
    have lb := g.ltρ b hb
    by_cases e1 : a = i
    · by_cases e2 : b = i
      · omega
      · rw [if_pos e1, if_neg e2] at e; omega
    · by_cases e2 : b = i
      · rw [if_neg e1, if_pos e2] at e; omega
      · rw [if_neg e1, if_neg e2] at e
        exact g.inj a b ha hb e
  · simp only [upN]
    split
    · exact Nat.le_trans (Nat.le_trans g.hR (Nat.le_of_lt lR)) h1
    · exact g.hρ j hj
  · simp only [upN]
    split
    · exact h2
    · exact g'.ltρ j hj
  · simp only [upN]
    split
    · exact hne
    · exact g.ne j hj
end
end Go.Proofs.Ytonhijbeddcmpaa

/- Layer 4: bent. -/
namespace Go.Proofs.Ytonhijbeddcmpaa
open Go Go.Ay
set_option maxRecDepth 100000
/-- The first i rows are laid. -/
structure Gp (h : H) (R n c i : Nat) (ρ : Nat → Nat) (f : Nat → Nat → Int) (lo : Nat) : Prop where
  gR : h.get R = some (.cells false ((List.range n).map fun j => if j < i then V.sl (ρ j) 0 c (.un 1) else .nils))
  row : ∀ j, j < i → h.get (ρ j) = some (.cells false (ints (mkV c (f j))))
  inj : ∀ a b, a < i → b < i → ρ a = ρ b → a = b
  hR : lo ≤ R
  ltR : R < h.next
  hρ : ∀ j, j < i → R < ρ j
  ltρ : ∀ j, j < i → ρ j < h.next
theorem Gp.zero {h : H} {R n c : Nat} {f : Nat → Nat → Int} {lo : Nat} (g : h.get R = some (.cells false (List.replicate n .nils))) (h1 : lo ≤ R) (h2 : R < h.next) : Gp h R n c 0 (fun _ => 0) f lo :=
  ⟨by rw [g]; congr 2; refine List.ext_getElem (by simp) fun i _ _ => ?_; simp, fun j hj => absurd hj (Nat.not_lt_zero j), fun a b ha => absurd ha (Nat.not_lt_zero a), h1, h2, fun j hj => absurd hj (Nat.not_lt_zero j), fun j hj => absurd hj (Nat.not_lt_zero j)⟩
theorem Gp.step {h h' : H} {R n c i : Nat} {ρ : Nat → Nat} {f : Nat → Nat → Int} {lo : Nat} (g : Gp h R n c i ρ f lo) (hi : i < n) (F : Fr h h') {id : Nat} (h1 : h.next ≤ id) (h2 : id < h'.next) (h3 : h'.get id = some (.cells false (ints (mkV c (f i))))) :
    putO (h'.get R) h' R i [.sl id 0 c (.un 1)] = some (h'.set R (some (.cells false (((List.range n).map fun j => if j < i then V.sl (ρ j) 0 c (.un 1) else .nils).set i (.sl id 0 c (.un 1)))))) ∧
    Gp (h'.set R (some (.cells false (((List.range n).map fun j => if j < i then V.sl (ρ j) 0 c (.un 1) else .nils).set i (.sl id 0 c (.un 1)))))) R n c (i + 1) (upN ρ i id) f lo := by
  have lR := g.ltR
  have gR' := (F.get R lR).trans g.gR
  refine ⟨by rw [gR', putO_one (by simpa using hi)], ?_⟩
  have el : ((List.range n).map fun j => if j < i then V.sl (ρ j) 0 c (.un 1) else .nils).set i (.sl id 0 c (.un 1)) = (List.range n).map fun j => if j < i + 1 then V.sl (upN ρ i id j) 0 c (.un 1) else .nils := by
    refine List.ext_getElem (by simp) fun j _ _ => ?_
    rw [List.getElem_set, List.getElem_map, List.getElem_map, List.getElem_range]
    simp only [upN]
    by_cases e : i = j
    · subst e; simp
    · rw [if_neg e, if_neg (Ne.symm e)]
      by_cases e2 : j < i
      · rw [if_pos e2, if_pos (by omega)]
      · rw [if_neg e2, if_neg (by omega)]
  rw [el]
  have hne : id ≠ R := by omega
  refine ⟨H.get_set_same .., fun j hj => ?_, fun a b ha hb e => ?_, g.hR, Nat.lt_of_lt_of_le lR F.next, fun j hj => ?_, fun j hj => ?_⟩
  · simp only [upN]
    by_cases e : j = i
    · subst e; rw [if_pos rfl, H.get_set_ne _ hne]; exact h3
    · have := g.hρ j (by omega)
      rw [if_neg e, H.get_set_ne _ (by omega)]
      exact (F.get _ (g.ltρ j (by omega))).trans (g.row j (by omega))
  · simp only [upN] at e
    by_cases e1 : a = i
    · by_cases e2 : b = i
      · omega
      · have := g.ltρ b (by omega)
        rw [if_pos e1, if_neg e2] at e; omega
    · have := g.ltρ a (by omega)
      by_cases e2 : b = i
      · rw [if_neg e1, if_pos e2] at e; omega
      · rw [if_neg e1, if_neg e2] at e
        exact g.inj a b (by omega) (by omega) e
  · simp only [upN]
    split
    · omega
    · exact g.hρ j (by omega)
  · simp only [upN]
    split
    · exact h2
    · exact Nat.lt_of_lt_of_le (g.ltρ j (by omega)) F.next
theorem Gp.done {h : H} {R n c : Nat} {ρ : Nat → Nat} {f : Nat → Nat → Int} {lo : Nat} (g : Gp h R n c n ρ f lo) : Gc h R n c ρ (fun _ => .un 1) (fun _ => []) f lo := by
  refine ⟨?_, fun i hi => by rw [List.append_nil]; exact g.row i hi, g.inj, g.hR, g.ltR, fun i hi => Nat.le_trans g.hR (Nat.le_of_lt (g.hρ i hi)), g.ltρ, fun i hi => by have := g.hρ i hi; omega⟩
  rw [g.gR]
  congr 2
  refine List.ext_getElem (by simp) fun j h1 _ => ?_
  simp only [List.length_map, List.length_range] at h1
  rw [List.getElem_map, List.getElem_map, List.getElem_range, if_pos h1]
theorem add_mod' {p a b c d : Int} (h : a % p = b % p) (k : c % p = d % p) : (a + c) % p = (b + d) % p := by
  rw [Int.add_emod, h, k, ← Int.add_emod]
theorem shear_eq {p f : Int} {n k c : Nat} {B : Mx} (hb : ∀ i j, i < n → j < n → 0 ≤ B i j ∧ B i j < p) (hk : k < n) (hc : c < n) {i j : Nat} (hi : i < n) (hj : j < n) :
    (if j = c then ((if i = k then (B k c + (p - f) * B c c) % p else B i c) + f * (if i = k then (B k k + (p - f) * B c k) % p else B i k)) % p else (if i = k then (B k j + (p - f) * B c j) % p else B i j)) = shear B k c f i j % p := by
  have em : ∀ z : Int, z % p % p = z % p := fun z => Int.emod_emod_of_dvd _ (Int.dvd_refl p)
  have e1 : ∀ x y : Int, (x + (p - f) * y) % p = (x - f * y) % p := fun x y => by
    rw [show x + (p - f) * y = (x - f * y) + p * y by grind, Int.add_mul_emod_self_left]
  simp only [shear]
  by_cases h1 : i = k
  · rw [if_pos h1, if_pos h1, if_pos h1, if_pos h1, if_pos h1]
    by_cases h2 : j = c
    · rw [if_pos h2, if_pos h2, h2]
      exact add_mod' (by rw [em, e1]) (mul_mod rfl (by rw [em, e1]))
    · rw [if_neg h2, if_neg h2, Int.add_zero, e1]
  · rw [if_neg h1, if_neg h1, if_neg h1, if_neg h1, if_neg h1]
    by_cases h2 : j = c
    · rw [if_pos h2, if_pos h2, h2]
    · rw [if_neg h2, if_neg h2, Int.add_zero]
      have := hb i j hi hj
      exact (Int.emod_eq_of_lt this.1 this.2).symm
set_option maxHeartbeats 8000000 in
theorem bent_ok (va : V) (a : Mat) (n : Nat) (h : H) (ha : MatV h va a) (da : Vd a n) (hsq : a.2.length = n) :
    Ev T n_matrix_bent [va] h (fun v h' => ∃ R B, v = .sl R 0 n (.kn n) ∧ SR h' v (mkR n n B) ∧ Bnt a.1 n (ent a.2) n B ∧ Fr h h') := by
  obtain ⟨ua, rfl, hua⟩ := ha
  obtain ⟨p, A⟩ := a
  simp only at hua hsq
  have wa := SV.what hua.choose_spec.1
  have hfp := da.p
  have hp := fieldF_range hfp
  have hP : isP p = true := by simp only [fieldF, Bool.and_eq_true] at hfp; exact hfp.2
  have hn1 := da.r1
  have hn2 := da.r2
  simp only at hp hn1 hn2 hfp
  rw [hsq] at hn1 hn2
  refine Ev_of t_matrix_bent rfl ?_
  simp (disch := first | omega | (simp only [Qn] <;> omega)) only [go_sem, c_matrix_bent, initV_eq, boxV_agg2 h (v := .int .i64 p) rfl wa.2.1]
  have hfx : Fr h (h.new (.cells false [.int .i64 p, ua])) := (Fr.refl h).new _
  have hgx : (h.new (.cells false [.int .i64 p, ua])).get h.next = some (.cells false [.int .i64 p, ua]) := H.get_new_same ..
  have hnx : (h.new (.cells false [.int .i64 p, ua])).next = h.next + 1 := H.next_new ..
  generalize h.new (.cells false [.int .i64 p, ua]) = hx at *
  have x0 : hx.cell h.next 0 = some (.int .i64 p) := by rw [H.cell_of hgx]; rfl
  have x1 : hx.cell h.next 1 = some ua := by rw [H.cell_of hgx]; rfl
  have lu := hua.lens
  rw [hsq] at lu
  have fb0 : Fr hx (H.mk hx.tr (h.next + 1 + 7)) := (Fr.refl hx).bump (by omega)
  have emk : mksV (H.mk hx.tr (h.next + 1 + 7)) 1 24 [.nils] (.int .i64 (n : Int)) (.int .i64 (n : Int)) = some (.sl (h.next + 1 + 7) 0 n (.kn n), (H.mk hx.tr (h.next + 1 + 7)).new (.cells false (List.replicate n .nils))) := by
    rw [mksV_int (by omega) (Int.le_refl _) (by omega) (by omega), Int.toNat_natCast, Nat.mul_one]
    congr 4
    refine List.ext_getElem (by simp [zerosV]) fun i _ _ => ?_
    simp [zerosV, Nat.mod_one]
  simp (disch := first | omega | (simp only [Qn] <;> omega)) only [go_sem, x0, x1, lu, emk]
  have nb0 : (H.mk hx.tr (h.next + 1 + 7)).next = h.next + 1 + 7 := rfl
  generalize H.mk hx.tr (h.next + 1 + 7) = hb at *
  rw [← nb0]
  have hfm : Fr hb (hb.new (.cells false (List.replicate n .nils))) := (Fr.refl hb).new _
  have hgm : (hb.new (.cells false (List.replicate n .nils))).get hb.next = some (.cells false (List.replicate n .nils)) := H.get_new_same ..
  have hnm : (hb.new (.cells false (List.replicate n .nils))).next = hb.next + 1 := H.next_new ..
  generalize hb.new (.cells false (List.replicate n .nils)) = hm at *
  have Fm : Fr hx hm := fb0.trans hfm
  have G0 : Gp hm hb.next n n 0 (fun _ => 0) (ent A) hx.next := Gp.zero hgm (by omega) (by omega)
  have Fh : Fr h hm := hfx.trans Fm
  have x1m : hm.cell h.next 1 = some ua := by rw [Fm.cell (by omega)]; exact x1
  obtain ⟨ida, offa, wsa, sa, hida, hwla, hca, halla⟩ := (hua.mono Fh).open
  rw [hsq] at sa hida hwla hca
  obtain ⟨R, hR⟩ : ∃ R, hb.next = R := ⟨_, rfl⟩
  rw [hR] at G0 hnm
  rw [hR]
  refine Wp_loop (fun k' vars h3 => ∃ (i : Nat) (ρ : Nat → Nat), (∃ g : Nat → V, vars = [g 0, g 1, g 2, .int .i64 p, .int .i64 (n : Int), .sl R 0 n (.kn n), g 6, g 7, g 8, g 9, g 10, g 11, g 12, g 13, g 14, ua, .int .i64 (n : Int), .int .i64 (i : Int), g 18, g 19, g 20, g 21, g 22, g 23, g 24, g 25, g 26, g 27, g 28, g 29, g 30, g 31, g 32]) ∧ i ≤ n ∧ Gp h3 R n n i ρ (ent A) hx.next ∧ Fr hx h3 ∧ SR h3 ua A ∧ k' = n - i) n
    ⟨0, _, ex_junk rfl, Nat.zero_le _, G0, Fm, hua.mono Fh, rfl⟩ ?_
  clear G0 Fm Fh x1m ida offa wsa sa hida hwla hca halla
  rintro k' vars h3 ⟨i, ρ, ⟨g, rfl⟩, hi, G3, F3, s3, rfl⟩
  simp (disch := first | omega | (simp only [Qn] <;> omega)) only [go_sem]
  by_cases hlt : (i : Int) < (n : Int)
  · rw [decide_eq_true hlt]
    obtain ⟨ida, offa, wsa, sa, hida, hwla, hca, halla⟩ := s3.open
    rw [hsq] at sa hida hwla hca
    have ri := row_at halla (i := i) (by omega)
    have lri : (A.getD i []).length = n := da.row i (by simp only; omega)
    have eri : A.getD i [] = mkV n (ent A i) := mkV_eq lri fun k _ => rfl
    rw [eri] at ri
    simp (disch := first | omega | (simp only [Qn] <;> omega)) only [go_sem, sa.ixa, hca i (by omega)]
    refine (clone_ok _ _ h3 ri (by rw [mkV_len]; omega)).mono ?_
    rintro v h4 ⟨_, f4, hcp⟩
    obtain ⟨id, rfl, h41, h42, h43⟩ := hcp (by rw [mkV_len]; omega)
    rw [mkV_len]
    obtain ⟨pt, G4⟩ := G3.step (by omega) f4 h41 h42 h43
    simp (disch := first | omega | (simp only [Qn] <;> omega)) only [go_sem, pt]
    have ltR := G3.ltR
    have hRl := G3.hR
    refine ⟨n - (i + 1), by omega, i + 1, _, ex_junk rfl, by omega, G4, (F3.trans f4).set hRl _, ?_, rfl⟩
    exact (hua.mono hfx).mono ((F3.trans f4).set hRl _)
  rw [decide_eq_false hlt]
  obtain rfl : n = i := by omega
  simp (disch := first | omega | (simp only [Qn] <;> omega)) only [go_sem]
  have F3' := F3
  have ltR := G3.ltR
  have hRl := G3.hR
  have hA : ∀ i j, i < n → j < n → 0 ≤ ent A i j ∧ ent A i j < p := fun i j hi hj => ⟨da.lo i j (by simp only; omega) hj, da.hi i j (by simp only; omega) hj⟩
  refine Wp_loop (fun k' vars h3 => ∃ (c : Nat) (ρ : Nat → Nat) (κ : Nat → Cap) (τ : Nat → List V) (B : Mx), (∃ g : Nat → V, vars = [g 0, g 1, g 2, .int .i64 p, .int .i64 (n : Int), .sl R 0 n (.kn n), g 6, g 7, g 8, g 9, g 10, g 11, g 12, g 13, g 14, g 15, g 16, g 17, g 18, .int .i64 (n : Int), .int .i64 (c : Int), g 21, g 22, g 23, g 24, g 25, g 26, g 27, g 28, g 29, g 30, g 31, g 32]) ∧ c ≤ n ∧ Gc h3 R n n ρ κ τ B hx.next ∧ Bnt p n (ent A) c B ∧ Fr hx h3 ∧ k' = n - c) n
    ⟨0, ρ, _, _, ent A, ex_junk rfl, Nat.zero_le _, G3.done, Bnt.start hA fun _ _ _ _ => rfl, F3, rfl⟩ ?_
  clear G3 F3 s3 F3'
  rintro k' vars h3 ⟨c, ρ, κ, τ, B, ⟨g, rfl⟩, hc, G, Bn, F, rfl⟩
  simp (disch := first | omega | (simp only [Qn] <;> omega)) only [go_sem]
  by_cases hlt : (c : Int) < (n : Int)
  · rw [decide_eq_true hlt]
    simp (disch := first | omega | (simp only [Qn] <;> omega)) only [go_sem]
    rw [show (c : Int) + 1 = ((c + 1 : Nat) : Int) from by omega]
    refine Wp_loop (fun k' vars h4 => h4 = h3 ∧ ∃ r : Nat, (∃ g : Nat → V, vars = [g 0, g 1, g 2, .int .i64 p, .int .i64 (n : Int), .sl R 0 n (.kn n), g 6, g 7, .int .i64 (c : Int), .int .i64 (r : Int), g 10, g 11, g 12, g 13, g 14, g 15, g 16, g 17, g 18, .int .i64 (n : Int), .int .i64 (c : Int), g 21, g 22, g 23, g 24, g 25, g 26, g 27, g 28, g 29, g 30, g 31, g 32]) ∧ c + 1 ≤ r ∧ r ≤ n ∧ (∀ i, c + 1 ≤ i → i < r → B i c = 0) ∧ k' = n - r) (n - (c + 1))
      ⟨rfl, c + 1, ex_junk rfl, Nat.le_refl _, by omega, fun i h1 h2 => by omega, rfl⟩ ?_
    rintro k' vars h4 ⟨rfl, r, ⟨g, rfl⟩, hr1, hr2, hz, rfl⟩
    simp (disch := first | omega | (simp only [Qn] <;> omega)) only [go_sem]
    by_cases hrn : (r : Int) < (n : Int)
    · rw [decide_eq_true hrn]
      simp (disch := first | omega | (simp only [Qn] <;> omega)) only [go_sem, G.cR r (by omega), G.cρ r c (by omega) (by omega)]
      by_cases hB : B r c = 0
      · rw [decide_eq_true hB]
        simp (disch := first | omega | (simp only [Qn] <;> omega)) only [go_sem]
        rw [show (r : Int) + 1 = ((r + 1 : Nat) : Int) from by omega]
        refine ⟨n - (r + 1), by omega, r + 1, ex_junk rfl, by omega, by omega, fun i h1 h2 => ?_, rfl⟩
        by_cases e : i = r
        · rw [e]; exact hB
        · exact hz i h1 (by omega)
      rw [decide_eq_false hB]
      simp (disch := first | omega | (simp only [Qn] <;> omega)) only [go_sem]
      rw [decide_eq_false (show ¬ (n : Int) ≤ (r : Int) by omega)]
      have tn : ((c : Int) + 1).toNat = c + 1 := by omega
      have fb : Fr h4 (H.mk h4.tr (h4.next + 18)) := (Fr.refl h4).bump (by omega)
      have G5 := G.fr fb
      have F5 := F.trans fb
      have hr : r < n := by omega
      have hc1 : c + 1 < n := by omega
      have hs1 := fun hh => stV_one (y := V.sl (ρ (c + 1)) 0 n (κ (c + 1))) rfl rfl hh R r
      have hs2 := fun hh => stV_one (y := V.sl (ρ r) 0 n (κ r)) rfl rfl hh R (c + 1)
      have pt1 := fun hh => putO_one (vs := (List.range n).map fun i => V.sl (ρ i) 0 n (κ i)) (off := r) (by simpa using hr) hh R (V.sl (ρ (c + 1)) 0 n (κ (c + 1)))
      have pt2 := fun hh => putO_one (vs := ((List.range n).map fun i => V.sl (ρ i) 0 n (κ i)).set r (V.sl (ρ (c + 1)) 0 n (κ (c + 1)))) (off := c + 1) (by simpa using hc1) hh R (V.sl (ρ r) 0 n (κ r))
      simp (disch := first | omega | (simp only [Qn] <;> omega)) only [go_sem, tn, G.cR (c + 1) (by omega), G.cR r (by omega), G5.gR, hs1, hs2, pt1, pt2]
      have G6 := (G5.swap hr hc1).same (h' := (((H.mk h4.tr (h4.next + 18)).set R (some (.cells false (((List.range n).map fun i => V.sl (ρ i) 0 n (κ i)).set r (.sl (ρ (c + 1)) 0 n (κ (c + 1))))))).set R (some (.cells false ((((List.range n).map fun i => V.sl (ρ i) 0 n (κ i)).set r (.sl (ρ (c + 1)) 0 n (κ (c + 1)))).set (c + 1) (.sl (ρ r) 0 n (κ r))))))) (set_twice _ _ _ _) rfl
      have F6 := (F5.set hRl (some (.cells false (((List.range n).map fun i => V.sl (ρ i) 0 n (κ i)).set r (.sl (ρ (c + 1)) 0 n (κ (c + 1))))))).set hRl (some (.cells false ((((List.range n).map fun i => V.sl (ρ i) 0 n (κ i)).set r (.sl (ρ (c + 1)) 0 n (κ (c + 1)))).set (c + 1) (.sl (ρ r) 0 n (κ r)))))
      generalize ((H.mk h4.tr (h4.next + 18)).set R (some (.cells false (((List.range n).map fun i => V.sl (ρ i) 0 n (κ i)).set r (.sl (ρ (c + 1)) 0 n (κ (c + 1))))))).set R (some (.cells false ((((List.range n).map fun i => V.sl (ρ i) 0 n (κ i)).set r (.sl (ρ (c + 1)) 0 n (κ (c + 1)))).set (c + 1) (.sl (ρ r) 0 n (κ r))))) = h6 at *
      clear G G5 F F5 fb hs1 hs2 pt1 pt2
      have eB : ∀ k, k = r → B (sw r (c + 1) (c + 1)) c ≠ 0 := fun k _ => by rw [sw_right]; exact hB
      generalize (fun i => ρ (sw r (c + 1) i)) = ρ at *
      generalize (fun i => κ (sw r (c + 1) i)) = κ at *
      generalize (fun i => τ (sw r (c + 1) i)) = τ at *
      refine Wp_loop (fun k' vars h3 => ∃ (i : Nat), (∃ g : Nat → V, vars = [g 0, g 1, g 2, .int .i64 p, .int .i64 (n : Int), .sl R 0 n (.kn n), g 6, g 7, .int .i64 (c : Int), .int .i64 (r : Int), g 10, g 11, g 12, g 13, g 14, g 15, g 16, g 17, g 18, .int .i64 (n : Int), .int .i64 (c : Int), g 21, g 22, g 23, .sl R 0 n (.kn n), .int .i64 (n : Int), .int .i64 (i : Int), g 27, g 28, g 29, g 30, g 31, g 32]) ∧ i ≤ n ∧ Gc h3 R n n ρ κ τ (fun a b => if a < i then B (sw r (c + 1) a) (sw r (c + 1) b) else B (sw r (c + 1) a) b) hx.next ∧ Fr hx h3 ∧ k' = n - i) n
        ⟨0, ex_junk rfl, Nat.zero_le _, G6.congr fun a b _ _ => by rw [if_neg (Nat.not_lt_zero a)], F6, rfl⟩ ?_
      clear G6 F6
      rintro k' vars h7 ⟨i, ⟨g, rfl⟩, hi, G, F, rfl⟩
      simp (disch := first | omega | (simp only [Qn] <;> omega)) only [go_sem]
      by_cases hin : (i : Int) < (n : Int)
      · rw [decide_eq_true hin]
        have hi' : i < n := by omega
        have fb : Fr h7 (H.mk h7.tr (h7.next + 18)) := (Fr.refl h7).bump (by omega)
        have G5 := G.fr fb
        have F5 := F.trans fb
        obtain ⟨p1, G7⟩ := G5.put hi' hr (B (sw r (c + 1) i) (c + 1))
        obtain ⟨p2, G8⟩ := G7.put hi' hc1 (B (sw r (c + 1) i) r)
        have y1 := G.cρ i (c + 1) hi' hc1
        have y2 := G.cρ i r hi' hr
        have hρl := G.hρ i hi'
        simp only [if_neg (Nat.lt_irrefl i)] at y1 y2
        replace p1 : putO (h7.get (ρ i)) (H.mk h7.tr (h7.next + 18)) (ρ i) r [.int .i64 (B (sw r (c + 1) i) (c + 1))] = _ := p1
        rw [H.get_set_same] at p2
        simp (disch := first | omega | (simp only [Qn] <;> omega)) only [go_sem, tn, G.cR i hi', y1, y2, p1, p2]
        rw [show (i : Int) + 1 = ((i + 1 : Nat) : Int) from by omega]
        refine ⟨n - (i + 1), by omega, i + 1, ex_junk rfl, by omega, G8.congr fun a b ha hb => ?_, (F5.set hρl _).set hρl _, rfl⟩
        simp only [upF]
        by_cases e : a = i
        · subst e
          rw [if_pos (show a < a + 1 by omega)]
          simp only [true_and, if_neg (Nat.lt_irrefl a)]
          by_cases e1 : b = c + 1
          · rw [if_pos e1, e1, sw_right]
          · rw [if_neg e1]
            by_cases e2 : b = r
            · rw [if_pos e2, e2, sw_left]
            · rw [if_neg e2, sw_other e2 e1]
        · rw [if_neg (fun h => e h.1), if_neg (fun h => e h.1)]
          by_cases e3 : a < i
          · rw [if_pos e3, if_pos (by omega)]
          · rw [if_neg e3, if_neg (by omega)]
      rw [decide_eq_false hin]
      obtain rfl : n = i := by omega
      have Bs : Bnt p n (ent A) c (fun a b => B (sw r (c + 1) a) (sw r (c + 1) b)) := Bn.swap hr hc1 hr1 fun _ _ _ _ => rfl
      have G := G.congr (f' := fun a b => B (sw r (c + 1) a) (sw r (c + 1) b)) fun a b ha _ => if_pos ha
      have hp0 : (fun a b => B (sw r (c + 1) a) (sw r (c + 1) b)) (c + 1) c ≠ 0 := by
        simp only
        rw [sw_right, sw_other (show c ≠ r by omega) (show c ≠ c + 1 by omega)]; exact hB
      clear Bn eB hB hz
      generalize (fun a b => B (sw r (c + 1) a) (sw r (c + 1) b)) = B at *
      have pv := Bs.rng (c + 1) c hc1 (by omega)
      simp (disch := first | omega | (simp only [Qn] <;> omega)) only [go_sem, tn, G.cR (c + 1) hc1, G.cρ (c + 1) c hc1 (by omega)]
      refine (inv_ok (B (c + 1) c) p h7 hP hp.2 (by omega)).mono ?_
      rintro v h8 ⟨x, rfl, x1, x2, x3, f8⟩
      replace G := G.fr f8
      replace F := F.trans f8
      simp (disch := first | omega | (simp only [Qn] <;> omega)) only [go_sem, List.getElem?_cons_zero, List.getElem?_cons_succ]
      rw [show (c : Int) + 2 = ((c + 2 : Nat) : Int) from by omega]
      refine Wp_loop (fun k' vars h3 => ∃ (k : Nat) (ρ : Nat → Nat) (κ : Nat → Cap) (τ : Nat → List V) (B : Mx), (∃ g : Nat → V, vars = [g 0, g 1, g 2, .int .i64 p, .int .i64 (n : Int), .sl R 0 n (.kn n), g 6, g 7, .int .i64 (c : Int), g 9, g 10, .int .i64 x, .int .i64 (k : Int), g 13, g 14, g 15, g 16, g 17, g 18, .int .i64 (n : Int), .int .i64 (c : Int), g 21, g 22, g 23, g 24, g 25, g 26, g 27, g 28, g 29, g 30, g 31, g 32]) ∧ c + 2 ≤ k ∧ k ≤ n ∧ Gc h3 R n n ρ κ τ B hx.next ∧ Bnt p n (ent A) c B ∧ x * B (c + 1) c % p = 1 ∧ (∀ i, c + 1 < i → i < k → B i c = 0) ∧ Fr hx h3 ∧ k' = n - k) (n - (c + 2))
        ⟨c + 2, ρ, κ, τ, B, ex_junk rfl, Nat.le_refl _, by omega, G, Bs, x3, fun i h1 h2 => by omega, F, rfl⟩ ?_
      clear G F Bs x3 pv hp0 f8
      rintro k' vars h9 ⟨k, ρ, κ, τ, B, ⟨g, rfl⟩, hk1, hk2, G, Bs, x3, hz, F, rfl⟩
      simp (disch := first | omega | (simp only [Qn] <;> omega)) only [go_sem]
      by_cases hkn : (k : Int) < (n : Int)
      · rw [decide_eq_true hkn]
        have hk : k < n := by omega
        have hb := Bs.rng
        have b1 := mul_bound (hb k c hk (by omega)).1 (hb k c hk (by omega)).2 (show 0 ≤ x by omega) x2 hp.2
        have em := nonneg_tmod (p := p) b1.1
        have rf := tmod_range (B k c * x) (show 0 < p by omega)
        have fb : Fr h9 (H.mk h9.tr (h9.next + 19)) := (Fr.refl h9).bump (by omega)
        have G5 := G.fr fb
        have F5 := F.trans fb
        have n5 : (H.mk h9.tr (h9.next + 19)).next = h9.next + 19 := rfl
        simp (disch := first | omega | (simp only [Qn] <;> omega)) only [go_sem, tn, G.cR k hk, G.cR (c + 1) hc1, G.cρ k c hk (by omega), em]
        generalize H.mk h9.tr (h9.next + 19) = h10 at *
        obtain ⟨f, hf⟩ : ∃ f, B k c * x % p = f := ⟨_, rfl⟩
        rw [hf] at rf
        rw [hf]
        refine (plus_ok p (p - f) h10).mono ?_
        rintro w h11 ⟨ix, ip, rfl, cx, cp, lx, lp, f11⟩
        have G6 := G5.fr f11
        have F6 := F5.trans f11
        simp (disch := first | omega | (simp only [Qn] <;> omega)) only [go_sem, G6.cR k hk, G6.cR (c + 1) hc1, eqV_sl]
        refine (zip_ok _ _ _ _ _ (fun a b => (a + (p - f) * b) % p) h11 (G6.si hk) (G6.si hc1) (by rw [mkV_len, mkV_len]; exact Nat.le_refl _) (by rw [mkV_len]; omega) fun h' f' j hj => ?_).mono ?_
        · rw [mkV_len] at hj
          rw [mkV_get _ hj, mkV_get _ hj]
          have a1 := hb (c + 1) j hc1 hj
          have a2 := hb k j hk hj
          have b1 := Int.mul_nonneg (show 0 ≤ p - f by omega) a1.1
          have b2 := Int.mul_le_mul (show p - f ≤ 20000 by omega) (Int.le_of_lt a1.2) a1.1 (by omega)
          exact plus1_ok ix ip p (p - f) _ _ h' (by rw [f'.cell lx.2]; exact cx) (by rw [f'.cell lp.2]; exact cp) (by omega) (by omega) (by omega) (by omega)
        rintro w h12 ⟨o12, f12⟩
        rw [zip_mkV (mkV_len n _)] at o12
        obtain ⟨id, cap, rest, rfl, i1, i2, i3⟩ := own_open o12 (by rw [mkV_len]; omega)
        rw [mkV_len]
        have G7 := G6.rowset f12 hk (cap := cap) i1 i2 i3
        have F7 := (F6.trans f12).set hRl (some (.cells false (((List.range n).map fun i => V.sl (ρ i) 0 n (κ i)).set k (.sl id 0 n cap))))
        have G6' := G6.fr f12
        have hs := fun hh => stV_one (y := V.sl id 0 n cap) rfl rfl hh R k
        have pt := fun hh => putO_one (vs := (List.range n).map fun i => V.sl (ρ i) 0 n (κ i)) (off := k) (by simpa using hk) hh R (V.sl id 0 n cap)
        simp (disch := first | omega | (simp only [Qn] <;> omega)) only [go_sem, G6'.gR, hs, pt]
        generalize h12.set R (some (.cells false (((List.range n).map fun i => V.sl (ρ i) 0 n (κ i)).set k (.sl id 0 n cap)))) = h13 at *
        obtain ⟨C, hC⟩ : ∃ C : Mx, C = fun a b => if a = k then (B k b + (p - f) * B (c + 1) b) % p else B a b := ⟨_, rfl⟩
        have eC : ∀ a b, C a b = if a = k then (B k b + (p - f) * B (c + 1) b) % p else B a b := fun a b => by rw [hC]
        have rC : ∀ a b, a < n → b < n → 0 ≤ C a b ∧ C a b < p := fun a b ha hb2 => by
          rw [eC]
          split
          · exact tmod_range _ (by omega)
          · exact hb a b ha hb2
        have G8 := G7.congr (f' := fun a b => if a < 0 ∧ b = c + 1 then (C a (c + 1) + f * C a k) % p else C a b) fun a b _ hb2 => by
          rw [show (if a < 0 ∧ b = c + 1 then (C a (c + 1) + f * C a k) % p else C a b) = C a b from if_neg (fun h => Nat.not_lt_zero a h.1), eC]
          by_cases e : a = k
          · rw [if_pos e, if_pos e, mkV_get _ hb2]
          · rw [if_neg e, if_neg e]
        clear G7 G6 G6' G5 G F6 F5 F hs pt i3 o12 cx cp
        generalize upN ρ k id = ρ' at *
        generalize upN κ k cap = κ' at *
        generalize upN τ k rest = τ' at *
        refine Wp_loop (fun k' vars h3 => ∃ (i : Nat), (∃ g : Nat → V, vars = [g 0, g 1, g 2, .int .i64 p, .int .i64 (n : Int), .sl R 0 n (.kn n), g 6, g 7, .int .i64 (c : Int), g 9, g 10, .int .i64 x, .int .i64 (k : Int), .int .i64 f, g 14, g 15, g 16, g 17, g 18, .int .i64 (n : Int), .int .i64 (c : Int), g 21, g 22, g 23, g 24, g 25, g 26, g 27, g 28, .sl R 0 n (.kn n), .int .i64 (n : Int), .int .i64 (i : Int), g 32]) ∧ i ≤ n ∧ Gc h3 R n n ρ' κ' τ' (fun a b => if a < i ∧ b = c + 1 then (C a (c + 1) + f * C a k) % p else C a b) hx.next ∧ Fr hx h3 ∧ k' = n - i) n
          ⟨0, ex_junk rfl, Nat.zero_le _, G8, F7, rfl⟩ ?_
        clear G8 F7
        rintro k' vars h14 ⟨i, ⟨g, rfl⟩, hi, G, F, rfl⟩
        simp (disch := first | omega | (simp only [Qn] <;> omega)) only [go_sem]
        by_cases hin : (i : Int) < (n : Int)
        · rw [decide_eq_true hin]
          have hi' : i < n := by omega
          have fb : Fr h14 (H.mk h14.tr (h14.next + 19)) := (Fr.refl h14).bump (by omega)
          have G5 := G.fr fb
          have F5 := F.trans fb
          obtain ⟨p1, G7⟩ := G5.put hi' hc1 ((C i (c + 1) + f * C i k) % p)
          have y1 := G.cρ i (c + 1) hi' hc1
          have y2 := G.cρ i k hi' hk
          have hρl := G.hρ i hi'
          rw [if_neg (fun h => Nat.lt_irrefl i h.1)] at y1 y2
          replace p1 : putO (h14.get (ρ' i)) (H.mk h14.tr (h14.next + 19)) (ρ' i) (c + 1) [.int .i64 ((C i (c + 1) + f * C i k) % p)] = _ := p1
          have b1 := mul_bound rf.1 rf.2 (rC i k hi' hk).1 (rC i k hi' hk).2 hp.2
          have b2 := rC i (c + 1) hi' hc1
          have em := nonneg_tmod (a := C i (c + 1) + f * C i k) (p := p) (by omega)
          simp (disch := first | omega | (simp only [Qn] <;> omega)) only [go_sem, tn, G.cR i hi', y1, y2, em, p1]
          rw [show (i : Int) + 1 = ((i + 1 : Nat) : Int) from by omega]
          refine ⟨n - (i + 1), by omega, i + 1, ex_junk rfl, by omega, G7.congr fun a b ha hb2 => ?_, F5.set hρl _, rfl⟩
          simp only [upF]
          by_cases e : a = i ∧ b = c + 1
          · rw [if_pos e, if_pos ⟨by omega, e.2⟩, e.1]
          · rw [if_neg e]
            by_cases e3 : a < i ∧ b = c + 1
            · rw [if_pos e3, if_pos ⟨by omega, e3.2⟩]
            · rw [if_neg e3, if_neg (fun h => e3 ⟨by omega, h.2⟩)]
        rw [decide_eq_false hin]
        obtain rfl : n = i := by omega
        simp (disch := first | omega | (simp only [Qn] <;> omega)) only [go_sem]
        rw [show (k : Int) + 1 = ((k + 1 : Nat) : Int) from by omega]
        have sh : ∀ a b, a < n → b < n → (if a < n ∧ b = c + 1 then (C a (c + 1) + f * C a k) % p else C a b) = shear B k (c + 1) f a b % p := fun a b ha hb2 => by
          rw [← shear_eq hb hk hc1 ha hb2]
          by_cases e : b = c + 1
          · rw [if_pos ⟨ha, e⟩, if_pos e, eC, eC]
          · rw [if_neg (fun h => e h.2), if_neg e, eC]
        subst hf
        obtain ⟨z1, z2⟩ := shear_col (by omega) hk (show c + 1 < k by omega) hb x3 sh
        refine ⟨n - (k + 1), by omega, k + 1, ρ', κ', τ', _, ex_junk rfl, by omega, by omega, G, Bs.shear (by omega) hk (by omega) _ sh, ?_, fun i h1 h2 => ?_, F, rfl⟩
        · rw [z2 (c + 1) hc1 (by omega)]; exact x3
        · by_cases e : i = k
          · rw [e]; exact z1
          · rw [z2 i (by omega) e]; exact hz i h1 (by omega)
      rw [decide_eq_false hkn]
      simp (disch := first | omega | (simp only [Qn] <;> omega)) only [go_sem]
      rw [show (c : Int) + 1 = ((c + 1 : Nat) : Int) from by omega]
      exact ⟨n - (c + 1), by omega, c + 1, ρ, κ, τ, B, ex_junk rfl, by omega, G, Bs.skip fun i h1 h2 => hz i h1 (by omega), F, rfl⟩
    rw [decide_eq_false hrn]
    simp (disch := first | omega | (simp only [Qn] <;> omega)) only [go_sem]
    rw [decide_eq_true (show (n : Int) ≤ (r : Int) by omega)]
    simp (disch := first | omega | (simp only [Qn] <;> omega)) only [go_sem]
    rw [show (c : Int) + 1 = ((c + 1 : Nat) : Int) from by omega]
    refine ⟨n - (c + 1), by omega, c + 1, ρ, κ, τ, B, ex_junk rfl, by omega, G, Bn.skip fun i h1 h2 => hz i (by omega) (by omega), F, rfl⟩
  rw [decide_eq_false hlt]
  obtain rfl : n = c := by omega
  simp (disch := first | omega | (simp only [Qn] <;> omega)) only [go_sem]
  exact ⟨R, B, rfl, G.sr _, Bn, hfx.trans F⟩
end Go.Proofs.Ytonhijbeddcmpaa

/- Layer 4: Poly. -/
namespace Go.Proofs.Ytonhijbeddcmpaa
open Go Go.Ay
set_option maxRecDepth 100000
theorem cpy_ok {h : H} {N o : Nat} {cap : Cap} {y : V} {l : List Int} {vs : List V} (hs : SI h y l) (h0 : 0 < l.length) (hg : h.get N = some (.cells false vs)) (hl : o + l.length ≤ vs.length) :
    cpyV h 1 (.sl N o l.length cap) y = some (.int .i64 (l.length : Int), h.set N (some (.cells false (vs.take o ++ ints l ++ vs.drop (o + l.length))))) := by
  have hsl := SV.slice hs
  have hlen := hs.len
  rcases hs with ⟨_, e⟩ | ⟨id, off, len, c2, ro, ws, rfl, h2, h3, h4, h5, h6⟩
  · have : (ints l).length = 0 := by rw [e]; rfl
    rw [ints_length] at this; omega
  · simp only [lenV, Option.some.injEq] at hlen
    subst hlen
    simp only [H.slice] at hsl
    simp only [cpyV, lenV, Nat.min_self, hsl, H.put, hg, putAt, ints_length]
    rw [if_pos hl]
    rfl
/-- What 'next' holds after d steps. -/
def nxP (B : Mx) (k d q : Nat) : Int := shf (chp k B) q - B k k * chp k B q - sm d (fun e => B (k - 1 - e) k * belB B k (e + 1) * chp (k - 1 - e) B q)
theorem nxP_succ (B : Mx) (k d q : Nat) : nxP B k (d + 1) q = nxP B k d q - B (k - 1 - d) k * belB B k (d + 1) * chp (k - 1 - d) B q := by
  simp only [nxP, sm_succ]; omega
theorem step_mod {p a x y z w : Int} (ha : a = x % p) (hz : z % p = w % p) : (a + (p - z) * (y % p)) % p = (x - w * y) % p := by
  have em : ∀ z : Int, z % p % p = z % p := fun z => Int.emod_emod_of_dvd _ (Int.dvd_refl p)
  rw [show a + (p - z) * (y % p) = (a - z * (y % p)) + p * (y % p) by grind, Int.add_mul_emod_self_left, Int.sub_emod, Int.sub_emod x, ha, em]
  rw [mul_mod hz (em y)]
noncomputable def PolyF (a : Mat) : List Int × Int := if sqF a ≠ 0 then ([], sqF a) else (mkV (a.2.length + 1) (fun q => chp a.2.length (ent a.2) q % a.1), 0)
theorem trunc {n : Nat} {B : Mx} {p : Int} {A : Mx} (b : Bnt p n A n B) : ∃ B', (mkR n n B' = mkR n n B) ∧ Bnt p n A n B' ∧ (∀ i j, j + 1 < i → B' i j = 0) := by
  refine ⟨fun i j => if i < n ∧ j < n then B i j else 0, mkR_congr fun i j hi hj => if_pos ⟨hi, hj⟩, b.congr (fun i j hi hj => if_pos ⟨hi, hj⟩) (Nat.le_refl _), fun i j h => ?_⟩
  simp only
  split
  · rename_i h2; exact b.low i j h2.1 h2.2 h
  · rfl
theorem slc_one (N k : Nat) : slcV 1 (.sl N 0 (k + 2) (.kn (k + 2))) (some (.int .i64 1)) none none = some (.sl N 1 (k + 1) (.kn (k + 1))) := by
  simp only [slcV, bndV]
  rw [if_pos ⟨by omega, by omega⟩]
  simp only [Int.toNat_one]
  rw [if_pos (by omega), if_neg (by omega)]
  simp only [Nat.zero_add, Nat.mul_one]
  rw [show k + 2 - 1 = k + 1 by omega]
theorem bls_row (h : H) {v : V} (hv : v.cells = [v]) (hv1 : v.one = true) : blsV h 1 [.nils] 1 [(0, 1, v)] = some (.sl h.next 0 1 (.kn 1), h.new (.cells false [v])) := by
  have e : zerosV [V.nils] 1 = [.nils] := rfl
  simp [blsV, fillV, e, hv, hv1, putAt]
theorem bls_i1 (h : H) (x : Int) : blsV h 1 [.int .i64 0] 1 [(0, 1, .int .i64 x)] = some (.sl h.next 0 1 (.kn 1), h.new (.cells false (ints [x]))) := by
  have e : zerosV [V.int .i64 0] 1 = [.int .i64 0] := rfl
  simp [blsV, fillV, e, putAt, V.cells, V.one, ints]
/-- The rows of 'polys'. -/
def plR (p : Int) (B : Mx) (k : Nat) : List (List Int) := (List.range k).map fun j => mkV (j + 1) (fun q => chp j B q % p)
theorem plR_succ (p : Int) (B : Mx) (k : Nat) : plR p B (k + 1) = plR p B k ++ [mkV (k + 1) (fun q => chp k B q % p)] := by
  simp [plR, List.range_succ]
theorem plR_get {p : Int} {B : Mx} {k j : Nat} (h : j < k) : (plR p B k).getD j [] = mkV (j + 1) (fun q => chp j B q % p) := by
  rw [plR, List.getD_eq_getElem?_getD, List.getElem?_map, List.getElem?_range h]; rfl
theorem plR_len (p : Int) (B : Mx) (k : Nat) : (plR p B k).length = k := by simp [plR]
set_option maxHeartbeats 16000000 in
theorem Poly_ok (va : V) (a : Mat) (h : H) (ha : MatV h va a) (la : (a.2.length : Int) ≤ 2 ^ 63 - 1) : Ev T n_matrix_Poly [va] h (fun v h' => ∃ w, v = .tup [w, .int .i64 (PolyF a).2] ∧ SI h' w (PolyF a).1 ∧ Fr h h') := by
  obtain ⟨ua, rfl, hua⟩ := ha
  refine Ev_of t_matrix_Poly rfl ?_
  have wa := SV.what hua.choose_spec.1
  simp (disch := first | omega | (simp only [Qn] <;> omega)) only [go_sem, c_matrix_Poly, initV_eq, boxV_agg2 h (v := .int .i64 a.1) rfl wa.2.1]
  have hfx : Fr h (h.new (.cells false [.int .i64 a.1, ua])) := (Fr.refl h).new _
  have hgx : (h.new (.cells false [.int .i64 a.1, ua])).get h.next = some (.cells false [.int .i64 a.1, ua]) := H.get_new_same ..
  have hnx : (h.new (.cells false [.int .i64 a.1, ua])).next = h.next + 1 := H.next_new ..
  generalize h.new (.cells false [.int .i64 a.1, ua]) = hx at *
  simp (disch := first | omega | (simp only [Qn] <;> omega)) only [go_sem, row_two hgx]
  refine (square_ok _ a hx ⟨ua, rfl, hua.mono hfx⟩ la).mono ?_
  rintro v h5 ⟨rfl, f5⟩
  have F5 := hfx.trans f5
  have gx5 := (f5.get h.next (by omega)).trans hgx
  have n5 := f5.next
  simp (disch := first | omega | (simp only [Qn] <;> omega)) only [go_sem]
  refine iteW_dec (fun he => ?_) (fun he => ?_)
  · simp (disch := first | omega | (simp only [Qn] <;> omega)) only [go_sem]
    have e : PolyF a = ([], sqF a) := by rw [PolyF, if_pos he]
    rw [e]
    exact ⟨_, rfl, SI.nils _, F5⟩
  have hz : sqF a = 0 := Classical.byContradiction he
  have da := sq_vd hz
  have hp := fieldF_range da.p
  have hn1 := da.r1
  have hn2 := da.r2
  obtain ⟨n, hn⟩ : ∃ n, a.2.length = n := ⟨_, rfl⟩
  rw [hn] at hn1 hn2
  have fb : Fr h5 (H.mk h5.tr (h5.next + 6)) := (Fr.refl h5).bump (by omega)
  have x0 : h5.cell h.next 0 = some (.int .i64 a.1) := by rw [H.cell_of gx5]; rfl
  simp (disch := first | omega | (simp only [Qn] <;> omega)) only [go_sem, row_two gx5, x0]
  generalize H.mk h5.tr (h5.next + 6) = h6 at *
  have F6 := F5.trans fb
  have gx6 := (fb.get h.next (by omega)).trans gx5
  simp (disch := first | omega | (simp only [Qn] <;> omega)) only [go_sem, row_two gx6]
  refine (bent_ok _ a n h6 ⟨ua, rfl, hua.mono F6⟩ (by rw [← hn]; exact da) hn).mono ?_
  rintro v h7 ⟨RB, B0, rfl, sB, bn0, f7⟩
  have F7 := F6.trans f7
  have y0 : h7.cell h.next 0 = some (.int .i64 a.1) := by rw [(fb.trans f7).cell (by omega)]; exact x0
  simp (disch := first | omega | (simp only [Qn] <;> omega)) only [go_sem, y0]
  obtain ⟨B, eB, bn, hB⟩ := trunc bn0
  rw [← eB] at sB
  clear bn0 eB
  have br := bls_row (h7.new (.cells false (ints [1]))) (v := .sl h7.next 0 1 (.kn 1)) rfl rfl
  simp (disch := first | omega | (simp only [Qn] <;> omega)) only [go_sem, bls_i1, br]
  have hfi : Fr h7 (h7.new (.cells false (ints [1]))) := (Fr.refl h7).new _
  have hgi : (h7.new (.cells false (ints [1]))).get h7.next = some (.cells false (ints [1])) := H.get_new_same ..
  have hni : (h7.new (.cells false (ints [1]))).next = h7.next + 1 := H.next_new ..
  generalize h7.new (.cells false (ints [1])) = hi at *
  have hfj : Fr hi (hi.new (.cells false [.sl h7.next 0 1 (.kn 1)])) := (Fr.refl hi).new _
  have hgj : (hi.new (.cells false [.sl h7.next 0 1 (.kn 1)])).get hi.next = some (.cells false [.sl h7.next 0 1 (.kn 1)]) := H.get_new_same ..
  have hnj : (hi.new (.cells false [.sl h7.next 0 1 (.kn 1)])).next = hi.next + 1 := H.next_new ..
  generalize hi.new (.cells false [.sl h7.next 0 1 (.kn 1)]) = hj at *
  obtain ⟨p, hpe⟩ : ∃ p, a.1 = p := ⟨_, rfl⟩
  rw [hpe] at hp bn
  have R0 : Rws hj (.sl hi.next 0 1 (.kn 1)) [.sl h7.next 0 1 (.kn 1)] (plR p B 1) h7.next := by
    have e : plR p B 1 = [[1]] := by
      simp only [plR, List.range_succ, List.range_zero, List.nil_append, List.map_cons, List.map_nil]
      show [[chp 0 B 0 % p]] = [[1]]
      rw [chp_zero, if_pos rfl, one_mod (by omega)]
    rw [e]
    have gi := (hfj.get h7.next (by omega)).trans hgi
    refine ⟨.inr ⟨hi.next, 1, .kn 1, [], rfl, rfl, .inr ⟨rfl, rfl⟩, by omega, by omega, hgj⟩, ⟨SI.own (l := [1]) (by omega) gi _, trivial⟩, fun w hw => ?_, fun w hw => ?_⟩
    · rw [List.mem_singleton.1 hw]
      intro _ _ _ _ e1 _ _ _ _ e2
      cases e1; cases e2; omega
    · rw [List.mem_singleton.1 hw]
      intro _ _ _ _ e2
      cases e2; exact Nat.le_refl _
  have f7j := hfi.trans hfj
  have rwB : ∀ i, i < (mkR n n B).length → ((mkR n n B).getD i []).length = n := fun i hi => by rw [mkR_len] at hi; rw [mkR_row _ hi, mkV_len]
  have lB : lensV (.sl RB 0 n (.kn n)) = some (.int .i64 (n : Int)) := rfl
  have hb := bn.rng
  obtain ⟨idb, offb, wsb, ρb, ob, RDB⟩ := SR.rd sB rwB
  rw [hpe, ← hni]
  refine Wp_loop (fun k' vars h3 => ∃ (k : Nat) (u : V) (ws : List V), (∃ g : Nat → V, vars = [g 0, g 1, g 2, g 3, g 4, .int .i64 p, .sl RB 0 n (.kn n), u, g 8, g 9, g 10, g 11, g 12, g 13, g 14, g 15, g 16, g 17, g 18, .int .i64 (n : Int), .int .i64 (k : Int), g 21, g 22, g 23, g 24, g 25, g 26, g 27, g 28, g 29, g 30]) ∧ k ≤ n ∧ Rws h3 u ws (plR p B (k + 1)) h7.next ∧ Fr h7 h3 ∧ k' = n - k) n
    ⟨0, _, _, ex_junk rfl, Nat.zero_le _, R0, f7j, rfl⟩ ?_
  clear R0 f7j hfi hfj hgi hgj hni hnj
  rintro k' vars h3 ⟨k, u, ws, ⟨g, rfl⟩, hk, R3, f3, rfl⟩
  simp (disch := first | omega | (simp only [Qn] <;> omega)) only [go_sem]
  obtain ⟨idp, offp, wsp, sp, hidp, hwlp, hcp, hallp⟩ := R3.sr.open
  rw [plR_len] at sp hidp hwlp hcp
  by_cases hlt : (k : Int) < (n : Int)
  · rw [decide_eq_true hlt]
    have hk' : k < n := by omega
    have emk : mksV h3 1 8 [.int .i64 0] (.int .i64 ((k : Int) + 2)) (.int .i64 ((k : Int) + 2)) = some (.sl h3.next 0 (k + 2) (.kn (k + 2)), h3.new (.cells false (ints (List.replicate (k + 2) 0)))) := by
      rw [show (k : Int) + 2 = ((k + 2 : Nat) : Int) from by omega, mksV_int (by omega) (Int.le_refl _) (by omega) (by omega), Int.toNat_natCast, Nat.mul_one, zeros_int]
    obtain ⟨Z, hZ⟩ : ∃ Z, List.replicate (k + 2) (0 : Int) = Z := ⟨_, rfl⟩
    rw [hZ] at emk
    have lZ : Z.length = k + 2 := by rw [← hZ, List.length_replicate]
    have ck : (h3.new (.cells false (ints Z))).cell idp (offp + k) = some (wsp.getD k .undef) := by rw [((Fr.refl h3).new _).cell (hidp (by omega))]; exact hcp k (by omega)
    have rk0 := row_at hallp (i := k) (by rw [plR_len]; omega)
    rw [plR_get (by omega)] at rk0
    have rk := rk0.mono ((Fr.refl h3).new (.cells false (ints Z)))
    have cp := cpy_ok rk (N := h3.next) (vs := ints Z) (by rw [mkV_len]; omega) (H.get_new_same ..) (o := 1) (cap := .kn (k + 1)) (by rw [mkV_len, ints_length]; omega)
    rw [mkV_len] at cp
    obtain ⟨o0, ho0, lo0, vo0⟩ : ∃ o0, (ints Z).take 1 ++ ints (mkV (k + 1) (fun q => chp k B q % p)) ++ (ints Z).drop (1 + (k + 1)) = ints o0 ∧ o0.length = k + 2 ∧ ∀ q, q < k + 2 → o0.getD q 0 = (shf (chp k B) q - (if q < 0 then B k k * chp k B q else 0)) % p := by
      refine ⟨0 :: mkV (k + 1) (fun q => chp k B q % p), ?_, by rw [List.length_cons, mkV_len], fun q hq => ?_⟩
      · rw [ints_take, ints_drop, ← ints_append, ← ints_append, List.drop_eq_nil_of_le (by omega), List.append_nil, ← hZ]
        rfl
      · rw [if_neg (Nat.not_lt_zero q), Int.sub_zero]
        cases q with
        | zero => simp [shf]
        | succ q =>
          rw [List.getD_cons_succ, mkV_get _ (by omega)]
          simp [shf]
    rw [ho0] at cp
    simp (disch := first | omega | (simp only [Qn] <;> omega)) only [go_sem, emk, sp.ixa, ck, slc_one, cp, rk.lens, mkV_len]
    have g5 : ((h3.new (.cells false (ints Z))).set h3.next (some (.cells false (ints o0)))).get h3.next = some (.cells false (ints o0)) := H.get_set_same ..
    have f5 : Fr h3 ((h3.new (.cells false (ints Z))).set h3.next (some (.cells false (ints o0)))) := ((Fr.refl h3).new _).set (Nat.le_refl _) _
    have n5' : ((h3.new (.cells false (ints Z))).set h3.next (some (.cells false (ints o0)))).next = h3.next + 1 := rfl
    generalize (h3.new (.cells false (ints Z))).set h3.next (some (.cells false (ints o0))) = h5' at *
    obtain ⟨N, hN⟩ : ∃ N, h3.next = N := ⟨_, rfl⟩
    rw [hN] at g5 n5'
    rw [hN]
    clear rk cp ck emk ho0
    have lk : mkV (k + 1) (fun q => chp k B q % p) = mkV (k + 1) (fun q => chp k B q % p) := rfl
    try rw [show (k : Int) + 1 = ((k + 1 : Nat) : Int) from by omega]
    have hbk := hb k k hk' hk'
    refine Wp_loop (fun k' vars hh => ∃ (i : Nat) (o : List Int), (∃ g : Nat → V, vars = [g 0, g 1, g 2, g 3, g 4, .int .i64 p, .sl RB 0 n (.kn n), u, .int .i64 (k : Int), .sl N 0 (k + 2) (.kn (k + 2)), g 10, g 11, g 12, g 13, g 14, g 15, g 16, g 17, g 18, .int .i64 (n : Int), .int .i64 (k : Int), g 21, wsp.getD k .undef, .int .i64 ((k + 1 : Nat) : Int), .int .i64 (i : Int), g 25, g 26, g 27, g 28, g 29, g 30]) ∧ i ≤ k + 1 ∧ o.length = k + 2 ∧ (∀ q, q < k + 2 → o.getD q 0 = (shf (chp k B) q - (if q < i then B k k * chp k B q else 0)) % p) ∧ hh.get N = some (.cells false (ints o)) ∧ N + 1 ≤ hh.next ∧ Fr h3 hh ∧ k' = k + 1 - i) (k + 1)
      ⟨0, o0, ex_junk rfl, Nat.zero_le _, lo0, vo0, g5, by omega, f5, rfl⟩ ?_
    clear g5 f5 n5' lo0 vo0 lk
    rintro k' vars h6' ⟨i, o, ⟨g, rfl⟩, hi, lo, vo, g6, n6, f6, rfl⟩
    simp (disch := first | omega | (simp only [Qn] <;> omega)) only [go_sem]
    by_cases hik : (i : Int) < ((k + 1 : Nat) : Int)
    · rw [decide_eq_true hik]
      have ri := rk0.mono f6
      obtain ⟨idr, offr, sr, hidr, hcr⟩ := ri.open
      rw [mkV_len] at sr hidr hcr
      have hci := hcr i (by omega)
      rw [mkV_get _ (by omega)] at hci
      have RB6 := RDB.fr (f3.trans f6)
      have kl : k < (mkR n n B).length := by rw [mkR_len]; exact hk'
      have eb := RB6.ent k k kl hk'
      rw [mkR_ent _ hk' hk'] at eb
      have oi : h6'.cell N i = some (.int .i64 (o.getD i 0)) := by rw [H.cell_of g6, ints_getD (by omega)]
      have vi := vo i (by omega)
      rw [if_neg (Nat.lt_irrefl i), Int.sub_zero] at vi
      have ro := tmod_range (shf (chp k B) i) (show 0 < p by omega)
      rw [← vi] at ro
      have rx := tmod_range (chp k B i) (show 0 < p by omega)
      have b1 := Int.mul_nonneg (show 0 ≤ p - B k k by omega) rx.1
      have b2 := Int.mul_le_mul (show p - B k k ≤ 20000 by omega) (Int.le_of_lt rx.2) rx.1 (by omega)
      have em := nonneg_tmod (a := o.getD i 0 + (p - B k k) * (chp k B i % p)) (p := p) (by omega)
      have fb6 : Fr h6' (H.mk h6'.tr (h6'.next + 22)) := (Fr.refl h6').bump (by omega)
      simp (disch := first | omega | (simp only [Qn] <;> omega)) only [go_sem, sr.ixa, hci, RB6.sl.ixa, RB6.at_ k kl, (RB6.rsl k kl).ixa, eb, oi, em, g6]
      rw [show (i : Int) + 1 = ((i + 1 : Nat) : Int) from by omega]
      refine ⟨k + 1 - (i + 1), by omega, i + 1, o.set i ((o.getD i 0 + (p - B k k) * (chp k B i % p)) % p), ex_junk rfl, by omega, by rw [List.length_set]; exact lo, fun q hq => ?_, rfl, by omega, (f6.trans fb6).set (by omega) _, rfl⟩
      rw [getD_set]
      by_cases e : i = q
      · subst e
        rw [if_pos rfl, if_pos (by omega), if_pos (by omega)]
        exact step_mod vi rfl
      · rw [if_neg e, vo q hq]
        by_cases e2 : q < i
        · rw [if_pos e2, if_pos (by omega)]
        · rw [if_neg e2, if_neg (by omega)]
    rw [decide_eq_false hik]
    obtain rfl : k + 1 = i := by omega
    simp (disch := first | omega | (simp only [Qn] <;> omega)) only [go_sem]
    have vo1 : ∀ q, q < k + 2 → o.getD q 0 = nxP B k 0 q % p := fun q hq => by
      rw [vo q hq, nxP]
      by_cases e : q < k + 1
      · rw [if_pos e]; simp [sm]
      · rw [if_neg e, chp_high k B q (by omega)]; simp [sm]
    clear vo
    have b0 : (1 : Int) = belB B k 0 % p := by rw [belB, one_mod (by omega)]
    rw [show (k : Int) - 1 = (k : Int) - 1 - ((0 : Nat) : Int) from by omega]
    refine Wp_loop (fun k' vars hh => ∃ (d : Nat) (bl : Int) (o : List Int), (∃ g : Nat → V, vars = [g 0, g 1, g 2, g 3, g 4, .int .i64 p, .sl RB 0 n (.kn n), u, .int .i64 (k : Int), .sl N 0 (k + 2) (.kn (k + 2)), g 10, g 11, g 12, .int .i64 bl, .int .i64 ((k : Int) - 1 - (d : Int)), g 15, g 16, g 17, g 18, .int .i64 (n : Int), .int .i64 (k : Int), g 21, g 22, g 23, g 24, g 25, g 26, g 27, g 28, g 29, g 30]) ∧ bl = belB B k d % p ∧ d ≤ k ∧ o.length = k + 2 ∧ (∀ q, q < k + 2 → o.getD q 0 = nxP B k d q % p) ∧ hh.get N = some (.cells false (ints o)) ∧ N + 1 ≤ hh.next ∧ Fr h3 hh ∧ k' = k - d) k
      ⟨0, 1, o, ex_junk rfl, b0, Nat.zero_le _, lo, vo1, g6, n6, f6, rfl⟩ ?_
    clear g6 n6 f6 lo vo1 b0
    rintro k' vars h8 ⟨d, bl, o, ⟨g, rfl⟩, rfl, hd, lo, vo, g8, n8, f8, rfl⟩
    simp (disch := first | omega | (simp only [Qn] <;> omega)) only [go_sem]
    by_cases hdk : 0 ≤ (k : Int) - 1 - (d : Int)
    · rw [decide_eq_true hdk]
      obtain ⟨j, hj⟩ : ∃ j : Nat, (k : Int) - 1 - (d : Int) = (j : Int) := ⟨((k : Int) - 1 - (d : Int)).toNat, by omega⟩
      rw [hj]
      have hjk : j < k := by omega
      have tn : ((j : Int) + 1).toNat = j + 1 := by omega
      have RB8 := RDB.fr (f3.trans f8)
      have jl : j < (mkR n n B).length := by rw [mkR_len]; omega
      have jl1 : j + 1 < (mkR n n B).length := by rw [mkR_len]; omega
      have e1 := RB8.ent (j + 1) j jl1 (by omega)
      rw [mkR_ent _ (by omega) (by omega)] at e1
      have e2 := RB8.ent j k jl hk'
      rw [mkR_ent _ (by omega) (by omega)] at e2
      have r1 := hb (j + 1) j (by omega) (by omega)
      have r2 := hb j k (by omega) hk'
      have r0 := tmod_range (belB B k d) (show 0 < p by omega)
      have m1 := mul_bound r0.1 r0.2 r1.1 r1.2 hp.2
      have em1 := nonneg_tmod (p := p) m1.1
      have eb1 : belB B k d % p * B (j + 1) j % p = belB B k (d + 1) % p := by
        rw [belB, show k - d - 1 = j by omega, show k - d = j + 1 by omega, Int.mul_emod, Int.emod_emod_of_dvd _ (Int.dvd_refl p), ← Int.mul_emod]
      rw [eb1] at em1
      have r3 := tmod_range (belB B k (d + 1)) (show 0 < p by omega)
      have m2 := mul_bound r2.1 r2.2 r3.1 r3.2 hp.2
      have em2 := nonneg_tmod (p := p) m2.1
      have rf := tmod_range (B j k * (belB B k (d + 1) % p)) (show 0 < p by omega)
      have cj : h8.cell idp (offp + j) = some (wsp.getD j .undef) := by rw [f8.cell (hidp (by omega))]; exact hcp j (by omega)
      have rj0 := row_at hallp (i := j) (by rw [plR_len]; omega)
      rw [plR_get (by omega)] at rj0
      have lj := (rj0.mono f8).lens
      rw [mkV_len] at lj
      simp (disch := first | omega | (simp only [Qn] <;> omega)) only [go_sem, tn, RB8.sl.ixa, RB8.at_ (j + 1) jl1, (RB8.rsl (j + 1) jl1).ixa, e1, em1, RB8.at_ j jl, (RB8.rsl j jl).ixa, e2, em2, sp.ixa, cj, lj]
      obtain ⟨f, hf⟩ : ∃ f, B j k * (belB B k (d + 1) % p) % p = f := ⟨_, rfl⟩
      rw [hf] at rf
      rw [hf]
      have hfm : f % p = (B (k - 1 - d) k * belB B k (d + 1)) % p := by
        rw [← hf, Int.emod_emod_of_dvd _ (Int.dvd_refl p), show k - 1 - d = j by omega]
        exact mul_mod rfl (Int.emod_emod_of_dvd _ (Int.dvd_refl p))
      clear RB8 e1 e2 em1 em2 m1 m2 eb1 cj lj r0 r1 r2 r3
      refine Wp_loop (fun k' vars hh => ∃ (i : Nat) (o : List Int), (∃ g : Nat → V, vars = [g 0, g 1, g 2, g 3, g 4, .int .i64 p, .sl RB 0 n (.kn n), u, .int .i64 (k : Int), .sl N 0 (k + 2) (.kn (k + 2)), g 10, g 11, g 12, .int .i64 (belB B k (d + 1) % p), .int .i64 (j : Int), .int .i64 f, g 16, g 17, g 18, .int .i64 (n : Int), .int .i64 (k : Int), g 21, g 22, g 23, g 24, g 25, g 26, wsp.getD j .undef, .int .i64 ((j + 1 : Nat) : Int), .int .i64 (i : Int), g 30]) ∧ i ≤ j + 1 ∧ o.length = k + 2 ∧ (∀ q, q < k + 2 → o.getD q 0 = (if q < i then nxP B k (d + 1) q else nxP B k d q) % p) ∧ hh.get N = some (.cells false (ints o)) ∧ N + 1 ≤ hh.next ∧ Fr h3 hh ∧ k' = j + 1 - i) (j + 1)
        ⟨0, o, ex_junk rfl, Nat.zero_le _, lo, fun q hq => by rw [vo q hq, if_neg (Nat.not_lt_zero q)], g8, n8, f8, rfl⟩ ?_
      clear g8 n8 f8 lo vo
      rintro k' vars h9 ⟨i, o, ⟨g, rfl⟩, hi, lo, vo, g9, n9, f9, rfl⟩
      simp (disch := first | omega | (simp only [Qn] <;> omega)) only [go_sem]
      by_cases hij : (i : Int) < ((j + 1 : Nat) : Int)
      · rw [decide_eq_true hij]
        have ri := rj0.mono f9
        obtain ⟨idr, offr, sr, hidr, hcr⟩ := ri.open
        rw [mkV_len] at sr hidr hcr
        have hci := hcr i (by omega)
        rw [mkV_get _ (by omega)] at hci
        have oi : h9.cell N i = some (.int .i64 (o.getD i 0)) := by rw [H.cell_of g9, ints_getD (by omega)]
        have vi := vo i (by omega)
        rw [if_neg (Nat.lt_irrefl i)] at vi
        have ro := tmod_range (nxP B k d i) (show 0 < p by omega)
        rw [← vi] at ro
        have rx := tmod_range (chp j B i) (show 0 < p by omega)
        have b1 := Int.mul_nonneg (show 0 ≤ p - f by omega) rx.1
        have b2 := Int.mul_le_mul (show p - f ≤ 20000 by omega) (Int.le_of_lt rx.2) rx.1 (by omega)
        have em := nonneg_tmod (a := o.getD i 0 + (p - f) * (chp j B i % p)) (p := p) (by omega)
        simp (disch := first | omega | (simp only [Qn] <;> omega)) only [go_sem, sr.ixa, hci, oi, em, g9]
        rw [show (i : Int) + 1 = ((i + 1 : Nat) : Int) from by omega]
        refine ⟨j + 1 - (i + 1), by omega, i + 1, o.set i ((o.getD i 0 + (p - f) * (chp j B i % p)) % p), ex_junk rfl, by omega, by rw [List.length_set]; exact lo, fun q hq => ?_, rfl, by omega, f9.set (by omega) _, rfl⟩
        rw [getD_set]
        by_cases e : i = q
        · subst e
          rw [if_pos rfl, if_pos (by omega), if_pos (by omega), nxP_succ, show k - 1 - d = j by omega]
          rw [show k - 1 - d = j by omega] at hfm
          exact step_mod vi hfm
        · rw [if_neg e, vo q hq]
          by_cases e2 : q < i
          · rw [if_pos e2, if_pos (by omega)]
          · rw [if_neg e2, if_neg (by omega)]
      rw [decide_eq_false hij]
      obtain rfl : j + 1 = i := by omega
      simp (disch := first | omega | (simp only [Qn] <;> omega)) only [go_sem]
      refine ⟨k - (d + 1), by omega, d + 1, _, o, ?_, rfl, by omega, lo, fun q hq => ?_, g9, n9, f9, rfl⟩
      · rw [show (k : Int) - 1 - ((d + 1 : Nat) : Int) = (j : Int) - 1 from by omega]
        exact ex_junk rfl
      · rw [vo q hq]
        by_cases e : q < j + 1
        · rw [if_pos e]
        · rw [if_neg e, nxP_succ, show k - 1 - d = j by omega, chp_high j B q (by omega), Int.mul_zero, Int.sub_zero]
    rw [decide_eq_false hdk]
    obtain rfl : k = d := by omega
    have br := bls_row h8 (v := .sl N 0 (k + 2) (.kn (k + 2))) rfl rfl
    have eo : o = mkV (k + 1 + 1) (fun q => chp (k + 1) B q % p) := mkV_eq lo fun q hq => by
      rw [vo q (by omega), chp_bent hB k q (by omega)]; rfl
    subst eo
    simp (disch := first | omega | (simp only [Qn] <;> omega)) only [go_sem, br]
    have hf9 : Fr h8 (h8.new (.cells false [.sl N 0 (k + 2) (.kn (k + 2))])) := (Fr.refl h8).new _
    have hg9 : (h8.new (.cells false [.sl N 0 (k + 2) (.kn (k + 2))])).get h8.next = some (.cells false [.sl N 0 (k + 2) (.kn (k + 2))]) := H.get_new_same ..
    have hn9 : (h8.new (.cells false [.sl N 0 (k + 2) (.kn (k + 2))])).next = h8.next + 1 := H.next_new ..
    generalize h8.new (.cells false [.sl N 0 (k + 2) (.kn (k + 2))]) = h9 at *
    have ow : Own h9 (.sl N 0 (k + 2) (.kn (k + 2))) 1 (ints (mkV (k + 1 + 1) (fun q => chp (k + 1) B q % p))) h3.next := .inr ⟨N, k + 2, _, [], rfl, by rw [ints_length, mkV_len, Nat.mul_one], .inr ⟨rfl, rfl⟩, by omega, by omega, by rw [List.append_nil]; exact (hf9.get N (by omega)).trans g8⟩
    have sy : SV h9 (.sl h8.next 0 1 (.kn 1)) 1 [.sl N 0 (k + 2) (.kn (k + 2))] := SV.all rfl (by omega) hg9 _
    have nl := f3.next
    have hlen := R3.row.length
    rw [plR_len] at hlen
    obtain ⟨h10, e10, R10, _, _, _, q10⟩ := (R3.fr (f8.trans hf9)).app' (by omega) sy ow.sv (Own.dis R3.own ow) (Frs.le (Frs.own ow) nl) (by omega)
    simp (disch := first | omega | (simp only [Qn] <;> omega)) only [go_sem, e10]
    rw [show (k : Int) + 1 = ((k + 1 : Nat) : Int) from by omega]
    rw [← plR_succ] at R10
    exact ⟨n - (k + 1), by omega, k + 1, _, _, ex_junk rfl, by omega, R10, q10 h7 (f3.trans (f8.trans hf9)) (Nat.le_refl _), rfl⟩
  rw [decide_eq_false hlt]
  obtain rfl : n = k := by omega
  simp (disch := first | omega | (simp only [Qn] <;> omega)) only [go_sem, lB, sp.ixa, hcp n (by omega)]
  have rk := row_at hallp (i := n) (by rw [plR_len]; omega)
  rw [plR_get (by omega)] at rk
  have e : PolyF a = (mkV (n + 1) (fun q => chp n B q % p), 0) := by
    rw [PolyF, if_neg (by simp [hz]), hn, hpe]
    congr 1
    exact mkV_congr fun q hq => (bn.chp q hq).symm
  rw [e]
  exact ⟨_, rfl, rk, F7.trans f3⟩
end Go.Proofs.Ytonhijbeddcmpaa

/- Layer 4: Trace. -/
namespace Go.Proofs.Ytonhijbeddcmpaa
open Go Go.Ay
set_option maxRecDepth 100000
def TraceF (a : Mat) : Int × Int := if sqF a ≠ 0 then (0, sqF a) else (sm a.2.length (fun i => ent a.2 i i) % a.1, 0)
set_option maxHeartbeats 8000000 in
theorem Trace_ok (va : V) (a : Mat) (h : H) (ha : MatV h va a) (la : (a.2.length : Int) ≤ 2 ^ 63 - 1) : Ev T n_matrix_Trace [va] h (fun v h' => v = .tup [.int .i64 (TraceF a).1, .int .i64 (TraceF a).2] ∧ Fr h h') := by
  obtain ⟨ua, rfl, hua⟩ := ha
  refine Ev_of t_matrix_Trace rfl ?_
  have wa := SV.what hua.choose_spec.1
  simp (disch := first | omega | (simp only [Qn] <;> omega)) only [go_sem, c_matrix_Trace, initV_eq, boxV_agg2 h (v := .int .i64 a.1) rfl wa.2.1]
  have hfx : Fr h (h.new (.cells false [.int .i64 a.1, ua])) := (Fr.refl h).new _
  have hgx : (h.new (.cells false [.int .i64 a.1, ua])).get h.next = some (.cells false [.int .i64 a.1, ua]) := H.get_new_same ..
  have hnx : (h.new (.cells false [.int .i64 a.1, ua])).next = h.next + 1 := H.next_new ..
  generalize h.new (.cells false [.int .i64 a.1, ua]) = hx at *
  simp (disch := first | omega | (simp only [Qn] <;> omega)) only [go_sem, row_two hgx]
  refine (square_ok _ a hx ⟨ua, rfl, hua.mono hfx⟩ la).mono ?_
  rintro v h5 ⟨rfl, f5⟩
  have F5 := hfx.trans f5
  have gx5 := (f5.get h.next (by omega)).trans hgx
  simp (disch := first | omega | (simp only [Qn] <;> omega)) only [go_sem]
  refine iteW_dec (fun he => ?_) (fun he => ?_)
  · simp (disch := first | omega | (simp only [Qn] <;> omega)) only [go_sem]
    have e : TraceF a = (0, sqF a) := by rw [TraceF, if_pos he]
    rw [e]
    exact ⟨rfl, F5⟩
  have hz : sqF a = 0 := Classical.byContradiction he
  have da := sq_vd hz
  have hp := fieldF_range da.p
  have hn1 := da.r1
  have hn2 := da.r2
  have x0 : h5.cell h.next 0 = some (.int .i64 a.1) := by rw [H.cell_of gx5]; rfl
  have x1 : h5.cell h.next 1 = some ua := by rw [H.cell_of gx5]; rfl
  obtain ⟨ida, offa, wsa, ρa, oa, RA⟩ := SR.rd (hua.mono F5) fun i hi => da.row i hi
  obtain ⟨n, hn⟩ : ∃ n, a.2.length = n := ⟨_, rfl⟩
  have lu := hua.lens
  rw [hn] at lu
  simp (disch := first | omega | (simp only [Qn] <;> omega)) only [go_sem, x1, lu]
  refine Wp_loop (fun k' vars hh => hh = h5 ∧ ∃ (i : Nat) (s : Int), (∃ g : Nat → V, vars = [g 0, .ptr h.next 0, g 2, g 3, g 4, .int .i64 s, g 6, g 7, g 8, ua, .int .i64 (n : Int), .int .i64 (i : Int), g 12]) ∧ i ≤ n ∧ s = sm i (fun i => ent a.2 i i) ∧ 0 ≤ s ∧ s ≤ (i : Int) * 10000 ∧ k' = n - i) n
    ⟨rfl, 0, 0, ex_junk rfl, Nat.zero_le _, rfl, by omega, by omega, rfl⟩ ?_
  rintro k' vars hh ⟨rfl, i, s, ⟨g, rfl⟩, hi, hs, s0, s1, rfl⟩
  simp (disch := first | omega | (simp only [Qn] <;> omega)) only [go_sem]
  by_cases hlt : (i : Int) < (n : Int)
  · rw [decide_eq_true hlt]
    have il : i < a.2.length := by omega
    have e1 := RA.ent i i il il
    have b1 := da.lo i i il il
    have b2 := da.hi i i il il
    simp (disch := first | omega | (simp only [Qn] <;> omega)) only [go_sem, RA.sl.ixa, RA.at_ i il, (RA.rsl i il).ixa, e1]
    rw [show (i : Int) + 1 = ((i + 1 : Nat) : Int) from by omega]
    exact ⟨n - (i + 1), by omega, i + 1, s + ent a.2 i i, ex_junk rfl, by omega, by rw [sm_succ, hs], by omega, by omega, rfl⟩
  rw [decide_eq_false hlt]
  obtain rfl : n = i := by omega
  have em := nonneg_tmod (p := a.1) s0
  simp (disch := first | omega | (simp only [Qn] <;> omega)) only [go_sem, x0, em]
  have e : TraceF a = (s % a.1, 0) := by rw [TraceF, if_neg (by simp [hz]), hn, hs]
  rw [e]
  exact ⟨rfl, F5⟩
end Go.Proofs.Ytonhijbeddcmpaa

/- Layer 4: the reference's square, Trace. -/
namespace Go.Proofs.Ytonhijbeddcmpaa
open Go Go.Ay
set_option maxRecDepth 100000
end Go.Proofs.Ytonhijbeddcmpaa

/- Layer 4: the reference's inverse of a number. -/
namespace Go.Proofs.Ytonhijbeddcmpaa
open Go Go.Ay
set_option maxRecDepth 100000
end Go.Proofs.Ytonhijbeddcmpaa

/- The step of Samuelson and Berkowitz, as a convolution. -/
namespace Go.Ay
end Go.Ay

