/- Layer 4: what is too large. The law MatrixCalls, walked. -/
import Derived.Test.YtonhijbeddcmpaaM4rftoM4rh
import Derived.Test.YtonhijbeddcmpaaAy34
/- Layer 4: what is too large. -/
namespace Go.Proofs.Ytonhijbeddcmpaa
open Go Go.Ay
set_option maxRecDepth 100000
/-- A matrix that is small enough. -/
def smallM (l : List (List Int)) : Prop := l.length ≤ 6 ∧ ∀ r ∈ l, r.length ≤ 6
set_option maxHeartbeats 8000000 in
theorem large_ok (v : V) (id off n : Nat) (us : Nat → V) (lls : Nat → List (List Int)) (h : H) (hsl : Sl v 2 n id off) (hcs : ∀ i, i < n → h.cell id (off + i * 2 + 1) = some (us i)) (hR : ∀ i, i < n → SR h (us i) (lls i)) (hl : ∀ i, i < n → ((lls i).length : Int) ≤ 2 ^ 63 - 1) (hn : n < 1000000) :
    Ev T n_law04_large [v] h (fun w h' => h' = h ∧ ∃ b, w = .bool b ∧ (b = false → ∀ i, i < n → smallM (lls i))) := by
  refine Ev_of t_law04_large rfl ?_
  simp (disch := first | omega | (simp only [Qn] <;> omega)) only [go_sem, c_law04_large, initV_eq]
  refine Wp_loop (fun k' vars h1 => h1 = h ∧ ∃ i : Nat, (∃ g : Nat → V, vars = [v, .bool false, .int .i64 (i : Int), g 3, g 4, g 5, g 6, g 7]) ∧ i ≤ n ∧ (∀ k, k < i → smallM (lls k)) ∧ k' = n - i) n
    ⟨rfl, 0, ex_junk rfl, Nat.zero_le _, fun k hk => by omega, rfl⟩ ?_
  rintro k' vars h1 ⟨rfl, i, ⟨g, rfl⟩, hi, hgood, rfl⟩
  simp (disch := first | omega | (simp only [Qn] <;> omega)) only [go_sem, hsl.lens]
  by_cases hlt : (i : Int) < (n : Int)
  · rw [decide_eq_true hlt]
    have ci := hcs i (by omega)
    have si := hR i (by omega)
    have li := hl i (by omega)
    obtain ⟨u, hu⟩ : ∃ u, us i = u := ⟨_, rfl⟩
    obtain ⟨ll, hll⟩ : ∃ ll, lls i = ll := ⟨_, rfl⟩
    rw [hu] at ci si
    rw [hll] at si li
    simp (disch := first | omega | (simp only [Qn] <;> omega)) only [go_sem, hsl.ixa, ci, si.lens]
    by_cases h6 : (6 : Int) < (ll.length : Int)
    · rw [decide_eq_true h6]
      simp (disch := first | omega | (simp only [Qn] <;> omega)) only [go_sem]
      exact ⟨true, rfl, fun e => by cases e⟩
    rw [decide_eq_false h6]
    obtain ⟨idu, offu, ws, su, hidu, hwl, hcu, hall⟩ := si.open
    simp (disch := first | omega | (simp only [Qn] <;> omega)) only [go_sem]
    refine Wp_loop (fun k' vars h2 => h2 = h1 ∧ ∃ j : Nat, (∃ g : Nat → V, vars = [v, .bool false, .int .i64 (i : Int), .int .i64 (j : Int), g 4, g 5, g 6, g 7]) ∧ j ≤ ll.length ∧ (∀ r ∈ ll.take j, r.length ≤ 6) ∧ k' = ll.length - j) ll.length
      ⟨rfl, 0, ex_junk rfl, Nat.zero_le _, fun r hr => by simp at hr, rfl⟩ ?_
    rintro k' vars h2 ⟨rfl, j, ⟨g, rfl⟩, hj, hrow, rfl⟩
    simp (disch := first | omega | (simp only [Qn] <;> omega)) only [go_sem, hsl.ixa, ci, si.lens]
    by_cases hjl : (j : Int) < (ll.length : Int)
    · rw [decide_eq_true hjl]
      have cj := hcu j (by omega)
      have rj := row_at hall (i := j) (by omega)
      have lj := rj.lens
      have ej : ll.getD j [] = ll[j]'(by omega) := by rw [List.getD_eq_getElem?_getD, List.getElem?_eq_getElem (by omega)]; rfl
      obtain ⟨r, hr⟩ : ∃ r, ll.getD j [] = r := ⟨_, rfl⟩
      rw [hr] at lj ej
      simp (disch := first | omega | (simp only [Qn] <;> omega)) only [go_sem, hsl.ixa, ci, su.ixa, cj, lj]
      by_cases hr6 : (6 : Int) < (r.length : Int)
      · rw [decide_eq_true hr6]
        simp (disch := first | omega | (simp only [Qn] <;> omega)) only [go_sem]
        exact ⟨true, rfl, fun e => by cases e⟩
      rw [decide_eq_false hr6]
      simp (disch := first | omega | (simp only [Qn] <;> omega)) only [go_sem]
      refine ⟨ll.length - (j + 1), by omega, j + 1, ex_junk rfl, by omega, fun x hx => ?_, rfl⟩
      rw [List.take_add_one, List.getElem?_eq_getElem (by omega), ← ej] at hx
      rcases List.mem_append.1 hx with hx | hx
      · exact hrow x hx
      · simp at hx; rw [hx]; omega
    · rw [decide_eq_false hjl]
      simp (disch := first | omega | (simp only [Qn] <;> omega)) only [go_sem]
      refine ⟨n - (i + 1), by omega, i + 1, ex_junk rfl, by omega, fun k hk => ?_, rfl⟩
      by_cases e : k = i
      · subst e
        rw [hll]
        refine ⟨by omega, fun r hr => hrow r ?_⟩
        rw [List.take_of_length_le (by omega)]; exact hr
      · exact hgood k (by omega)
  · rw [decide_eq_false hlt]
    simp (disch := first | omega | (simp only [Qn] <;> omega)) only [go_sem]
    refine ⟨false, rfl, fun _ k hk => hgood k (by omega)⟩
end Go.Proofs.Ytonhijbeddcmpaa
/- The law MatrixCalls, walked. -/
namespace Go.Proofs.Ytonhijbeddcmpaa
open Go Go.Ay
set_option maxRecDepth 100000
theorem fit_none (q : Int) : Fit (q, []) := ⟨by simp, fun i hi => by simp at hi⟩
theorem fit_mk (q : Int) (r c : Nat) (f : Nat → Nat → Int) (hr : r < 1000000) (hc : c < 1000000) : Fit (q, mkR r c f) := by
  refine ⟨by simp only [mkR_len]; omega, fun i hi => ?_⟩
  simp only [mkR_len] at hi
  simp only
  rw [mkR_row _ hi, mkV_len]; omega
theorem small_row {l : List (List Int)} (h : smallM l) : (l.getD 0 []).length ≤ 6 := by
  cases l with
  | nil => simp
  | cons r l => exact h.2 r (List.mem_cons_self ..)
theorem fit_Mul {a b : Mat} (ha : smallM a.2) (hb : smallM b.2) : Fit (MulF a b).1 := by
  have h1 := ha.1
  have h2 := small_row hb
  rw [MulF]
  split
  · exact fit_none 0
  · split
    · exact fit_none 0
    · exact fit_mk _ _ _ _ (by omega) (by omega)
theorem fit_Add {a b : Mat} (ha : smallM a.2) : Fit (AddF a b).1 := by
  have h1 := ha.1
  have h2 := small_row ha
  rw [AddF]
  split
  · exact fit_none 0
  · split
    · exact fit_none 0
    · exact fit_mk _ _ _ _ (by omega) (by omega)
theorem fit_Scale {a : Mat} (ha : smallM a.2) (k : Int) : Fit (ScaleF a k).1 := by
  have h1 := ha.1
  have h2 := small_row ha
  rw [ScaleF]
  split
  · exact fit_none 0
  · exact fit_mk _ _ _ _ (by omega) (by omega)
theorem fit_Turn {a : Mat} (ha : smallM a.2) : Fit (TurnF a).1 := by
  have h1 := ha.1
  have h2 := small_row ha
  rw [TurnF]
  split
  · exact fit_none 0
  · exact fit_mk _ _ _ _ (by omega) (by omega)
theorem fit_One (n p : Int) : Fit (OneF n p).1 := by
  rw [OneF]
  split
  · exact fit_none 0
  · split
    · exact fit_none 0
    · exact fit_mk _ _ _ _ (by omega) (by omega)
theorem len_Apply {a : Mat} (ha : smallM a.2) (v : List Int) : (ApplyF v a).1.length < 1000000 := by
  have h2 := small_row ha
  rw [ApplyF]
  split
  · simp
  · split
    · simp
    · simp only [applyF, mkV_len]; omega
theorem one_i (k : IntKind) (n : Int) : (V.int k n).one = true := rfl
theorem blsV_1 (h : H) (p : Int) (u : V) (hu : u.one = true) : blsV h 2 [.int .i64 0, .nils] 1 [(0, 2, .agg [.int .i64 p, u])] = some (.sl h.next 0 1 (.kn 1), h.new (.cells false [.int .i64 p, u])) := by
  simp [blsV, fillV, zerosV, putAt, V.cells, one_i, hu, List.range_succ]
theorem blsV_2 (h : H) (p q : Int) (u w : V) (hu : u.one = true) (hw : w.one = true) : blsV h 2 [.int .i64 0, .nils] 2 [(0, 2, .agg [.int .i64 p, u]), (2, 2, .agg [.int .i64 q, w])] = some (.sl h.next 0 2 (.kn 2), h.new (.cells false [.int .i64 p, u, .int .i64 q, w])) := by
  simp [blsV, fillV, zerosV, putAt, V.cells, one_i, hu, hw, List.range_succ]
/-- A box whose content is named. -/
structure Mu (h : H) (id : Nat) (a : Mat) (u : V) : Prop where
  g : h.get id = some (.cells false [.int .i64 a.1, u])
  s : SR h u a.2
  lt : id < h.next
theorem Mu.mono {h h' : H} {id : Nat} {a : Mat} {u : V} (b : Mu h id a u) (f : Fr h h') : Mu h' id a u := ⟨(f.get id b.lt).trans b.g, b.s.mono f, Nat.lt_of_lt_of_le b.lt f.next⟩
theorem Mu.row {h : H} {id : Nat} {a : Mat} {u : V} (b : Mu h id a u) : h.row id 0 2 = some [.int .i64 a.1, u] := row_two b.g
theorem Mu.mv {h : H} {id : Nat} {a : Mat} {u : V} (b : Mu h id a u) : MatV h (.agg [.int .i64 a.1, u]) a := ⟨u, rfl, b.s⟩
theorem MB.row' {h : H} {id : Nat} {a : Mat} (b : MB h id a) : ∃ u, h.row id 0 2 = some [.int .i64 a.1, u] ∧ MatV h (.agg [.int .i64 a.1, u]) a := by
  obtain ⟨u, h1, h2, h3⟩ := b
  exact ⟨u, row_two h1, u, rfl, h2⟩
theorem MB.new' {h : H} {a : Mat} {u : V} (s : SR h u a.2) : MB (bxH h a.1 u) h.next a :=
  ⟨u, bxH_get h a.1 u, s.mono (bxH_fr h a.1 u), by rw [bxH_next]; omega⟩
set_option maxHeartbeats 32000000 in
theorem calls_ok (va vb vv : V) (A B : Mat) (L : List Int) (nn pp : Int) (h : H) (ha : MatV h va A) (hb : MatV h vb B) (hv : SI h vv L) (la : (A.2.length : Int) ≤ 2 ^ 63 - 1) (lb : (B.2.length : Int) ≤ 2 ^ 63 - 1) (lv : (L.length : Int) ≤ 2 ^ 63 - 1) :
    Ev T n_law04_MatrixCalls [va, vb, vv, .int .i64 nn, .int .i64 pp] h (fun v _ => v = .bool true) := by
  obtain ⟨u, rfl, hu⟩ := ha
  obtain ⟨w, rfl, hw⟩ := hb
  refine Ev_of t_law04_MatrixCalls rfl ?_
  have uw := SV.what hu.choose_spec.1
  have ww := SV.what hw.choose_spec.1
  simp (disch := first | omega | (simp only [Qn] <;> omega)) only [go_sem, c_law04_MatrixCalls, initV_eq, boxV_agg2 h (v := .int .i64 A.1) rfl uw.2.1]
  have hfx : Fr h (h.new (.cells false [.int .i64 A.1, u])) := (Fr.refl h).new _
  have hgx : (h.new (.cells false [.int .i64 A.1, u])).get h.next = some (.cells false [.int .i64 A.1, u]) := H.get_new_same ..
  have hnx : (h.new (.cells false [.int .i64 A.1, u])).next = h.next + 1 := H.next_new ..
  generalize h.new (.cells false [.int .i64 A.1, u]) = hx at *
  simp (disch := first | omega | (simp only [Qn] <;> omega)) only [go_sem, boxV_agg2 hx (v := .int .i64 B.1) rfl ww.2.1]
  have hfy : Fr hx (hx.new (.cells false [.int .i64 B.1, w])) := (Fr.refl hx).new _
  have hgy : (hx.new (.cells false [.int .i64 B.1, w])).get hx.next = some (.cells false [.int .i64 B.1, w]) := H.get_new_same ..
  have hny : (hx.new (.cells false [.int .i64 B.1, w])).next = hx.next + 1 := H.next_new ..
  generalize hx.new (.cells false [.int .i64 B.1, w]) = hy at *
  have g := hfx.trans hfy
  have ga : Mu hy h.next A u := ⟨(hfy.get h.next (by omega)).trans hgx, hu.mono g, by show h.next < hy.next; omega⟩
  have gb : Mu hy hx.next B w := ⟨hgy, hw.mono g, by show hx.next < hy.next; omega⟩
  have gv := hv.mono g
  clear hfx hgx hfy hgy g hu hw hv
  generalize hx.next = ib at *
  generalize h.next = ia at *
  refine (lives_ok hy).mono ?_
  rintro v h0 ⟨rfl, f0⟩
  replace ga := ga.mono f0
  replace gb := gb.mono f0
  replace gv := gv.mono f0
  clear f0
  simp (disch := first | omega | (simp only [Qn] <;> omega)) only [go_sem, ga.row, gb.row, blsV_2 _ _ _ _ _ uw.2.1 ww.2.1]
  have hfz : Fr h0 (h0.new (.cells false [.int .i64 A.1, u, .int .i64 B.1, w])) := (Fr.refl h0).new _
  have hgz : (h0.new (.cells false [.int .i64 A.1, u, .int .i64 B.1, w])).get h0.next = some (.cells false [.int .i64 A.1, u, .int .i64 B.1, w]) := H.get_new_same ..
  have hnz : (h0.new (.cells false [.int .i64 A.1, u, .int .i64 B.1, w])).next = h0.next + 1 := H.next_new ..
  generalize h0.new (.cells false [.int .i64 A.1, u, .int .i64 B.1, w]) = hz at *
  replace ga := ga.mono hfz
  replace gb := gb.mono hfz
  replace gv := gv.mono hfz
  have c1 : hz.cell h0.next 1 = some u := by rw [H.cell_of hgz]; rfl
  have c3 : hz.cell h0.next 3 = some w := by rw [H.cell_of hgz]; rfl
  clear hfz hgz
  generalize h0.next = iz at *
  refine (large_ok (.sl iz 0 2 (.kn 2)) iz 0 2 (fun i => if i = 0 then u else w) (fun i => if i = 0 then A.2 else B.2) hz ⟨rfl, fun k i h1 h2 => ixaV_sl h1 h2, rfl, rfl⟩ (fun i hi => ?_) (fun i hi => ?_) (fun i hi => ?_) (by omega)).mono ?_
  · rcases (show i = 0 ∨ i = 1 by omega) with rfl | rfl
    · exact c1
    · exact c3
  · rcases (show i = 0 ∨ i = 1 by omega) with rfl | rfl
    · exact ga.s
    · exact gb.s
  · rcases (show i = 0 ∨ i = 1 by omega) with rfl | rfl
    · exact la
    · exact lb
  clear c1 c3
  rintro v hq ⟨rfl, b, rfl, hb⟩
  cases b with
  | true =>
    simp (disch := first | omega | (simp only [Qn] <;> omega)) only [go_sem]
  | false =>
  have sA : smallM A.2 := hb rfl 0 (by omega)
  have sB : smallM B.2 := hb rfl 1 (by omega)
  simp (disch := first | omega | (simp only [Qn] <;> omega)) only [go_sem, gv.lens]
  by_cases hlong : (10 : Int) < (L.length : Int)
  · rw [decide_eq_true hlong]
    simp (disch := first | omega | (simp only [Qn] <;> omega)) only [go_sem]
  rw [decide_eq_false hlong]
  have hl : L.length < 1000000 := by omega
  simp (disch := first | omega | (simp only [Qn] <;> omega)) only [go_sem]
  clear hb hlong

  have t1 : (A.2.length : Int) ≤ 2 ^ 63 - 1 := la
  obtain ⟨X0, hX0⟩ : ∃ X, MulF A B = X := ⟨_, rfl⟩
  have l0 := fit_Mul sA sB
  rw [hX0] at l0
  obtain ⟨X1, hX1⟩ : ∃ X, AddF A B = X := ⟨_, rfl⟩
  have l1 := fit_Add (b := B) sA
  rw [hX1] at l1
  obtain ⟨X2, hX2⟩ : ∃ X, ScaleF A nn = X := ⟨_, rfl⟩
  have l2 := fit_Scale sA nn
  rw [hX2] at l2
  obtain ⟨X3, hX3⟩ : ∃ X, TurnF A = X := ⟨_, rfl⟩
  have l3 := fit_Turn sA
  rw [hX3] at l3
  obtain ⟨X4, hX4⟩ : ∃ X, OneF nn pp = X := ⟨_, rfl⟩
  have l4 := fit_One nn pp
  rw [hX4] at l4
  obtain ⟨X9, hX9⟩ : ∃ X, ApplyF L A = X := ⟨_, rfl⟩
  have l9 := len_Apply sA L
  rw [hX9] at l9
  simp (disch := first | omega | (simp only [Qn] <;> omega)) only [go_sem, ga.row, gb.row]
  refine (Mul_ok _ _ A B _ ga.mv gb.mv la lb).mono ?_
  rintro v h10 ⟨z, rfl, ⟨u0, ws0, rfl, R0⟩, f0⟩
  rw [hX0] at R0
  rw [hX0]
  have st := fun hh id => stV_agg2 hh id 0 (v := .int .i64 X0.1.1) (u := u0) rfl (SV.what R0.own.sv).2.1
  simp (disch := first | omega | (simp only [Qn] <;> omega)) only [go_sem, st, bxH_eq, List.getElem?_cons_zero, List.getElem?_cons_succ]
  have fx := f0.trans (bxH_fr h10 X0.1.1 u0)
  replace ga := ga.mono fx
  replace gb := gb.mono fx
  replace gv := gv.mono fx
  have b0 := MB.new' (h := h10) (a := X0.1) R0.sr
  clear fx st f0 R0
  generalize bxH h10 X0.1.1 u0 = k10 at *
  generalize h10.next = j0 at *
  simp (disch := first | omega | (simp only [Qn] <;> omega)) only [go_sem, ga.row, gb.row]
  refine (ref_Mul_ok _ _ A B _ ga.mv gb.mv la lb).mono ?_
  rintro v h11 ⟨z, rfl, ⟨u1, ws1, rfl, R1⟩, f1⟩
  rw [hX0] at R1
  rw [hX0]
  have st := fun hh id => stV_agg2 hh id 0 (v := .int .i64 X0.1.1) (u := u1) rfl (SV.what R1.own.sv).2.1
  simp (disch := first | omega | (simp only [Qn] <;> omega)) only [go_sem, st, bxH_eq, List.getElem?_cons_zero, List.getElem?_cons_succ]
  have fx := f1.trans (bxH_fr h11 X0.1.1 u1)
  replace ga := ga.mono fx
  replace gb := gb.mono fx
  replace gv := gv.mono fx
  replace b0 := b0.mono fx
  have b1 := MB.new' (h := h11) (a := X0.1) R1.sr
  clear fx st f1 R1
  generalize bxH h11 X0.1.1 u1 = k11 at *
  generalize h11.next = j1 at *
  simp (disch := first | omega | (simp only [Qn] <;> omega)) only [go_sem, ga.row, gb.row]
  refine (Add_ok _ _ A B _ ga.mv gb.mv la lb).mono ?_
  rintro v h12 ⟨z, rfl, ⟨u2, ws2, rfl, R2⟩, f2⟩
  rw [hX1] at R2
  rw [hX1]
  have st := fun hh id => stV_agg2 hh id 0 (v := .int .i64 X1.1.1) (u := u2) rfl (SV.what R2.own.sv).2.1
  simp (disch := first | omega | (simp only [Qn] <;> omega)) only [go_sem, st, bxH_eq, List.getElem?_cons_zero, List.getElem?_cons_succ]
  have fx := f2.trans (bxH_fr h12 X1.1.1 u2)
  replace ga := ga.mono fx
  replace gb := gb.mono fx
  replace gv := gv.mono fx
  replace b0 := b0.mono fx
  replace b1 := b1.mono fx
  have b2 := MB.new' (h := h12) (a := X1.1) R2.sr
  clear fx st f2 R2
  generalize bxH h12 X1.1.1 u2 = k12 at *
  generalize h12.next = j2 at *
  simp (disch := first | omega | (simp only [Qn] <;> omega)) only [go_sem, ga.row, gb.row]
  refine (ref_Add_ok _ _ A B _ ga.mv gb.mv la lb).mono ?_
  rintro v h13 ⟨z, rfl, ⟨u3, ws3, rfl, R3⟩, f3⟩
  rw [hX1] at R3
  rw [hX1]
  have st := fun hh id => stV_agg2 hh id 0 (v := .int .i64 X1.1.1) (u := u3) rfl (SV.what R3.own.sv).2.1
  simp (disch := first | omega | (simp only [Qn] <;> omega)) only [go_sem, st, bxH_eq, List.getElem?_cons_zero, List.getElem?_cons_succ]
  have fx := f3.trans (bxH_fr h13 X1.1.1 u3)
  replace ga := ga.mono fx
  replace gb := gb.mono fx
  replace gv := gv.mono fx
  replace b0 := b0.mono fx
  replace b1 := b1.mono fx
  replace b2 := b2.mono fx
  have b3 := MB.new' (h := h13) (a := X1.1) R3.sr
  clear fx st f3 R3
  generalize bxH h13 X1.1.1 u3 = k13 at *
  generalize h13.next = j3 at *
  simp (disch := first | omega | (simp only [Qn] <;> omega)) only [go_sem, ga.row]
  refine (Scale_ok _ A nn _ ga.mv la).mono ?_
  rintro v h14 ⟨z, rfl, ⟨u4, ws4, rfl, R4⟩, f4⟩
  rw [hX2] at R4
  rw [hX2]
  have st := fun hh id => stV_agg2 hh id 0 (v := .int .i64 X2.1.1) (u := u4) rfl (SV.what R4.own.sv).2.1
  simp (disch := first | omega | (simp only [Qn] <;> omega)) only [go_sem, st, bxH_eq, List.getElem?_cons_zero, List.getElem?_cons_succ]
  have fx := f4.trans (bxH_fr h14 X2.1.1 u4)
  replace ga := ga.mono fx
  replace gb := gb.mono fx
  replace gv := gv.mono fx
  replace b0 := b0.mono fx
  replace b1 := b1.mono fx
  replace b2 := b2.mono fx
  replace b3 := b3.mono fx
  have b4 := MB.new' (h := h14) (a := X2.1) R4.sr
  clear fx st f4 R4
  generalize bxH h14 X2.1.1 u4 = k14 at *
  generalize h14.next = j4 at *
  simp (disch := first | omega | (simp only [Qn] <;> omega)) only [go_sem, ga.row]
  refine (ref_Scale_ok _ A nn _ ga.mv la).mono ?_
  rintro v h15 ⟨z, rfl, ⟨u5, ws5, rfl, R5⟩, f5⟩
  rw [hX2] at R5
  rw [hX2]
  have st := fun hh id => stV_agg2 hh id 0 (v := .int .i64 X2.1.1) (u := u5) rfl (SV.what R5.own.sv).2.1
  simp (disch := first | omega | (simp only [Qn] <;> omega)) only [go_sem, st, bxH_eq, List.getElem?_cons_zero, List.getElem?_cons_succ]
  have fx := f5.trans (bxH_fr h15 X2.1.1 u5)
  replace ga := ga.mono fx
  replace gb := gb.mono fx
  replace gv := gv.mono fx
  replace b0 := b0.mono fx
  replace b1 := b1.mono fx
  replace b2 := b2.mono fx
  replace b3 := b3.mono fx
  replace b4 := b4.mono fx
  have b5 := MB.new' (h := h15) (a := X2.1) R5.sr
  clear fx st f5 R5
  generalize bxH h15 X2.1.1 u5 = k15 at *
  generalize h15.next = j5 at *
  simp (disch := first | omega | (simp only [Qn] <;> omega)) only [go_sem, ga.row]
  refine (Turn_ok _ A _ ga.mv la).mono ?_
  rintro v h16 ⟨z, rfl, ⟨u6, ws6, rfl, R6⟩, f6⟩
  rw [hX3] at R6
  rw [hX3]
  have st := fun hh id => stV_agg2 hh id 0 (v := .int .i64 X3.1.1) (u := u6) rfl (SV.what R6.own.sv).2.1
  simp (disch := first | omega | (simp only [Qn] <;> omega)) only [go_sem, st, bxH_eq, List.getElem?_cons_zero, List.getElem?_cons_succ]
  have fx := f6.trans (bxH_fr h16 X3.1.1 u6)
  replace ga := ga.mono fx
  replace gb := gb.mono fx
  replace gv := gv.mono fx
  replace b0 := b0.mono fx
  replace b1 := b1.mono fx
  replace b2 := b2.mono fx
  replace b3 := b3.mono fx
  replace b4 := b4.mono fx
  replace b5 := b5.mono fx
  have b6 := MB.new' (h := h16) (a := X3.1) R6.sr
  clear fx st f6 R6
  generalize bxH h16 X3.1.1 u6 = k16 at *
  generalize h16.next = j6 at *
  simp (disch := first | omega | (simp only [Qn] <;> omega)) only [go_sem, ga.row]
  refine (ref_Turn_ok _ A _ ga.mv la).mono ?_
  rintro v h17 ⟨z, rfl, ⟨u7, ws7, rfl, R7⟩, f7⟩
  rw [hX3] at R7
  rw [hX3]
  have st := fun hh id => stV_agg2 hh id 0 (v := .int .i64 X3.1.1) (u := u7) rfl (SV.what R7.own.sv).2.1
  simp (disch := first | omega | (simp only [Qn] <;> omega)) only [go_sem, st, bxH_eq, List.getElem?_cons_zero, List.getElem?_cons_succ]
  have fx := f7.trans (bxH_fr h17 X3.1.1 u7)
  replace ga := ga.mono fx
  replace gb := gb.mono fx
  replace gv := gv.mono fx
  replace b0 := b0.mono fx
  replace b1 := b1.mono fx
  replace b2 := b2.mono fx
  replace b3 := b3.mono fx
  replace b4 := b4.mono fx
  replace b5 := b5.mono fx
  replace b6 := b6.mono fx
  have b7 := MB.new' (h := h17) (a := X3.1) R7.sr
  clear fx st f7 R7
  generalize bxH h17 X3.1.1 u7 = k17 at *
  generalize h17.next = j7 at *
  simp (disch := first | omega | (simp only [Qn] <;> omega)) only [go_sem, ga.row]
  refine (Apply_ok _ _ L A _ gv lv ga.mv la).mono ?_
  rintro v h18 ⟨z8, rfl, s8, f8⟩
  rw [hX9] at s8
  rw [hX9]
  replace ga := ga.mono f8
  replace gb := gb.mono f8
  replace gv := gv.mono f8
  replace b0 := b0.mono f8
  replace b1 := b1.mono f8
  replace b2 := b2.mono f8
  replace b3 := b3.mono f8
  replace b4 := b4.mono f8
  replace b5 := b5.mono f8
  replace b6 := b6.mono f8
  replace b7 := b7.mono f8
  clear f8
  try simp (disch := first | omega | (simp only [Qn] <;> omega)) only [go_sem, List.getElem?_cons_zero, List.getElem?_cons_succ]
  simp (disch := first | omega | (simp only [Qn] <;> omega)) only [go_sem, ga.row]
  refine (ref_Apply_ok _ _ L A _ gv lv ga.mv la).mono ?_
  rintro v h19 ⟨z9, rfl, s9, f9⟩
  rw [hX9] at s9
  rw [hX9]
  replace ga := ga.mono f9
  replace gb := gb.mono f9
  replace gv := gv.mono f9
  replace b0 := b0.mono f9
  replace b1 := b1.mono f9
  replace b2 := b2.mono f9
  replace b3 := b3.mono f9
  replace b4 := b4.mono f9
  replace b5 := b5.mono f9
  replace b6 := b6.mono f9
  replace b7 := b7.mono f9
  replace s8 := s8.mono f9
  clear f9
  try simp (disch := first | omega | (simp only [Qn] <;> omega)) only [go_sem, List.getElem?_cons_zero, List.getElem?_cons_succ]
  refine (One_ok nn pp _).mono ?_
  rintro v h20 ⟨z, rfl, ⟨u10, ws10, rfl, R10⟩, f10⟩
  rw [hX4] at R10
  rw [hX4]
  have st := fun hh id => stV_agg2 hh id 0 (v := .int .i64 X4.1.1) (u := u10) rfl (SV.what R10.own.sv).2.1
  simp (disch := first | omega | (simp only [Qn] <;> omega)) only [go_sem, st, bxH_eq, List.getElem?_cons_zero, List.getElem?_cons_succ]
  have fx := f10.trans (bxH_fr h20 X4.1.1 u10)
  replace ga := ga.mono fx
  replace gb := gb.mono fx
  replace gv := gv.mono fx
  replace b0 := b0.mono fx
  replace b1 := b1.mono fx
  replace b2 := b2.mono fx
  replace b3 := b3.mono fx
  replace b4 := b4.mono fx
  replace b5 := b5.mono fx
  replace b6 := b6.mono fx
  replace b7 := b7.mono fx
  replace s8 := s8.mono fx
  replace s9 := s9.mono fx
  have b10 := MB.new' (h := h20) (a := X4.1) R10.sr
  clear fx st f10 R10
  generalize bxH h20 X4.1.1 u10 = k20 at *
  generalize h20.next = j10 at *
  refine (ref_One_ok nn pp _).mono ?_
  rintro v h21 ⟨z, rfl, ⟨u11, ws11, rfl, R11⟩, f11⟩
  rw [hX4] at R11
  rw [hX4]
  have st := fun hh id => stV_agg2 hh id 0 (v := .int .i64 X4.1.1) (u := u11) rfl (SV.what R11.own.sv).2.1
  simp (disch := first | omega | (simp only [Qn] <;> omega)) only [go_sem, st, bxH_eq, List.getElem?_cons_zero, List.getElem?_cons_succ]
  have fx := f11.trans (bxH_fr h21 X4.1.1 u11)
  replace ga := ga.mono fx
  replace gb := gb.mono fx
  replace gv := gv.mono fx
  replace b0 := b0.mono fx
  replace b1 := b1.mono fx
  replace b2 := b2.mono fx
  replace b3 := b3.mono fx
  replace b4 := b4.mono fx
  replace b5 := b5.mono fx
  replace b6 := b6.mono fx
  replace b7 := b7.mono fx
  replace b10 := b10.mono fx
  replace s8 := s8.mono fx
  replace s9 := s9.mono fx
  have b11 := MB.new' (h := h21) (a := X4.1) R11.sr
  clear fx st f11 R11
  generalize bxH h21 X4.1.1 u11 = k21 at *
  generalize h21.next = j11 at *
  have fb : Fr _ (H.mk k21.tr (k21.next + 66)) := (Fr.refl k21).bump (by omega)
  replace ga := ga.mono fb
  replace gb := gb.mono fb
  replace gv := gv.mono fb
  replace b0 := b0.mono fb
  replace b1 := b1.mono fb
  replace b2 := b2.mono fb
  replace b3 := b3.mono fb
  replace b4 := b4.mono fb
  replace b5 := b5.mono fb
  replace b6 := b6.mono fb
  replace b7 := b7.mono fb
  replace b10 := b10.mono fb
  replace b11 := b11.mono fb
  replace s8 := s8.mono fb
  replace s9 := s9.mono fb
  have eu : eqV u u = true := SV.eqV ga.s.choose_spec.1
  simp (disch := first | omega | (simp only [Qn] <;> omega)) only [go_sem, ga.row]
  refine (check_ok _ A _ ga.mv la).mono ?_
  rintro v k22 ⟨rfl, f12⟩
  replace ga := ga.mono f12
  replace gb := gb.mono f12
  replace gv := gv.mono f12
  replace b0 := b0.mono f12
  replace b1 := b1.mono f12
  replace b2 := b2.mono f12
  replace b3 := b3.mono f12
  replace b4 := b4.mono f12
  replace b5 := b5.mono f12
  replace b6 := b6.mono f12
  replace b7 := b7.mono f12
  replace b10 := b10.mono f12
  replace b11 := b11.mono f12
  replace s8 := s8.mono f12
  replace s9 := s9.mono f12
  clear f12
  simp (disch := first | omega | (simp only [Qn] <;> omega)) only [go_sem, ga.row, eu, decide_true]
  refine (ref_check_ok _ A _ ga.mv la).mono ?_
  rintro v k23 ⟨rfl, f13⟩
  replace ga := ga.mono f13
  replace gb := gb.mono f13
  replace gv := gv.mono f13
  replace b0 := b0.mono f13
  replace b1 := b1.mono f13
  replace b2 := b2.mono f13
  replace b3 := b3.mono f13
  replace b4 := b4.mono f13
  replace b5 := b5.mono f13
  replace b6 := b6.mono f13
  replace b7 := b7.mono f13
  replace b10 := b10.mono f13
  replace b11 := b11.mono f13
  replace s8 := s8.mono f13
  replace s9 := s9.mono f13
  clear f13
  simp (disch := first | omega | (simp only [Qn] <;> omega)) only [go_sem, ga.row, eu, decide_true]
  obtain ⟨y14a, r14a, q14a⟩ := b0.row'
  obtain ⟨y14b, r14b, q14b⟩ := b1.row'
  simp (disch := first | omega | (simp only [Qn] <;> omega)) only [go_sem, decide_true, r14a, r14b]
  refine (Same_ok _ _ X0.1 X0.1 _ q14a q14b l0 l0).mono ?_
  rintro v k24 ⟨rfl, f14⟩
  replace ga := ga.mono f14
  replace gb := gb.mono f14
  replace gv := gv.mono f14
  replace b0 := b0.mono f14
  replace b1 := b1.mono f14
  replace b2 := b2.mono f14
  replace b3 := b3.mono f14
  replace b4 := b4.mono f14
  replace b5 := b5.mono f14
  replace b6 := b6.mono f14
  replace b7 := b7.mono f14
  replace b10 := b10.mono f14
  replace b11 := b11.mono f14
  replace s8 := s8.mono f14
  replace s9 := s9.mono f14
  clear f14
  try simp (disch := first | omega | (simp only [Qn] <;> omega)) only [go_sem, decide_true]
  obtain ⟨y15a, r15a, q15a⟩ := b2.row'
  obtain ⟨y15b, r15b, q15b⟩ := b3.row'
  simp (disch := first | omega | (simp only [Qn] <;> omega)) only [go_sem, decide_true, r15a, r15b]
  refine (Same_ok _ _ X1.1 X1.1 _ q15a q15b l1 l1).mono ?_
  rintro v k25 ⟨rfl, f15⟩
  replace ga := ga.mono f15
  replace gb := gb.mono f15
  replace gv := gv.mono f15
  replace b0 := b0.mono f15
  replace b1 := b1.mono f15
  replace b2 := b2.mono f15
  replace b3 := b3.mono f15
  replace b4 := b4.mono f15
  replace b5 := b5.mono f15
  replace b6 := b6.mono f15
  replace b7 := b7.mono f15
  replace b10 := b10.mono f15
  replace b11 := b11.mono f15
  replace s8 := s8.mono f15
  replace s9 := s9.mono f15
  clear f15
  try simp (disch := first | omega | (simp only [Qn] <;> omega)) only [go_sem, decide_true]
  obtain ⟨y16a, r16a, q16a⟩ := b4.row'
  obtain ⟨y16b, r16b, q16b⟩ := b5.row'
  simp (disch := first | omega | (simp only [Qn] <;> omega)) only [go_sem, decide_true, r16a, r16b]
  refine (Same_ok _ _ X2.1 X2.1 _ q16a q16b l2 l2).mono ?_
  rintro v k26 ⟨rfl, f16⟩
  replace ga := ga.mono f16
  replace gb := gb.mono f16
  replace gv := gv.mono f16
  replace b0 := b0.mono f16
  replace b1 := b1.mono f16
  replace b2 := b2.mono f16
  replace b3 := b3.mono f16
  replace b4 := b4.mono f16
  replace b5 := b5.mono f16
  replace b6 := b6.mono f16
  replace b7 := b7.mono f16
  replace b10 := b10.mono f16
  replace b11 := b11.mono f16
  replace s8 := s8.mono f16
  replace s9 := s9.mono f16
  clear f16
  try simp (disch := first | omega | (simp only [Qn] <;> omega)) only [go_sem, decide_true]
  obtain ⟨y17a, r17a, q17a⟩ := b6.row'
  obtain ⟨y17b, r17b, q17b⟩ := b7.row'
  simp (disch := first | omega | (simp only [Qn] <;> omega)) only [go_sem, decide_true, r17a, r17b]
  refine (Same_ok _ _ X3.1 X3.1 _ q17a q17b l3 l3).mono ?_
  rintro v k27 ⟨rfl, f17⟩
  replace ga := ga.mono f17
  replace gb := gb.mono f17
  replace gv := gv.mono f17
  replace b0 := b0.mono f17
  replace b1 := b1.mono f17
  replace b2 := b2.mono f17
  replace b3 := b3.mono f17
  replace b4 := b4.mono f17
  replace b5 := b5.mono f17
  replace b6 := b6.mono f17
  replace b7 := b7.mono f17
  replace b10 := b10.mono f17
  replace b11 := b11.mono f17
  replace s8 := s8.mono f17
  replace s9 := s9.mono f17
  clear f17
  try simp (disch := first | omega | (simp only [Qn] <;> omega)) only [go_sem, decide_true]
  try simp (disch := first | omega | (simp only [Qn] <;> omega)) only [go_sem, decide_true]
  refine (same_ok _ _ X9.1 X9.1 _ s8 s9 l9 l9).mono ?_
  rintro v k28 ⟨rfl, f18⟩
  replace ga := ga.mono f18
  replace gb := gb.mono f18
  replace gv := gv.mono f18
  replace b0 := b0.mono f18
  replace b1 := b1.mono f18
  replace b2 := b2.mono f18
  replace b3 := b3.mono f18
  replace b4 := b4.mono f18
  replace b5 := b5.mono f18
  replace b6 := b6.mono f18
  replace b7 := b7.mono f18
  replace b10 := b10.mono f18
  replace b11 := b11.mono f18
  replace s8 := s8.mono f18
  replace s9 := s9.mono f18
  clear f18
  try simp (disch := first | omega | (simp only [Qn] <;> omega)) only [go_sem, decide_true]
  obtain ⟨y19a, r19a, q19a⟩ := b10.row'
  obtain ⟨y19b, r19b, q19b⟩ := b11.row'
  simp (disch := first | omega | (simp only [Qn] <;> omega)) only [go_sem, decide_true, r19a, r19b]
  refine (Same_ok _ _ X4.1 X4.1 _ q19a q19b l4 l4).mono ?_
  rintro v k29 ⟨rfl, f19⟩
  replace ga := ga.mono f19
  replace gb := gb.mono f19
  replace gv := gv.mono f19
  replace b0 := b0.mono f19
  replace b1 := b1.mono f19
  replace b2 := b2.mono f19
  replace b3 := b3.mono f19
  replace b4 := b4.mono f19
  replace b5 := b5.mono f19
  replace b6 := b6.mono f19
  replace b7 := b7.mono f19
  replace b10 := b10.mono f19
  replace b11 := b11.mono f19
  replace s8 := s8.mono f19
  replace s9 := s9.mono f19
  clear f19
  try simp (disch := first | omega | (simp only [Qn] <;> omega)) only [go_sem, decide_true]
end Go.Proofs.Ytonhijbeddcmpaa
