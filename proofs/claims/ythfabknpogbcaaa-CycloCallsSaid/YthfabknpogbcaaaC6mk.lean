/- The laws CycloMakes and CycloCalls, walked. -/
import Derived.Test.YthfabknpogbcaaaC6rbtoC6r
namespace Go.Proofs.Ythfabknpogbcaaa
open Go Go.Ay
set_option maxRecDepth 100000
noncomputable section

theorem madeF_len (n : Nat) (c : List Int) (h1 : 1 ≤ n) (h2 : n ≤ 120) : (madeF n c).1.2.length < 1000000 := by
  have hp := phi_len h1 h2
  have hL := leastG_len n n (redF n c) h1 h2 (by rw [redF_len]; omega)
  simp only [madeF]
  split
  · simp
  · show (leastF n (redF n c)).2.length < 1000000
    unfold leastF
    omega
theorem makeF_len (n : Int) (c : List Int) : (makeF n c).1.2.length < 1000000 := by
  rw [makeF]
  split
  · simp
  split
  · simp
  split
  · simp
  · exact madeF_len _ _ (by omega) (by omega)
theorem rootF_len (n k : Int) : (rootF n k).1.2.length < 1000000 := by
  rw [rootF]
  split
  · simp
  · exact madeF_len _ _ (by omega) (by omega)
theorem phiP_len (n : Int) : (phiP n).1.length < 1000000 := by
  rw [phiP]
  split
  · simp
  · have := phi_len (n := n.toNat) (by omega) (by omega)
    simp only; omega
theorem addF_len (a b : Int × List Int) : (addF a b).1.2.length < 1000000 := by
  rw [addF]
  split
  · simp
  · have := common_range (a := a) (b := b) (by omega)
    exact madeF_len _ _ (by omega) (by omega)
theorem mulF_len (a b : Int × List Int) : (mulF a b).1.2.length < 1000000 := by
  rw [mulF]
  split
  · simp
  · have := common_range (a := a) (b := b) (by omega)
    exact madeF_len _ _ (by omega) (by omega)
theorem scaleF_len (a : Int × List Int) (k : Int) : (scaleF a k).1.2.length < 1000000 := by
  rw [scaleF]
  split
  · simp
  split
  · simp
  · have := check_range (a := a) (by omega)
    exact madeF_len _ _ (by omega) (by omega)
theorem galF_len (a : Int × List Int) (k : Int) : (galF a k).1.2.length < 1000000 := by
  rw [galF]
  split
  · simp
  split
  · simp
  · have := check_range (a := a) (by omega)
    exact madeF_len _ _ (by omega) (by omega)
theorem quotF_len (a : Int × List Int) (k : Int) (h : a.2.length < 1000000) : (quotF a k).1.2.length < 1000000 := by
  rw [quotF]
  split
  · simp
  split
  · simp
  split
  · simp
  · simpa using h


/-- A box whose content is named. -/
structure Bu (h : H) (id : Nat) (a : Int × List Int) (u : V) : Prop where
  g : h.get id = some (.cells false [.int .i64 a.1, u])
  s : SI h u a.2
  lt : id < h.next
theorem Bu.mono {h h' : H} {id : Nat} {a : Int × List Int} {u : V} (b : Bu h id a u) (f : Fr h h') : Bu h' id a u := ⟨(f.get id b.lt).trans b.g, b.s.mono f, Nat.lt_of_lt_of_le b.lt f.next⟩
theorem Bu.row {h : H} {id : Nat} {a : Int × List Int} {u : V} (b : Bu h id a u) : h.row id 0 2 = some [.int .i64 a.1, u] := row_two b.g
theorem Bu.cv {h : H} {id : Nat} {a : Int × List Int} {u : V} (b : Bu h id a u) : CycV h (.agg [.int .i64 a.1, u]) a := ⟨u, rfl, b.s⟩
theorem Bu.cell {h : H} {id : Nat} {a : Int × List Int} {u : V} (b : Bu h id a u) : h.cell id 1 = some u := by rw [H.cell_of b.g]; rfl


set_option maxHeartbeats 8000000 in
theorem makes_ok (n k : Int) (vc : V) (c : List Int) (h : H) (hc : SI h vc c) (hcl : (c.length : Int) ≤ 2 ^ 63 - 1) : Ev T n_law06_CycloMakes [.int .i64 n, .int .i64 k, vc] h (fun v _ => v = .bool true) := by
  refine Ev_of t_law06_CycloMakes rfl ?_
  simp (disch := first | omega | (simp only [List.length_set, List.length_replicate, List.length_append, List.length_take, List.length_drop, List.length_cons, List.length_nil, List.length_map, List.length_range, ints_length] <;> omega)) only [go_sem, c_law06_CycloMakes, initV_eq]
  refine (lives_ok h).mono ?_
  rintro v h0 ⟨rfl, g⟩
  simp (disch := first | omega | (simp only [List.length_set, List.length_replicate, List.length_append, List.length_take, List.length_drop, List.length_cons, List.length_nil, List.length_map, List.length_range, ints_length] <;> omega)) only [go_sem, (hc.mono g).lens]
  refine iteW_dec (fun hlong => ?_) (fun hlong => ?_)
  · simp (disch := first | omega | (simp only [List.length_set, List.length_replicate, List.length_append, List.length_take, List.length_drop, List.length_cons, List.length_nil, List.length_map, List.length_range, ints_length] <;> omega)) only [go_sem]
  have b := Bxs.nil h0
  have hl : c.length < 1000000 := by omega
  obtain ⟨X0, hX0⟩ : ∃ X, phiP n = X := ⟨_, rfl⟩
  obtain ⟨X1, hX1⟩ : ∃ X, makeF n c = X := ⟨_, rfl⟩
  obtain ⟨X2, hX2⟩ : ∃ X, rootF n k = X := ⟨_, rfl⟩
  obtain ⟨X3, hX3⟩ : ∃ X, makeF 1 [k] = X := ⟨_, rfl⟩
  have l0 := phiP_len n
  have l1 := makeF_len n c
  have l2 := rootF_len n k
  have l3 := makeF_len 1 [k]
  rw [hX0] at l0
  rw [hX1] at l1
  rw [hX2] at l2
  rw [hX3] at l3
  simp (disch := first | omega | (simp only [List.length_set, List.length_replicate, List.length_append, List.length_take, List.length_drop, List.length_cons, List.length_nil, List.length_map, List.length_range, ints_length] <;> omega)) only [go_sem]
  refine (Phi_ok n _).mono ?_
  rintro v ha ⟨p, rfl, hp, fa⟩
  rw [hX0] at hp ⊢
  replace b := b.mono fa
  replace g := g.trans fa
  simp (disch := first | omega | (simp only [List.length_set, List.length_replicate, List.length_append, List.length_take, List.length_drop, List.length_cons, List.length_nil, List.length_map, List.length_range, ints_length] <;> omega)) only [go_sem, List.getElem?_cons_zero, List.getElem?_cons_succ]
  refine (rPhi_ok n _).mono ?_
  rintro v hb ⟨q, rfl, hq, fb⟩
  rw [hX0] at hq ⊢
  replace hp := hp.mono fb
  replace b := b.mono fb
  replace g := g.trans fb
  simp (disch := first | omega | (simp only [List.length_set, List.length_replicate, List.length_append, List.length_take, List.length_drop, List.length_cons, List.length_nil, List.length_map, List.length_range, ints_length] <;> omega)) only [go_sem, List.getElem?_cons_zero, List.getElem?_cons_succ]
  have gp := Fr.refl hb
  refine (make_ok n vc c _ (hc.mono g) hl).mono ?_
  rintro v h1 ⟨w, rfl, ⟨u1, rfl, hu1, -⟩, f1⟩
  simp only [hX1] at hu1 ⊢
  have st := fun hh id => stV_agg2 hh id 0 (v := .int .i64 X1.1.1) (u := u1) rfl hu1.what.2.1
  simp (disch := first | omega | (simp only [List.length_set, List.length_replicate, List.length_append, List.length_take, List.length_drop, List.length_cons, List.length_nil, List.length_map, List.length_range, ints_length] <;> omega)) only [go_sem, decide_true, st, bxH_eq, List.getElem?_cons_zero, List.getElem?_cons_succ]
  have fx := f1.trans (bxH_fr h1 X1.1.1 u1)
  replace b := b.mono fx
  replace g := g.trans fx
  replace gp := gp.trans fx
  replace b := b.snoc (bxH_bx h1 (N := X1.1.1) (A := X1.1.2) hu1)
  clear fx st hu1
  generalize h1.next = i1 at *
  generalize bxH h1 X1.1.1 u1 = k1 at *
  refine (rmake_ok n vc c _ (hc.mono g) hl).mono ?_
  rintro v h2 ⟨w, rfl, ⟨u2, rfl, hu2, -⟩, f2⟩
  simp only [hX1] at hu2 ⊢
  have st := fun hh id => stV_agg2 hh id 0 (v := .int .i64 X1.1.1) (u := u2) rfl hu2.what.2.1
  simp (disch := first | omega | (simp only [List.length_set, List.length_replicate, List.length_append, List.length_take, List.length_drop, List.length_cons, List.length_nil, List.length_map, List.length_range, ints_length] <;> omega)) only [go_sem, decide_true, st, bxH_eq, List.getElem?_cons_zero, List.getElem?_cons_succ]
  have fx := f2.trans (bxH_fr h2 X1.1.1 u2)
  replace b := b.mono fx
  replace g := g.trans fx
  replace gp := gp.trans fx
  replace b := b.snoc (bxH_bx h2 (N := X1.1.1) (A := X1.1.2) hu2)
  clear fx st hu2
  generalize h2.next = i2 at *
  generalize bxH h2 X1.1.1 u2 = k2 at *
  refine (Root_ok n k _).mono ?_
  rintro v h3 ⟨w, rfl, ⟨u3, rfl, hu3, -⟩, f3⟩
  simp only [hX2] at hu3 ⊢
  have st := fun hh id => stV_agg2 hh id 0 (v := .int .i64 X2.1.1) (u := u3) rfl hu3.what.2.1
  simp (disch := first | omega | (simp only [List.length_set, List.length_replicate, List.length_append, List.length_take, List.length_drop, List.length_cons, List.length_nil, List.length_map, List.length_range, ints_length] <;> omega)) only [go_sem, decide_true, st, bxH_eq, List.getElem?_cons_zero, List.getElem?_cons_succ]
  have fx := f3.trans (bxH_fr h3 X2.1.1 u3)
  replace b := b.mono fx
  replace g := g.trans fx
  replace gp := gp.trans fx
  replace b := b.snoc (bxH_bx h3 (N := X2.1.1) (A := X2.1.2) hu3)
  clear fx st hu3
  generalize h3.next = i3 at *
  generalize bxH h3 X2.1.1 u3 = k3 at *
  refine (rRoot_ok n k _).mono ?_
  rintro v h4 ⟨w, rfl, ⟨u4, rfl, hu4, -⟩, f4⟩
  simp only [hX2] at hu4 ⊢
  have st := fun hh id => stV_agg2 hh id 0 (v := .int .i64 X2.1.1) (u := u4) rfl hu4.what.2.1
  simp (disch := first | omega | (simp only [List.length_set, List.length_replicate, List.length_append, List.length_take, List.length_drop, List.length_cons, List.length_nil, List.length_map, List.length_range, ints_length] <;> omega)) only [go_sem, decide_true, st, bxH_eq, List.getElem?_cons_zero, List.getElem?_cons_succ]
  have fx := f4.trans (bxH_fr h4 X2.1.1 u4)
  replace b := b.mono fx
  replace g := g.trans fx
  replace gp := gp.trans fx
  replace b := b.snoc (bxH_bx h4 (N := X2.1.1) (A := X2.1.2) hu4)
  clear fx st hu4
  generalize h4.next = i4 at *
  generalize bxH h4 X2.1.1 u4 = k4 at *
  refine (Int_ok k _).mono ?_
  rintro v h5 ⟨w, rfl, ⟨u5, rfl, hu5, -⟩, f5⟩
  simp only [hX3] at hu5 ⊢
  have st := fun hh id => stV_agg2 hh id 0 (v := .int .i64 X3.1.1) (u := u5) rfl hu5.what.2.1
  simp (disch := first | omega | (simp only [List.length_set, List.length_replicate, List.length_append, List.length_take, List.length_drop, List.length_cons, List.length_nil, List.length_map, List.length_range, ints_length] <;> omega)) only [go_sem, decide_true, st, bxH_eq, List.getElem?_cons_zero, List.getElem?_cons_succ]
  have fx := f5.trans (bxH_fr h5 X3.1.1 u5)
  replace b := b.mono fx
  replace g := g.trans fx
  replace gp := gp.trans fx
  replace b := b.snoc (bxH_bx h5 (N := X3.1.1) (A := X3.1.2) hu5)
  clear fx st hu5
  generalize h5.next = i5 at *
  generalize bxH h5 X3.1.1 u5 = k5 at *
  refine (rInt_ok k _).mono ?_
  rintro v h6 ⟨w, rfl, ⟨u6, rfl, hu6, -⟩, f6⟩
  simp only [hX3] at hu6 ⊢
  have st := fun hh id => stV_agg2 hh id 0 (v := .int .i64 X3.1.1) (u := u6) rfl hu6.what.2.1
  simp (disch := first | omega | (simp only [List.length_set, List.length_replicate, List.length_append, List.length_take, List.length_drop, List.length_cons, List.length_nil, List.length_map, List.length_range, ints_length] <;> omega)) only [go_sem, decide_true, st, bxH_eq, List.getElem?_cons_zero, List.getElem?_cons_succ]
  have fx := f6.trans (bxH_fr h6 X3.1.1 u6)
  replace b := b.mono fx
  replace g := g.trans fx
  replace gp := gp.trans fx
  replace b := b.snoc (bxH_bx h6 (N := X3.1.1) (A := X3.1.2) hu6)
  clear fx st hu6
  generalize h6.next = i6 at *
  generalize bxH h6 X3.1.1 u6 = k6 at *
  refine (same_ok p q X0.1 X0.1 k6 (hp.mono gp) (hq.mono gp) l0 l0).mono ?_
  rintro v k7 ⟨rfl, f7⟩
  replace b := b.mono f7
  replace g := g.trans f7
  simp (disch := first | omega | (simp only [List.length_set, List.length_replicate, List.length_append, List.length_take, List.length_drop, List.length_cons, List.length_nil, List.length_map, List.length_range, ints_length] <;> omega)) only [go_sem, decide_true]
  obtain ⟨w8a, r8a, c8a⟩ := b.at 0 i1 X1.1.1 X1.1.2 rfl
  obtain ⟨w8b, r8b, c8b⟩ := b.at 1 i2 X1.1.1 X1.1.2 rfl
  simp (disch := first | omega | (simp only [List.length_set, List.length_replicate, List.length_append, List.length_take, List.length_drop, List.length_cons, List.length_nil, List.length_map, List.length_range, ints_length] <;> omega)) only [go_sem, decide_true, r8a, r8b]
  refine (lawsame_ok _ _ _ _ _ c8a c8b l1 l1).mono ?_
  rintro v k8 ⟨rfl, f8⟩
  replace b := b.mono f8
  replace g := g.trans f8
  try simp (disch := first | omega | (simp only [List.length_set, List.length_replicate, List.length_append, List.length_take, List.length_drop, List.length_cons, List.length_nil, List.length_map, List.length_range, ints_length] <;> omega)) only [go_sem, decide_true]
  obtain ⟨w9a, r9a, c9a⟩ := b.at 2 i3 X2.1.1 X2.1.2 rfl
  obtain ⟨w9b, r9b, c9b⟩ := b.at 3 i4 X2.1.1 X2.1.2 rfl
  simp (disch := first | omega | (simp only [List.length_set, List.length_replicate, List.length_append, List.length_take, List.length_drop, List.length_cons, List.length_nil, List.length_map, List.length_range, ints_length] <;> omega)) only [go_sem, decide_true, r9a, r9b]
  refine (lawsame_ok _ _ _ _ _ c9a c9b l2 l2).mono ?_
  rintro v k9 ⟨rfl, f9⟩
  replace b := b.mono f9
  replace g := g.trans f9
  try simp (disch := first | omega | (simp only [List.length_set, List.length_replicate, List.length_append, List.length_take, List.length_drop, List.length_cons, List.length_nil, List.length_map, List.length_range, ints_length] <;> omega)) only [go_sem, decide_true]
  obtain ⟨w10a, r10a, c10a⟩ := b.at 4 i5 X3.1.1 X3.1.2 rfl
  obtain ⟨w10b, r10b, c10b⟩ := b.at 5 i6 X3.1.1 X3.1.2 rfl
  simp (disch := first | omega | (simp only [List.length_set, List.length_replicate, List.length_append, List.length_take, List.length_drop, List.length_cons, List.length_nil, List.length_map, List.length_range, ints_length] <;> omega)) only [go_sem, decide_true, r10a, r10b]
  refine (lawsame_ok _ _ _ _ _ c10a c10b l3 l3).mono ?_
  rintro v k10 ⟨rfl, f10⟩
  replace b := b.mono f10
  replace g := g.trans f10
  try simp (disch := first | omega | (simp only [List.length_set, List.length_replicate, List.length_append, List.length_take, List.length_drop, List.length_cons, List.length_nil, List.length_map, List.length_range, ints_length] <;> omega)) only [go_sem, decide_true]

set_option maxHeartbeats 16000000 in
theorem calls_ok (va vb : V) (A B : Int × List Int) (k : Int) (h : H) (ha : CycV h va A) (hb : CycV h vb B) (hra : inR A.2) (hrb : inR B.2) (hla : (A.2.length : Int) ≤ 2 ^ 63 - 1) (hlb : (B.2.length : Int) ≤ 2 ^ 63 - 1) :
    Ev T n_law06_CycloCalls [va, vb, .int .i64 k] h (fun v _ => v = .bool true) := by
  obtain ⟨u, rfl, hu⟩ := ha
  obtain ⟨w, rfl, hw⟩ := hb
  refine Ev_of t_law06_CycloCalls rfl ?_
  simp (disch := first | omega | (simp only [List.length_set, List.length_replicate, List.length_append, List.length_take, List.length_drop, List.length_cons, List.length_nil, List.length_map, List.length_range, ints_length] <;> omega)) only [go_sem, c_law06_CycloCalls, initV_eq, boxV_agg2 h (v := .int .i64 A.1) rfl hu.what.2.1]
  have hfx : Fr h (h.new (.cells false [.int .i64 A.1, u])) := (Fr.refl h).new _
  have hgx : (h.new (.cells false [.int .i64 A.1, u])).get h.next = some (.cells false [.int .i64 A.1, u]) := H.get_new_same ..
  have hnx : (h.new (.cells false [.int .i64 A.1, u])).next = h.next + 1 := H.next_new ..
  generalize h.new (.cells false [.int .i64 A.1, u]) = hx at *
  simp (disch := first | omega | (simp only [List.length_set, List.length_replicate, List.length_append, List.length_take, List.length_drop, List.length_cons, List.length_nil, List.length_map, List.length_range, ints_length] <;> omega)) only [go_sem, boxV_agg2 hx (v := .int .i64 B.1) rfl hw.what.2.1]
  have hfy : Fr hx (hx.new (.cells false [.int .i64 B.1, w])) := (Fr.refl hx).new _
  have hgy : (hx.new (.cells false [.int .i64 B.1, w])).get hx.next = some (.cells false [.int .i64 B.1, w]) := H.get_new_same ..
  have hny : (hx.new (.cells false [.int .i64 B.1, w])).next = hx.next + 1 := H.next_new ..
  generalize hx.new (.cells false [.int .i64 B.1, w]) = hy at *
  have g := hfx.trans hfy
  have ga : Bu hy h.next A u := ⟨(hfy.get h.next (by omega)).trans hgx, hu.mono g, by show h.next < hy.next; omega⟩
  have gb : Bu hy hx.next B w := ⟨hgy, hw.mono g, by show hx.next < hy.next; omega⟩
  clear hfx hgx hfy hgy
  refine (lives_ok hy).mono ?_
  rintro v h0 ⟨rfl, f0⟩
  have b := Bxs.nil h0
  replace g := g.trans f0
  replace ga := ga.mono f0
  replace gb := gb.mono f0
  simp (disch := first | omega | (simp only [List.length_set, List.length_replicate, List.length_append, List.length_take, List.length_drop, List.length_cons, List.length_nil, List.length_map, List.length_range, ints_length] <;> omega)) only [go_sem, ga.cell, ga.s.lens]
  by_cases hlong : (200 : Int) < (A.2.length : Int)
  · rw [decide_eq_true hlong]
    simp (disch := first | omega | (simp only [List.length_set, List.length_replicate, List.length_append, List.length_take, List.length_drop, List.length_cons, List.length_nil, List.length_map, List.length_range, ints_length] <;> omega)) only [go_sem]
  rw [decide_eq_false hlong]
  simp (disch := first | omega | (simp only [List.length_set, List.length_replicate, List.length_append, List.length_take, List.length_drop, List.length_cons, List.length_nil, List.length_map, List.length_range, ints_length] <;> omega)) only [go_sem, gb.cell, gb.s.lens]
  refine iteW_dec (fun hlong2 => ?_) (fun hlong2 => ?_)
  · simp (disch := first | omega | (simp only [List.length_set, List.length_replicate, List.length_append, List.length_take, List.length_drop, List.length_cons, List.length_nil, List.length_map, List.length_range, ints_length] <;> omega)) only [go_sem]
  have hl1 : A.2.length < 1000000 := by omega
  have hl2 : B.2.length < 1000000 := by omega
  obtain ⟨X0, hX0⟩ : ∃ X, addF A B = X := ⟨_, rfl⟩
  have l0 := addF_len A B
  rw [hX0] at l0
  obtain ⟨X1, hX1⟩ : ∃ X, mulF A B = X := ⟨_, rfl⟩
  have l1 := mulF_len A B
  rw [hX1] at l1
  obtain ⟨X2, hX2⟩ : ∃ X, scaleF A k = X := ⟨_, rfl⟩
  have l2 := scaleF_len A k
  rw [hX2] at l2
  obtain ⟨X3, hX3⟩ : ∃ X, quotF A k = X := ⟨_, rfl⟩
  have l3 := quotF_len A k hl1
  rw [hX3] at l3
  obtain ⟨X4, hX4⟩ : ∃ X, galF A k = X := ⟨_, rfl⟩
  have l4 := galF_len A k
  rw [hX4] at l4
  obtain ⟨X5, hX5⟩ : ∃ X, galF A (-1) = X := ⟨_, rfl⟩
  have l5 := galF_len A (-1)
  rw [hX5] at l5
  simp (disch := first | omega | (simp only [List.length_set, List.length_replicate, List.length_append, List.length_take, List.length_drop, List.length_cons, List.length_nil, List.length_map, List.length_range, ints_length] <;> omega)) only [go_sem, ga.row, gb.row]
  refine (add_ok _ _ A B _ ga.cv gb.cv hl1 hl2).mono ?_
  rintro v h1 ⟨w, rfl, ⟨u1, rfl, hu1, -⟩, f1⟩
  simp only [hX0] at hu1 ⊢
  have st := fun hh id => stV_agg2 hh id 0 (v := .int .i64 X0.1.1) (u := u1) rfl hu1.what.2.1
  simp (disch := first | omega | (simp only [List.length_set, List.length_replicate, List.length_append, List.length_take, List.length_drop, List.length_cons, List.length_nil, List.length_map, List.length_range, ints_length] <;> omega)) only [go_sem, decide_true, st, bxH_eq, List.getElem?_cons_zero, List.getElem?_cons_succ]
  have fx := f1.trans (bxH_fr h1 X0.1.1 u1)
  replace b := b.mono fx
  replace g := g.trans fx
  replace ga := ga.mono fx
  replace gb := gb.mono fx
  replace b := b.snoc (bxH_bx h1 (N := X0.1.1) (A := X0.1.2) hu1)
  clear fx st hu1
  generalize h1.next = i1 at *
  generalize bxH h1 X0.1.1 u1 = k1 at *
  simp (disch := first | omega | (simp only [List.length_set, List.length_replicate, List.length_append, List.length_take, List.length_drop, List.length_cons, List.length_nil, List.length_map, List.length_range, ints_length] <;> omega)) only [go_sem, ga.row, gb.row]
  refine (radd'_ok _ _ A B _ ga.cv gb.cv hl1 hl2 hra hrb).mono ?_
  rintro v h2 ⟨w, rfl, ⟨u2, rfl, hu2, -⟩, f2⟩
  simp only [hX0] at hu2 ⊢
  have st := fun hh id => stV_agg2 hh id 0 (v := .int .i64 X0.1.1) (u := u2) rfl hu2.what.2.1
  simp (disch := first | omega | (simp only [List.length_set, List.length_replicate, List.length_append, List.length_take, List.length_drop, List.length_cons, List.length_nil, List.length_map, List.length_range, ints_length] <;> omega)) only [go_sem, decide_true, st, bxH_eq, List.getElem?_cons_zero, List.getElem?_cons_succ]
  have fx := f2.trans (bxH_fr h2 X0.1.1 u2)
  replace b := b.mono fx
  replace g := g.trans fx
  replace ga := ga.mono fx
  replace gb := gb.mono fx
  replace b := b.snoc (bxH_bx h2 (N := X0.1.1) (A := X0.1.2) hu2)
  clear fx st hu2
  generalize h2.next = i2 at *
  generalize bxH h2 X0.1.1 u2 = k2 at *
  simp (disch := first | omega | (simp only [List.length_set, List.length_replicate, List.length_append, List.length_take, List.length_drop, List.length_cons, List.length_nil, List.length_map, List.length_range, ints_length] <;> omega)) only [go_sem, ga.row, gb.row]
  refine (mul_ok _ _ A B _ ga.cv gb.cv hl1 hl2).mono ?_
  rintro v h3 ⟨w, rfl, ⟨u3, rfl, hu3, -⟩, f3⟩
  simp only [hX1] at hu3 ⊢
  have st := fun hh id => stV_agg2 hh id 0 (v := .int .i64 X1.1.1) (u := u3) rfl hu3.what.2.1
  simp (disch := first | omega | (simp only [List.length_set, List.length_replicate, List.length_append, List.length_take, List.length_drop, List.length_cons, List.length_nil, List.length_map, List.length_range, ints_length] <;> omega)) only [go_sem, decide_true, st, bxH_eq, List.getElem?_cons_zero, List.getElem?_cons_succ]
  have fx := f3.trans (bxH_fr h3 X1.1.1 u3)
  replace b := b.mono fx
  replace g := g.trans fx
  replace ga := ga.mono fx
  replace gb := gb.mono fx
  replace b := b.snoc (bxH_bx h3 (N := X1.1.1) (A := X1.1.2) hu3)
  clear fx st hu3
  generalize h3.next = i3 at *
  generalize bxH h3 X1.1.1 u3 = k3 at *
  simp (disch := first | omega | (simp only [List.length_set, List.length_replicate, List.length_append, List.length_take, List.length_drop, List.length_cons, List.length_nil, List.length_map, List.length_range, ints_length] <;> omega)) only [go_sem, ga.row, gb.row]
  refine (rmul_ok _ _ A B _ ga.cv gb.cv hl1 hl2 hra hrb).mono ?_
  rintro v h4 ⟨w, rfl, ⟨u4, rfl, hu4, -⟩, f4⟩
  simp only [hX1] at hu4 ⊢
  have st := fun hh id => stV_agg2 hh id 0 (v := .int .i64 X1.1.1) (u := u4) rfl hu4.what.2.1
  simp (disch := first | omega | (simp only [List.length_set, List.length_replicate, List.length_append, List.length_take, List.length_drop, List.length_cons, List.length_nil, List.length_map, List.length_range, ints_length] <;> omega)) only [go_sem, decide_true, st, bxH_eq, List.getElem?_cons_zero, List.getElem?_cons_succ]
  have fx := f4.trans (bxH_fr h4 X1.1.1 u4)
  replace b := b.mono fx
  replace g := g.trans fx
  replace ga := ga.mono fx
  replace gb := gb.mono fx
  replace b := b.snoc (bxH_bx h4 (N := X1.1.1) (A := X1.1.2) hu4)
  clear fx st hu4
  generalize h4.next = i4 at *
  generalize bxH h4 X1.1.1 u4 = k4 at *
  simp (disch := first | omega | (simp only [List.length_set, List.length_replicate, List.length_append, List.length_take, List.length_drop, List.length_cons, List.length_nil, List.length_map, List.length_range, ints_length] <;> omega)) only [go_sem, ga.row]
  refine (scale_ok _ A k _ ga.cv hl1).mono ?_
  rintro v h5 ⟨w, rfl, ⟨u5, rfl, hu5, -⟩, f5⟩
  simp only [hX2] at hu5 ⊢
  have st := fun hh id => stV_agg2 hh id 0 (v := .int .i64 X2.1.1) (u := u5) rfl hu5.what.2.1
  simp (disch := first | omega | (simp only [List.length_set, List.length_replicate, List.length_append, List.length_take, List.length_drop, List.length_cons, List.length_nil, List.length_map, List.length_range, ints_length] <;> omega)) only [go_sem, decide_true, st, bxH_eq, List.getElem?_cons_zero, List.getElem?_cons_succ]
  have fx := f5.trans (bxH_fr h5 X2.1.1 u5)
  replace b := b.mono fx
  replace g := g.trans fx
  replace ga := ga.mono fx
  replace gb := gb.mono fx
  replace b := b.snoc (bxH_bx h5 (N := X2.1.1) (A := X2.1.2) hu5)
  clear fx st hu5
  generalize h5.next = i5 at *
  generalize bxH h5 X2.1.1 u5 = k5 at *
  simp (disch := first | omega | (simp only [List.length_set, List.length_replicate, List.length_append, List.length_take, List.length_drop, List.length_cons, List.length_nil, List.length_map, List.length_range, ints_length] <;> omega)) only [go_sem, ga.row]
  refine (rscale_ok _ A k _ ga.cv hl1 hra).mono ?_
  rintro v h6 ⟨w, rfl, ⟨u6, rfl, hu6, -⟩, f6⟩
  simp only [hX2] at hu6 ⊢
  have st := fun hh id => stV_agg2 hh id 0 (v := .int .i64 X2.1.1) (u := u6) rfl hu6.what.2.1
  simp (disch := first | omega | (simp only [List.length_set, List.length_replicate, List.length_append, List.length_take, List.length_drop, List.length_cons, List.length_nil, List.length_map, List.length_range, ints_length] <;> omega)) only [go_sem, decide_true, st, bxH_eq, List.getElem?_cons_zero, List.getElem?_cons_succ]
  have fx := f6.trans (bxH_fr h6 X2.1.1 u6)
  replace b := b.mono fx
  replace g := g.trans fx
  replace ga := ga.mono fx
  replace gb := gb.mono fx
  replace b := b.snoc (bxH_bx h6 (N := X2.1.1) (A := X2.1.2) hu6)
  clear fx st hu6
  generalize h6.next = i6 at *
  generalize bxH h6 X2.1.1 u6 = k6 at *
  simp (disch := first | omega | (simp only [List.length_set, List.length_replicate, List.length_append, List.length_take, List.length_drop, List.length_cons, List.length_nil, List.length_map, List.length_range, ints_length] <;> omega)) only [go_sem, ga.row]
  refine (quot_ok _ A k _ ga.cv hl1).mono ?_
  rintro v h7 ⟨w, rfl, ⟨u7, rfl, hu7, -⟩, f7⟩
  simp only [hX3] at hu7 ⊢
  have st := fun hh id => stV_agg2 hh id 0 (v := .int .i64 X3.1.1) (u := u7) rfl hu7.what.2.1
  simp (disch := first | omega | (simp only [List.length_set, List.length_replicate, List.length_append, List.length_take, List.length_drop, List.length_cons, List.length_nil, List.length_map, List.length_range, ints_length] <;> omega)) only [go_sem, decide_true, st, bxH_eq, List.getElem?_cons_zero, List.getElem?_cons_succ]
  have fx := f7.trans (bxH_fr h7 X3.1.1 u7)
  replace b := b.mono fx
  replace g := g.trans fx
  replace ga := ga.mono fx
  replace gb := gb.mono fx
  replace b := b.snoc (bxH_bx h7 (N := X3.1.1) (A := X3.1.2) hu7)
  clear fx st hu7
  generalize h7.next = i7 at *
  generalize bxH h7 X3.1.1 u7 = k7 at *
  simp (disch := first | omega | (simp only [List.length_set, List.length_replicate, List.length_append, List.length_take, List.length_drop, List.length_cons, List.length_nil, List.length_map, List.length_range, ints_length] <;> omega)) only [go_sem, ga.row]
  refine (rquot_ok _ A k _ ga.cv hl1 hra).mono ?_
  rintro v h8 ⟨w, rfl, ⟨u8, rfl, hu8, -⟩, f8⟩
  simp only [hX3] at hu8 ⊢
  have st := fun hh id => stV_agg2 hh id 0 (v := .int .i64 X3.1.1) (u := u8) rfl hu8.what.2.1
  simp (disch := first | omega | (simp only [List.length_set, List.length_replicate, List.length_append, List.length_take, List.length_drop, List.length_cons, List.length_nil, List.length_map, List.length_range, ints_length] <;> omega)) only [go_sem, decide_true, st, bxH_eq, List.getElem?_cons_zero, List.getElem?_cons_succ]
  have fx := f8.trans (bxH_fr h8 X3.1.1 u8)
  replace b := b.mono fx
  replace g := g.trans fx
  replace ga := ga.mono fx
  replace gb := gb.mono fx
  replace b := b.snoc (bxH_bx h8 (N := X3.1.1) (A := X3.1.2) hu8)
  clear fx st hu8
  generalize h8.next = i8 at *
  generalize bxH h8 X3.1.1 u8 = k8 at *
  simp (disch := first | omega | (simp only [List.length_set, List.length_replicate, List.length_append, List.length_take, List.length_drop, List.length_cons, List.length_nil, List.length_map, List.length_range, ints_length] <;> omega)) only [go_sem, ga.row]
  refine (gal_ok _ A k _ ga.cv hl1).mono ?_
  rintro v h9 ⟨w, rfl, ⟨u9, rfl, hu9, -⟩, f9⟩
  simp only [hX4] at hu9 ⊢
  have st := fun hh id => stV_agg2 hh id 0 (v := .int .i64 X4.1.1) (u := u9) rfl hu9.what.2.1
  simp (disch := first | omega | (simp only [List.length_set, List.length_replicate, List.length_append, List.length_take, List.length_drop, List.length_cons, List.length_nil, List.length_map, List.length_range, ints_length] <;> omega)) only [go_sem, decide_true, st, bxH_eq, List.getElem?_cons_zero, List.getElem?_cons_succ]
  have fx := f9.trans (bxH_fr h9 X4.1.1 u9)
  replace b := b.mono fx
  replace g := g.trans fx
  replace ga := ga.mono fx
  replace gb := gb.mono fx
  replace b := b.snoc (bxH_bx h9 (N := X4.1.1) (A := X4.1.2) hu9)
  clear fx st hu9
  generalize h9.next = i9 at *
  generalize bxH h9 X4.1.1 u9 = k9 at *
  simp (disch := first | omega | (simp only [List.length_set, List.length_replicate, List.length_append, List.length_take, List.length_drop, List.length_cons, List.length_nil, List.length_map, List.length_range, ints_length] <;> omega)) only [go_sem, ga.row]
  refine (rgal_ok _ A k _ ga.cv hl1 hra).mono ?_
  rintro v h10 ⟨w, rfl, ⟨u10, rfl, hu10, -⟩, f10⟩
  simp only [hX4] at hu10 ⊢
  have st := fun hh id => stV_agg2 hh id 0 (v := .int .i64 X4.1.1) (u := u10) rfl hu10.what.2.1
  simp (disch := first | omega | (simp only [List.length_set, List.length_replicate, List.length_append, List.length_take, List.length_drop, List.length_cons, List.length_nil, List.length_map, List.length_range, ints_length] <;> omega)) only [go_sem, decide_true, st, bxH_eq, List.getElem?_cons_zero, List.getElem?_cons_succ]
  have fx := f10.trans (bxH_fr h10 X4.1.1 u10)
  replace b := b.mono fx
  replace g := g.trans fx
  replace ga := ga.mono fx
  replace gb := gb.mono fx
  replace b := b.snoc (bxH_bx h10 (N := X4.1.1) (A := X4.1.2) hu10)
  clear fx st hu10
  generalize h10.next = i10 at *
  generalize bxH h10 X4.1.1 u10 = k10 at *
  simp (disch := first | omega | (simp only [List.length_set, List.length_replicate, List.length_append, List.length_take, List.length_drop, List.length_cons, List.length_nil, List.length_map, List.length_range, ints_length] <;> omega)) only [go_sem, ga.row]
  refine (conj_ok _ A _ ga.cv hl1).mono ?_
  rintro v h11 ⟨w, rfl, ⟨u11, rfl, hu11, -⟩, f11⟩
  simp only [hX5] at hu11 ⊢
  have st := fun hh id => stV_agg2 hh id 0 (v := .int .i64 X5.1.1) (u := u11) rfl hu11.what.2.1
  simp (disch := first | omega | (simp only [List.length_set, List.length_replicate, List.length_append, List.length_take, List.length_drop, List.length_cons, List.length_nil, List.length_map, List.length_range, ints_length] <;> omega)) only [go_sem, decide_true, st, bxH_eq, List.getElem?_cons_zero, List.getElem?_cons_succ]
  have fx := f11.trans (bxH_fr h11 X5.1.1 u11)
  replace b := b.mono fx
  replace g := g.trans fx
  replace ga := ga.mono fx
  replace gb := gb.mono fx
  replace b := b.snoc (bxH_bx h11 (N := X5.1.1) (A := X5.1.2) hu11)
  clear fx st hu11
  generalize h11.next = i11 at *
  generalize bxH h11 X5.1.1 u11 = k11 at *
  simp (disch := first | omega | (simp only [List.length_set, List.length_replicate, List.length_append, List.length_take, List.length_drop, List.length_cons, List.length_nil, List.length_map, List.length_range, ints_length] <;> omega)) only [go_sem, ga.row]
  refine (rconj_ok _ A _ ga.cv hl1 hra).mono ?_
  rintro v h12 ⟨w, rfl, ⟨u12, rfl, hu12, -⟩, f12⟩
  simp only [hX5] at hu12 ⊢
  have st := fun hh id => stV_agg2 hh id 0 (v := .int .i64 X5.1.1) (u := u12) rfl hu12.what.2.1
  simp (disch := first | omega | (simp only [List.length_set, List.length_replicate, List.length_append, List.length_take, List.length_drop, List.length_cons, List.length_nil, List.length_map, List.length_range, ints_length] <;> omega)) only [go_sem, decide_true, st, bxH_eq, List.getElem?_cons_zero, List.getElem?_cons_succ]
  have fx := f12.trans (bxH_fr h12 X5.1.1 u12)
  replace b := b.mono fx
  replace g := g.trans fx
  replace ga := ga.mono fx
  replace gb := gb.mono fx
  replace b := b.snoc (bxH_bx h12 (N := X5.1.1) (A := X5.1.2) hu12)
  clear fx st hu12
  generalize h12.next = i12 at *
  generalize bxH h12 X5.1.1 u12 = k12 at *
  simp (disch := first | omega | (simp only [List.length_set, List.length_replicate, List.length_append, List.length_take, List.length_drop, List.length_cons, List.length_nil, List.length_map, List.length_range, ints_length] <;> omega)) only [go_sem, ga.row]
  refine (rat_ok _ A _ ga.cv hl1).mono ?_
  rintro v k13 ⟨rfl, f13⟩
  replace b := b.mono f13
  replace ga := ga.mono f13
  replace gb := gb.mono f13
  simp (disch := first | omega | (simp only [List.length_set, List.length_replicate, List.length_append, List.length_take, List.length_drop, List.length_cons, List.length_nil, List.length_map, List.length_range, ints_length] <;> omega)) only [go_sem, List.getElem?_cons_zero, List.getElem?_cons_succ]
  simp (disch := first | omega | (simp only [List.length_set, List.length_replicate, List.length_append, List.length_take, List.length_drop, List.length_cons, List.length_nil, List.length_map, List.length_range, ints_length] <;> omega)) only [go_sem, ga.row]
  refine (rrat_ok _ A _ ga.cv hl1 hra).mono ?_
  rintro v k14 ⟨rfl, f14⟩
  replace b := b.mono f14
  replace ga := ga.mono f14
  replace gb := gb.mono f14
  simp (disch := first | omega | (simp only [List.length_set, List.length_replicate, List.length_append, List.length_take, List.length_drop, List.length_cons, List.length_nil, List.length_map, List.length_range, ints_length] <;> omega)) only [go_sem, List.getElem?_cons_zero, List.getElem?_cons_succ]
  have fb : Fr k14 (H.mk k14.tr (k14.next + 85)) := (Fr.refl _).bump (by omega)
  replace b := b.mono fb
  replace ga := ga.mono fb
  replace gb := gb.mono fb
  have eu : eqV u u = true := SV.eqV ga.s
  have ew : eqV w w = true := SV.eqV gb.s
  simp (disch := first | omega | (simp only [List.length_set, List.length_replicate, List.length_append, List.length_take, List.length_drop, List.length_cons, List.length_nil, List.length_map, List.length_range, ints_length] <;> omega)) only [go_sem, ga.row]
  refine (check_ok _ A _ ga.cv hl1).mono ?_
  rintro v k15 ⟨rfl, f15⟩
  replace b := b.mono f15
  replace ga := ga.mono f15
  replace gb := gb.mono f15
  simp (disch := first | omega | (simp only [List.length_set, List.length_replicate, List.length_append, List.length_take, List.length_drop, List.length_cons, List.length_nil, List.length_map, List.length_range, ints_length] <;> omega)) only [go_sem, ga.row, eu, decide_true]
  refine (rcheck_ok _ A _ ga.cv hl1 hra).mono ?_
  rintro v k16 ⟨rfl, f16⟩
  replace b := b.mono f16
  replace ga := ga.mono f16
  replace gb := gb.mono f16
  simp (disch := first | omega | (simp only [List.length_set, List.length_replicate, List.length_append, List.length_take, List.length_drop, List.length_cons, List.length_nil, List.length_map, List.length_range, ints_length] <;> omega)) only [go_sem, ga.row, eu, decide_true]
  replace b : Bxs k16 [(i1, (X0.1.1, X0.1.2)), (i2, (X0.1.1, X0.1.2)), (i3, (X1.1.1, X1.1.2)), (i4, (X1.1.1, X1.1.2)), (i5, (X2.1.1, X2.1.2)), (i6, (X2.1.1, X2.1.2)), (i7, (X3.1.1, X3.1.2)), (i8, (X3.1.1, X3.1.2)), (i9, (X4.1.1, X4.1.2)), (i10, (X4.1.1, X4.1.2)), (i11, (X5.1.1, X5.1.2)), (i12, (X5.1.1, X5.1.2))] := b
  obtain ⟨w17a, r17a, c17a⟩ := b.at 0 i1 X0.1.1 X0.1.2 rfl
  obtain ⟨w17b, r17b, c17b⟩ := b.at 1 i2 X0.1.1 X0.1.2 rfl
  simp (disch := first | omega | (simp only [List.length_set, List.length_replicate, List.length_append, List.length_take, List.length_drop, List.length_cons, List.length_nil, List.length_map, List.length_range, ints_length] <;> omega)) only [go_sem, decide_true, r17a, r17b]
  refine (lawsame_ok _ _ _ _ _ c17a c17b l0 l0).mono ?_
  rintro v k17 ⟨rfl, f17⟩
  replace b := b.mono f17
  replace ga := ga.mono f17
  replace gb := gb.mono f17
  try simp (disch := first | omega | (simp only [List.length_set, List.length_replicate, List.length_append, List.length_take, List.length_drop, List.length_cons, List.length_nil, List.length_map, List.length_range, ints_length] <;> omega)) only [go_sem, decide_true]
  obtain ⟨w18a, r18a, c18a⟩ := b.at 2 i3 X1.1.1 X1.1.2 rfl
  obtain ⟨w18b, r18b, c18b⟩ := b.at 3 i4 X1.1.1 X1.1.2 rfl
  simp (disch := first | omega | (simp only [List.length_set, List.length_replicate, List.length_append, List.length_take, List.length_drop, List.length_cons, List.length_nil, List.length_map, List.length_range, ints_length] <;> omega)) only [go_sem, decide_true, r18a, r18b]
  refine (lawsame_ok _ _ _ _ _ c18a c18b l1 l1).mono ?_
  rintro v k18 ⟨rfl, f18⟩
  replace b := b.mono f18
  replace ga := ga.mono f18
  replace gb := gb.mono f18
  try simp (disch := first | omega | (simp only [List.length_set, List.length_replicate, List.length_append, List.length_take, List.length_drop, List.length_cons, List.length_nil, List.length_map, List.length_range, ints_length] <;> omega)) only [go_sem, decide_true]
  obtain ⟨w19a, r19a, c19a⟩ := b.at 4 i5 X2.1.1 X2.1.2 rfl
  obtain ⟨w19b, r19b, c19b⟩ := b.at 5 i6 X2.1.1 X2.1.2 rfl
  simp (disch := first | omega | (simp only [List.length_set, List.length_replicate, List.length_append, List.length_take, List.length_drop, List.length_cons, List.length_nil, List.length_map, List.length_range, ints_length] <;> omega)) only [go_sem, decide_true, r19a, r19b]
  refine (lawsame_ok _ _ _ _ _ c19a c19b l2 l2).mono ?_
  rintro v k19 ⟨rfl, f19⟩
  replace b := b.mono f19
  replace ga := ga.mono f19
  replace gb := gb.mono f19
  try simp (disch := first | omega | (simp only [List.length_set, List.length_replicate, List.length_append, List.length_take, List.length_drop, List.length_cons, List.length_nil, List.length_map, List.length_range, ints_length] <;> omega)) only [go_sem, decide_true]
  obtain ⟨w20a, r20a, c20a⟩ := b.at 6 i7 X3.1.1 X3.1.2 rfl
  obtain ⟨w20b, r20b, c20b⟩ := b.at 7 i8 X3.1.1 X3.1.2 rfl
  simp (disch := first | omega | (simp only [List.length_set, List.length_replicate, List.length_append, List.length_take, List.length_drop, List.length_cons, List.length_nil, List.length_map, List.length_range, ints_length] <;> omega)) only [go_sem, decide_true, r20a, r20b]
  refine (lawsame_ok _ _ _ _ _ c20a c20b l3 l3).mono ?_
  rintro v k20 ⟨rfl, f20⟩
  replace b := b.mono f20
  replace ga := ga.mono f20
  replace gb := gb.mono f20
  try simp (disch := first | omega | (simp only [List.length_set, List.length_replicate, List.length_append, List.length_take, List.length_drop, List.length_cons, List.length_nil, List.length_map, List.length_range, ints_length] <;> omega)) only [go_sem, decide_true]
  obtain ⟨w21a, r21a, c21a⟩ := b.at 8 i9 X4.1.1 X4.1.2 rfl
  obtain ⟨w21b, r21b, c21b⟩ := b.at 9 i10 X4.1.1 X4.1.2 rfl
  simp (disch := first | omega | (simp only [List.length_set, List.length_replicate, List.length_append, List.length_take, List.length_drop, List.length_cons, List.length_nil, List.length_map, List.length_range, ints_length] <;> omega)) only [go_sem, decide_true, r21a, r21b]
  refine (lawsame_ok _ _ _ _ _ c21a c21b l4 l4).mono ?_
  rintro v k21 ⟨rfl, f21⟩
  replace b := b.mono f21
  replace ga := ga.mono f21
  replace gb := gb.mono f21
  try simp (disch := first | omega | (simp only [List.length_set, List.length_replicate, List.length_append, List.length_take, List.length_drop, List.length_cons, List.length_nil, List.length_map, List.length_range, ints_length] <;> omega)) only [go_sem, decide_true]
  obtain ⟨w22a, r22a, c22a⟩ := b.at 10 i11 X5.1.1 X5.1.2 rfl
  obtain ⟨w22b, r22b, c22b⟩ := b.at 11 i12 X5.1.1 X5.1.2 rfl
  simp (disch := first | omega | (simp only [List.length_set, List.length_replicate, List.length_append, List.length_take, List.length_drop, List.length_cons, List.length_nil, List.length_map, List.length_range, ints_length] <;> omega)) only [go_sem, decide_true, r22a, r22b]
  refine (lawsame_ok _ _ _ _ _ c22a c22b l5 l5).mono ?_
  rintro v k22 ⟨rfl, f22⟩
  replace b := b.mono f22
  replace ga := ga.mono f22
  replace gb := gb.mono f22
  try simp (disch := first | omega | (simp only [List.length_set, List.length_replicate, List.length_append, List.length_take, List.length_drop, List.length_cons, List.length_nil, List.length_map, List.length_range, ints_length] <;> omega)) only [go_sem, decide_true]
  simp (disch := first | omega | (simp only [List.length_set, List.length_replicate, List.length_append, List.length_take, List.length_drop, List.length_cons, List.length_nil, List.length_map, List.length_range, ints_length] <;> omega)) only [go_sem, ga.row, gb.row, beq_self_eq_true]
  refine (cmp_ok _ _ A B _ ga.cv gb.cv hl1 hl2).mono ?_
  rintro v k23 ⟨rfl, f23⟩
  replace ga := ga.mono f23
  replace gb := gb.mono f23
  try simp (disch := first | omega | (simp only [List.length_set, List.length_replicate, List.length_append, List.length_take, List.length_drop, List.length_cons, List.length_nil, List.length_map, List.length_range, ints_length] <;> omega)) only [go_sem, ga.row, gb.row, eu, ew, decide_true]
  refine (rcmp_ok _ _ A B _ ga.cv gb.cv hl1 hl2).mono ?_
  rintro v k24 ⟨rfl, f24⟩
  replace ga := ga.mono f24
  replace gb := gb.mono f24
  try simp (disch := first | omega | (simp only [List.length_set, List.length_replicate, List.length_append, List.length_take, List.length_drop, List.length_cons, List.length_nil, List.length_map, List.length_range, ints_length] <;> omega)) only [go_sem, ga.row, gb.row, eu, ew, decide_true]
end
end Go.Proofs.Ythfabknpogbcaaa
