/- Contracts: the chapter's examples. -/
import Derived.Test.YthfabknpogbcaaaC6lit
namespace Go.Proofs.Ythfabknpogbcaaa
open Go Go.Ay
set_option maxRecDepth 100000
noncomputable section
theorem lives_val0 : rootF 6 1 = ((3, [1, 1]), 0) := by decide +kernel
theorem lives_val1 : rootF 8 1 = ((8, [0, 1, 0, 0]), 0) := by decide +kernel
theorem lives_val2 : rootF 8 7 = ((8, [0, 0, 0, -1]), 0) := by decide +kernel
theorem lives_val3 : addF (8, [0, 1, 0, 0]) (8, [0, 0, 0, -1]) = ((8, [0, 1, 0, -1]), 0) := by decide +kernel
theorem lives_val4 : mulF (8, [0, 1, 0, -1]) (8, [0, 1, 0, -1]) = ((1, [2]), 0) := by decide +kernel

set_option maxHeartbeats 8000000 in
theorem lives_ok (h : H) : Ev T n_law06_lives [] h (fun v h' => v = .bool true ∧ Fr h h') := by
  refine Ev_of t_law06_lives rfl ?_
  simp (disch := first | omega | (simp only [List.length_set, List.length_replicate, List.length_append, List.length_take, List.length_drop, List.length_cons, List.length_nil, List.length_map, List.length_range, ints_length] <;> omega)) only [go_sem, c_law06_lives, initV_eq]
  have g := Fr.refl h
  have b := Bxs.nil h
  refine (Root_ok 6 1 h).mono ?_
  rintro v1 h1 ⟨w, rfl, ⟨u1, rfl, hu1, -⟩, f1⟩
  simp only [lives_val0] at hu1 ⊢
  have st := fun hh id => stV_agg2 hh id 0 (v := .int .i64 3) (u := u1) rfl hu1.what.2.1
  simp (disch := first | omega | (simp only [List.length_set, List.length_replicate, List.length_append, List.length_take, List.length_drop, List.length_cons, List.length_nil, List.length_map, List.length_range, ints_length] <;> omega)) only [go_sem, decide_true, st, bxH_eq]
  have fx := f1.trans (bxH_fr h1 3 u1)
  replace b := b.mono (fx)
  replace g := g.trans (fx)
  replace b := b.snoc (bxH_bx h1 (N := 3) hu1)
  clear fx st hu1
  generalize h1.next = i1 at *
  generalize bxH h1 3 u1 = k1 at *
  refine (lawroot_ok 8 1 _).mono ?_
  rintro w2 k2 ⟨c2, f2⟩
  rw [lives_val1] at c2
  replace b := b.mono (f2)
  replace g := g.trans (f2)
  simp (disch := first | omega | (simp only [List.length_set, List.length_replicate, List.length_append, List.length_take, List.length_drop, List.length_cons, List.length_nil, List.length_map, List.length_range, ints_length] <;> omega)) only [go_sem, decide_true]
  refine (lawroot_ok 8 7 _).mono ?_
  rintro w3 k3 ⟨c3, f3⟩
  rw [lives_val2] at c3
  replace b := b.mono (f3)
  replace g := g.trans (f3)
  simp (disch := first | omega | (simp only [List.length_set, List.length_replicate, List.length_append, List.length_take, List.length_drop, List.length_cons, List.length_nil, List.length_map, List.length_range, ints_length] <;> omega)) only [go_sem, decide_true]
  refine (add_ok w2 w3 _ _ k3 (c2.mono f3).cv c3.cv (by decide) (by decide)).mono ?_
  rintro v4 h4 ⟨w, rfl, ⟨u4, rfl, hu4, -⟩, f4⟩
  simp only [lives_val3] at hu4 ⊢
  have st := fun hh id => stV_agg2 hh id 0 (v := .int .i64 8) (u := u4) rfl hu4.what.2.1
  simp (disch := first | omega | (simp only [List.length_set, List.length_replicate, List.length_append, List.length_take, List.length_drop, List.length_cons, List.length_nil, List.length_map, List.length_range, ints_length] <;> omega)) only [go_sem, decide_true, st, bxH_eq]
  have fx := f4.trans (bxH_fr h4 8 u4)
  replace b := b.mono (fx)
  replace g := g.trans (fx)
  replace b := b.snoc (bxH_bx h4 (N := 8) hu4)
  clear fx st hu4
  generalize h4.next = i4 at *
  generalize bxH h4 8 u4 = k4 at *
  obtain ⟨u5, r5, c5⟩ := b.at 1 i4 8 [0, 1, 0, -1] rfl
  simp (disch := first | omega | (simp only [List.length_set, List.length_replicate, List.length_append, List.length_take, List.length_drop, List.length_cons, List.length_nil, List.length_map, List.length_range, ints_length] <;> omega)) only [go_sem, decide_true, r5]
  refine (mul_ok _ _ _ _ _ c5 c5 (by decide) (by decide)).mono ?_
  rintro v6 h6 ⟨w, rfl, ⟨u6, rfl, hu6, -⟩, f6⟩
  simp only [lives_val4] at hu6 ⊢
  have st := fun hh id => stV_agg2 hh id 0 (v := .int .i64 1) (u := u6) rfl hu6.what.2.1
  simp (disch := first | omega | (simp only [List.length_set, List.length_replicate, List.length_append, List.length_take, List.length_drop, List.length_cons, List.length_nil, List.length_map, List.length_range, ints_length] <;> omega)) only [go_sem, decide_true, st, bxH_eq]
  have fx := f6.trans (bxH_fr h6 1 u6)
  replace b := b.mono (fx)
  replace g := g.trans (fx)
  replace b := b.snoc (bxH_bx h6 (N := 1) hu6)
  clear fx st hu6
  generalize h6.next = i6 at *
  generalize bxH h6 1 u6 = k6 at *
  obtain ⟨u7, r7, c7⟩ := b.at 0 i1 3 [1, 1] rfl
  simp (disch := first | omega | (simp only [List.length_set, List.length_replicate, List.length_append, List.length_take, List.length_drop, List.length_cons, List.length_nil, List.length_map, List.length_range, ints_length] <;> omega)) only [go_sem, decide_true, r7, bls_two]
  refine (is_ok _ _ _ 0 3 [1, 1] _ (c7.mono (lit_fr _ [1, 1])) (lit_si _ [1, 1] 2 rfl) (by decide) (by decide)).mono ?_
  rintro v8 k8 ⟨rfl, f8⟩
  rw [show decide ((0 : Int) = 0 ∧ ((3, [1, 1]) : Int × List Int) = (3, [1, 1])) = true from by decide]
  replace b := b.mono ((lit_fr _ [1, 1]).trans f8)
  replace g := g.trans ((lit_fr _ [1, 1]).trans f8)
  obtain ⟨u9, r9, c9⟩ := b.at 1 i4 8 [0, 1, 0, -1] rfl
  simp (disch := first | omega | (simp only [List.length_set, List.length_replicate, List.length_append, List.length_take, List.length_drop, List.length_cons, List.length_nil, List.length_map, List.length_range, ints_length] <;> omega)) only [go_sem, decide_true, r9, bls_four]
  refine (is_ok _ _ _ 0 8 [0, 1, 0, -1] _ (c9.mono (lit_fr _ [0, 1, 0, -1])) (lit_si _ [0, 1, 0, -1] 4 rfl) (by decide) (by decide)).mono ?_
  rintro v10 k10 ⟨rfl, f10⟩
  rw [show decide ((0 : Int) = 0 ∧ ((8, [0, 1, 0, -1]) : Int × List Int) = (8, [0, 1, 0, -1])) = true from by decide]
  replace b := b.mono ((lit_fr _ [0, 1, 0, -1]).trans f10)
  replace g := g.trans ((lit_fr _ [0, 1, 0, -1]).trans f10)
  obtain ⟨u11, r11, c11⟩ := b.at 2 i6 1 [2] rfl
  simp (disch := first | omega | (simp only [List.length_set, List.length_replicate, List.length_append, List.length_take, List.length_drop, List.length_cons, List.length_nil, List.length_map, List.length_range, ints_length] <;> omega)) only [go_sem, decide_true, r11, bls_one]
  refine (is_ok _ _ _ 0 1 [2] _ (c11.mono (lit_fr _ [2])) (lit_si _ [2] 1 rfl) (by decide) (by decide)).mono ?_
  rintro v12 k12 ⟨rfl, f12⟩
  rw [show decide ((0 : Int) = 0 ∧ ((1, [2]) : Int × List Int) = (1, [2])) = true from by decide]
  replace b := b.mono ((lit_fr _ [2]).trans f12)
  replace g := g.trans ((lit_fr _ [2]).trans f12)
  simp (disch := first | omega | (simp only [List.length_set, List.length_replicate, List.length_append, List.length_take, List.length_drop, List.length_cons, List.length_nil, List.length_map, List.length_range, ints_length] <;> omega)) only [go_sem, decide_true]
  exact g
end
end Go.Proofs.Ythfabknpogbcaaa
