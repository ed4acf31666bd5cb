/- Contracts: the law of the chapter's examples. -/
import Derived.Test.YthfabknpogbcaaaC6tv
namespace Go.Proofs.Ythfabknpogbcaaa
open Go Go.Ay
set_option maxRecDepth 100000
noncomputable section


set_option maxHeartbeats 8000000 in
theorem names_ok (h : H) : Ev T n_law06_CycloNames [] h (fun v h' => v = .bool true ∧ Fr h h') := by
  refine Ev_of t_law06_CycloNames rfl ?_
  simp (disch := first | omega | (simp only [List.length_set, List.length_replicate, List.length_append, List.length_take, List.length_drop, List.length_cons, List.length_nil, List.length_map, List.length_range, ints_length] <;> omega)) only [go_sem, c_law06_CycloNames, initV_eq]
  have g := Fr.refl h
  have b := Bxs.nil h
  refine (lives_ok h).mono ?_
  rintro v0 k0 ⟨rfl, f0⟩
  simp (disch := first | omega | (simp only [List.length_set, List.length_replicate, List.length_append, List.length_take, List.length_drop, List.length_cons, List.length_nil, List.length_map, List.length_range, ints_length] <;> omega)) only [go_sem, decide_true]
  replace b := b.mono (f0)
  replace g := g.trans (f0)
  refine (Phi_ok 1 _).mono ?_
  rintro v1 k1 ⟨p1, rfl, q1, f1⟩
  simp only [names_val0]
  replace b := b.mono (f1)
  replace g := g.trans (f1)
  simp (disch := first | omega | (simp only [List.length_set, List.length_replicate, List.length_append, List.length_take, List.length_drop, List.length_cons, List.length_nil, List.length_map, List.length_range, ints_length] <;> omega)) only [go_sem, decide_true]
  refine (Phi_ok 12 _).mono ?_
  rintro v2 k2 ⟨p2, rfl, q2, f2⟩
  simp only [names_val1]
  replace b := b.mono (f2)
  replace q1 := q1.mono (f2)
  replace g := g.trans (f2)
  simp (disch := first | omega | (simp only [List.length_set, List.length_replicate, List.length_append, List.length_take, List.length_drop, List.length_cons, List.length_nil, List.length_map, List.length_range, ints_length] <;> omega)) only [go_sem, decide_true]
  refine (Phi_ok 105 _).mono ?_
  rintro v3 k3 ⟨p3, rfl, q3, f3⟩
  simp only [names_val2]
  replace b := b.mono (f3)
  replace q1 := q1.mono (f3)
  replace q2 := q2.mono (f3)
  replace g := g.trans (f3)
  simp (disch := first | omega | (simp only [List.length_set, List.length_replicate, List.length_append, List.length_take, List.length_drop, List.length_cons, List.length_nil, List.length_map, List.length_range, ints_length] <;> omega)) only [go_sem, decide_true]
  refine (Phi_ok 121 _).mono ?_
  rintro v4 k4 ⟨p4, rfl, -, f4⟩
  simp only [names_val3]
  replace b := b.mono (f4)
  replace q1 := q1.mono (f4)
  replace q2 := q2.mono (f4)
  replace q3 := q3.mono (f4)
  replace g := g.trans (f4)
  simp (disch := first | omega | (simp only [List.length_set, List.length_replicate, List.length_append, List.length_take, List.length_drop, List.length_cons, List.length_nil, List.length_map, List.length_range, ints_length] <;> omega)) only [go_sem, decide_true]
  refine (Phi_ok 120 _).mono ?_
  rintro v5 k5 ⟨p5, rfl, q5, f5⟩
  simp only [names_val4]
  replace b := b.mono (f5)
  replace q1 := q1.mono (f5)
  replace q2 := q2.mono (f5)
  replace q3 := q3.mono (f5)
  replace g := g.trans (f5)
  simp (disch := first | omega | (simp only [List.length_set, List.length_replicate, List.length_append, List.length_take, List.length_drop, List.length_cons, List.length_nil, List.length_map, List.length_range, ints_length] <;> omega)) only [go_sem, decide_true]
  simp (disch := first | omega | (simp only [List.length_set, List.length_replicate, List.length_append, List.length_take, List.length_drop, List.length_cons, List.length_nil, List.length_map, List.length_range, ints_length] <;> omega)) only [go_sem, decide_true, bls_two]
  refine (same_ok _ _ _ _ _ (q1.mono (lit_fr _ [-1, 1])) (lit_si _ [-1, 1] 2 rfl) (by rw [names_val5]; decide) (by decide)).mono ?_
  rintro v6 k6 ⟨rfl, f6⟩
  rw [decide_eq_true names_val5]
  replace b := b.mono ((lit_fr _ [-1, 1]).trans f6)
  replace q1 := q1.mono ((lit_fr _ [-1, 1]).trans f6)
  replace q2 := q2.mono ((lit_fr _ [-1, 1]).trans f6)
  replace q3 := q3.mono ((lit_fr _ [-1, 1]).trans f6)
  replace q5 := q5.mono ((lit_fr _ [-1, 1]).trans f6)
  replace g := g.trans ((lit_fr _ [-1, 1]).trans f6)
  simp (disch := first | omega | (simp only [List.length_set, List.length_replicate, List.length_append, List.length_take, List.length_drop, List.length_cons, List.length_nil, List.length_map, List.length_range, ints_length] <;> omega)) only [go_sem, decide_true, bls_five]
  refine (same_ok _ _ _ _ _ (q2.mono (lit_fr _ [1, 0, -1, 0, 1])) (lit_si _ [1, 0, -1, 0, 1] 5 rfl) (by rw [names_val6]; decide) (by decide)).mono ?_
  rintro v7 k7 ⟨rfl, f7⟩
  rw [decide_eq_true names_val6]
  replace b := b.mono ((lit_fr _ [1, 0, -1, 0, 1]).trans f7)
  replace q1 := q1.mono ((lit_fr _ [1, 0, -1, 0, 1]).trans f7)
  replace q2 := q2.mono ((lit_fr _ [1, 0, -1, 0, 1]).trans f7)
  replace q3 := q3.mono ((lit_fr _ [1, 0, -1, 0, 1]).trans f7)
  replace q5 := q5.mono ((lit_fr _ [1, 0, -1, 0, 1]).trans f7)
  replace g := g.trans ((lit_fr _ [1, 0, -1, 0, 1]).trans f7)
  have e105 : lensV p3 = some (V.int IntKind.i64 49) := by have := q3.lens; rw [names_val7] at this; exact this
  have e120 : lensV p5 = some (V.int IntKind.i64 33) := by have := q5.lens; rw [names_val8] at this; exact this
  obtain ⟨id7, off7, hs7, hi7, hc7⟩ := q3.open
  have x7 := hc7 7 (by rw [names_val7]; decide)
  rw [names_val7] at hs7
  rw [names_val9] at x7
  simp (disch := first | omega | (simp only [List.length_set, List.length_replicate, List.length_append, List.length_take, List.length_drop, List.length_cons, List.length_nil, List.length_map, List.length_range, ints_length] <;> omega)) only [go_sem, decide_true, e105, e120]
  have y7 := hs7.ixa .i64 7 (by decide) (by decide)
  rw [show off7 + (7 : Int).toNat * 1 = off7 + 7 from rfl] at y7
  simp (disch := first | omega | (simp only [List.length_set, List.length_replicate, List.length_append, List.length_take, List.length_drop, List.length_cons, List.length_nil, List.length_map, List.length_range, ints_length] <;> omega)) only [go_sem, decide_true, e105, e120, x7, y7]
  clear e105 e120 y7 x7 hc7 hi7 hs7
  clear q1 q2 q3 q5
  refine (Root_ok 4 2 _).mono ?_
  rintro v8 h8 ⟨w, rfl, ⟨u8, rfl, hu8, -⟩, f8⟩
  simp only [names_val10] at hu8 ⊢
  have st := fun hh id => stV_agg2 hh id 0 (v := .int .i64 1) (u := u8) rfl hu8.what.2.1
  simp (disch := first | omega | (simp only [List.length_set, List.length_replicate, List.length_append, List.length_take, List.length_drop, List.length_cons, List.length_nil, List.length_map, List.length_range, ints_length] <;> omega)) only [go_sem, decide_true, st, bxH_eq]
  have fx := f8.trans (bxH_fr h8 1 u8)
  replace b := b.mono (fx)
  replace g := g.trans (fx)
  replace b := b.snoc (bxH_bx h8 (N := 1) hu8)
  clear fx st hu8
  generalize h8.next = i8 at *
  generalize bxH h8 1 u8 = k8 at *
  replace b : Bxs k8 [(i8, (1, [-1]))] := b
  refine (Root_ok 5 (-1) _).mono ?_
  rintro v9 h9 ⟨w, rfl, ⟨u9, rfl, hu9, -⟩, f9⟩
  simp only [names_val11] at hu9 ⊢
  have st := fun hh id => stV_agg2 hh id 0 (v := .int .i64 5) (u := u9) rfl hu9.what.2.1
  simp (disch := first | omega | (simp only [List.length_set, List.length_replicate, List.length_append, List.length_take, List.length_drop, List.length_cons, List.length_nil, List.length_map, List.length_range, ints_length] <;> omega)) only [go_sem, decide_true, st, bxH_eq]
  have fx := f9.trans (bxH_fr h9 5 u9)
  replace b := b.mono (fx)
  replace g := g.trans (fx)
  replace b := b.snoc (bxH_bx h9 (N := 5) hu9)
  clear fx st hu9
  generalize h9.next = i9 at *
  generalize bxH h9 5 u9 = k9 at *
  replace b : Bxs k9 [(i8, (1, [-1])), (i9, (5, [-1, -1, -1, -1]))] := b
  refine (Root_ok 8 9 _).mono ?_
  rintro v10 h10 ⟨w, rfl, ⟨u10, rfl, hu10, -⟩, f10⟩
  simp only [names_val12] at hu10 ⊢
  have st := fun hh id => stV_agg2 hh id 0 (v := .int .i64 8) (u := u10) rfl hu10.what.2.1
  simp (disch := first | omega | (simp only [List.length_set, List.length_replicate, List.length_append, List.length_take, List.length_drop, List.length_cons, List.length_nil, List.length_map, List.length_range, ints_length] <;> omega)) only [go_sem, decide_true, st, bxH_eq]
  have fx := f10.trans (bxH_fr h10 8 u10)
  replace b := b.mono (fx)
  replace g := g.trans (fx)
  replace b := b.snoc (bxH_bx h10 (N := 8) hu10)
  clear fx st hu10
  generalize h10.next = i10 at *
  generalize bxH h10 8 u10 = k10 at *
  replace b : Bxs k10 [(i8, (1, [-1])), (i9, (5, [-1, -1, -1, -1])), (i10, (8, [0, 1, 0, 0]))] := b
  refine (lawroot_ok 5 1 _).mono ?_
  rintro w11 k11 ⟨c11, f11⟩
  rw [names_val13] at c11
  replace b := b.mono (f11)
  replace g := g.trans (f11)
  simp (disch := first | omega | (simp only [List.length_set, List.length_replicate, List.length_append, List.length_take, List.length_drop, List.length_cons, List.length_nil, List.length_map, List.length_range, ints_length] <;> omega)) only [go_sem, decide_true]
  refine (lawroot_ok 5 4 _).mono ?_
  rintro w12 k12 ⟨c12, f12⟩
  rw [names_val14] at c12
  replace b := b.mono (f12)
  replace g := g.trans (f12)
  simp (disch := first | omega | (simp only [List.length_set, List.length_replicate, List.length_append, List.length_take, List.length_drop, List.length_cons, List.length_nil, List.length_map, List.length_range, ints_length] <;> omega)) only [go_sem, decide_true]
  refine (add_ok w11 w12 _ _ k12 (c11.mono f12).cv c12.cv (by decide) (by decide)).mono ?_
  rintro v13 h13 ⟨w, rfl, ⟨u13, rfl, hu13, -⟩, f13⟩
  simp only [names_val15] at hu13 ⊢
  have st := fun hh id => stV_agg2 hh id 0 (v := .int .i64 5) (u := u13) rfl hu13.what.2.1
  simp (disch := first | omega | (simp only [List.length_set, List.length_replicate, List.length_append, List.length_take, List.length_drop, List.length_cons, List.length_nil, List.length_map, List.length_range, ints_length] <;> omega)) only [go_sem, decide_true, st, bxH_eq]
  have fx := f13.trans (bxH_fr h13 5 u13)
  replace b := b.mono (fx)
  replace g := g.trans (fx)
  replace b := b.snoc (bxH_bx h13 (N := 5) hu13)
  clear fx st hu13
  generalize h13.next = i13 at *
  generalize bxH h13 5 u13 = k13 at *
  replace b : Bxs k13 [(i8, (1, [-1])), (i9, (5, [-1, -1, -1, -1])), (i10, (8, [0, 1, 0, 0])), (i13, (5, [-1, 0, -1, -1]))] := b
  refine (lawroot_ok 3 1 _).mono ?_
  rintro w14 k14 ⟨c14, f14⟩
  rw [names_val16] at c14
  replace b := b.mono (f14)
  replace g := g.trans (f14)
  simp (disch := first | omega | (simp only [List.length_set, List.length_replicate, List.length_append, List.length_take, List.length_drop, List.length_cons, List.length_nil, List.length_map, List.length_range, ints_length] <;> omega)) only [go_sem, decide_true]
  refine (lawroot_ok 4 1 _).mono ?_
  rintro w15 k15 ⟨c15, f15⟩
  rw [names_val17] at c15
  replace b := b.mono (f15)
  replace g := g.trans (f15)
  simp (disch := first | omega | (simp only [List.length_set, List.length_replicate, List.length_append, List.length_take, List.length_drop, List.length_cons, List.length_nil, List.length_map, List.length_range, ints_length] <;> omega)) only [go_sem, decide_true]
  refine (mul_ok w14 w15 _ _ k15 (c14.mono f15).cv c15.cv (by decide) (by decide)).mono ?_
  rintro v16 h16 ⟨w, rfl, ⟨u16, rfl, hu16, -⟩, f16⟩
  simp only [names_val18] at hu16 ⊢
  have st := fun hh id => stV_agg2 hh id 0 (v := .int .i64 12) (u := u16) rfl hu16.what.2.1
  simp (disch := first | omega | (simp only [List.length_set, List.length_replicate, List.length_append, List.length_take, List.length_drop, List.length_cons, List.length_nil, List.length_map, List.length_range, ints_length] <;> omega)) only [go_sem, decide_true, st, bxH_eq]
  have fx := f16.trans (bxH_fr h16 12 u16)
  replace b := b.mono (fx)
  replace g := g.trans (fx)
  replace b := b.snoc (bxH_bx h16 (N := 12) hu16)
  clear fx st hu16
  generalize h16.next = i16 at *
  generalize bxH h16 12 u16 = k16 at *
  replace b : Bxs k16 [(i8, (1, [-1])), (i9, (5, [-1, -1, -1, -1])), (i10, (8, [0, 1, 0, 0])), (i13, (5, [-1, 0, -1, -1])), (i16, (12, [0, -1, 0, 0]))] := b
  refine (lawroot_ok 11 1 _).mono ?_
  rintro w17 k17 ⟨c17, f17⟩
  rw [names_val19] at c17
  replace b := b.mono (f17)
  replace g := g.trans (f17)
  simp (disch := first | omega | (simp only [List.length_set, List.length_replicate, List.length_append, List.length_take, List.length_drop, List.length_cons, List.length_nil, List.length_map, List.length_range, ints_length] <;> omega)) only [go_sem, decide_true]
  refine (lawroot_ok 12 1 _).mono ?_
  rintro w18 k18 ⟨c18, f18⟩
  rw [names_val20] at c18
  replace b := b.mono (f18)
  replace g := g.trans (f18)
  simp (disch := first | omega | (simp only [List.length_set, List.length_replicate, List.length_append, List.length_take, List.length_drop, List.length_cons, List.length_nil, List.length_map, List.length_range, ints_length] <;> omega)) only [go_sem, decide_true]
  refine (add_ok w17 w18 _ _ k18 (c17.mono f18).cv c18.cv (by decide) (by decide)).mono ?_
  rintro v19 h19 ⟨w, rfl, ⟨u19, rfl, hu19, -⟩, f19⟩
  simp only [names_val21] at hu19 ⊢
  have st := fun hh id => stV_agg2 hh id 0 (v := .int .i64 0) (u := u19) rfl hu19.what.2.1
  simp (disch := first | omega | (simp only [List.length_set, List.length_replicate, List.length_append, List.length_take, List.length_drop, List.length_cons, List.length_nil, List.length_map, List.length_range, ints_length] <;> omega)) only [go_sem, decide_true, st, bxH_eq]
  have fx := f19.trans (bxH_fr h19 0 u19)
  replace b := b.mono (fx)
  replace g := g.trans (fx)
  replace b := b.snoc (bxH_bx h19 (N := 0) hu19)
  clear fx st hu19
  generalize h19.next = i19 at *
  generalize bxH h19 0 u19 = k19 at *
  replace b : Bxs k19 [(i8, (1, [-1])), (i9, (5, [-1, -1, -1, -1])), (i10, (8, [0, 1, 0, 0])), (i13, (5, [-1, 0, -1, -1])), (i16, (12, [0, -1, 0, 0])), (i19, (0, []))] := b
  refine (lawroot_ok 3 1 _).mono ?_
  rintro w20 k20 ⟨c20, f20⟩
  rw [names_val22] at c20
  replace b := b.mono (f20)
  replace g := g.trans (f20)
  simp (disch := first | omega | (simp only [List.length_set, List.length_replicate, List.length_append, List.length_take, List.length_drop, List.length_cons, List.length_nil, List.length_map, List.length_range, ints_length] <;> omega)) only [go_sem, decide_true]
  refine (conj_ok w20 _  k20 c20.cv (by decide)).mono ?_
  rintro v21 h21 ⟨w, rfl, ⟨u21, rfl, hu21, -⟩, f21⟩
  simp only [names_val23] at hu21 ⊢
  have st := fun hh id => stV_agg2 hh id 0 (v := .int .i64 3) (u := u21) rfl hu21.what.2.1
  simp (disch := first | omega | (simp only [List.length_set, List.length_replicate, List.length_append, List.length_take, List.length_drop, List.length_cons, List.length_nil, List.length_map, List.length_range, ints_length] <;> omega)) only [go_sem, decide_true, st, bxH_eq]
  have fx := f21.trans (bxH_fr h21 3 u21)
  replace b := b.mono (fx)
  replace g := g.trans (fx)
  replace b := b.snoc (bxH_bx h21 (N := 3) hu21)
  clear fx st hu21
  generalize h21.next = i21 at *
  generalize bxH h21 3 u21 = k21 at *
  replace b : Bxs k21 [(i8, (1, [-1])), (i9, (5, [-1, -1, -1, -1])), (i10, (8, [0, 1, 0, 0])), (i13, (5, [-1, 0, -1, -1])), (i16, (12, [0, -1, 0, 0])), (i19, (0, [])), (i21, (3, [-1, -1]))] := b
  refine (lawroot_ok 5 1 _).mono ?_
  rintro w22 k22 ⟨c22, f22⟩
  rw [names_val24] at c22
  replace b := b.mono (f22)
  replace g := g.trans (f22)
  simp (disch := first | omega | (simp only [List.length_set, List.length_replicate, List.length_append, List.length_take, List.length_drop, List.length_cons, List.length_nil, List.length_map, List.length_range, ints_length] <;> omega)) only [go_sem, decide_true]
  refine (gal_ok w22 _ 2 k22 c22.cv (by decide)).mono ?_
  rintro v23 h23 ⟨w, rfl, ⟨u23, rfl, hu23, -⟩, f23⟩
  simp only [names_val25] at hu23 ⊢
  have st := fun hh id => stV_agg2 hh id 0 (v := .int .i64 5) (u := u23) rfl hu23.what.2.1
  simp (disch := first | omega | (simp only [List.length_set, List.length_replicate, List.length_append, List.length_take, List.length_drop, List.length_cons, List.length_nil, List.length_map, List.length_range, ints_length] <;> omega)) only [go_sem, decide_true, st, bxH_eq]
  have fx := f23.trans (bxH_fr h23 5 u23)
  replace b := b.mono (fx)
  replace g := g.trans (fx)
  replace b := b.snoc (bxH_bx h23 (N := 5) hu23)
  clear fx st hu23
  generalize h23.next = i23 at *
  generalize bxH h23 5 u23 = k23 at *
  replace b : Bxs k23 [(i8, (1, [-1])), (i9, (5, [-1, -1, -1, -1])), (i10, (8, [0, 1, 0, 0])), (i13, (5, [-1, 0, -1, -1])), (i16, (12, [0, -1, 0, 0])), (i19, (0, [])), (i21, (3, [-1, -1])), (i23, (5, [0, 0, 1, 0]))] := b
  refine (lawroot_ok 5 1 _).mono ?_
  rintro w24 k24 ⟨c24, f24⟩
  rw [names_val26] at c24
  replace b := b.mono (f24)
  replace g := g.trans (f24)
  simp (disch := first | omega | (simp only [List.length_set, List.length_replicate, List.length_append, List.length_take, List.length_drop, List.length_cons, List.length_nil, List.length_map, List.length_range, ints_length] <;> omega)) only [go_sem, decide_true]
  refine (gal_ok w24 _ 10 k24 c24.cv (by decide)).mono ?_
  rintro v25 h25 ⟨w, rfl, ⟨u25, rfl, hu25, -⟩, f25⟩
  simp only [names_val27] at hu25 ⊢
  have st := fun hh id => stV_agg2 hh id 0 (v := .int .i64 0) (u := u25) rfl hu25.what.2.1
  simp (disch := first | omega | (simp only [List.length_set, List.length_replicate, List.length_append, List.length_take, List.length_drop, List.length_cons, List.length_nil, List.length_map, List.length_range, ints_length] <;> omega)) only [go_sem, decide_true, st, bxH_eq]
  have fx := f25.trans (bxH_fr h25 0 u25)
  replace b := b.mono (fx)
  replace g := g.trans (fx)
  replace b := b.snoc (bxH_bx h25 (N := 0) hu25)
  clear fx st hu25
  generalize h25.next = i25 at *
  generalize bxH h25 0 u25 = k25 at *
  replace b : Bxs k25 [(i8, (1, [-1])), (i9, (5, [-1, -1, -1, -1])), (i10, (8, [0, 1, 0, 0])), (i13, (5, [-1, 0, -1, -1])), (i16, (12, [0, -1, 0, 0])), (i19, (0, [])), (i21, (3, [-1, -1])), (i23, (5, [0, 0, 1, 0])), (i25, (0, []))] := b
  obtain ⟨u26, r26, c26⟩ := b.at 0 i8 1 [-1] rfl
  simp (disch := first | omega | (simp only [List.length_set, List.length_replicate, List.length_append, List.length_take, List.length_drop, List.length_cons, List.length_nil, List.length_map, List.length_range, ints_length] <;> omega)) only [go_sem, decide_true, r26, bls_one]
  refine (is_ok _ _ _ 0 1 [-1] _ (c26.mono (lit_fr _ [-1])) (lit_si _ [-1] 1 rfl) (by decide) (by decide)).mono ?_
  rintro v27 k27 ⟨rfl, f27⟩
  rw [show decide ((0 : Int) = 0 ∧ ((1, [-1]) : Int × List Int) = (1, [-1])) = true from by decide]
  replace b := b.mono ((lit_fr _ [-1]).trans f27)
  replace g := g.trans ((lit_fr _ [-1]).trans f27)
  obtain ⟨u28, r28, c28⟩ := b.at 1 i9 5 [-1, -1, -1, -1] rfl
  simp (disch := first | omega | (simp only [List.length_set, List.length_replicate, List.length_append, List.length_take, List.length_drop, List.length_cons, List.length_nil, List.length_map, List.length_range, ints_length] <;> omega)) only [go_sem, decide_true, r28, bls_four]
  refine (is_ok _ _ _ 0 5 [-1, -1, -1, -1] _ (c28.mono (lit_fr _ [-1, -1, -1, -1])) (lit_si _ [-1, -1, -1, -1] 4 rfl) (by decide) (by decide)).mono ?_
  rintro v29 k29 ⟨rfl, f29⟩
  rw [show decide ((0 : Int) = 0 ∧ ((5, [-1, -1, -1, -1]) : Int × List Int) = (5, [-1, -1, -1, -1])) = true from by decide]
  replace b := b.mono ((lit_fr _ [-1, -1, -1, -1]).trans f29)
  replace g := g.trans ((lit_fr _ [-1, -1, -1, -1]).trans f29)
  obtain ⟨u30, r30, c30⟩ := b.at 2 i10 8 [0, 1, 0, 0] rfl
  simp (disch := first | omega | (simp only [List.length_set, List.length_replicate, List.length_append, List.length_take, List.length_drop, List.length_cons, List.length_nil, List.length_map, List.length_range, ints_length] <;> omega)) only [go_sem, decide_true, r30, bls_four]
  refine (is_ok _ _ _ 0 8 [0, 1, 0, 0] _ (c30.mono (lit_fr _ [0, 1, 0, 0])) (lit_si _ [0, 1, 0, 0] 4 rfl) (by decide) (by decide)).mono ?_
  rintro v31 k31 ⟨rfl, f31⟩
  rw [show decide ((0 : Int) = 0 ∧ ((8, [0, 1, 0, 0]) : Int × List Int) = (8, [0, 1, 0, 0])) = true from by decide]
  replace b := b.mono ((lit_fr _ [0, 1, 0, 0]).trans f31)
  replace g := g.trans ((lit_fr _ [0, 1, 0, 0]).trans f31)
  obtain ⟨u32, r32, c32⟩ := b.at 3 i13 5 [-1, 0, -1, -1] rfl
  simp (disch := first | omega | (simp only [List.length_set, List.length_replicate, List.length_append, List.length_take, List.length_drop, List.length_cons, List.length_nil, List.length_map, List.length_range, ints_length] <;> omega)) only [go_sem, decide_true, r32, bls_four]
  refine (is_ok _ _ _ 0 5 [-1, 0, -1, -1] _ (c32.mono (lit_fr _ [-1, 0, -1, -1])) (lit_si _ [-1, 0, -1, -1] 4 rfl) (by decide) (by decide)).mono ?_
  rintro v33 k33 ⟨rfl, f33⟩
  rw [show decide ((0 : Int) = 0 ∧ ((5, [-1, 0, -1, -1]) : Int × List Int) = (5, [-1, 0, -1, -1])) = true from by decide]
  replace b := b.mono ((lit_fr _ [-1, 0, -1, -1]).trans f33)
  replace g := g.trans ((lit_fr _ [-1, 0, -1, -1]).trans f33)
  obtain ⟨u34, r34, c34⟩ := b.at 4 i16 12 [0, -1, 0, 0] rfl
  simp (disch := first | omega | (simp only [List.length_set, List.length_replicate, List.length_append, List.length_take, List.length_drop, List.length_cons, List.length_nil, List.length_map, List.length_range, ints_length] <;> omega)) only [go_sem, decide_true, r34, bls_four]
  refine (is_ok _ _ _ 0 12 [0, -1, 0, 0] _ (c34.mono (lit_fr _ [0, -1, 0, 0])) (lit_si _ [0, -1, 0, 0] 4 rfl) (by decide) (by decide)).mono ?_
  rintro v35 k35 ⟨rfl, f35⟩
  rw [show decide ((0 : Int) = 0 ∧ ((12, [0, -1, 0, 0]) : Int × List Int) = (12, [0, -1, 0, 0])) = true from by decide]
  replace b := b.mono ((lit_fr _ [0, -1, 0, 0]).trans f35)
  replace g := g.trans ((lit_fr _ [0, -1, 0, 0]).trans f35)
  obtain ⟨u36, r36, c36⟩ := b.at 5 i19 0 [] rfl
  simp (disch := first | omega | (simp only [List.length_set, List.length_replicate, List.length_append, List.length_take, List.length_drop, List.length_cons, List.length_nil, List.length_map, List.length_range, ints_length] <;> omega)) only [go_sem, decide_true, r36]
  refine (bad_ok _ _ 5 5 _ c36 (by decide)).mono ?_
  rintro v37 k37 ⟨rfl, f37⟩
  rw [show decide (((5 : Int) = 5) ∧ ((0, []) : Int × List Int) = (0, [])) = true from by decide]
  replace b := b.mono (f37)
  replace g := g.trans (f37)
  obtain ⟨u38, r38, c38⟩ := b.at 6 i21 3 [-1, -1] rfl
  simp (disch := first | omega | (simp only [List.length_set, List.length_replicate, List.length_append, List.length_take, List.length_drop, List.length_cons, List.length_nil, List.length_map, List.length_range, ints_length] <;> omega)) only [go_sem, decide_true, r38, bls_two]
  refine (is_ok _ _ _ 0 3 [-1, -1] _ (c38.mono (lit_fr _ [-1, -1])) (lit_si _ [-1, -1] 2 rfl) (by decide) (by decide)).mono ?_
  rintro v39 k39 ⟨rfl, f39⟩
  rw [show decide ((0 : Int) = 0 ∧ ((3, [-1, -1]) : Int × List Int) = (3, [-1, -1])) = true from by decide]
  replace b := b.mono ((lit_fr _ [-1, -1]).trans f39)
  replace g := g.trans ((lit_fr _ [-1, -1]).trans f39)
  obtain ⟨u40, r40, c40⟩ := b.at 7 i23 5 [0, 0, 1, 0] rfl
  simp (disch := first | omega | (simp only [List.length_set, List.length_replicate, List.length_append, List.length_take, List.length_drop, List.length_cons, List.length_nil, List.length_map, List.length_range, ints_length] <;> omega)) only [go_sem, decide_true, r40, bls_four]
  refine (is_ok _ _ _ 0 5 [0, 0, 1, 0] _ (c40.mono (lit_fr _ [0, 0, 1, 0])) (lit_si _ [0, 0, 1, 0] 4 rfl) (by decide) (by decide)).mono ?_
  rintro v41 k41 ⟨rfl, f41⟩
  rw [show decide ((0 : Int) = 0 ∧ ((5, [0, 0, 1, 0]) : Int × List Int) = (5, [0, 0, 1, 0])) = true from by decide]
  replace b := b.mono ((lit_fr _ [0, 0, 1, 0]).trans f41)
  replace g := g.trans ((lit_fr _ [0, 0, 1, 0]).trans f41)
  obtain ⟨u42, r42, c42⟩ := b.at 8 i25 0 [] rfl
  simp (disch := first | omega | (simp only [List.length_set, List.length_replicate, List.length_append, List.length_take, List.length_drop, List.length_cons, List.length_nil, List.length_map, List.length_range, ints_length] <;> omega)) only [go_sem, decide_true, r42]
  refine (bad_ok _ _ 18 18 _ c42 (by decide)).mono ?_
  rintro v43 k43 ⟨rfl, f43⟩
  rw [show decide (((18 : Int) = 18) ∧ ((0, []) : Int × List Int) = (0, [])) = true from by decide]
  replace b := b.mono (f43)
  replace g := g.trans (f43)
  simp (disch := first | omega | (simp only [List.length_set, List.length_replicate, List.length_append, List.length_take, List.length_drop, List.length_cons, List.length_nil, List.length_map, List.length_range, ints_length] <;> omega)) only [go_sem, decide_true]
  simp (disch := first | omega | (simp only [List.length_set, List.length_replicate, List.length_append, List.length_take, List.length_drop, List.length_cons, List.length_nil, List.length_map, List.length_range, ints_length] <;> omega)) only [go_sem, decide_true, bls_one]
  have f44 := lit_fr k43 [6]
  have hu44 := lit_si k43 [6] 1 rfl
  generalize k43.new (.cells false (ints [6])) = h44 at *
  generalize V.sl k43.next 0 1 (.kn 1) = u44 at *
  have st := fun hh id => stV_agg2 hh id 0 (v := .int .i64 1) (u := u44) rfl hu44.what.2.1
  simp (disch := first | omega | (simp only [List.length_set, List.length_replicate, List.length_append, List.length_take, List.length_drop, List.length_cons, List.length_nil, List.length_map, List.length_range, ints_length] <;> omega)) only [go_sem, decide_true, lit_bld 1 u44 hu44, st, bxH_eq]
  have fx := f44.trans (bxH_fr h44 1 u44)
  replace b := b.mono (fx)
  replace g := g.trans (fx)
  replace b := b.snoc (bxH_bx h44 (N := 1) hu44)
  clear fx st hu44
  generalize h44.next = i44 at *
  generalize bxH h44 1 u44 = k44 at *
  replace b : Bxs k44 [(i8, (1, [-1])), (i9, (5, [-1, -1, -1, -1])), (i10, (8, [0, 1, 0, 0])), (i13, (5, [-1, 0, -1, -1])), (i16, (12, [0, -1, 0, 0])), (i19, (0, [])), (i21, (3, [-1, -1])), (i23, (5, [0, 0, 1, 0])), (i25, (0, [])), (i44, (1, [6]))] := b
  simp (disch := first | omega | (simp only [List.length_set, List.length_replicate, List.length_append, List.length_take, List.length_drop, List.length_cons, List.length_nil, List.length_map, List.length_range, ints_length] <;> omega)) only [go_sem, decide_true, bls_six]
  refine (make_ok 6 _ [1, 1, 1, 1, 1, 1] _ (lit_si _ [1, 1, 1, 1, 1, 1] 6 rfl) (by decide)).mono ?_
  rintro v46 h46 ⟨w, rfl, ⟨u46, rfl, hu46, -⟩, f46⟩
  simp only [names_val28] at hu46 ⊢
  have st := fun hh id => stV_agg2 hh id 0 (v := .int .i64 1) (u := u46) rfl hu46.what.2.1
  simp (disch := first | omega | (simp only [List.length_set, List.length_replicate, List.length_append, List.length_take, List.length_drop, List.length_cons, List.length_nil, List.length_map, List.length_range, ints_length] <;> omega)) only [go_sem, decide_true, st, bxH_eq]
  have fx := ((lit_fr k44 [1, 1, 1, 1, 1, 1]).trans f46).trans (bxH_fr h46 1 u46)
  replace b := b.mono (fx)
  replace g := g.trans (fx)
  replace b := b.snoc (bxH_bx h46 (N := 1) hu46)
  clear fx st hu46
  generalize h46.next = i46 at *
  generalize bxH h46 1 u46 = k46 at *
  replace b : Bxs k46 [(i8, (1, [-1])), (i9, (5, [-1, -1, -1, -1])), (i10, (8, [0, 1, 0, 0])), (i13, (5, [-1, 0, -1, -1])), (i16, (12, [0, -1, 0, 0])), (i19, (0, [])), (i21, (3, [-1, -1])), (i23, (5, [0, 0, 1, 0])), (i25, (0, [])), (i44, (1, [6])), (i46, (1, [0]))] := b
  simp (disch := first | omega | (simp only [List.length_set, List.length_replicate, List.length_append, List.length_take, List.length_drop, List.length_cons, List.length_nil, List.length_map, List.length_range, ints_length] <;> omega)) only [go_sem, decide_true, bls_five]
  refine (make_ok 4 _ [0, 0, 0, 0, 5] _ (lit_si _ [0, 0, 0, 0, 5] 5 rfl) (by decide)).mono ?_
  rintro v48 h48 ⟨w, rfl, ⟨u48, rfl, hu48, -⟩, f48⟩
  simp only [names_val29] at hu48 ⊢
  have st := fun hh id => stV_agg2 hh id 0 (v := .int .i64 1) (u := u48) rfl hu48.what.2.1
  simp (disch := first | omega | (simp only [List.length_set, List.length_replicate, List.length_append, List.length_take, List.length_drop, List.length_cons, List.length_nil, List.length_map, List.length_range, ints_length] <;> omega)) only [go_sem, decide_true, st, bxH_eq]
  have fx := ((lit_fr k46 [0, 0, 0, 0, 5]).trans f48).trans (bxH_fr h48 1 u48)
  replace b := b.mono (fx)
  replace g := g.trans (fx)
  replace b := b.snoc (bxH_bx h48 (N := 1) hu48)
  clear fx st hu48
  generalize h48.next = i48 at *
  generalize bxH h48 1 u48 = k48 at *
  replace b : Bxs k48 [(i8, (1, [-1])), (i9, (5, [-1, -1, -1, -1])), (i10, (8, [0, 1, 0, 0])), (i13, (5, [-1, 0, -1, -1])), (i16, (12, [0, -1, 0, 0])), (i19, (0, [])), (i21, (3, [-1, -1])), (i23, (5, [0, 0, 1, 0])), (i25, (0, [])), (i44, (1, [6])), (i46, (1, [0])), (i48, (1, [5]))] := b
  obtain ⟨u49, r49, c49⟩ := b.at 9 i44 1 [6] rfl
  simp (disch := first | omega | (simp only [List.length_set, List.length_replicate, List.length_append, List.length_take, List.length_drop, List.length_cons, List.length_nil, List.length_map, List.length_range, ints_length] <;> omega)) only [go_sem, decide_true, r49]
  refine (quot_ok _ _ 4 _ c49 (by decide)).mono ?_
  rintro v50 h50 ⟨w, rfl, ⟨u50, rfl, hu50, -⟩, f50⟩
  simp only [names_val30] at hu50 ⊢
  have st := fun hh id => stV_agg2 hh id 0 (v := .int .i64 0) (u := u50) rfl hu50.what.2.1
  simp (disch := first | omega | (simp only [List.length_set, List.length_replicate, List.length_append, List.length_take, List.length_drop, List.length_cons, List.length_nil, List.length_map, List.length_range, ints_length] <;> omega)) only [go_sem, decide_true, st, bxH_eq]
  have fx := f50.trans (bxH_fr h50 0 u50)
  replace b := b.mono (fx)
  replace g := g.trans (fx)
  replace b := b.snoc (bxH_bx h50 (N := 0) hu50)
  clear fx st hu50
  generalize h50.next = i50 at *
  generalize bxH h50 0 u50 = k50 at *
  replace b : Bxs k50 [(i8, (1, [-1])), (i9, (5, [-1, -1, -1, -1])), (i10, (8, [0, 1, 0, 0])), (i13, (5, [-1, 0, -1, -1])), (i16, (12, [0, -1, 0, 0])), (i19, (0, [])), (i21, (3, [-1, -1])), (i23, (5, [0, 0, 1, 0])), (i25, (0, [])), (i44, (1, [6])), (i46, (1, [0])), (i48, (1, [5])), (i50, (0, []))] := b
  obtain ⟨u51, r51, c51⟩ := b.at 9 i44 1 [6] rfl
  simp (disch := first | omega | (simp only [List.length_set, List.length_replicate, List.length_append, List.length_take, List.length_drop, List.length_cons, List.length_nil, List.length_map, List.length_range, ints_length] <;> omega)) only [go_sem, decide_true, r51]
  refine (quot_ok _ _ (-3) _ c51 (by decide)).mono ?_
  rintro v52 h52 ⟨w, rfl, ⟨u52, rfl, hu52, -⟩, f52⟩
  simp only [names_val31] at hu52 ⊢
  have st := fun hh id => stV_agg2 hh id 0 (v := .int .i64 1) (u := u52) rfl hu52.what.2.1
  simp (disch := first | omega | (simp only [List.length_set, List.length_replicate, List.length_append, List.length_take, List.length_drop, List.length_cons, List.length_nil, List.length_map, List.length_range, ints_length] <;> omega)) only [go_sem, decide_true, st, bxH_eq]
  have fx := f52.trans (bxH_fr h52 1 u52)
  replace b := b.mono (fx)
  replace g := g.trans (fx)
  replace b := b.snoc (bxH_bx h52 (N := 1) hu52)
  clear fx st hu52
  generalize h52.next = i52 at *
  generalize bxH h52 1 u52 = k52 at *
  replace b : Bxs k52 [(i8, (1, [-1])), (i9, (5, [-1, -1, -1, -1])), (i10, (8, [0, 1, 0, 0])), (i13, (5, [-1, 0, -1, -1])), (i16, (12, [0, -1, 0, 0])), (i19, (0, [])), (i21, (3, [-1, -1])), (i23, (5, [0, 0, 1, 0])), (i25, (0, [])), (i44, (1, [6])), (i46, (1, [0])), (i48, (1, [5])), (i50, (0, [])), (i52, (1, [-2]))] := b
  refine (Int_ok 10000001 _).mono ?_
  rintro v53 h53 ⟨w, rfl, ⟨u53, rfl, hu53, -⟩, f53⟩
  simp only [names_val32] at hu53 ⊢
  have st := fun hh id => stV_agg2 hh id 0 (v := .int .i64 0) (u := u53) rfl hu53.what.2.1
  simp (disch := first | omega | (simp only [List.length_set, List.length_replicate, List.length_append, List.length_take, List.length_drop, List.length_cons, List.length_nil, List.length_map, List.length_range, ints_length] <;> omega)) only [go_sem, decide_true, st, bxH_eq]
  have fx := f53.trans (bxH_fr h53 0 u53)
  replace b := b.mono (fx)
  replace g := g.trans (fx)
  replace b := b.snoc (bxH_bx h53 (N := 0) hu53)
  clear fx st hu53
  generalize h53.next = i53 at *
  generalize bxH h53 0 u53 = k53 at *
  replace b : Bxs k53 [(i8, (1, [-1])), (i9, (5, [-1, -1, -1, -1])), (i10, (8, [0, 1, 0, 0])), (i13, (5, [-1, 0, -1, -1])), (i16, (12, [0, -1, 0, 0])), (i19, (0, [])), (i21, (3, [-1, -1])), (i23, (5, [0, 0, 1, 0])), (i25, (0, [])), (i44, (1, [6])), (i46, (1, [0])), (i48, (1, [5])), (i50, (0, [])), (i52, (1, [-2])), (i53, (0, []))] := b
  refine (Int_ok (-10000000) _).mono ?_
  rintro v54 h54 ⟨w, rfl, ⟨u54, rfl, hu54, -⟩, f54⟩
  simp only [names_val33] at hu54 ⊢
  have st := fun hh id => stV_agg2 hh id 0 (v := .int .i64 1) (u := u54) rfl hu54.what.2.1
  simp (disch := first | omega | (simp only [List.length_set, List.length_replicate, List.length_append, List.length_take, List.length_drop, List.length_cons, List.length_nil, List.length_map, List.length_range, ints_length] <;> omega)) only [go_sem, decide_true, st, bxH_eq]
  have fx := f54.trans (bxH_fr h54 1 u54)
  replace b := b.mono (fx)
  replace g := g.trans (fx)
  replace b := b.snoc (bxH_bx h54 (N := 1) hu54)
  clear fx st hu54
  generalize h54.next = i54 at *
  generalize bxH h54 1 u54 = k54 at *
  replace b : Bxs k54 [(i8, (1, [-1])), (i9, (5, [-1, -1, -1, -1])), (i10, (8, [0, 1, 0, 0])), (i13, (5, [-1, 0, -1, -1])), (i16, (12, [0, -1, 0, 0])), (i19, (0, [])), (i21, (3, [-1, -1])), (i23, (5, [0, 0, 1, 0])), (i25, (0, [])), (i44, (1, [6])), (i46, (1, [0])), (i48, (1, [5])), (i50, (0, [])), (i52, (1, [-2])), (i53, (0, [])), (i54, (1, [-10000000]))] := b
  obtain ⟨u55, r55, c55⟩ := b.at 9 i44 1 [6] rfl
  simp (disch := first | omega | (simp only [List.length_set, List.length_replicate, List.length_append, List.length_take, List.length_drop, List.length_cons, List.length_nil, List.length_map, List.length_range, ints_length] <;> omega)) only [go_sem, decide_true, r55]
  refine (quot_ok _ _ 0 _ c55 (by decide)).mono ?_
  rintro v56 h56 ⟨w, rfl, ⟨u56, rfl, hu56, -⟩, f56⟩
  simp only [names_val34] at hu56 ⊢
  have st := fun hh id => stV_agg2 hh id 0 (v := .int .i64 0) (u := u56) rfl hu56.what.2.1
  simp (disch := first | omega | (simp only [List.length_set, List.length_replicate, List.length_append, List.length_take, List.length_drop, List.length_cons, List.length_nil, List.length_map, List.length_range, ints_length] <;> omega)) only [go_sem, decide_true, st, bxH_eq]
  have fx := f56.trans (bxH_fr h56 0 u56)
  replace b := b.mono (fx)
  replace g := g.trans (fx)
  replace b := b.snoc (bxH_bx h56 (N := 0) hu56)
  clear fx st hu56
  generalize h56.next = i56 at *
  generalize bxH h56 0 u56 = k56 at *
  replace b : Bxs k56 [(i8, (1, [-1])), (i9, (5, [-1, -1, -1, -1])), (i10, (8, [0, 1, 0, 0])), (i13, (5, [-1, 0, -1, -1])), (i16, (12, [0, -1, 0, 0])), (i19, (0, [])), (i21, (3, [-1, -1])), (i23, (5, [0, 0, 1, 0])), (i25, (0, [])), (i44, (1, [6])), (i46, (1, [0])), (i48, (1, [5])), (i50, (0, [])), (i52, (1, [-2])), (i53, (0, [])), (i54, (1, [-10000000])), (i56, (0, []))] := b
  obtain ⟨u57, r57, c57⟩ := b.at 9 i44 1 [6] rfl
  simp (disch := first | omega | (simp only [List.length_set, List.length_replicate, List.length_append, List.length_take, List.length_drop, List.length_cons, List.length_nil, List.length_map, List.length_range, ints_length] <;> omega)) only [go_sem, decide_true, r57]
  refine (scale_ok _ _ 1666666 _ c57 (by decide)).mono ?_
  rintro v58 h58 ⟨w, rfl, ⟨u58, rfl, hu58, -⟩, f58⟩
  simp only [names_val35] at hu58 ⊢
  have st := fun hh id => stV_agg2 hh id 0 (v := .int .i64 1) (u := u58) rfl hu58.what.2.1
  simp (disch := first | omega | (simp only [List.length_set, List.length_replicate, List.length_append, List.length_take, List.length_drop, List.length_cons, List.length_nil, List.length_map, List.length_range, ints_length] <;> omega)) only [go_sem, decide_true, st, bxH_eq]
  have fx := f58.trans (bxH_fr h58 1 u58)
  replace b := b.mono (fx)
  replace g := g.trans (fx)
  replace b := b.snoc (bxH_bx h58 (N := 1) hu58)
  clear fx st hu58
  generalize h58.next = i58 at *
  generalize bxH h58 1 u58 = k58 at *
  replace b : Bxs k58 [(i8, (1, [-1])), (i9, (5, [-1, -1, -1, -1])), (i10, (8, [0, 1, 0, 0])), (i13, (5, [-1, 0, -1, -1])), (i16, (12, [0, -1, 0, 0])), (i19, (0, [])), (i21, (3, [-1, -1])), (i23, (5, [0, 0, 1, 0])), (i25, (0, [])), (i44, (1, [6])), (i46, (1, [0])), (i48, (1, [5])), (i50, (0, [])), (i52, (1, [-2])), (i53, (0, [])), (i54, (1, [-10000000])), (i56, (0, [])), (i58, (1, [9999996]))] := b
  obtain ⟨u59, r59, c59⟩ := b.at 9 i44 1 [6] rfl
  simp (disch := first | omega | (simp only [List.length_set, List.length_replicate, List.length_append, List.length_take, List.length_drop, List.length_cons, List.length_nil, List.length_map, List.length_range, ints_length] <;> omega)) only [go_sem, decide_true, r59]
  refine (scale_ok _ _ 1666667 _ c59 (by decide)).mono ?_
  rintro v60 h60 ⟨w, rfl, ⟨u60, rfl, hu60, -⟩, f60⟩
  simp only [names_val36] at hu60 ⊢
  have st := fun hh id => stV_agg2 hh id 0 (v := .int .i64 0) (u := u60) rfl hu60.what.2.1
  simp (disch := first | omega | (simp only [List.length_set, List.length_replicate, List.length_append, List.length_take, List.length_drop, List.length_cons, List.length_nil, List.length_map, List.length_range, ints_length] <;> omega)) only [go_sem, decide_true, st, bxH_eq]
  have fx := f60.trans (bxH_fr h60 0 u60)
  replace b := b.mono (fx)
  replace g := g.trans (fx)
  replace b := b.snoc (bxH_bx h60 (N := 0) hu60)
  clear fx st hu60
  generalize h60.next = i60 at *
  generalize bxH h60 0 u60 = k60 at *
  replace b : Bxs k60 [(i8, (1, [-1])), (i9, (5, [-1, -1, -1, -1])), (i10, (8, [0, 1, 0, 0])), (i13, (5, [-1, 0, -1, -1])), (i16, (12, [0, -1, 0, 0])), (i19, (0, [])), (i21, (3, [-1, -1])), (i23, (5, [0, 0, 1, 0])), (i25, (0, [])), (i44, (1, [6])), (i46, (1, [0])), (i48, (1, [5])), (i50, (0, [])), (i52, (1, [-2])), (i53, (0, [])), (i54, (1, [-10000000])), (i56, (0, [])), (i58, (1, [9999996])), (i60, (0, []))] := b
  rw [show Int.toNat 1001 = 1001 from rfl]
  refine (make_ok 2 _ (List.replicate 1001 0) _ (lit_si _ _ 1001 (List.length_replicate ..)) (by rw [List.length_replicate]; decide)).mono ?_
  rintro v62 h62 ⟨w, rfl, ⟨u62, rfl, hu62, -⟩, f62⟩
  simp only [names_val37] at hu62 ⊢
  have st := fun hh id => stV_agg2 hh id 0 (v := .int .i64 0) (u := u62) rfl hu62.what.2.1
  simp (disch := first | omega | (simp only [List.length_set, List.length_replicate, List.length_append, List.length_take, List.length_drop, List.length_cons, List.length_nil, List.length_map, List.length_range, ints_length] <;> omega)) only [go_sem, decide_true, st, bxH_eq]
  have fx := ((lit_fr k60 (List.replicate 1001 0)).trans f62).trans (bxH_fr h62 0 u62)
  replace b := b.mono (fx)
  replace g := g.trans (fx)
  replace b := b.snoc (bxH_bx h62 (N := 0) hu62)
  clear fx st hu62
  generalize h62.next = i62 at *
  generalize bxH h62 0 u62 = k62 at *
  replace b : Bxs k62 [(i8, (1, [-1])), (i9, (5, [-1, -1, -1, -1])), (i10, (8, [0, 1, 0, 0])), (i13, (5, [-1, 0, -1, -1])), (i16, (12, [0, -1, 0, 0])), (i19, (0, [])), (i21, (3, [-1, -1])), (i23, (5, [0, 0, 1, 0])), (i25, (0, [])), (i44, (1, [6])), (i46, (1, [0])), (i48, (1, [5])), (i50, (0, [])), (i52, (1, [-2])), (i53, (0, [])), (i54, (1, [-10000000])), (i56, (0, [])), (i58, (1, [9999996])), (i60, (0, [])), (i62, (0, []))] := b
  obtain ⟨u63, r63, c63⟩ := b.at 10 i46 1 [0] rfl
  simp (disch := first | omega | (simp only [List.length_set, List.length_replicate, List.length_append, List.length_take, List.length_drop, List.length_cons, List.length_nil, List.length_map, List.length_range, ints_length] <;> omega)) only [go_sem, decide_true, r63, bls_one]
  refine (is_ok _ _ _ 0 1 [0] _ (c63.mono (lit_fr _ [0])) (lit_si _ [0] 1 rfl) (by decide) (by decide)).mono ?_
  rintro v64 k64 ⟨rfl, f64⟩
  rw [show decide ((0 : Int) = 0 ∧ ((1, [0]) : Int × List Int) = (1, [0])) = true from by decide]
  replace b := b.mono ((lit_fr _ [0]).trans f64)
  replace g := g.trans ((lit_fr _ [0]).trans f64)
  obtain ⟨u65, r65, c65⟩ := b.at 11 i48 1 [5] rfl
  simp (disch := first | omega | (simp only [List.length_set, List.length_replicate, List.length_append, List.length_take, List.length_drop, List.length_cons, List.length_nil, List.length_map, List.length_range, ints_length] <;> omega)) only [go_sem, decide_true, r65, bls_one]
  refine (is_ok _ _ _ 0 1 [5] _ (c65.mono (lit_fr _ [5])) (lit_si _ [5] 1 rfl) (by decide) (by decide)).mono ?_
  rintro v66 k66 ⟨rfl, f66⟩
  rw [show decide ((0 : Int) = 0 ∧ ((1, [5]) : Int × List Int) = (1, [5])) = true from by decide]
  replace b := b.mono ((lit_fr _ [5]).trans f66)
  replace g := g.trans ((lit_fr _ [5]).trans f66)
  obtain ⟨u67, r67, c67⟩ := b.at 12 i50 0 [] rfl
  simp (disch := first | omega | (simp only [List.length_set, List.length_replicate, List.length_append, List.length_take, List.length_drop, List.length_cons, List.length_nil, List.length_map, List.length_range, ints_length] <;> omega)) only [go_sem, decide_true, r67]
  refine (bad_ok _ _ 18 18 _ c67 (by decide)).mono ?_
  rintro v68 k68 ⟨rfl, f68⟩
  rw [show decide (((18 : Int) = 18) ∧ ((0, []) : Int × List Int) = (0, [])) = true from by decide]
  replace b := b.mono (f68)
  replace g := g.trans (f68)
  obtain ⟨u69, r69, c69⟩ := b.at 13 i52 1 [-2] rfl
  simp (disch := first | omega | (simp only [List.length_set, List.length_replicate, List.length_append, List.length_take, List.length_drop, List.length_cons, List.length_nil, List.length_map, List.length_range, ints_length] <;> omega)) only [go_sem, decide_true, r69, bls_one]
  refine (is_ok _ _ _ 0 1 [-2] _ (c69.mono (lit_fr _ [-2])) (lit_si _ [-2] 1 rfl) (by decide) (by decide)).mono ?_
  rintro v70 k70 ⟨rfl, f70⟩
  rw [show decide ((0 : Int) = 0 ∧ ((1, [-2]) : Int × List Int) = (1, [-2])) = true from by decide]
  replace b := b.mono ((lit_fr _ [-2]).trans f70)
  replace g := g.trans ((lit_fr _ [-2]).trans f70)
  obtain ⟨u71, r71, c71⟩ := b.at 14 i53 0 [] rfl
  simp (disch := first | omega | (simp only [List.length_set, List.length_replicate, List.length_append, List.length_take, List.length_drop, List.length_cons, List.length_nil, List.length_map, List.length_range, ints_length] <;> omega)) only [go_sem, decide_true, r71]
  refine (bad_ok _ _ 5 5 _ c71 (by decide)).mono ?_
  rintro v72 k72 ⟨rfl, f72⟩
  rw [show decide (((5 : Int) = 5) ∧ ((0, []) : Int × List Int) = (0, [])) = true from by decide]
  replace b := b.mono (f72)
  replace g := g.trans (f72)
  obtain ⟨u73, r73, c73⟩ := b.at 15 i54 1 [-10000000] rfl
  simp (disch := first | omega | (simp only [List.length_set, List.length_replicate, List.length_append, List.length_take, List.length_drop, List.length_cons, List.length_nil, List.length_map, List.length_range, ints_length] <;> omega)) only [go_sem, decide_true, r73, bls_one]
  refine (is_ok _ _ _ 0 1 [-10000000] _ (c73.mono (lit_fr _ [-10000000])) (lit_si _ [-10000000] 1 rfl) (by decide) (by decide)).mono ?_
  rintro v74 k74 ⟨rfl, f74⟩
  rw [show decide ((0 : Int) = 0 ∧ ((1, [-10000000]) : Int × List Int) = (1, [-10000000])) = true from by decide]
  replace b := b.mono ((lit_fr _ [-10000000]).trans f74)
  replace g := g.trans ((lit_fr _ [-10000000]).trans f74)
  obtain ⟨u75, r75, c75⟩ := b.at 16 i56 0 [] rfl
  simp (disch := first | omega | (simp only [List.length_set, List.length_replicate, List.length_append, List.length_take, List.length_drop, List.length_cons, List.length_nil, List.length_map, List.length_range, ints_length] <;> omega)) only [go_sem, decide_true, r75]
  refine (bad_ok _ _ 6 6 _ c75 (by decide)).mono ?_
  rintro v76 k76 ⟨rfl, f76⟩
  rw [show decide (((6 : Int) = 6) ∧ ((0, []) : Int × List Int) = (0, [])) = true from by decide]
  replace b := b.mono (f76)
  replace g := g.trans (f76)
  obtain ⟨u77, r77, c77⟩ := b.at 17 i58 1 [9999996] rfl
  simp (disch := first | omega | (simp only [List.length_set, List.length_replicate, List.length_append, List.length_take, List.length_drop, List.length_cons, List.length_nil, List.length_map, List.length_range, ints_length] <;> omega)) only [go_sem, decide_true, r77, bls_one]
  refine (is_ok _ _ _ 0 1 [9999996] _ (c77.mono (lit_fr _ [9999996])) (lit_si _ [9999996] 1 rfl) (by decide) (by decide)).mono ?_
  rintro v78 k78 ⟨rfl, f78⟩
  rw [show decide ((0 : Int) = 0 ∧ ((1, [9999996]) : Int × List Int) = (1, [9999996])) = true from by decide]
  replace b := b.mono ((lit_fr _ [9999996]).trans f78)
  replace g := g.trans ((lit_fr _ [9999996]).trans f78)
  obtain ⟨u79, r79, c79⟩ := b.at 18 i60 0 [] rfl
  simp (disch := first | omega | (simp only [List.length_set, List.length_replicate, List.length_append, List.length_take, List.length_drop, List.length_cons, List.length_nil, List.length_map, List.length_range, ints_length] <;> omega)) only [go_sem, decide_true, r79]
  refine (bad_ok _ _ 5 5 _ c79 (by decide)).mono ?_
  rintro v80 k80 ⟨rfl, f80⟩
  rw [show decide (((5 : Int) = 5) ∧ ((0, []) : Int × List Int) = (0, [])) = true from by decide]
  replace b := b.mono (f80)
  replace g := g.trans (f80)
  simp (disch := first | omega | (simp only [List.length_set, List.length_replicate, List.length_append, List.length_take, List.length_drop, List.length_cons, List.length_nil, List.length_map, List.length_range, ints_length] <;> omega)) only [go_sem, decide_true]
  obtain ⟨u81, r81, c81⟩ := b.at 9 i44 1 [6] rfl
  simp (disch := first | omega | (simp only [List.length_set, List.length_replicate, List.length_append, List.length_take, List.length_drop, List.length_cons, List.length_nil, List.length_map, List.length_range, ints_length] <;> omega)) only [go_sem, decide_true, r81]
  refine (rat_ok _ (1, [6]) _ c81 (by decide)).mono ?_
  rintro v82 k82 ⟨rfl, f82⟩
  simp only [names_val38]
  replace b := b.mono (f82)
  replace g := g.trans (f82)
  simp (disch := first | omega | (simp only [List.length_set, List.length_replicate, List.length_append, List.length_take, List.length_drop, List.length_cons, List.length_nil, List.length_map, List.length_range, ints_length] <;> omega)) only [go_sem, decide_true]
  refine (lawroot_ok 3 1 _).mono ?_
  rintro w83 k83 ⟨c83, f83⟩
  rw [names_val39] at c83
  replace b := b.mono (f83)
  replace g := g.trans (f83)
  simp (disch := first | omega | (simp only [List.length_set, List.length_replicate, List.length_append, List.length_take, List.length_drop, List.length_cons, List.length_nil, List.length_map, List.length_range, ints_length] <;> omega)) only [go_sem, decide_true]
  refine (rat_ok _ (3, [0, 1]) _ c83.cv (by decide)).mono ?_
  rintro v84 k84 ⟨rfl, f84⟩
  simp only [names_val40]
  replace b := b.mono (f84)
  replace g := g.trans (f84)
  simp (disch := first | omega | (simp only [List.length_set, List.length_replicate, List.length_append, List.length_take, List.length_drop, List.length_cons, List.length_nil, List.length_map, List.length_range, ints_length] <;> omega)) only [go_sem, decide_true]
  simp (disch := first | omega | (simp only [List.length_set, List.length_replicate, List.length_append, List.length_take, List.length_drop, List.length_cons, List.length_nil, List.length_map, List.length_range, ints_length] <;> omega)) only [go_sem, decide_true, bls_two]
  have fl85 := lit_fr k84 [5, 0]
  have hu85 := lit_si k84 [5, 0] 2 rfl
  generalize k84.new (.cells false (ints [5, 0])) = h85 at *
  generalize V.sl k84.next 0 2 (.kn 2) = u85 at *
  simp (disch := first | omega | (simp only [List.length_set, List.length_replicate, List.length_append, List.length_take, List.length_drop, List.length_cons, List.length_nil, List.length_map, List.length_range, ints_length] <;> omega)) only [go_sem, decide_true, lit_bld 3 u85 hu85]
  refine (rat_ok _ (3, [5, 0]) _ ⟨u85, rfl, hu85⟩ (by decide)).mono ?_
  rintro v86 k86 ⟨rfl, f86⟩
  simp only [names_val41]
  replace b := b.mono (fl85.trans f86)
  replace g := g.trans (fl85.trans f86)
  simp (disch := first | omega | (simp only [List.length_set, List.length_replicate, List.length_append, List.length_take, List.length_drop, List.length_cons, List.length_nil, List.length_map, List.length_range, ints_length] <;> omega)) only [go_sem, decide_true]
  simp (disch := first | omega | (simp only [List.length_set, List.length_replicate, List.length_append, List.length_take, List.length_drop, List.length_cons, List.length_nil, List.length_map, List.length_range, ints_length] <;> omega)) only [go_sem, decide_true, bls_two]
  have fl87 := lit_fr k86 [1, 1]
  have hu87 := lit_si k86 [1, 1] 2 rfl
  generalize k86.new (.cells false (ints [1, 1])) = h87 at *
  generalize V.sl k86.next 0 2 (.kn 2) = u87 at *
  simp (disch := first | omega | (simp only [List.length_set, List.length_replicate, List.length_append, List.length_take, List.length_drop, List.length_cons, List.length_nil, List.length_map, List.length_range, ints_length] <;> omega)) only [go_sem, decide_true, lit_bld 6 u87 hu87]
  refine (check_ok _ (6, [1, 1]) _ ⟨u87, rfl, hu87⟩ (by decide)).mono ?_
  rintro v88 k88 ⟨rfl, f88⟩
  simp only [names_val42]
  replace b := b.mono (fl87.trans f88)
  replace g := g.trans (fl87.trans f88)
  simp (disch := first | omega | (simp only [List.length_set, List.length_replicate, List.length_append, List.length_take, List.length_drop, List.length_cons, List.length_nil, List.length_map, List.length_range, ints_length] <;> omega)) only [go_sem, decide_true, bls_one]
  have fl89 := lit_fr k88 [1]
  have hu89 := lit_si k88 [1] 1 rfl
  generalize k88.new (.cells false (ints [1])) = h89 at *
  generalize V.sl k88.next 0 1 (.kn 1) = u89 at *
  simp (disch := first | omega | (simp only [List.length_set, List.length_replicate, List.length_append, List.length_take, List.length_drop, List.length_cons, List.length_nil, List.length_map, List.length_range, ints_length] <;> omega)) only [go_sem, decide_true, lit_bld 3 u89 hu89]
  refine (check_ok _ (3, [1]) _ ⟨u89, rfl, hu89⟩ (by decide)).mono ?_
  rintro v90 k90 ⟨rfl, f90⟩
  simp only [names_val43]
  replace b := b.mono (fl89.trans f90)
  replace g := g.trans (fl89.trans f90)
  simp (disch := first | omega | (simp only [List.length_set, List.length_replicate, List.length_append, List.length_take, List.length_drop, List.length_cons, List.length_nil, List.length_map, List.length_range, ints_length] <;> omega)) only [go_sem, decide_true, bls_two]
  have fl91 := lit_fr k90 [5, 0]
  have hu91 := lit_si k90 [5, 0] 2 rfl
  generalize k90.new (.cells false (ints [5, 0])) = h91 at *
  generalize V.sl k90.next 0 2 (.kn 2) = u91 at *
  simp (disch := first | omega | (simp only [List.length_set, List.length_replicate, List.length_append, List.length_take, List.length_drop, List.length_cons, List.length_nil, List.length_map, List.length_range, ints_length] <;> omega)) only [go_sem, decide_true, lit_bld 3 u91 hu91]
  refine (check_ok _ (3, [5, 0]) _ ⟨u91, rfl, hu91⟩ (by decide)).mono ?_
  rintro v92 k92 ⟨rfl, f92⟩
  simp only [names_val44]
  replace b := b.mono (fl91.trans f92)
  replace g := g.trans (fl91.trans f92)
  simp (disch := first | omega | (simp only [List.length_set, List.length_replicate, List.length_append, List.length_take, List.length_drop, List.length_cons, List.length_nil, List.length_map, List.length_range, ints_length] <;> omega)) only [go_sem, decide_true, nil_bld]
  refine (check_ok _ (0, []) _ ⟨_, rfl, SI.nils _⟩ (by decide)).mono ?_
  rintro v93 k93 ⟨rfl, f93⟩
  simp only [names_val45]
  replace b := b.mono (f93)
  replace g := g.trans (f93)
  simp (disch := first | omega | (simp only [List.length_set, List.length_replicate, List.length_append, List.length_take, List.length_drop, List.length_cons, List.length_nil, List.length_map, List.length_range, ints_length] <;> omega)) only [go_sem, decide_true, bls_one]
  have fl94 := lit_fr k93 [10000001]
  have hu94 := lit_si k93 [10000001] 1 rfl
  generalize k93.new (.cells false (ints [10000001])) = h94 at *
  generalize V.sl k93.next 0 1 (.kn 1) = u94 at *
  simp (disch := first | omega | (simp only [List.length_set, List.length_replicate, List.length_append, List.length_take, List.length_drop, List.length_cons, List.length_nil, List.length_map, List.length_range, ints_length] <;> omega)) only [go_sem, decide_true, lit_bld 1 u94 hu94]
  refine (check_ok _ (1, [10000001]) _ ⟨u94, rfl, hu94⟩ (by decide)).mono ?_
  rintro v95 k95 ⟨rfl, f95⟩
  simp only [names_val46]
  replace b := b.mono (fl94.trans f95)
  replace g := g.trans (fl94.trans f95)
  simp (disch := first | omega | (simp only [List.length_set, List.length_replicate, List.length_append, List.length_take, List.length_drop, List.length_cons, List.length_nil, List.length_map, List.length_range, ints_length] <;> omega)) only [go_sem, decide_true]
  have fz : Fr k95 (H.mk k95.tr (k95.next + 30)) := (Fr.refl k95).bump (by omega)
  have nz : (H.mk k95.tr (k95.next + 30)).next = k95.next + 30 := rfl
  generalize H.mk k95.tr (k95.next + 30) = kz at *
  obtain ⟨ua, hga, hsa, hida⟩ := (show Bx k95 i44 (1, [6]) from b 9 _ rfl)
  clear b
  have R : ∀ k', Fr k95 k' → k'.row i44 0 2 = some [.int .i64 1, ua] := fun k' f => row_two ((f.get i44 hida).trans hga)
  have CV : ∀ k', Fr k95 k' → CycV k' (.agg [.int .i64 1, ua]) (1, [6]) := fun k' f => ⟨ua, rfl, hsa.mono f⟩
  have eu : eqV ua ua = true := SV.eqV hsa
  simp (disch := first | omega | (simp only [List.length_set, List.length_replicate, List.length_append, List.length_take, List.length_drop, List.length_cons, List.length_nil, List.length_map, List.length_range, ints_length] <;> omega)) only [go_sem, decide_true, R kz fz]
  refine (lawroot_ok 3 1 _).mono ?_
  rintro wr ka ⟨cr, fa⟩
  rw [names_val47] at cr
  have Fa := fz.trans fa
  simp (disch := first | omega | (simp only [List.length_set, List.length_replicate, List.length_append, List.length_take, List.length_drop, List.length_cons, List.length_nil, List.length_map, List.length_range, ints_length] <;> omega)) only [go_sem, decide_true, R ka Fa, eu]
  refine (cmp_ok _ _ (1, [6]) (3, [0, 1]) ka (CV ka Fa) cr.cv (by decide) (by decide)).mono ?_
  rintro vb kb ⟨rfl, fb⟩
  simp only [names_val48]
  have Fb := Fa.trans fb
  simp (disch := first | omega | (simp only [List.length_set, List.length_replicate, List.length_append, List.length_take, List.length_drop, List.length_cons, List.length_nil, List.length_map, List.length_range, ints_length] <;> omega)) only [go_sem, decide_true, R kb Fb, bls_one]
  have nb := fa.next
  have nb2 := fb.next
  have hgc : (H.mk ((H.mk kb.tr (k95.next + 18)).new (.cells false (ints [5]))).tr kb.next).get (k95.next + 18) = some (.cells false (ints [5])) := by rw [H.get_next', H.get_new, if_pos rfl]
  have Fc : Fr k95 (H.mk ((H.mk kb.tr (k95.next + 18)).new (.cells false (ints [5]))).tr kb.next) := ⟨by show k95.next ≤ kb.next; omega, fun id hid => by rw [H.get_next', H.get_new, if_neg (by show ¬ id = k95.next + 18; omega), H.get_next']; exact Fb.get id hid⟩
  have nc : (H.mk ((H.mk kb.tr (k95.next + 18)).new (.cells false (ints [5]))).tr kb.next).next = kb.next := rfl
  generalize (H.mk ((H.mk kb.tr (k95.next + 18)).new (.cells false (ints [5]))).tr kb.next) = kc at *
  have hs5 : SI kc (.sl (k95.next + 18) 0 1 (.kn 1)) [5] := SI.own (h := kc) (id := k95.next + 18) (l := [5]) (by omega) hgc (.kn 1)
  simp (disch := first | omega | (simp only [List.length_set, List.length_replicate, List.length_append, List.length_take, List.length_drop, List.length_cons, List.length_nil, List.length_map, List.length_range, ints_length] <;> omega)) only [go_sem, decide_true, lit_bld 1 _ hs5, R kc Fc]
  refine (cmp_ok _ _ (1, [6]) (1, [5]) kc (CV kc Fc) ⟨_, rfl, hs5⟩ (by decide) (by decide)).mono ?_
  rintro vd kd ⟨rfl, fd⟩
  simp only [names_val49]
  have Fd := Fc.trans fd
  simp (disch := first | omega | (simp only [List.length_set, List.length_replicate, List.length_append, List.length_take, List.length_drop, List.length_cons, List.length_nil, List.length_map, List.length_range, ints_length] <;> omega)) only [go_sem, decide_true, R kd Fd, eu]
  refine (cmp_ok _ _ (1, [6]) (1, [6]) kd (CV kd Fd) (CV kd Fd) (by decide) (by decide)).mono ?_
  rintro ve ke ⟨rfl, fe⟩
  simp only [names_val50]
  have Fe := Fd.trans fe
  simp (disch := first | omega | (simp only [List.length_set, List.length_replicate, List.length_append, List.length_take, List.length_drop, List.length_cons, List.length_nil, List.length_map, List.length_range, ints_length] <;> omega)) only [go_sem, decide_true, R ke Fe, eu]
  exact g.trans Fe
end
end Go.Proofs.Ythfabknpogbcaaa
