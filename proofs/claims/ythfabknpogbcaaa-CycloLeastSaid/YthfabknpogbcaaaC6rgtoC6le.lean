/- The laws CycloRing and CycloGalois, walked. What the law CycloLeast asks. The law CycloLeast, walked. -/
import Derived.Test.YthfabknpogbcaaaCy10toC6la
/- The laws CycloRing and CycloGalois, walked. -/
namespace Go.Proofs.Ythfabknpogbcaaa
open Go Go.Ay
set_option maxRecDepth 100000
noncomputable section

theorem bldV_fst {z1 z2 v : V} (hv : v.cells = [v]) (hv1 : v.one = true) : bldV [z1, z2] [(0, 1, v)] = some (.agg [v, z2]) := by
  have e1 : putAt [z1, z2] 0 [v] = some [v, z2] := by simp [putAt]
  simp only [bldV, fillV, hv, List.length_singleton, List.all_cons, List.all_nil, hv1, Bool.and_self, and_self, if_true, e1, Option.map_some]
theorem d6 : decide ((6 : Int) = 6) = true := by decide
theorem d00 : decide ((0 : Int) ≠ 0) = false := by decide
theorem d0 : decide ((0 : Int) = 0) = true := by decide
/-- A box above the taker. -/
def Bf (x : Nat) (h : H) (id : Nat) (a : Int × List Int) : Prop := ∃ u, h.get id = some (.cells false [.int .i64 a.1, u]) ∧ SI h u a.2 ∧ id < h.next ∧ x < id ∧ Frs u (x + 1)
theorem Bf.fx {x : Nat} {h h' : H} {id : Nat} {a : Int × List Int} (b : Bf x h id a) (f : Fx x h h') : Bf x h' id a := by
  obtain ⟨u, h1, h2, h3, h4, h5⟩ := b
  exact ⟨u, (f.get id h3 (by omega)).trans h1, SI.fx h2 h5 (Nat.lt_succ_self x) f, Nat.lt_of_lt_of_le h3 f.next, h4, h5⟩
theorem Bf.bx {x : Nat} {h : H} {id : Nat} {a : Int × List Int} (b : Bf x h id a) : Bx h id a := by
  obtain ⟨u, h1, h2, h3, _⟩ := b
  exact ⟨u, h1, h2, h3⟩
theorem Bf.new {x : Nat} (h : H) {a : Int × List Int} {u : V} {lo : Nat} (s : SI h u a.2) (fr : Frs u lo) (hl : x < lo) (hx : x < h.next) : Bf x (bxH h a.1 u) h.next a :=
  ⟨u, H.get_set_same .., s.mono (bxH_fr h a.1 u), by rw [bxH, H.next_set, H.next_new]; omega, hx, fr.le (by omega)⟩


set_option maxHeartbeats 16000000 in
theorem ring_ok (vl : V) (l : List Int) (nn kk : Int) (h : H) (hc : SI h vl l) (hcl : (l.length : Int) ≤ 2 ^ 63 - 1) : Ev T n_law06_CycloRing [vl, .int .i64 nn, .int .i64 kk] h (fun v _ => v = .bool true) := by
  refine Ev_of t_law06_CycloRing rfl ?_
  simp (disch := first | omega | (simp only [Qn] <;> omega)) only [go_sem, c_law06_CycloRing, initV_eq]
  refine (lives_ok h).mono ?_
  rintro v h0 ⟨rfl, g⟩
  replace hc := hc.mono g
  clear g
  simp (disch := first | omega | (simp only [Qn] <;> omega)) only [go_sem, hc.lens]
  refine iteW_dec (fun hlong => ?_) (fun hlong => ?_)
  · simp (disch := first | omega | (simp only [Qn] <;> omega)) only [go_sem]
  have hl : l.length < 1000000 := by omega
  simp (disch := first | omega | (simp only [Qn] <;> omega)) only [go_sem]
  refine (order_ok _ _).mono ?_
  rintro v hb ⟨n, rfl, hn, fb⟩
  obtain ⟨hdv, hn1, hn2⟩ := mem_dvs hn (Nat.dvd_refl n)
  replace hc := hc.mono fb
  clear fb
  simp (disch := first | omega | (simp only [Qn] <;> omega)) only [go_sem]
  have hbl := bldV_fst (z1 := .nils) (z2 := .int .i64 0) (v := vl) hc.what.1 hc.what.2.1
  have hbo := fun hh => boxV_agg2 hh (v := vl) (u := .int .i64 0) hc.what.2.1 rfl
  simp (disch := first | omega | (simp only [Qn] <;> omega)) only [go_sem, hbl, hbo]
  have hfx : Fr hb (hb.new (.cells false [vl, .int .i64 0])) := (Fr.refl hb).new _
  have hgx : (hb.new (.cells false [vl, .int .i64 0])).get hb.next = some (.cells false [vl, .int .i64 0]) := H.get_new_same ..
  have hnx : (hb.new (.cells false [vl, .int .i64 0])).next = hb.next + 1 := H.next_new ..
  generalize hb.new (.cells false [vl, .int .i64 0]) = hx at *
  have ht : Tk hx hb.next l := ⟨vl, 0, hgx, hc.mono hfx, fun id off len c e => by
    rcases hc with ⟨h0, _⟩ | ⟨_, _, _, _, _, _, h0, _, h3, _⟩
    · rw [h0] at e; cases e
    · rw [h0] at e; cases e; exact h3, Nat.zero_le _, by omega⟩
  have htid : hb.next < hx.next := by omega
  clear hfx hgx hnx hbl hbo hc
  generalize hb.next = tid at *
  refine (small_ok tid l n _ ht hl hn1 hn2).mono ?_
  rintro v h0 ⟨cA, hcA, w, rfl, ⟨u0, rfl, hu0, hw0⟩, ht0, f0⟩
  obtain ⟨A, eA⟩ : ∃ X, numF n cA = X := ⟨_, rfl⟩
  simp only [eA] at hu0 ⊢
  have st := fun hh id => stV_agg2 hh id 0 (v := .int .i64 A.1) (u := u0) rfl hu0.what.2.1
  simp (disch := first | omega | (simp only [Qn] <;> omega)) only [go_sem, d00, d0, decide_true, st, bxH_eq]
  have fx := f0.trans (Fx.of (bxH_fr h0 A.1 u0))
  have bA := Bf.new h0 hu0 hw0 htid (by have := f0.next; omega)
  clear ht
  have ht := ht0.mono (bxH_fr h0 A.1 u0)
  replace htid := Nat.lt_of_lt_of_le htid fx.next
  clear fx st hu0 ht0 f0 hw0
  generalize h0.next = i0 at *
  generalize bxH h0 A.1 u0 = k0 at *
  refine (small_ok tid l n _ ht hl hn1 hn2).mono ?_
  rintro v h1 ⟨cB, hcB, w, rfl, ⟨u1, rfl, hu1, hw1⟩, ht1, f1⟩
  obtain ⟨B, eB⟩ : ∃ X, numF n cB = X := ⟨_, rfl⟩
  simp only [eB] at hu1 ⊢
  have st := fun hh id => stV_agg2 hh id 0 (v := .int .i64 B.1) (u := u1) rfl hu1.what.2.1
  simp (disch := first | omega | (simp only [Qn] <;> omega)) only [go_sem, d00, d0, decide_true, st, bxH_eq]
  have fx := f1.trans (Fx.of (bxH_fr h1 B.1 u1))
  replace bA := bA.fx fx
  have bB := Bf.new h1 hu1 hw1 htid (by have := f1.next; omega)
  clear ht
  have ht := ht1.mono (bxH_fr h1 B.1 u1)
  replace htid := Nat.lt_of_lt_of_le htid fx.next
  clear fx st hu1 ht1 f1 hw1
  generalize h1.next = i1 at *
  generalize bxH h1 B.1 u1 = k1 at *
  refine (small_ok tid l n _ ht hl hn1 hn2).mono ?_
  rintro v h2 ⟨cC, hcC, w, rfl, ⟨u2, rfl, hu2, hw2⟩, ht2, f2⟩
  obtain ⟨C, eC⟩ : ∃ X, numF n cC = X := ⟨_, rfl⟩
  simp only [eC] at hu2 ⊢
  have st := fun hh id => stV_agg2 hh id 0 (v := .int .i64 C.1) (u := u2) rfl hu2.what.2.1
  simp (disch := first | omega | (simp only [Qn] <;> omega)) only [go_sem, d00, d0, decide_true, st, bxH_eq]
  have fx := f2.trans (Fx.of (bxH_fr h2 C.1 u2))
  replace bA := bA.fx fx
  replace bB := bB.fx fx
  have bC := Bf.new h2 hu2 hw2 htid (by have := f2.next; omega)
  clear ht
  have ht := ht2.mono (bxH_fr h2 C.1 u2)
  replace htid := Nat.lt_of_lt_of_le htid fx.next
  clear fx st hu2 ht2 f2 hw2
  generalize h2.next = i2 at *
  generalize bxH h2 C.1 u2 = k2 at *
  clear ht
  have b := ((((Bxs.nil _).snoc bA.bx).snoc bB.bx).snoc bC.bx)
  replace b : Bxs _ [(i0, A), (i1, B), (i2, C)] := b
  clear bA bB bC htid
  have hr := tmod_range kk (show (0 : Int) < 199 by omega)
  obtain ⟨k, hk⟩ : ∃ k : Int, k = kk % 199 - 99 := ⟨_, rfl⟩
  obtain ⟨AB, BC, ABC, S, AS, AC, K, KA, M, Q, E, e1, e2, e3, e4, e5, e6, e7, e8, e9, e10, e11, e12, e13, e14, e15, e16, hE, lA, lB, lC, lAB, lBC, lABC, lS, lAS, lAC, lK, lKA, lM, lQ⟩ := ring_facts hn1 hn2 hcA hcB hcC (k := k) (by omega) eA eB eC
  clear eA eB eC hcA hcB hcC cA cB cC
  obtain ⟨a0, r0, q0⟩ := b.at 0 i0 A.1 A.2 rfl
  obtain ⟨a1, r1, q1⟩ := b.at 1 i1 B.1 B.2 rfl
  simp (disch := first | omega | (simp only [Qn] <;> omega)) only [go_sem, d00, d0, decide_true, r0, r1]
  refine (mul_ok _ _ A B _ q0 q1 lA lB).mono ?_
  rintro v h3 ⟨w, rfl, ⟨u3, rfl, hu3, -⟩, f3⟩
  simp only [e1] at hu3 ⊢
  have st := fun hh id => stV_agg2 hh id 0 (v := .int .i64 AB.1) (u := u3) rfl hu3.what.2.1
  simp (disch := first | omega | (simp only [Qn] <;> omega)) only [go_sem, d00, d0, decide_true, st, bxH_eq, List.getElem?_cons_zero, List.getElem?_cons_succ]
  have fx := f3.trans (bxH_fr h3 AB.1 u3)
  replace b := b.mono fx
  replace b := b.snoc (bxH_bx h3 (N := AB.1) (A := AB.2) hu3)
  clear fx st hu3
  generalize h3.next = i3 at *
  generalize bxH h3 AB.1 u3 = k3 at *
  replace b : Bxs _ [(i0, A), (i1, B), (i2, C), (i3, AB)] := b
  obtain ⟨a0, r0, q0⟩ := b.at 1 i1 B.1 B.2 rfl
  obtain ⟨a1, r1, q1⟩ := b.at 0 i0 A.1 A.2 rfl
  simp (disch := first | omega | (simp only [Qn] <;> omega)) only [go_sem, d00, d0, decide_true, r0, r1]
  refine (mul_ok _ _ B A _ q0 q1 lB lA).mono ?_
  rintro v h4 ⟨w, rfl, ⟨u4, rfl, hu4, -⟩, f4⟩
  simp only [e2] at hu4 ⊢
  have st := fun hh id => stV_agg2 hh id 0 (v := .int .i64 AB.1) (u := u4) rfl hu4.what.2.1
  simp (disch := first | omega | (simp only [Qn] <;> omega)) only [go_sem, d00, d0, decide_true, st, bxH_eq, List.getElem?_cons_zero, List.getElem?_cons_succ]
  have fx := f4.trans (bxH_fr h4 AB.1 u4)
  replace b := b.mono fx
  replace b := b.snoc (bxH_bx h4 (N := AB.1) (A := AB.2) hu4)
  clear fx st hu4
  generalize h4.next = i4 at *
  generalize bxH h4 AB.1 u4 = k4 at *
  replace b : Bxs _ [(i0, A), (i1, B), (i2, C), (i3, AB), (i4, AB)] := b
  obtain ⟨a0, r0, q0⟩ := b.at 1 i1 B.1 B.2 rfl
  obtain ⟨a1, r1, q1⟩ := b.at 2 i2 C.1 C.2 rfl
  simp (disch := first | omega | (simp only [Qn] <;> omega)) only [go_sem, d00, d0, decide_true, r0, r1]
  refine (mul_ok _ _ B C _ q0 q1 lB lC).mono ?_
  rintro v h5 ⟨w, rfl, ⟨u5, rfl, hu5, -⟩, f5⟩
  simp only [e3] at hu5 ⊢
  have st := fun hh id => stV_agg2 hh id 0 (v := .int .i64 BC.1) (u := u5) rfl hu5.what.2.1
  simp (disch := first | omega | (simp only [Qn] <;> omega)) only [go_sem, d00, d0, decide_true, st, bxH_eq, List.getElem?_cons_zero, List.getElem?_cons_succ]
  have fx := f5.trans (bxH_fr h5 BC.1 u5)
  replace b := b.mono fx
  replace b := b.snoc (bxH_bx h5 (N := BC.1) (A := BC.2) hu5)
  clear fx st hu5
  generalize h5.next = i5 at *
  generalize bxH h5 BC.1 u5 = k5 at *
  replace b : Bxs _ [(i0, A), (i1, B), (i2, C), (i3, AB), (i4, AB), (i5, BC)] := b
  obtain ⟨a0, r0, q0⟩ := b.at 3 i3 AB.1 AB.2 rfl
  obtain ⟨a1, r1, q1⟩ := b.at 2 i2 C.1 C.2 rfl
  simp (disch := first | omega | (simp only [Qn] <;> omega)) only [go_sem, d00, d0, decide_true, r0, r1]
  refine (mul_ok _ _ AB C _ q0 q1 lAB lC).mono ?_
  rintro v h6 ⟨w, rfl, ⟨u6, rfl, hu6, -⟩, f6⟩
  simp only [e4] at hu6 ⊢
  have st := fun hh id => stV_agg2 hh id 0 (v := .int .i64 ABC.1) (u := u6) rfl hu6.what.2.1
  simp (disch := first | omega | (simp only [Qn] <;> omega)) only [go_sem, d00, d0, decide_true, st, bxH_eq, List.getElem?_cons_zero, List.getElem?_cons_succ]
  have fx := f6.trans (bxH_fr h6 ABC.1 u6)
  replace b := b.mono fx
  replace b := b.snoc (bxH_bx h6 (N := ABC.1) (A := ABC.2) hu6)
  clear fx st hu6
  generalize h6.next = i6 at *
  generalize bxH h6 ABC.1 u6 = k6 at *
  replace b : Bxs _ [(i0, A), (i1, B), (i2, C), (i3, AB), (i4, AB), (i5, BC), (i6, ABC)] := b
  obtain ⟨a0, r0, q0⟩ := b.at 0 i0 A.1 A.2 rfl
  obtain ⟨a1, r1, q1⟩ := b.at 5 i5 BC.1 BC.2 rfl
  simp (disch := first | omega | (simp only [Qn] <;> omega)) only [go_sem, d00, d0, decide_true, r0, r1]
  refine (mul_ok _ _ A BC _ q0 q1 lA lBC).mono ?_
  rintro v h7 ⟨w, rfl, ⟨u7, rfl, hu7, -⟩, f7⟩
  simp only [e5] at hu7 ⊢
  have st := fun hh id => stV_agg2 hh id 0 (v := .int .i64 ABC.1) (u := u7) rfl hu7.what.2.1
  simp (disch := first | omega | (simp only [Qn] <;> omega)) only [go_sem, d00, d0, decide_true, st, bxH_eq, List.getElem?_cons_zero, List.getElem?_cons_succ]
  have fx := f7.trans (bxH_fr h7 ABC.1 u7)
  replace b := b.mono fx
  replace b := b.snoc (bxH_bx h7 (N := ABC.1) (A := ABC.2) hu7)
  clear fx st hu7
  generalize h7.next = i7 at *
  generalize bxH h7 ABC.1 u7 = k7 at *
  replace b : Bxs _ [(i0, A), (i1, B), (i2, C), (i3, AB), (i4, AB), (i5, BC), (i6, ABC), (i7, ABC)] := b
  obtain ⟨a0, r0, q0⟩ := b.at 1 i1 B.1 B.2 rfl
  obtain ⟨a1, r1, q1⟩ := b.at 2 i2 C.1 C.2 rfl
  simp (disch := first | omega | (simp only [Qn] <;> omega)) only [go_sem, d00, d0, decide_true, r0, r1]
  refine (add_ok _ _ B C _ q0 q1 lB lC).mono ?_
  rintro v h8 ⟨w, rfl, ⟨u8, rfl, hu8, -⟩, f8⟩
  simp only [e6] at hu8 ⊢
  have st := fun hh id => stV_agg2 hh id 0 (v := .int .i64 S.1) (u := u8) rfl hu8.what.2.1
  simp (disch := first | omega | (simp only [Qn] <;> omega)) only [go_sem, d00, d0, decide_true, st, bxH_eq, List.getElem?_cons_zero, List.getElem?_cons_succ]
  have fx := f8.trans (bxH_fr h8 S.1 u8)
  replace b := b.mono fx
  replace b := b.snoc (bxH_bx h8 (N := S.1) (A := S.2) hu8)
  clear fx st hu8
  generalize h8.next = i8 at *
  generalize bxH h8 S.1 u8 = k8 at *
  replace b : Bxs _ [(i0, A), (i1, B), (i2, C), (i3, AB), (i4, AB), (i5, BC), (i6, ABC), (i7, ABC), (i8, (S.1, S.2))] := b
  obtain ⟨a0, r0, q0⟩ := b.at 2 i2 C.1 C.2 rfl
  obtain ⟨a1, r1, q1⟩ := b.at 1 i1 B.1 B.2 rfl
  simp (disch := first | omega | (simp only [Qn] <;> omega)) only [go_sem, d00, d0, decide_true, r0, r1]
  refine (add_ok _ _ C B _ q0 q1 lC lB).mono ?_
  rintro v h9 ⟨w, rfl, ⟨u9, rfl, hu9, -⟩, f9⟩
  simp only [e7] at hu9 ⊢
  have st := fun hh id => stV_agg2 hh id 0 (v := .int .i64 S.1) (u := u9) rfl hu9.what.2.1
  simp (disch := first | omega | (simp only [Qn] <;> omega)) only [go_sem, d00, d0, decide_true, st, bxH_eq, List.getElem?_cons_zero, List.getElem?_cons_succ]
  have fx := f9.trans (bxH_fr h9 S.1 u9)
  replace b := b.mono fx
  replace b := b.snoc (bxH_bx h9 (N := S.1) (A := S.2) hu9)
  clear fx st hu9
  generalize h9.next = i9 at *
  generalize bxH h9 S.1 u9 = k9 at *
  replace b : Bxs _ [(i0, A), (i1, B), (i2, C), (i3, AB), (i4, AB), (i5, BC), (i6, ABC), (i7, ABC), (i8, (S.1, S.2)), (i9, (S.1, S.2))] := b
  obtain ⟨a0, r0, q0⟩ := b.at 0 i0 A.1 A.2 rfl
  obtain ⟨a1, r1, q1⟩ := b.at 8 i8 S.1 S.2 rfl
  simp (disch := first | omega | (simp only [Qn] <;> omega)) only [go_sem, d00, d0, decide_true, r0, r1]
  refine (mul_ok _ _ A S _ q0 q1 lA lS).mono ?_
  rintro v h10 ⟨w, rfl, ⟨u10, rfl, hu10, -⟩, f10⟩
  simp only [e8] at hu10 ⊢
  have st := fun hh id => stV_agg2 hh id 0 (v := .int .i64 AS.1) (u := u10) rfl hu10.what.2.1
  simp (disch := first | omega | (simp only [Qn] <;> omega)) only [go_sem, d00, d0, decide_true, st, bxH_eq, List.getElem?_cons_zero, List.getElem?_cons_succ]
  have fx := f10.trans (bxH_fr h10 AS.1 u10)
  replace b := b.mono fx
  replace b := b.snoc (bxH_bx h10 (N := AS.1) (A := AS.2) hu10)
  clear fx st hu10
  generalize h10.next = i10 at *
  generalize bxH h10 AS.1 u10 = k10 at *
  replace b : Bxs _ [(i0, A), (i1, B), (i2, C), (i3, AB), (i4, AB), (i5, BC), (i6, ABC), (i7, ABC), (i8, (S.1, S.2)), (i9, (S.1, S.2)), (i10, (AS.1, AS.2))] := b
  obtain ⟨a0, r0, q0⟩ := b.at 0 i0 A.1 A.2 rfl
  obtain ⟨a1, r1, q1⟩ := b.at 2 i2 C.1 C.2 rfl
  simp (disch := first | omega | (simp only [Qn] <;> omega)) only [go_sem, d00, d0, decide_true, r0, r1]
  refine (mul_ok _ _ A C _ q0 q1 lA lC).mono ?_
  rintro v h11 ⟨w, rfl, ⟨u11, rfl, hu11, -⟩, f11⟩
  simp only [e9] at hu11 ⊢
  have st := fun hh id => stV_agg2 hh id 0 (v := .int .i64 AC.1) (u := u11) rfl hu11.what.2.1
  simp (disch := first | omega | (simp only [Qn] <;> omega)) only [go_sem, d00, d0, decide_true, st, bxH_eq, List.getElem?_cons_zero, List.getElem?_cons_succ]
  have fx := f11.trans (bxH_fr h11 AC.1 u11)
  replace b := b.mono fx
  replace b := b.snoc (bxH_bx h11 (N := AC.1) (A := AC.2) hu11)
  clear fx st hu11
  generalize h11.next = i11 at *
  generalize bxH h11 AC.1 u11 = k11 at *
  replace b : Bxs _ [(i0, A), (i1, B), (i2, C), (i3, AB), (i4, AB), (i5, BC), (i6, ABC), (i7, ABC), (i8, (S.1, S.2)), (i9, (S.1, S.2)), (i10, (AS.1, AS.2)), (i11, (AC.1, AC.2))] := b
  obtain ⟨a0, r0, q0⟩ := b.at 3 i3 AB.1 AB.2 rfl
  obtain ⟨a1, r1, q1⟩ := b.at 11 i11 AC.1 AC.2 rfl
  simp (disch := first | omega | (simp only [Qn] <;> omega)) only [go_sem, d00, d0, decide_true, r0, r1]
  refine (add_ok _ _ AB AC _ q0 q1 lAB lAC).mono ?_
  rintro v h12 ⟨w, rfl, ⟨u12, rfl, hu12, -⟩, f12⟩
  simp only [e10] at hu12 ⊢
  have st := fun hh id => stV_agg2 hh id 0 (v := .int .i64 AS.1) (u := u12) rfl hu12.what.2.1
  simp (disch := first | omega | (simp only [Qn] <;> omega)) only [go_sem, d00, d0, decide_true, st, bxH_eq, List.getElem?_cons_zero, List.getElem?_cons_succ]
  have fx := f12.trans (bxH_fr h12 AS.1 u12)
  replace b := b.mono fx
  replace b := b.snoc (bxH_bx h12 (N := AS.1) (A := AS.2) hu12)
  clear fx st hu12
  generalize h12.next = i12 at *
  generalize bxH h12 AS.1 u12 = k12 at *
  replace b : Bxs _ [(i0, A), (i1, B), (i2, C), (i3, AB), (i4, AB), (i5, BC), (i6, ABC), (i7, ABC), (i8, (S.1, S.2)), (i9, (S.1, S.2)), (i10, (AS.1, AS.2)), (i11, (AC.1, AC.2)), (i12, (AS.1, AS.2))] := b
  obtain ⟨a0, r0, q0⟩ := b.at 3 i3 AB.1 AB.2 rfl
  obtain ⟨a1, r1, q1⟩ := b.at 4 i4 AB.1 AB.2 rfl
  simp (disch := first | omega | (simp only [Qn] <;> omega)) only [go_sem, d00, d0, decide_true, r0, r1]
  refine (lawsame_ok _ _ _ _ _ q0 q1 lAB lAB).mono ?_
  rintro v k13 ⟨rfl, f13⟩
  replace b := b.mono f13
  try simp (disch := first | omega | (simp only [Qn] <;> omega)) only [go_sem, d00, d0, decide_true]
  obtain ⟨a0, r0, q0⟩ := b.at 6 i6 ABC.1 ABC.2 rfl
  obtain ⟨a1, r1, q1⟩ := b.at 7 i7 ABC.1 ABC.2 rfl
  simp (disch := first | omega | (simp only [Qn] <;> omega)) only [go_sem, d00, d0, decide_true, r0, r1]
  refine (lawsame_ok _ _ _ _ _ q0 q1 lABC lABC).mono ?_
  rintro v k14 ⟨rfl, f14⟩
  replace b := b.mono f14
  try simp (disch := first | omega | (simp only [Qn] <;> omega)) only [go_sem, d00, d0, decide_true]
  obtain ⟨a0, r0, q0⟩ := b.at 8 i8 S.1 S.2 rfl
  obtain ⟨a1, r1, q1⟩ := b.at 9 i9 S.1 S.2 rfl
  simp (disch := first | omega | (simp only [Qn] <;> omega)) only [go_sem, d00, d0, decide_true, r0, r1]
  refine (lawsame_ok _ _ _ _ _ q0 q1 lS lS).mono ?_
  rintro v k15 ⟨rfl, f15⟩
  replace b := b.mono f15
  try simp (disch := first | omega | (simp only [Qn] <;> omega)) only [go_sem, d00, d0, decide_true]
  obtain ⟨a0, r0, q0⟩ := b.at 10 i10 AS.1 AS.2 rfl
  obtain ⟨a1, r1, q1⟩ := b.at 12 i12 AS.1 AS.2 rfl
  simp (disch := first | omega | (simp only [Qn] <;> omega)) only [go_sem, d00, d0, decide_true, r0, r1]
  refine (lawsame_ok _ _ _ _ _ q0 q1 lAS lAS).mono ?_
  rintro v k16 ⟨rfl, f16⟩
  replace b := b.mono f16
  try simp (disch := first | omega | (simp only [Qn] <;> omega)) only [go_sem, d00, d0, decide_true]
  refine (pick_ok kk 199 _ (by omega) (by omega)).mono ?_
  rintro v hp ⟨rfl, rfl⟩
  simp (disch := first | omega | (simp only [Qn] <;> omega)) only [go_sem]
  rw [← hk]
  clear hr
  refine (Int_ok k _).mono ?_
  rintro v h17 ⟨w, rfl, ⟨u17, rfl, hu17, -⟩, f17⟩
  simp only [e11] at hu17 ⊢
  have st := fun hh id => stV_agg2 hh id 0 (v := .int .i64 K.1) (u := u17) rfl hu17.what.2.1
  simp (disch := first | omega | (simp only [Qn] <;> omega)) only [go_sem, d00, d0, decide_true, st, bxH_eq, List.getElem?_cons_zero, List.getElem?_cons_succ]
  have fx := f17.trans (bxH_fr h17 K.1 u17)
  replace b := b.mono fx
  replace b := b.snoc (bxH_bx h17 (N := K.1) (A := K.2) hu17)
  clear fx st hu17
  generalize h17.next = i17 at *
  generalize bxH h17 K.1 u17 = k17 at *
  replace b : Bxs _ [(i0, A), (i1, B), (i2, C), (i3, AB), (i4, AB), (i5, BC), (i6, ABC), (i7, ABC), (i8, (S.1, S.2)), (i9, (S.1, S.2)), (i10, (AS.1, AS.2)), (i11, (AC.1, AC.2)), (i12, (AS.1, AS.2)), (i17, (K.1, K.2))] := b
  obtain ⟨a0, r0, q0⟩ := b.at 0 i0 A.1 A.2 rfl
  obtain ⟨a1, r1, q1⟩ := b.at 13 i17 K.1 K.2 rfl
  simp (disch := first | omega | (simp only [Qn] <;> omega)) only [go_sem, d00, d0, decide_true, r0, r1]
  refine (mul_ok _ _ A K _ q0 q1 lA lK).mono ?_
  rintro v h18 ⟨w, rfl, ⟨u18, rfl, hu18, -⟩, f18⟩
  simp only [e12] at hu18 ⊢
  have st := fun hh id => stV_agg2 hh id 0 (v := .int .i64 KA.1) (u := u18) rfl hu18.what.2.1
  simp (disch := first | omega | (simp only [Qn] <;> omega)) only [go_sem, d00, d0, decide_true, st, bxH_eq, List.getElem?_cons_zero, List.getElem?_cons_succ]
  have fx := f18.trans (bxH_fr h18 KA.1 u18)
  replace b := b.mono fx
  replace b := b.snoc (bxH_bx h18 (N := KA.1) (A := KA.2) hu18)
  clear fx st hu18
  generalize h18.next = i18 at *
  generalize bxH h18 KA.1 u18 = k18 at *
  replace b : Bxs _ [(i0, A), (i1, B), (i2, C), (i3, AB), (i4, AB), (i5, BC), (i6, ABC), (i7, ABC), (i8, (S.1, S.2)), (i9, (S.1, S.2)), (i10, (AS.1, AS.2)), (i11, (AC.1, AC.2)), (i12, (AS.1, AS.2)), (i17, (K.1, K.2)), (i18, (KA.1, KA.2))] := b
  obtain ⟨a0, r0, q0⟩ := b.at 0 i0 A.1 A.2 rfl
  simp (disch := first | omega | (simp only [Qn] <;> omega)) only [go_sem, d00, d0, decide_true, r0]
  refine (scale_ok _ A k _ q0 lA).mono ?_
  rintro v h19 ⟨w, rfl, ⟨u19, rfl, hu19, -⟩, f19⟩
  simp only [e13] at hu19 ⊢
  have st := fun hh id => stV_agg2 hh id 0 (v := .int .i64 KA.1) (u := u19) rfl hu19.what.2.1
  simp (disch := first | omega | (simp only [Qn] <;> omega)) only [go_sem, d00, d0, decide_true, st, bxH_eq, List.getElem?_cons_zero, List.getElem?_cons_succ]
  have fx := f19.trans (bxH_fr h19 KA.1 u19)
  replace b := b.mono fx
  replace b := b.snoc (bxH_bx h19 (N := KA.1) (A := KA.2) hu19)
  clear fx st hu19
  generalize h19.next = i19 at *
  generalize bxH h19 KA.1 u19 = k19 at *
  replace b : Bxs _ [(i0, A), (i1, B), (i2, C), (i3, AB), (i4, AB), (i5, BC), (i6, ABC), (i7, ABC), (i8, (S.1, S.2)), (i9, (S.1, S.2)), (i10, (AS.1, AS.2)), (i11, (AC.1, AC.2)), (i12, (AS.1, AS.2)), (i17, (K.1, K.2)), (i18, (KA.1, KA.2)), (i19, (KA.1, KA.2))] := b
  obtain ⟨a0, r0, q0⟩ := b.at 0 i0 A.1 A.2 rfl
  simp (disch := first | omega | (simp only [Qn] <;> omega)) only [go_sem, d00, d0, decide_true, r0]
  refine (scale_ok _ A (-1) _ q0 lA).mono ?_
  rintro v h20 ⟨w, rfl, ⟨u20, rfl, hu20, -⟩, f20⟩
  simp only [e14] at hu20 ⊢
  have st := fun hh id => stV_agg2 hh id 0 (v := .int .i64 M.1) (u := u20) rfl hu20.what.2.1
  simp (disch := first | omega | (simp only [Qn] <;> omega)) only [go_sem, d00, d0, decide_true, st, bxH_eq, List.getElem?_cons_zero, List.getElem?_cons_succ]
  have fx := f20.trans (bxH_fr h20 M.1 u20)
  replace b := b.mono fx
  replace b := b.snoc (bxH_bx h20 (N := M.1) (A := M.2) hu20)
  clear fx st hu20
  generalize h20.next = i20 at *
  generalize bxH h20 M.1 u20 = k20 at *
  replace b : Bxs _ [(i0, A), (i1, B), (i2, C), (i3, AB), (i4, AB), (i5, BC), (i6, ABC), (i7, ABC), (i8, (S.1, S.2)), (i9, (S.1, S.2)), (i10, (AS.1, AS.2)), (i11, (AC.1, AC.2)), (i12, (AS.1, AS.2)), (i17, (K.1, K.2)), (i18, (KA.1, KA.2)), (i19, (KA.1, KA.2)), (i20, (M.1, M.2))] := b
  obtain ⟨a0, r0, q0⟩ := b.at 0 i0 A.1 A.2 rfl
  obtain ⟨a1, r1, q1⟩ := b.at 16 i20 M.1 M.2 rfl
  simp (disch := first | omega | (simp only [Qn] <;> omega)) only [go_sem, d00, d0, decide_true, r0, r1]
  refine (add_ok _ _ A M _ q0 q1 lA lM).mono ?_
  rintro v h21 ⟨w, rfl, ⟨u21, rfl, hu21, -⟩, f21⟩
  simp only [e15] at hu21 ⊢
  have st := fun hh id => stV_agg2 hh id 0 (v := .int .i64 1) (u := u21) rfl hu21.what.2.1
  simp (disch := first | omega | (simp only [Qn] <;> omega)) only [go_sem, d00, d0, decide_true, st, bxH_eq, List.getElem?_cons_zero, List.getElem?_cons_succ]
  have fx := f21.trans (bxH_fr h21 1 u21)
  replace b := b.mono fx
  replace b := b.snoc (bxH_bx h21 (N := 1) (A := [0]) hu21)
  clear fx st hu21
  generalize h21.next = i21 at *
  generalize bxH h21 1 u21 = k21 at *
  replace b : Bxs _ [(i0, A), (i1, B), (i2, C), (i3, AB), (i4, AB), (i5, BC), (i6, ABC), (i7, ABC), (i8, (S.1, S.2)), (i9, (S.1, S.2)), (i10, (AS.1, AS.2)), (i11, (AC.1, AC.2)), (i12, (AS.1, AS.2)), (i17, (K.1, K.2)), (i18, (KA.1, KA.2)), (i19, (KA.1, KA.2)), (i20, (M.1, M.2)), (i21, (1,[0]))] := b
  obtain ⟨a0, r0, q0⟩ := b.at 15 i19 KA.1 KA.2 rfl
  simp (disch := first | omega | (simp only [Qn] <;> omega)) only [go_sem, d00, d0, decide_true, r0]
  refine (quot_ok _ KA k _ q0 lKA).mono ?_
  rintro v h22 ⟨w, rfl, ⟨u22, rfl, hu22, -⟩, f22⟩
  simp only [e16] at hu22 ⊢
  have st := fun hh id => stV_agg2 hh id 0 (v := .int .i64 Q.1) (u := u22) rfl hu22.what.2.1
  simp (disch := first | omega | (simp only [Qn] <;> omega)) only [go_sem, d00, d0, decide_true, st, bxH_eq, List.getElem?_cons_zero, List.getElem?_cons_succ]
  have fx := f22.trans (bxH_fr h22 Q.1 u22)
  replace b := b.mono fx
  replace b := b.snoc (bxH_bx h22 (N := Q.1) (A := Q.2) hu22)
  clear fx st hu22
  generalize h22.next = i22 at *
  generalize bxH h22 Q.1 u22 = k22 at *
  replace b : Bxs _ [(i0, A), (i1, B), (i2, C), (i3, AB), (i4, AB), (i5, BC), (i6, ABC), (i7, ABC), (i8, (S.1, S.2)), (i9, (S.1, S.2)), (i10, (AS.1, AS.2)), (i11, (AC.1, AC.2)), (i12, (AS.1, AS.2)), (i17, (K.1, K.2)), (i18, (KA.1, KA.2)), (i19, (KA.1, KA.2)), (i20, (M.1, M.2)), (i21, (1,[0])), (i22, (Q.1, Q.2))] := b
  obtain ⟨a0, r0, q0⟩ := b.at 14 i18 KA.1 KA.2 rfl
  obtain ⟨a1, r1, q1⟩ := b.at 15 i19 KA.1 KA.2 rfl
  simp (disch := first | omega | (simp only [Qn] <;> omega)) only [go_sem, d00, d0, decide_true, r0, r1]
  refine (lawsame_ok _ _ _ _ _ q0 q1 lKA lKA).mono ?_
  rintro v k23 ⟨rfl, f23⟩
  replace b := b.mono f23
  try simp (disch := first | omega | (simp only [Qn] <;> omega)) only [go_sem, d00, d0, decide_true]
  obtain ⟨a0, r0, q0⟩ := b.at 17 i21 1 [0] rfl
  simp (disch := first | omega | (simp only [Qn] <;> omega)) only [go_sem, d00, d0, decide_true, r0, bls_one]
  refine (is_ok _ _ _ 0 1 [0] _ (q0.mono (lit_fr _ [0])) (lit_si _ [0] 1 rfl) (by decide) (by decide)).mono ?_
  rintro v8 k8 ⟨rfl, f8⟩
  rw [show decide ((0 : Int) = 0 ∧ ((1, [0]) : Int × List Int) = (1, [0])) = true from by decide]
  replace b := b.mono ((lit_fr _ [0]).trans f8)
  rcases hE with ⟨k0, rfl⟩ | ⟨k0, rfl, rfl⟩
  · have dk : decide (k = 0) = true := decide_eq_true k0
    have dk2 : decide (k ≠ 0) = false := decide_eq_false (by omega)
    simp (disch := first | omega | (simp only [Qn] <;> omega)) only [go_sem, d00, d0, d6, dk, dk2, decide_true, undef_eq]
  · have dk : decide (k = 0) = false := decide_eq_false k0
    have dk2 : decide (k ≠ 0) = true := decide_eq_true k0
    simp (disch := first | omega | (simp only [Qn] <;> omega)) only [go_sem, d00, d0, d6, dk, dk2, decide_true]
    obtain ⟨a0, r0, q0⟩ := b.at 18 i22 Q.1 Q.2 rfl
    obtain ⟨a1, r1, q1⟩ := b.at 0 i0 Q.1 Q.2 rfl
    simp (disch := first | omega | (simp only [Qn] <;> omega)) only [go_sem, d00, d0, decide_true, r0, r1]
    refine (lawsame_ok _ _ _ _ _ q0 q1 lQ lQ).mono ?_
    rintro v k9 ⟨rfl, f9⟩
    simp (disch := first | omega | (simp only [Qn] <;> omega)) only [go_sem, d00, d0, decide_true]

set_option maxHeartbeats 16000000 in
theorem galois_ok (vl : V) (l : List Int) (nn jj kk : Int) (h : H) (hc : SI h vl l) (hcl : (l.length : Int) ≤ 2 ^ 63 - 1) : Ev T n_law06_CycloGalois [vl, .int .i64 nn, .int .i64 jj, .int .i64 kk] h (fun v _ => v = .bool true) := by
  refine Ev_of t_law06_CycloGalois rfl ?_
  simp (disch := first | omega | (simp only [Qn] <;> omega)) only [go_sem, c_law06_CycloGalois, initV_eq]
  refine (lives_ok h).mono ?_
  rintro v h0 ⟨rfl, g⟩
  replace hc := hc.mono g
  clear g
  simp (disch := first | omega | (simp only [Qn] <;> omega)) only [go_sem, hc.lens]
  refine iteW_dec (fun hlong => ?_) (fun hlong => ?_)
  · simp (disch := first | omega | (simp only [Qn] <;> omega)) only [go_sem]
  have hl : l.length < 1000000 := by omega
  simp (disch := first | omega | (simp only [Qn] <;> omega)) only [go_sem]
  refine (order_ok _ _).mono ?_
  rintro v hb ⟨n, rfl, hn, fb⟩
  obtain ⟨hdv, hn1, hn2⟩ := mem_dvs hn (Nat.dvd_refl n)
  replace hc := hc.mono fb
  clear fb
  simp (disch := first | omega | (simp only [Qn] <;> omega)) only [go_sem]
  refine (prime_ok n jj _ hn1 hn2).mono ?_
  rintro v hb1 ⟨j, rfl, hj, hjb, fb1⟩
  replace hc := hc.mono fb1
  clear fb1
  simp (disch := first | omega | (simp only [Qn] <;> omega)) only [go_sem]
  refine (prime_ok n kk _ hn1 hn2).mono ?_
  rintro v hb ⟨k, rfl, hk, hkb, fb⟩
  replace hc := hc.mono fb
  clear fb
  have hjk : (0 : Int) ≤ (j : Int) * (k : Int) ∧ (j : Int) * (k : Int) ≤ 120001 * 120001 := ⟨Int.mul_nonneg (by omega) (by omega), Int.mul_le_mul (by omega) (by omega) (by omega) (by omega)⟩
  simp (disch := first | omega | (simp only [Qn] <;> omega)) only [go_sem]
  have hbl := bldV_fst (z1 := .nils) (z2 := .int .i64 0) (v := vl) hc.what.1 hc.what.2.1
  have hbo := fun hh => boxV_agg2 hh (v := vl) (u := .int .i64 0) hc.what.2.1 rfl
  simp (disch := first | omega | (simp only [Qn] <;> omega)) only [go_sem, hbl, hbo]
  have hfx : Fr hb (hb.new (.cells false [vl, .int .i64 0])) := (Fr.refl hb).new _
  have hgx : (hb.new (.cells false [vl, .int .i64 0])).get hb.next = some (.cells false [vl, .int .i64 0]) := H.get_new_same ..
  have hnx : (hb.new (.cells false [vl, .int .i64 0])).next = hb.next + 1 := H.next_new ..
  generalize hb.new (.cells false [vl, .int .i64 0]) = hx at *
  have ht : Tk hx hb.next l := ⟨vl, 0, hgx, hc.mono hfx, fun id off len c e => by
    rcases hc with ⟨h0, _⟩ | ⟨_, _, _, _, _, _, h0, _, h3, _⟩
    · rw [h0] at e; cases e
    · rw [h0] at e; cases e; exact h3, Nat.zero_le _, by omega⟩
  have htid : hb.next < hx.next := by omega
  clear hfx hgx hnx hbl hbo hc
  generalize hb.next = tid at *
  refine (small_ok tid l n _ ht hl hn1 hn2).mono ?_
  rintro v h0 ⟨cA, hcA, w, rfl, ⟨u0, rfl, hu0, hw0⟩, ht0, f0⟩
  obtain ⟨A, eA⟩ : ∃ X, numF n cA = X := ⟨_, rfl⟩
  simp only [eA] at hu0 ⊢
  have st := fun hh id => stV_agg2 hh id 0 (v := .int .i64 A.1) (u := u0) rfl hu0.what.2.1
  simp (disch := first | omega | (simp only [Qn] <;> omega)) only [go_sem, d00, d0, decide_true, st, bxH_eq]
  have fx := f0.trans (Fx.of (bxH_fr h0 A.1 u0))
  have bA := Bf.new h0 hu0 hw0 htid (by have := f0.next; omega)
  clear ht
  have ht := ht0.mono (bxH_fr h0 A.1 u0)
  replace htid := Nat.lt_of_lt_of_le htid fx.next
  clear fx st hu0 ht0 f0 hw0
  generalize h0.next = i0 at *
  generalize bxH h0 A.1 u0 = k0 at *
  refine (small_ok tid l n _ ht hl hn1 hn2).mono ?_
  rintro v h1 ⟨cB, hcB, w, rfl, ⟨u1, rfl, hu1, hw1⟩, ht1, f1⟩
  obtain ⟨B, eB⟩ : ∃ X, numF n cB = X := ⟨_, rfl⟩
  simp only [eB] at hu1 ⊢
  have st := fun hh id => stV_agg2 hh id 0 (v := .int .i64 B.1) (u := u1) rfl hu1.what.2.1
  simp (disch := first | omega | (simp only [Qn] <;> omega)) only [go_sem, d00, d0, decide_true, st, bxH_eq]
  have fx := f1.trans (Fx.of (bxH_fr h1 B.1 u1))
  replace bA := bA.fx fx
  have bB := Bf.new h1 hu1 hw1 htid (by have := f1.next; omega)
  clear ht
  have ht := ht1.mono (bxH_fr h1 B.1 u1)
  replace htid := Nat.lt_of_lt_of_le htid fx.next
  clear fx st hu1 ht1 f1 hw1
  generalize h1.next = i1 at *
  generalize bxH h1 B.1 u1 = k1 at *
  clear ht
  have b := (((Bxs.nil _).snoc bA.bx).snoc bB.bx)
  replace b : Bxs _ [(i0, A), (i1, B)] := b
  clear bA bB htid
  obtain ⟨JA, JB, S, PP, JS, JP, KJA, CA, NA, e1, e2, e3, e4, e5, e6, e7, e8, e9, e10, e11, e12, e13, e14, eN, lA, lB, lJA, lJB, lS, lPP, lJS, lJP, lKJA, lCA, lNA⟩ := gal_facts hdv hcA hcB hj hk eA eB
  clear eA eB hcA hcB cA cB
  obtain ⟨a0, r0, q0⟩ := b.at 0 i0 A.1 A.2 rfl
  simp (disch := first | omega | (simp only [Qn] <;> omega)) only [go_sem, d00, d0, decide_true, r0]
  refine (gal_ok _ A j _ q0 lA).mono ?_
  rintro v h2 ⟨w, rfl, ⟨u2, rfl, hu2, -⟩, f2⟩
  simp only [e1] at hu2 ⊢
  have st := fun hh id => stV_agg2 hh id 0 (v := .int .i64 JA.1) (u := u2) rfl hu2.what.2.1
  simp (disch := first | omega | (simp only [Qn] <;> omega)) only [go_sem, d00, d0, decide_true, st, bxH_eq, List.getElem?_cons_zero, List.getElem?_cons_succ]
  have fx := f2.trans (bxH_fr h2 JA.1 u2)
  replace b := b.mono fx
  replace b := b.snoc (bxH_bx h2 (N := JA.1) (A := JA.2) hu2)
  clear fx st hu2
  generalize h2.next = i2 at *
  generalize bxH h2 JA.1 u2 = k2 at *
  replace b : Bxs _ [(i0, A), (i1, B), (i2, (JA.1, JA.2))] := b
  obtain ⟨a0, r0, q0⟩ := b.at 1 i1 B.1 B.2 rfl
  simp (disch := first | omega | (simp only [Qn] <;> omega)) only [go_sem, d00, d0, decide_true, r0]
  refine (gal_ok _ B j _ q0 lB).mono ?_
  rintro v h3 ⟨w, rfl, ⟨u3, rfl, hu3, -⟩, f3⟩
  simp only [e2] at hu3 ⊢
  have st := fun hh id => stV_agg2 hh id 0 (v := .int .i64 JB.1) (u := u3) rfl hu3.what.2.1
  simp (disch := first | omega | (simp only [Qn] <;> omega)) only [go_sem, d00, d0, decide_true, st, bxH_eq, List.getElem?_cons_zero, List.getElem?_cons_succ]
  have fx := f3.trans (bxH_fr h3 JB.1 u3)
  replace b := b.mono fx
  replace b := b.snoc (bxH_bx h3 (N := JB.1) (A := JB.2) hu3)
  clear fx st hu3
  generalize h3.next = i3 at *
  generalize bxH h3 JB.1 u3 = k3 at *
  replace b : Bxs _ [(i0, A), (i1, B), (i2, (JA.1, JA.2)), (i3, (JB.1, JB.2))] := b
  obtain ⟨a0, r0, q0⟩ := b.at 0 i0 A.1 A.2 rfl
  obtain ⟨a1, r1, q1⟩ := b.at 1 i1 B.1 B.2 rfl
  simp (disch := first | omega | (simp only [Qn] <;> omega)) only [go_sem, d00, d0, decide_true, r0, r1]
  refine (add_ok _ _ A B _ q0 q1 lA lB).mono ?_
  rintro v h4 ⟨w, rfl, ⟨u4, rfl, hu4, -⟩, f4⟩
  simp only [e3] at hu4 ⊢
  have st := fun hh id => stV_agg2 hh id 0 (v := .int .i64 S.1) (u := u4) rfl hu4.what.2.1
  simp (disch := first | omega | (simp only [Qn] <;> omega)) only [go_sem, d00, d0, decide_true, st, bxH_eq, List.getElem?_cons_zero, List.getElem?_cons_succ]
  have fx := f4.trans (bxH_fr h4 S.1 u4)
  replace b := b.mono fx
  replace b := b.snoc (bxH_bx h4 (N := S.1) (A := S.2) hu4)
  clear fx st hu4
  generalize h4.next = i4 at *
  generalize bxH h4 S.1 u4 = k4 at *
  replace b : Bxs _ [(i0, A), (i1, B), (i2, (JA.1, JA.2)), (i3, (JB.1, JB.2)), (i4, (S.1, S.2))] := b
  obtain ⟨a0, r0, q0⟩ := b.at 0 i0 A.1 A.2 rfl
  obtain ⟨a1, r1, q1⟩ := b.at 1 i1 B.1 B.2 rfl
  simp (disch := first | omega | (simp only [Qn] <;> omega)) only [go_sem, d00, d0, decide_true, r0, r1]
  refine (mul_ok _ _ A B _ q0 q1 lA lB).mono ?_
  rintro v h5 ⟨w, rfl, ⟨u5, rfl, hu5, -⟩, f5⟩
  simp only [e4] at hu5 ⊢
  have st := fun hh id => stV_agg2 hh id 0 (v := .int .i64 PP.1) (u := u5) rfl hu5.what.2.1
  simp (disch := first | omega | (simp only [Qn] <;> omega)) only [go_sem, d00, d0, decide_true, st, bxH_eq, List.getElem?_cons_zero, List.getElem?_cons_succ]
  have fx := f5.trans (bxH_fr h5 PP.1 u5)
  replace b := b.mono fx
  replace b := b.snoc (bxH_bx h5 (N := PP.1) (A := PP.2) hu5)
  clear fx st hu5
  generalize h5.next = i5 at *
  generalize bxH h5 PP.1 u5 = k5 at *
  replace b : Bxs _ [(i0, A), (i1, B), (i2, (JA.1, JA.2)), (i3, (JB.1, JB.2)), (i4, (S.1, S.2)), (i5, (PP.1, PP.2))] := b
  obtain ⟨a0, r0, q0⟩ := b.at 4 i4 S.1 S.2 rfl
  simp (disch := first | omega | (simp only [Qn] <;> omega)) only [go_sem, d00, d0, decide_true, r0]
  refine (gal_ok _ S j _ q0 lS).mono ?_
  rintro v h6 ⟨w, rfl, ⟨u6, rfl, hu6, -⟩, f6⟩
  simp only [e5] at hu6 ⊢
  have st := fun hh id => stV_agg2 hh id 0 (v := .int .i64 JS.1) (u := u6) rfl hu6.what.2.1
  simp (disch := first | omega | (simp only [Qn] <;> omega)) only [go_sem, d00, d0, decide_true, st, bxH_eq, List.getElem?_cons_zero, List.getElem?_cons_succ]
  have fx := f6.trans (bxH_fr h6 JS.1 u6)
  replace b := b.mono fx
  replace b := b.snoc (bxH_bx h6 (N := JS.1) (A := JS.2) hu6)
  clear fx st hu6
  generalize h6.next = i6 at *
  generalize bxH h6 JS.1 u6 = k6 at *
  replace b : Bxs _ [(i0, A), (i1, B), (i2, (JA.1, JA.2)), (i3, (JB.1, JB.2)), (i4, (S.1, S.2)), (i5, (PP.1, PP.2)), (i6, (JS.1, JS.2))] := b
  obtain ⟨a0, r0, q0⟩ := b.at 5 i5 PP.1 PP.2 rfl
  simp (disch := first | omega | (simp only [Qn] <;> omega)) only [go_sem, d00, d0, decide_true, r0]
  refine (gal_ok _ PP j _ q0 lPP).mono ?_
  rintro v h7 ⟨w, rfl, ⟨u7, rfl, hu7, -⟩, f7⟩
  simp only [e6] at hu7 ⊢
  have st := fun hh id => stV_agg2 hh id 0 (v := .int .i64 JP.1) (u := u7) rfl hu7.what.2.1
  simp (disch := first | omega | (simp only [Qn] <;> omega)) only [go_sem, d00, d0, decide_true, st, bxH_eq, List.getElem?_cons_zero, List.getElem?_cons_succ]
  have fx := f7.trans (bxH_fr h7 JP.1 u7)
  replace b := b.mono fx
  replace b := b.snoc (bxH_bx h7 (N := JP.1) (A := JP.2) hu7)
  clear fx st hu7
  generalize h7.next = i7 at *
  generalize bxH h7 JP.1 u7 = k7 at *
  replace b : Bxs _ [(i0, A), (i1, B), (i2, (JA.1, JA.2)), (i3, (JB.1, JB.2)), (i4, (S.1, S.2)), (i5, (PP.1, PP.2)), (i6, (JS.1, JS.2)), (i7, (JP.1, JP.2))] := b
  obtain ⟨a0, r0, q0⟩ := b.at 2 i2 JA.1 JA.2 rfl
  obtain ⟨a1, r1, q1⟩ := b.at 3 i3 JB.1 JB.2 rfl
  simp (disch := first | omega | (simp only [Qn] <;> omega)) only [go_sem, d00, d0, decide_true, r0, r1]
  refine (add_ok _ _ JA JB _ q0 q1 lJA lJB).mono ?_
  rintro v h8 ⟨w, rfl, ⟨u8, rfl, hu8, -⟩, f8⟩
  simp only [e7] at hu8 ⊢
  have st := fun hh id => stV_agg2 hh id 0 (v := .int .i64 JS.1) (u := u8) rfl hu8.what.2.1
  simp (disch := first | omega | (simp only [Qn] <;> omega)) only [go_sem, d00, d0, decide_true, st, bxH_eq, List.getElem?_cons_zero, List.getElem?_cons_succ]
  have fx := f8.trans (bxH_fr h8 JS.1 u8)
  replace b := b.mono fx
  replace b := b.snoc (bxH_bx h8 (N := JS.1) (A := JS.2) hu8)
  clear fx st hu8
  generalize h8.next = i8 at *
  generalize bxH h8 JS.1 u8 = k8 at *
  replace b : Bxs _ [(i0, A), (i1, B), (i2, (JA.1, JA.2)), (i3, (JB.1, JB.2)), (i4, (S.1, S.2)), (i5, (PP.1, PP.2)), (i6, (JS.1, JS.2)), (i7, (JP.1, JP.2)), (i8, (JS.1, JS.2))] := b
  obtain ⟨a0, r0, q0⟩ := b.at 2 i2 JA.1 JA.2 rfl
  obtain ⟨a1, r1, q1⟩ := b.at 3 i3 JB.1 JB.2 rfl
  simp (disch := first | omega | (simp only [Qn] <;> omega)) only [go_sem, d00, d0, decide_true, r0, r1]
  refine (mul_ok _ _ JA JB _ q0 q1 lJA lJB).mono ?_
  rintro v h9 ⟨w, rfl, ⟨u9, rfl, hu9, -⟩, f9⟩
  simp only [e8] at hu9 ⊢
  have st := fun hh id => stV_agg2 hh id 0 (v := .int .i64 JP.1) (u := u9) rfl hu9.what.2.1
  simp (disch := first | omega | (simp only [Qn] <;> omega)) only [go_sem, d00, d0, decide_true, st, bxH_eq, List.getElem?_cons_zero, List.getElem?_cons_succ]
  have fx := f9.trans (bxH_fr h9 JP.1 u9)
  replace b := b.mono fx
  replace b := b.snoc (bxH_bx h9 (N := JP.1) (A := JP.2) hu9)
  clear fx st hu9
  generalize h9.next = i9 at *
  generalize bxH h9 JP.1 u9 = k9 at *
  replace b : Bxs _ [(i0, A), (i1, B), (i2, (JA.1, JA.2)), (i3, (JB.1, JB.2)), (i4, (S.1, S.2)), (i5, (PP.1, PP.2)), (i6, (JS.1, JS.2)), (i7, (JP.1, JP.2)), (i8, (JS.1, JS.2)), (i9, (JP.1, JP.2))] := b
  obtain ⟨a0, r0, q0⟩ := b.at 2 i2 JA.1 JA.2 rfl
  simp (disch := first | omega | (simp only [Qn] <;> omega)) only [go_sem, d00, d0, decide_true, r0]
  refine (gal_ok _ JA k _ q0 lJA).mono ?_
  rintro v h10 ⟨w, rfl, ⟨u10, rfl, hu10, -⟩, f10⟩
  simp only [e9] at hu10 ⊢
  have st := fun hh id => stV_agg2 hh id 0 (v := .int .i64 KJA.1) (u := u10) rfl hu10.what.2.1
  simp (disch := first | omega | (simp only [Qn] <;> omega)) only [go_sem, d00, d0, decide_true, st, bxH_eq, List.getElem?_cons_zero, List.getElem?_cons_succ]
  have fx := f10.trans (bxH_fr h10 KJA.1 u10)
  replace b := b.mono fx
  replace b := b.snoc (bxH_bx h10 (N := KJA.1) (A := KJA.2) hu10)
  clear fx st hu10
  generalize h10.next = i10 at *
  generalize bxH h10 KJA.1 u10 = k10 at *
  replace b : Bxs _ [(i0, A), (i1, B), (i2, (JA.1, JA.2)), (i3, (JB.1, JB.2)), (i4, (S.1, S.2)), (i5, (PP.1, PP.2)), (i6, (JS.1, JS.2)), (i7, (JP.1, JP.2)), (i8, (JS.1, JS.2)), (i9, (JP.1, JP.2)), (i10, (KJA.1, KJA.2))] := b
  obtain ⟨a0, r0, q0⟩ := b.at 0 i0 A.1 A.2 rfl
  simp (disch := first | omega | (simp only [Qn] <;> omega)) only [go_sem, d00, d0, decide_true, r0]
  refine (gal_ok _ A ((j : Int) * k) _ q0 lA).mono ?_
  rintro v h11 ⟨w, rfl, ⟨u11, rfl, hu11, -⟩, f11⟩
  simp only [e10] at hu11 ⊢
  have st := fun hh id => stV_agg2 hh id 0 (v := .int .i64 KJA.1) (u := u11) rfl hu11.what.2.1
  simp (disch := first | omega | (simp only [Qn] <;> omega)) only [go_sem, d00, d0, decide_true, st, bxH_eq, List.getElem?_cons_zero, List.getElem?_cons_succ]
  have fx := f11.trans (bxH_fr h11 KJA.1 u11)
  replace b := b.mono fx
  replace b := b.snoc (bxH_bx h11 (N := KJA.1) (A := KJA.2) hu11)
  clear fx st hu11
  generalize h11.next = i11 at *
  generalize bxH h11 KJA.1 u11 = k11 at *
  replace b : Bxs _ [(i0, A), (i1, B), (i2, (JA.1, JA.2)), (i3, (JB.1, JB.2)), (i4, (S.1, S.2)), (i5, (PP.1, PP.2)), (i6, (JS.1, JS.2)), (i7, (JP.1, JP.2)), (i8, (JS.1, JS.2)), (i9, (JP.1, JP.2)), (i10, (KJA.1, KJA.2)), (i11, (KJA.1, KJA.2))] := b
  obtain ⟨a0, r0, q0⟩ := b.at 0 i0 A.1 A.2 rfl
  simp (disch := first | omega | (simp only [Qn] <;> omega)) only [go_sem, d00, d0, decide_true, r0]
  refine (conj_ok _ A _ q0 lA).mono ?_
  rintro v h12 ⟨w, rfl, ⟨u12, rfl, hu12, -⟩, f12⟩
  simp only [e11] at hu12 ⊢
  have st := fun hh id => stV_agg2 hh id 0 (v := .int .i64 CA.1) (u := u12) rfl hu12.what.2.1
  simp (disch := first | omega | (simp only [Qn] <;> omega)) only [go_sem, d00, d0, decide_true, st, bxH_eq, List.getElem?_cons_zero, List.getElem?_cons_succ]
  have fx := f12.trans (bxH_fr h12 CA.1 u12)
  replace b := b.mono fx
  replace b := b.snoc (bxH_bx h12 (N := CA.1) (A := CA.2) hu12)
  clear fx st hu12
  generalize h12.next = i12 at *
  generalize bxH h12 CA.1 u12 = k12 at *
  replace b : Bxs _ [(i0, A), (i1, B), (i2, (JA.1, JA.2)), (i3, (JB.1, JB.2)), (i4, (S.1, S.2)), (i5, (PP.1, PP.2)), (i6, (JS.1, JS.2)), (i7, (JP.1, JP.2)), (i8, (JS.1, JS.2)), (i9, (JP.1, JP.2)), (i10, (KJA.1, KJA.2)), (i11, (KJA.1, KJA.2)), (i12, (CA.1, CA.2))] := b
  obtain ⟨a0, r0, q0⟩ := b.at 12 i12 CA.1 CA.2 rfl
  simp (disch := first | omega | (simp only [Qn] <;> omega)) only [go_sem, d00, d0, decide_true, r0]
  refine (conj_ok _ CA _ q0 lCA).mono ?_
  rintro v h13 ⟨w, rfl, ⟨u13, rfl, hu13, -⟩, f13⟩
  simp only [e12] at hu13 ⊢
  have st := fun hh id => stV_agg2 hh id 0 (v := .int .i64 A.1) (u := u13) rfl hu13.what.2.1
  simp (disch := first | omega | (simp only [Qn] <;> omega)) only [go_sem, d00, d0, decide_true, st, bxH_eq, List.getElem?_cons_zero, List.getElem?_cons_succ]
  have fx := f13.trans (bxH_fr h13 A.1 u13)
  replace b := b.mono fx
  replace b := b.snoc (bxH_bx h13 (N := A.1) (A := A.2) hu13)
  clear fx st hu13
  generalize h13.next = i13 at *
  generalize bxH h13 A.1 u13 = k13 at *
  replace b : Bxs _ [(i0, A), (i1, B), (i2, (JA.1, JA.2)), (i3, (JB.1, JB.2)), (i4, (S.1, S.2)), (i5, (PP.1, PP.2)), (i6, (JS.1, JS.2)), (i7, (JP.1, JP.2)), (i8, (JS.1, JS.2)), (i9, (JP.1, JP.2)), (i10, (KJA.1, KJA.2)), (i11, (KJA.1, KJA.2)), (i12, (CA.1, CA.2)), (i13, A)] := b
  obtain ⟨a0, r0, q0⟩ := b.at 0 i0 A.1 A.2 rfl
  obtain ⟨a1, r1, q1⟩ := b.at 12 i12 CA.1 CA.2 rfl
  simp (disch := first | omega | (simp only [Qn] <;> omega)) only [go_sem, d00, d0, decide_true, r0, r1]
  refine (mul_ok _ _ A CA _ q0 q1 lA lCA).mono ?_
  rintro v h14 ⟨w, rfl, ⟨u14, rfl, hu14, -⟩, f14⟩
  simp only [e13] at hu14 ⊢
  have st := fun hh id => stV_agg2 hh id 0 (v := .int .i64 NA.1) (u := u14) rfl hu14.what.2.1
  simp (disch := first | omega | (simp only [Qn] <;> omega)) only [go_sem, d00, d0, decide_true, st, bxH_eq, List.getElem?_cons_zero, List.getElem?_cons_succ]
  have fx := f14.trans (bxH_fr h14 NA.1 u14)
  replace b := b.mono fx
  replace b := b.snoc (bxH_bx h14 (N := NA.1) (A := NA.2) hu14)
  clear fx st hu14
  generalize h14.next = i14 at *
  generalize bxH h14 NA.1 u14 = k14 at *
  replace b : Bxs _ [(i0, A), (i1, B), (i2, (JA.1, JA.2)), (i3, (JB.1, JB.2)), (i4, (S.1, S.2)), (i5, (PP.1, PP.2)), (i6, (JS.1, JS.2)), (i7, (JP.1, JP.2)), (i8, (JS.1, JS.2)), (i9, (JP.1, JP.2)), (i10, (KJA.1, KJA.2)), (i11, (KJA.1, KJA.2)), (i12, (CA.1, CA.2)), (i13, A), (i14, (NA.1, NA.2))] := b
  obtain ⟨a0, r0, q0⟩ := b.at 14 i14 NA.1 NA.2 rfl
  simp (disch := first | omega | (simp only [Qn] <;> omega)) only [go_sem, d00, d0, decide_true, r0]
  refine (conj_ok _ NA _ q0 lNA).mono ?_
  rintro v h15 ⟨w, rfl, ⟨u15, rfl, hu15, -⟩, f15⟩
  simp only [e14] at hu15 ⊢
  have st := fun hh id => stV_agg2 hh id 0 (v := .int .i64 NA.1) (u := u15) rfl hu15.what.2.1
  simp (disch := first | omega | (simp only [Qn] <;> omega)) only [go_sem, d00, d0, decide_true, st, bxH_eq, List.getElem?_cons_zero, List.getElem?_cons_succ]
  have fx := f15.trans (bxH_fr h15 NA.1 u15)
  replace b := b.mono fx
  replace b := b.snoc (bxH_bx h15 (N := NA.1) (A := NA.2) hu15)
  clear fx st hu15
  generalize h15.next = i15 at *
  generalize bxH h15 NA.1 u15 = k15 at *
  replace b : Bxs _ [(i0, A), (i1, B), (i2, (JA.1, JA.2)), (i3, (JB.1, JB.2)), (i4, (S.1, S.2)), (i5, (PP.1, PP.2)), (i6, (JS.1, JS.2)), (i7, (JP.1, JP.2)), (i8, (JS.1, JS.2)), (i9, (JP.1, JP.2)), (i10, (KJA.1, KJA.2)), (i11, (KJA.1, KJA.2)), (i12, (CA.1, CA.2)), (i13, A), (i14, (NA.1, NA.2)), (i15, (NA.1, NA.2))] := b
  obtain ⟨a0, r0, q0⟩ := b.at 6 i6 JS.1 JS.2 rfl
  obtain ⟨a1, r1, q1⟩ := b.at 8 i8 JS.1 JS.2 rfl
  simp (disch := first | omega | (simp only [Qn] <;> omega)) only [go_sem, d00, d0, decide_true, r0, r1]
  refine (lawsame_ok _ _ _ _ _ q0 q1 lJS lJS).mono ?_
  rintro v k16 ⟨rfl, f16⟩
  replace b := b.mono f16
  try simp (disch := first | omega | (simp only [Qn] <;> omega)) only [go_sem, d00, d0, decide_true]
  obtain ⟨a0, r0, q0⟩ := b.at 7 i7 JP.1 JP.2 rfl
  obtain ⟨a1, r1, q1⟩ := b.at 9 i9 JP.1 JP.2 rfl
  simp (disch := first | omega | (simp only [Qn] <;> omega)) only [go_sem, d00, d0, decide_true, r0, r1]
  refine (lawsame_ok _ _ _ _ _ q0 q1 lJP lJP).mono ?_
  rintro v k17 ⟨rfl, f17⟩
  replace b := b.mono f17
  try simp (disch := first | omega | (simp only [Qn] <;> omega)) only [go_sem, d00, d0, decide_true]
  obtain ⟨a0, r0, q0⟩ := b.at 10 i10 KJA.1 KJA.2 rfl
  obtain ⟨a1, r1, q1⟩ := b.at 11 i11 KJA.1 KJA.2 rfl
  simp (disch := first | omega | (simp only [Qn] <;> omega)) only [go_sem, d00, d0, decide_true, r0, r1]
  refine (lawsame_ok _ _ _ _ _ q0 q1 lKJA lKJA).mono ?_
  rintro v k18 ⟨rfl, f18⟩
  replace b := b.mono f18
  try simp (disch := first | omega | (simp only [Qn] <;> omega)) only [go_sem, d00, d0, decide_true]
  obtain ⟨a0, r0, q0⟩ := b.at 13 i13 A.1 A.2 rfl
  obtain ⟨a1, r1, q1⟩ := b.at 0 i0 A.1 A.2 rfl
  simp (disch := first | omega | (simp only [Qn] <;> omega)) only [go_sem, d00, d0, decide_true, r0, r1]
  refine (lawsame_ok _ _ _ _ _ q0 q1 lA lA).mono ?_
  rintro v k19 ⟨rfl, f19⟩
  replace b := b.mono f19
  try simp (disch := first | omega | (simp only [Qn] <;> omega)) only [go_sem, d00, d0, decide_true]
  obtain ⟨a0, r0, q0⟩ := b.at 15 i15 NA.1 NA.2 rfl
  obtain ⟨a1, r1, q1⟩ := b.at 14 i14 NA.1 NA.2 rfl
  simp (disch := first | omega | (simp only [Qn] <;> omega)) only [go_sem, d00, d0, decide_true, r0, r1]
  refine (lawsame_ok _ _ _ _ _ q0 q1 lNA lNA).mono ?_
  rintro v k20 ⟨rfl, f20⟩
  replace b := b.mono f20
  try simp (disch := first | omega | (simp only [Qn] <;> omega)) only [go_sem, d00, d0, decide_true]
  obtain ⟨ux, gx, -, -⟩ := b 2 (i2, (JA.1, JA.2)) rfl
  obtain ⟨uy, gy, -, -⟩ := b 0 (i0, A) rfl
  have cx : k20.cell i2 0 = some (.int .i64 JA.1) := by rw [H.cell_of gx]; rfl
  have cy : k20.cell i0 0 = some (.int .i64 A.1) := by rw [H.cell_of gy]; rfl
  simp (disch := first | omega | (simp only [Qn] <;> omega)) only [go_sem, d00, d0, decide_true, cx, cy]
  exact congrArg V.bool (decide_eq_true eN)
end
end Go.Proofs.Ythfabknpogbcaaa
/- What the law CycloLeast asks. -/
namespace Go.Proofs.Ythfabknpogbcaaa
open Go Go.Ay
set_option maxRecDepth 100000
noncomputable section
theorem getD_mem' {c : List Int} {i : Nat} (hi : i < c.length) : c.getD i 0 ∈ c := by
  rw [List.getD_eq_getElem?_getD, List.getElem?_eq_getElem hi]
  exact List.getElem_mem _
theorem getD_out {c : List Int} {i : Nat} (hi : c.length ≤ i) : c.getD i 0 = 0 := by
  rw [List.getD_eq_getElem?_getD, List.getElem?_eq_none hi]; rfl
theorem small_num {n : Nat} (h1 : 1 ≤ n) (h2 : n ≤ 120) {c : List Int} (hc1 : c.length ≤ n) (hc8 : c.length ≤ 8) (hcz : ∀ z ∈ c, -9 ≤ z ∧ z ≤ 9) : L1 n (fun k => c.getD k 0) ≤ 72 ∧ makeF (n : Int) c = (numF n (fun k => c.getD k 0), 0) := by
  have hL : L1 n (fun k => c.getD k 0) ≤ 72 := by
    have hsm : L1 n (fun k => c.getD k 0) = sm c.length (fun k => ab (c.getD k 0)) := sm_more (by omega) fun k a b => by
      show ab (c.getD k 0) = 0
      rw [getD_out a]; rfl
    rw [hsm]
    have := sm_const_le (n := c.length) (f := fun k => ab (c.getD k 0)) (K := 9) fun k hk => by
      rw [ab_le]
      exact hcz _ (getD_mem' hk)
    omega
  exact ⟨hL, make_num h1 h2 (by omega) (by
      rw [List.any_eq_false]
      intro z hz
      have := hcz z hz
      simp [overF]; omega) (fun j _ => by
        refine (sm_more (by omega) fun k a b => ?_).symm
        show c.getD k 0 * _ = 0
        rw [getD_out a]; exact Int.zero_mul _) (by omega)⟩
theorem wide_num {n m : Nat} (h1 : 1 ≤ n) (hm : 1 ≤ m) (h2 : n * m ≤ 120) {c w : List Int} (hc1 : c.length ≤ n) (hc8 : c.length ≤ 8) (hcz : ∀ z ∈ c, -9 ≤ z ∧ z ≤ 9) (hw : w.length = m * c.length + 1)
    (hg : ∀ k, k < w.length → w.getD k 0 = if k % m = 0 ∧ k / m < c.length then c.getD (k / m) 0 else 0) : makeF ((n * m : Nat) : Int) w = (numF n (fun k => c.getD k 0), 0) := by
  have hn120 : n ≤ 120 := Nat.le_trans (Nat.le_mul_of_pos_right n hm) h2
  have hm120 : m ≤ 120 := Nat.le_trans (Nat.le_mul_of_pos_left m h1) h2
  have hnm1 : 1 ≤ n * m := Nat.mul_pos h1 hm
  obtain ⟨hL, -⟩ := small_num h1 hn120 hc1 hc8 hcz
  have hle := Nat.mul_le_mul hm120 hc8
  obtain ⟨hf1, hf2⟩ := least_fac m n (fun k => c.getD k 0) hm h1 h2 (by omega)
  have hmul : m * c.length ≤ n * m := by rw [Nat.mul_comm n m]; exact Nat.mul_le_mul_left m hc1
  have hall : ∀ k, w.getD k 0 = wid m (fun k => c.getD k 0) k := fun k => by
    rw [wid]
    have hdm := Nat.div_add_mod k m
    by_cases hk : k < w.length
    · rw [hg k hk]
      by_cases hz : k % m = 0
      · rw [if_pos hz]
        by_cases hl : k / m < c.length
        · rw [if_pos ⟨hz, hl⟩]
        · rw [if_neg (fun h => hl h.2), getD_out (by omega)]
      · rw [if_neg (fun h => hz h.1), if_neg hz]
    · rw [getD_out (by omega)]
      by_cases hz : k % m = 0
      · rw [if_pos hz, getD_out]
        refine Nat.le_of_not_lt fun h => ?_
        have := Nat.mul_le_mul_left m (show k / m ≤ c.length from Nat.le_of_lt h)
        omega
      · rw [if_neg hz]
  have hz : ∀ k, n * m ≤ k → wid m (fun k => c.getD k 0) k = 0 := fun k hk => by
    rw [wid]
    split
    · refine getD_out (Nat.le_trans hc1 ?_)
      exact (Nat.le_div_iff_mul_le hm).2 hk
    · rfl
  have hz2 : ∀ k, w.length ≤ k → wid m (fun k => c.getD k 0) k = 0 := fun k hk => by rw [← hall k, getD_out hk]
  rw [← num_fac hm h1 h2 (show L1 n (fun k => c.getD k 0) ≤ 100000000000 by omega)]
  refine make_num hnm1 h2 (by omega) ?_ (fun j _ => ?_) (by rw [hf2]; omega)
  · rw [List.any_eq_false]
    intro z hz
    obtain ⟨k, hk, rfl⟩ := List.mem_iff_getElem.1 hz
    have e : w[k] = w.getD k 0 := by rw [List.getD_eq_getElem?_getD, List.getElem?_eq_getElem hk]; rfl
    rw [e, hg k hk]
    split
    · rename_i h
      have hy := hcz _ (getD_mem' h.2)
      generalize c.getD (k / m) 0 = y at *
      simp [overF]; omega
    · decide
  · have e : val (phiF (n * m)) w.length (fun k => w.getD k 0) j = val (phiF (n * m)) w.length (wid m (fun k => c.getD k 0)) j := sm_congr fun k _ => by
      show w.getD k 0 * _ = _
      rw [hall k]
    rw [e]
    rcases Nat.le_total w.length (n * m) with h | h
    · exact (sm_more h fun k a _ => by rw [hz2 k a, Int.zero_mul]).symm
    · exact sm_more h fun k a _ => by rw [hz k a, Int.zero_mul]
theorem madeF_len' (n : Nat) (c : List Int) (h1 : 1 ≤ n) (h2 : n ≤ 120) : (madeF n c).1.2.length < 1000000 := by
  have hp := phi_len h1 h2
  have hL := leastG_len n n (redF n c) h1 h2 (by rw [redF_len]; omega)
  simp only [madeF]
  split
  · simp
  · show (leastF n (redF n c)).2.length < 1000000
    unfold leastF
    omega
theorem galF_len' (a : Int × List Int) (k : Int) : Ln (galF a k).1 := by
  rw [Ln, galF]
  split
  · simp
  split
  · simp
  · have := check_range (a := a) (by omega)
    exact madeF_len' _ _ (by omega) (by omega)
theorem least_facts {n : Nat} (hn : n ∈ orders) {c : Nat → Int} (hc : L1 n c ≤ 72) : ∃ N : Nat, (numF n c).1 = (N : Int) ∧ 1 ≤ N ∧ N ≤ 120 ∧ n % N = 0 ∧ checkF (numF n c) = 0 ∧ Ln (numF n c) ∧
    ∀ q, 2 ≤ q → q ≤ N → N % q = 0 → oddF q = true → 1 ≤ N / q ∧ ∃ s, 1 + s * (N / q) < N ∧ (galF (numF n c) ((1 + s * (N / q) : Nat) : Int)).2 = 0 ∧ (galF (numF n c) ((1 + s * (N / q) : Nat) : Int)).1 ≠ numF n c := by
  obtain ⟨hdv, h1, h2⟩ := mem_dvs hn (Nat.dvd_refl n)
  obtain ⟨N, c', kc⟩ := canon n c h1 h2 (by omega)
  have hp := kc.pos
  have hle := kc.le
  have hN2 : N ≤ 120 := by omega
  have hNd : N ∈ dvs := dvs_dvd hdv kc.dvd
  have hbN : L1 N c' ≤ 72 := Int.le_trans kc.l1 hc
  have e : numF N c' = numF n c := by rw [kc.num, kc.num']
  refine ⟨N, by rw [kc.num], hp, hN2, Nat.mod_eq_zero_of_dvd kc.dvd, num_check h1 h2 (by omega), num_len h1 h2 (by omega), fun q hq2 hqN hqd ho => ?_⟩
  have hpr := odd_pr hp hN2 hq2 hqN hqd ho
  have hNq : N / q * q = N := Nat.div_mul_cancel (Nat.dvd_of_mod_eq_zero hqd)
  have hNq1 : 1 ≤ N / q := (Nat.le_div_iff_mul_le (by omega)).2 (by omega)
  refine ⟨hNq1, ?_⟩
  obtain ⟨k, hk, hkm, hg, hne⟩ := moved hNd (by omega) kc.irr hpr
  have hk1 : 1 ≤ k := by
    rcases Nat.eq_zero_or_pos k with h | h
    · subst h
      rw [Nat.gcd_zero_right] at hg
      omega
    · exact h
  have hs : ∃ s, k = 1 + s * (N / q) := by
    have hdm := Nat.div_add_mod k (N / q)
    by_cases h : N / q = 1
    · exact ⟨k - 1, by rw [h]; omega⟩
    · rw [hkm, Nat.mod_eq_of_lt (show 1 < N / q by omega)] at hdm
      exact ⟨k / (N / q), by rw [Nat.mul_comm]; omega⟩
  obtain ⟨s, rfl⟩ := hs
  have hgal := (gal_num hNd (c := c') (by omega) (k := ((1 + s * (N / q) : Nat) : Int)) (k' := 1 + s * (N / q)) ⟨0, by simp⟩ hg).1
  rw [e] at hgal
  refine ⟨s, hk, by rw [hgal], by rw [hgal, ← e]; exact hne⟩
end
end Go.Proofs.Ythfabknpogbcaaa
/- The law CycloLeast, walked. -/
namespace Go.Proofs.Ythfabknpogbcaaa
open Go Go.Ay
set_option maxRecDepth 100000
noncomputable section

set_option maxHeartbeats 16000000 in
theorem leastlaw_ok (vl : V) (l : List Int) (nn mm : Int) (h : H) (hc : SI h vl l) (hcl : (l.length : Int) ≤ 2 ^ 63 - 1) : Ev T n_law06_CycloLeast [vl, .int .i64 nn, .int .i64 mm] h (fun v _ => v = .bool true) := by
  refine Ev_of t_law06_CycloLeast rfl ?_
  simp (disch := first | omega | (simp only [Qn] <;> omega)) only [go_sem, c_law06_CycloLeast, initV_eq]
  refine (lives_ok h).mono ?_
  rintro v h0 ⟨rfl, g⟩
  replace hc := hc.mono g
  clear g
  simp (disch := first | omega | (simp only [Qn] <;> omega)) only [go_sem, hc.lens]
  refine iteW_dec (fun hlong => ?_) (fun hlong => ?_)
  · simp (disch := first | omega | (simp only [Qn] <;> omega)) only [go_sem]
  have hl : l.length < 1000000 := by omega
  simp (disch := first | omega | (simp only [Qn] <;> omega)) only [go_sem]
  refine (order_ok _ _).mono ?_
  rintro v hb ⟨n, rfl, hn, fb⟩
  obtain ⟨hdv, hn1, hn2⟩ := mem_dvs hn (Nat.dvd_refl n)
  replace hc := hc.mono fb
  clear fb
  have hq1 : 1 ≤ 120 / n := (Nat.le_div_iff_mul_le hn1).2 (by omega)
  have hq2 : 120 / n ≤ 120 := Nat.div_le_self ..
  have hq3 : n * (120 / n) ≤ 120 := Nat.mul_div_le 120 n
  have eq : Int.tdiv 120 (n : Int) = ((120 / n : Nat) : Int) := by
    rw [Int.tdiv_eq_ediv_of_nonneg (by omega)]; rfl
  have hne : (n : Int) ≠ 0 := by omega
  simp (disch := first | omega | (simp only [Qn] <;> omega)) only [go_sem, eq]
  generalize 120 / n = Q at *
  refine (pick_ok mm (Q : Int) _ (by omega) (by omega)).mono ?_
  rintro v hp ⟨rfl, rfl⟩
  have hrm := tmod_range mm (show (0 : Int) < (Q : Int) by omega)
  obtain ⟨m, hm⟩ : ∃ m : Nat, 1 + mm % (Q : Int) = (m : Int) := ⟨(1 + mm % (Q : Int)).toNat, by omega⟩
  have hm1 : 1 ≤ m := by omega
  have hmQ : m ≤ Q := by omega
  have hnm : n * m ≤ 120 := Nat.le_trans (Nat.mul_le_mul_left n hmQ) hq3
  have hm120 : m ≤ 120 := by omega
  simp (disch := first | omega | (simp only [Qn] <;> omega)) only [go_sem, hm]
  clear hm hrm hq1 hq2 hq3 eq hmQ
  have hbl := bldV_fst (z1 := .nils) (z2 := .int .i64 0) (v := vl) hc.what.1 hc.what.2.1
  have hbo := fun hh => boxV_agg2 hh (v := vl) (u := .int .i64 0) hc.what.2.1 rfl
  simp (disch := first | omega | (simp only [Qn] <;> omega)) only [go_sem, hbl, hbo]
  have hfx : Fr hp (hp.new (.cells false [vl, .int .i64 0])) := (Fr.refl hp).new _
  have hgx : (hp.new (.cells false [vl, .int .i64 0])).get hp.next = some (.cells false [vl, .int .i64 0]) := H.get_new_same ..
  have hnx : (hp.new (.cells false [vl, .int .i64 0])).next = hp.next + 1 := H.next_new ..
  generalize hp.new (.cells false [vl, .int .i64 0]) = hx at *
  have ht : Tk hx hp.next l := ⟨vl, 0, hgx, hc.mono hfx, fun id off len c e => by
    rcases hc with ⟨h0, _⟩ | ⟨_, _, _, _, _, _, h0, _, h3, _⟩
    · rw [h0] at e; cases e
    · rw [h0] at e; cases e; exact h3, Nat.zero_le _, by omega⟩
  have htid : hp.next < hx.next := by omega
  clear hfx hgx hbl hbo hc
  generalize hp.next = tid at *
  refine Wp_loop (fun k' vars h3 => ∃ (i : Nat) (u : V) (c : List Int), (∃ g : Nat → V, vars = [g 0, .int .i64 (n : Int), .int .i64 (m : Int), g 3, .ptr tid 0, u, .int .i64 (i : Int), g 7, g 8, g 9, g 10, g 11, g 12, g 13, g 14, g 15, g 16, g 17, g 18, g 19, g 20, g 21, g 22, g 23, g 24, g 25, g 26]) ∧ i ≤ n ∧ i ≤ 8 ∧ c.length = i ∧ (∀ z ∈ c, -9 ≤ z ∧ z ≤ 9) ∧ Own h3 u 1 (ints c) (tid + 1) ∧ Tk h3 tid l ∧ Fx tid hx h3 ∧ k' = 8 - i) 8
    ⟨0, .nils, [], ex_junk rfl, Nat.zero_le _, Nat.zero_le _, rfl, by simp, Own.nils _ _ _, ht, Fx.refl tid hx, rfl⟩ ?_
  rintro k' vars h3 ⟨i, u, c, ⟨g, rfl⟩, hin, hi8, hcl, hcz, ho, ht3, hf3, rfl⟩
  have hn3 := hf3.next
  simp (disch := first | omega | (simp only [Qn] <;> omega)) only [go_sem]
  rcases (show ((i : Int) < (n : Int) ∧ (i : Int) < 8) ∨ ((i : Int) < (n : Int) ∧ ¬ (i : Int) < 8) ∨ ¬ (i : Int) < (n : Int) from by omega) with ⟨c1, c2⟩ | ⟨c1, c2⟩ | c1
  · rw [decide_eq_true c1]
    simp (disch := first | omega | (simp only [Qn] <;> omega)) only [go_sem]
    rw [decide_eq_true c2]
    simp (disch := first | omega | (simp only [Qn] <;> omega)) only [go_sem]
    refine (take_ok tid l 19 h3 ht3 hl (by omega) (by omega)).mono ?_
    rintro v h4 ⟨z, rfl, hz0, hz1, ht4, hf4⟩
    have hn4 := hf4.next
    simp (disch := first | omega | (simp only [Qn] <;> omega)) only [go_sem, bls_int1]
    have ho4 : Own h4 u 1 (ints c) (tid + 1) := ho.mono hf4.next fun id _ _ _ _ h5 h6 => hf4.get id h6 (by omega)
    obtain ⟨v6, h6, e6, a6⟩ := (ho4.fr ((Fr.refl h4).new (.cells false (ints [z - 9])))).app (bytes := 8) (n := i) (m := 1) (us := ints [z - 9]) (y := .sl h4.next 0 1 (.kn 1)) (by rw [H.next_new]; omega) (Own.new h4 1 1 0 (ints [z - 9]) rfl (Nat.zero_le _)).sv (by rw [ints_length]; omega) rfl (by omega) (by omega)
    simp (disch := first | omega | (simp only [Qn] <;> omega)) only [go_sem, e6]
    have ho6 := a6.own
    rw [← ints_append] at ho6
    have hn6 := a6.next
    rw [H.next_new] at hn6
    have hlow : ∀ id, id < tid + 1 → h6.get id = h4.get id := fun id hid => by
      have hap : Apart u id := by
        rcases ho4 with ⟨r1, _⟩ | ⟨id', _, _, _, r1, _, _, r2, _⟩
        · rw [r1]; exact Apart.nils _
        · rw [r1]; exact Apart.sl (by omega)
      rw [a6.get id (by rw [H.next_new]; omega) hap, H.get_new_ne _ (by omega)]
    rw [show (i : Int) + 1 = ((i + 1 : Nat) : Int) from by omega]
    refine ⟨8 - (i + 1), by omega, i + 1, v6, _, ex_junk rfl, by omega, by omega, by rw [List.length_append, hcl]; rfl, fun y hy => ?_, ho6, ht4.low (by omega) (fun id hid => hlow id (by omega)), ⟨by omega, fun id hid hne => ?_⟩, rfl⟩
    · rcases List.mem_append.1 hy with hy | hy
      · exact hcz y hy
      · simp at hy; omega
    · rw [hlow id (by have := hf3.next; omega)]
      exact (hf3.trans hf4).get id hid hne
  · rw [decide_eq_true c1]
    simp (disch := first | omega | (simp only [Qn] <;> omega)) only [go_sem]
    rw [decide_eq_false c2]
    simp (disch := first | omega | (simp only [Qn] <;> omega)) only [go_sem]
    obtain ⟨hL, mk1⟩ := small_num hn1 hn2 (by omega) (by omega) hcz
    obtain ⟨N, t1, t2, t3, t4, t5, t6, t7⟩ := least_facts hn hL
    have hmi : m * i ≤ 120 * 8 := Nat.mul_le_mul hm120 hi8
    have emi : (m : Int) * (i : Int) = ((m * i : Nat) : Int) := (Int.natCast_mul ..).symm
    have hsu : SI h3 u c := ho.sv
    have hlu := hsu.lens
    rw [hcl] at hlu
    have e0 : ((m * i : Nat) : Int) + 1 = ((m * i + 1 : Nat) : Int) := by omega
    obtain ⟨w0, hw0⟩ : ∃ w, List.replicate (m * i + 1) (0 : Int) = w := ⟨_, rfl⟩
    have emk : mksV h3 1 8 [.int .i64 0] (.int .i64 ((m * i + 1 : Nat) : Int)) (.int .i64 ((m * i + 1 : Nat) : Int)) = some (.sl h3.next 0 (m * i + 1) (.kn (m * i + 1)), h3.new (.cells false (ints w0))) := by
      rw [mksV_int (by omega) (Int.le_refl _) (by omega) (by omega), Int.toNat_natCast, Nat.mul_one, zeros_int, hw0]
    simp (disch := first | omega | (simp only [Qn] <;> omega)) only [go_sem, hlu, emi, e0, emk]
    have lw0 : w0.length = m * i + 1 := by rw [← hw0, List.length_replicate]
    have zw0 : ∀ k, w0.getD k 0 = 0 := fun k => by
      rw [← hw0, List.getD_eq_getElem?_getD, List.getElem?_replicate]; split <;> rfl
    clear hw0 emk e0
    have hfw : Fr h3 (h3.new (.cells false (ints w0))) := (Fr.refl h3).new _
    have hgw : (h3.new (.cells false (ints w0))).get h3.next = some (.cells false (ints w0)) := H.get_new_same ..
    have hnw : (h3.new (.cells false (ints w0))).next = h3.next + 1 := H.next_new ..
    generalize h3.new (.cells false (ints w0)) = hw at *
    refine Wp_loop (fun k' vars h4 => ∃ (j : Nat) (w : List Int), (∃ g : Nat → V, vars = [g 0, .int .i64 (n : Int), .int .i64 (m : Int), g 3, g 4, u, g 6, .sl h3.next 0 (m * i + 1) (.kn (m * i + 1)), .int .i64 (j : Int), g 9, g 10, g 11, g 12, g 13, g 14, g 15, g 16, g 17, g 18, g 19, g 20, g 21, g 22, g 23, g 24, g 25, g 26]) ∧ j ≤ i ∧ w.length = m * i + 1 ∧ (∀ k, k < m * i + 1 → w.getD k 0 = if k % m = 0 ∧ k / m < j then c.getD (k / m) 0 else 0) ∧ h4.get h3.next = some (.cells false (ints w)) ∧ h4.next = h3.next + 1 ∧ Fr h3 h4 ∧ k' = i - j) i
      ⟨0, w0, ex_junk rfl, Nat.zero_le _, lw0, fun k _ => by rw [zw0, if_neg (fun h => Nat.not_lt_zero _ h.2)], hgw, hnw, hfw, rfl⟩ ?_
    rintro k' vars h4 ⟨j, w, ⟨g, rfl⟩, hj, lw, zw, gw, nw, fw, rfl⟩
    simp (disch := first | omega | (simp only [Qn] <;> omega)) only [go_sem, hlu]
    by_cases hjt : (j : Int) < (i : Int)
    · rw [decide_eq_true hjt]
      obtain ⟨idu, offu, su, hidu, cu⟩ := (hsu.mono fw).open
      have hjm : m * j < m * i := Nat.mul_lt_mul_of_pos_left (by omega) hm1
      have emj : (j : Int) * (m : Int) = ((m * j : Nat) : Int) := by rw [Nat.mul_comm]; exact (Int.natCast_mul ..).symm
      have cj := cu j (by omega)
      have su' := fun k a b => su.ixa .i64 k a b
      simp (disch := first | omega | (simp only [Qn] <;> omega)) only [go_sem, emj, su.ixa, cj, gw]
      rw [show (j : Int) + 1 = ((j + 1 : Nat) : Int) from by omega]
      refine ⟨i - (j + 1), by omega, j + 1, w.set (m * j) (c.getD j 0), ex_junk rfl, by omega, by rw [List.length_set]; exact lw, fun k hk => ?_, rfl, nw, fw.set (Nat.le_refl _) _, rfl⟩
      rw [getD_set, zw k hk]
      by_cases he : m * j = k
      · subst he
        rw [if_pos rfl, if_pos (by omega), if_pos ⟨Nat.mul_mod_right m j, by rw [Nat.mul_div_cancel_left j hm1]; omega⟩, Nat.mul_div_cancel_left j hm1]
      · rw [if_neg he]
        have hiff : (k % m = 0 ∧ k / m < j) ↔ (k % m = 0 ∧ k / m < j + 1) := ⟨fun h => ⟨h.1, Nat.lt_succ_of_lt h.2⟩, fun h => ⟨h.1, Nat.lt_of_le_of_ne (Nat.le_of_lt_succ h.2) fun e => he (by
          have := Nat.div_add_mod k m
          rw [h.1, e] at this; omega)⟩⟩
        simp only [hiff]
    rw [decide_eq_false hjt]
    obtain rfl : j = i := by omega
    have mk2 := wide_num hn1 hm1 hnm (w := w) (by omega) (by omega) hcz (by rw [lw, hcl]) (fun k hk => by rw [hcl]; exact zw k (by omega))
    have emn : (n : Int) * (m : Int) = ((n * m : Nat) : Int) := (Int.natCast_mul ..).symm
    have hsw := SI.own (h := h4) (id := h3.next) (by omega) gw (.kn (m * j + 1))
    rw [lw] at hsw
    obtain ⟨VV, eV⟩ : ∃ X, numF n (fun k => c.getD k 0) = X := ⟨_, rfl⟩
    rw [eV] at mk1 mk2 t1 t5 t6 t7
    have hsu := hsu.mono fw
    have hwl : w.length < 1000000 := by omega
    have hcl2 : c.length < 1000000 := by omega
    clear zw gw eV hL hcz ho ht3 hf3
    simp (disch := first | omega | (simp only [Qn] <;> omega)) only [go_sem]
    refine (make_ok (n : Int) u c h4 hsu hcl2).mono ?_
    rintro v ha ⟨w, rfl, ⟨ua, rfl, hua, -⟩, fa⟩
    simp only [mk1] at hua ⊢
    have st := fun hh id => stV_agg2 hh id 0 (v := .int .i64 (VV).1) (u := ua) rfl hua.what.2.1
    simp (disch := first | omega | (simp only [Qn] <;> omega)) only [go_sem, d00, d0, decide_true, st, bxH_eq, List.getElem?_cons_zero, List.getElem?_cons_succ]
    have fxa := fa.trans (bxH_fr ha (VV).1 ua)
    have ba := bxH_bx ha (N := (VV).1) (A := (VV).2) hua
    clear st hua
    have na := fa.next
    generalize ha.next = ia at *
    generalize bxH ha (VV).1 ua = ka at *
    simp (disch := first | omega | (simp only [Qn] <;> omega)) only [go_sem, emn]
    refine (make_ok ((n * m : Nat) : Int) _ w _ (hsw.mono fxa) hwl).mono ?_
    rintro v hb ⟨w, rfl, ⟨ub, rfl, hub, -⟩, fb⟩
    simp only [mk2] at hub ⊢
    have st := fun hh id => stV_agg2 hh id 0 (v := .int .i64 (VV).1) (u := ub) rfl hub.what.2.1
    simp (disch := first | omega | (simp only [Qn] <;> omega)) only [go_sem, d00, d0, decide_true, st, bxH_eq, List.getElem?_cons_zero, List.getElem?_cons_succ]
    have fxb := fb.trans (bxH_fr hb (VV).1 ub)
    have bb := bxH_bx hb (N := (VV).1) (A := (VV).2) hub
    clear st hub
    have nb := fb.next
    generalize hb.next = ib at *
    generalize bxH hb (VV).1 ub = kb at *
    replace ba := ba.mono fxb
    obtain ⟨aa, ra, qa⟩ := ba.cv
    obtain ⟨ab, rb, qb⟩ := bb.cv
    simp (disch := first | omega | (simp only [Qn] <;> omega)) only [go_sem, d00, d0, decide_true, ra, rb]
    refine (lawsame_ok _ _ VV VV _ qa qb t6 t6).mono ?_
    rintro v k9 ⟨rfl, f9⟩
    replace ba := ba.mono f9
    obtain ⟨ux, gx, sx, lx⟩ := ba
    have cx : k9.cell ia 0 = some (.int .i64 (N : Int)) := by rw [H.cell_of gx, ← t1]; rfl
    have dn1 : decide ((N : Int) < 1) = false := decide_eq_false (by omega)
    have hN0 : (N : Int) ≠ 0 := by omega
    have em : (n : Int).tmod (N : Int) = 0 := by rw [tmod_nat, t4]; rfl
    have rx := row_two gx
    simp (disch := first | omega | (simp only [Qn] <;> omega)) only [go_sem, d00, d0, decide_true, cx, dn1, em, rx]
    have ba : Bx k9 ia VV := ⟨ux, gx, sx, lx⟩
    refine (check_ok _ VV k9 ⟨ux, rfl, sx⟩ t6).mono ?_
    rintro v kb9 ⟨rfl, fb9⟩
    rw [t5]
    simp (disch := first | omega | (simp only [Qn] <;> omega)) only [go_sem, d00, d0, decide_true]
    replace ba := ba.mono fb9
    clear gx sx lx cx rx em dn1 f9 fb9 mk1 mk2 hsw hsu
    refine Wp_loop (fun k' vars h5 => ∃ q : Nat, (∃ g : Nat → V, vars = [g 0, g 1, g 2, g 3, g 4, g 5, g 6, g 7, g 8, .ptr ia 0, g 10, g 11, g 12, .int .i64 (q : Int), g 14, g 15, g 16, g 17, g 18, g 19, g 20, g 21, g 22, g 23, g 24, g 25, g 26]) ∧ 2 ≤ q ∧ q ≤ N + 1 ∧ Fr kb9 h5 ∧ k' = N + 1 - q) (N - 1)
      ⟨2, ex_junk rfl, by omega, by omega, Fr.refl _, by omega⟩ ?_
    rintro k' vars h5 ⟨q, ⟨g, rfl⟩, hq2, hq3, f5, rfl⟩
    have ba5 := ba.mono f5
    obtain ⟨ux, gx, sx, lx⟩ := ba5
    have cx : h5.cell ia 0 = some (.int .i64 (N : Int)) := by rw [H.cell_of gx, ← t1]; rfl
    simp (disch := first | omega | (simp only [Qn] <;> omega)) only [go_sem, cx]
    by_cases hqN : (q : Int) ≤ (N : Int)
    · rw [decide_eq_true hqN]
      have hq0 : (q : Int) ≠ 0 := by omega
      have em : (N : Int).tmod (q : Int) = ((N % q : Nat) : Int) := tmod_nat ..
      have eq : (N : Int).tdiv (q : Int) = ((N / q : Nat) : Int) := by rw [Int.tdiv_eq_ediv_of_nonneg (by omega)]; rfl
      simp (disch := first | omega | (simp only [Qn] <;> omega)) only [go_sem, cx, em]
      by_cases hz : N % q = 0
      · have dz : decide (((N % q : Nat) : Int) ≠ 0) = false := decide_eq_false (by omega)
        rw [dz]
        simp (disch := first | omega | (simp only [Qn] <;> omega)) only [go_sem]
        refine (odd_ok q h5 (by omega)).mono ?_
        rintro v h5' ⟨rfl, he⟩
        subst he
        cases ho : oddF q with
        | false =>
          simp (disch := first | omega | (simp only [Qn] <;> omega)) only [go_sem]
          rw [show (q : Int) + 1 = ((q + 1 : Nat) : Int) from by omega]
          exact ⟨N + 1 - (q + 1), by omega, q + 1, ex_junk rfl, by omega, by omega, f5, rfl⟩
        | true =>
          simp (disch := first | omega | (simp only [Qn] <;> omega)) only [go_sem]
          obtain ⟨hD1, s, hs1, hs2, hs3⟩ := t7 q hq2 (by omega) hz ho
          have hDN : N / q ≤ N := Nat.div_le_self ..
          generalize N / q = D at *
          refine Wp_loop (fun k' vars h6 => ∃ (t K : Nat) (mv : Bool), (∃ g : Nat → V, vars = [g 0, g 1, g 2, g 3, g 4, g 5, g 6, g 7, g 8, .ptr ia 0, g 10, g 11, g 12, .int .i64 (q : Int), .bool mv, .int .i64 (K : Int), g 16, g 17, g 18, g 19, g 20, g 21, g 22, g 23, g 24, g 25, g 26]) ∧ K = 1 + t * D ∧ t ≤ N ∧ K ≤ 1 + N + D ∧ (s < t → mv = true) ∧ Fr kb9 h6 ∧ k' = N - t) N
            ⟨0, 1, false, ex_junk rfl, by omega, by omega, by omega, fun h => absurd h (Nat.not_lt_zero _), f5, rfl⟩ ?_
          clear cx gx sx lx
          rintro k' vars h6 ⟨t, K, mv, ⟨g, rfl⟩, hK, htN, hKN, hmv, f6, rfl⟩
          have ba6 := ba.mono f6
          obtain ⟨ux, gx, sx, lx⟩ := ba6
          have cx : h6.cell ia 0 = some (.int .i64 (N : Int)) := by rw [H.cell_of gx, ← t1]; rfl
          simp (disch := first | omega | (simp only [Qn] <;> omega)) only [go_sem, cx]
          have htD : t ≤ t * D := Nat.le_mul_of_pos_right t hD1
          have hst : t * D + D = (t + 1) * D := by rw [Nat.add_mul, Nat.one_mul]
          by_cases hKt : (K : Int) < (N : Int)
          · rw [decide_eq_true hKt]
            obtain ⟨X, E, eX⟩ : ∃ X E, galF VV (K : Int) = (X, E) := ⟨_, _, rfl⟩
            have lX : Ln X := by have := galF_len' VV (K : Int); rw [eX] at this; exact this
            have hgood : t = s → E = 0 ∧ X ≠ VV := fun e => by
              subst e
              rw [← hK, eX] at hs2 hs3
              exact ⟨hs2, hs3⟩
            have ba6 : Bx h6 ia VV := ⟨ux, gx, sx, lx⟩
            clear gx sx lx cx
            obtain ⟨a6, r6, q6⟩ := ba6.cv
            simp (disch := first | omega | (simp only [Qn] <;> omega)) only [go_sem, r6]
            refine (gal_ok _ VV (K : Int) h6 q6 t6).mono ?_
            rintro v hd ⟨w', rfl, ⟨ud, rfl, hud, -⟩, fd⟩
            simp only [eX] at hud ⊢
            have st := fun hh id => stV_agg2 hh id 0 (v := .int .i64 X.1) (u := ud) rfl hud.what.2.1
            simp (disch := first | omega | (simp only [Qn] <;> omega)) only [go_sem, d00, d0, decide_true, st, bxH_eq, List.getElem?_cons_zero, List.getElem?_cons_succ]
            have fxd := fd.trans (bxH_fr hd X.1 ud)
            have bd := bxH_bx hd (N := X.1) (A := X.2) hud
            clear st hud fd
            generalize hd.next = id at *
            generalize bxH hd X.1 ud = kd at *
            replace ba6 := ba6.mono fxd
            have eK : ((K : Nat) : Int) + ((D : Nat) : Int) = ((K + D : Nat) : Int) := by omega
            have fin : ∀ (hh : H) (mv' : Bool), Fr kd hh → (s < t + 1 → mv' = true) → hh.cell ia 0 = some (.int .i64 (N : Int)) ∧ Fr kb9 hh := fun hh mv' f _ => by
              obtain ⟨ux, gx, sx, lx⟩ := ba6.mono f
              exact ⟨by rw [H.cell_of gx, ← t1]; rfl, (f6.trans fxd).trans f⟩
            cases mv with
            | true =>
              have cx := (fin kd true (Fr.refl _) fun _ => rfl).1
              simp (disch := first | omega | (simp only [Qn] <;> omega)) only [go_sem, undef_eq, cx, eq, eK]
              exact ⟨N - (t + 1), by omega, t + 1, K + D, true, ex_junk rfl, by omega, by omega, by omega, fun _ => rfl, f6.trans fxd, rfl⟩
            | false =>
              by_cases hE : E = 0
              · have dE : decide (E = 0) = true := decide_eq_true hE
                obtain ⟨a7, r7, q7⟩ := ba6.cv
                obtain ⟨a8, r8, q8⟩ := bd.cv
                simp (disch := first | omega | (simp only [Qn] <;> omega)) only [go_sem, dE, r7, r8]
                refine (lawsame_ok _ _ X VV _ q8 q7 lX t6).mono ?_
                rintro v ke ⟨rfl, fe⟩
                have cx := (fin ke true fe fun _ => rfl).1
                simp (disch := first | omega | (simp only [Qn] <;> omega)) only [go_sem, cx, eq, eK]
                refine ⟨N - (t + 1), by omega, t + 1, K + D, !decide (X = VV), ex_junk rfl, by omega, by omega, by omega, fun h => ?_, (f6.trans fxd).trans fe, rfl⟩
                by_cases hts : t = s
                · rw [decide_eq_false (hgood hts).2]; rfl
                · have := hmv (by omega); cases this
              · have dE : decide (E = 0) = false := decide_eq_false hE
                have cx := (fin kd true (Fr.refl _) fun _ => rfl).1
                simp (disch := first | omega | (simp only [Qn] <;> omega)) only [go_sem, dE, undef_eq, cx, eq, eK]
                refine ⟨N - (t + 1), by omega, t + 1, K + D, false, ex_junk rfl, by omega, by omega, by omega, fun h => ?_, f6.trans fxd, rfl⟩
                by_cases hts : t = s
                · exact absurd (hgood hts).1 hE
                · exact hmv (by omega)
          · rw [decide_eq_false hKt]
            have hst2 : s < t := by
              refine Nat.lt_of_mul_lt_mul_right (a := D) ?_
              omega
            rw [hmv hst2]
            simp (disch := first | omega | (simp only [Qn] <;> omega)) only [go_sem]
            rw [show (q : Int) + 1 = ((q + 1 : Nat) : Int) from by omega]
            exact ⟨N + 1 - (q + 1), by omega, q + 1, ex_junk rfl, by omega, by omega, f6, rfl⟩
      · have dz : decide (((N % q : Nat) : Int) ≠ 0) = true := decide_eq_true (by omega)
        rw [dz]
        simp (disch := first | omega | (simp only [Qn] <;> omega)) only [go_sem]
        rw [show (q : Int) + 1 = ((q + 1 : Nat) : Int) from by omega]
        exact ⟨N + 1 - (q + 1), by omega, q + 1, ex_junk rfl, by omega, by omega, f5, rfl⟩
    · rw [decide_eq_false hqN]
      simp (disch := first | omega | (simp only [Qn] <;> omega)) only [go_sem]
  · rw [decide_eq_false c1]
    simp (disch := first | omega | (simp only [Qn] <;> omega)) only [go_sem]
    obtain ⟨hL, mk1⟩ := small_num hn1 hn2 (by omega) (by omega) hcz
    obtain ⟨N, t1, t2, t3, t4, t5, t6, t7⟩ := least_facts hn hL
    have hmi : m * i ≤ 120 * 8 := Nat.mul_le_mul hm120 hi8
    have emi : (m : Int) * (i : Int) = ((m * i : Nat) : Int) := (Int.natCast_mul ..).symm
    have hsu : SI h3 u c := ho.sv
    have hlu := hsu.lens
    rw [hcl] at hlu
    have e0 : ((m * i : Nat) : Int) + 1 = ((m * i + 1 : Nat) : Int) := by omega
    obtain ⟨w0, hw0⟩ : ∃ w, List.replicate (m * i + 1) (0 : Int) = w := ⟨_, rfl⟩
    have emk : mksV h3 1 8 [.int .i64 0] (.int .i64 ((m * i + 1 : Nat) : Int)) (.int .i64 ((m * i + 1 : Nat) : Int)) = some (.sl h3.next 0 (m * i + 1) (.kn (m * i + 1)), h3.new (.cells false (ints w0))) := by
      rw [mksV_int (by omega) (Int.le_refl _) (by omega) (by omega), Int.toNat_natCast, Nat.mul_one, zeros_int, hw0]
    simp (disch := first | omega | (simp only [Qn] <;> omega)) only [go_sem, hlu, emi, e0, emk]
    have lw0 : w0.length = m * i + 1 := by rw [← hw0, List.length_replicate]
    have zw0 : ∀ k, w0.getD k 0 = 0 := fun k => by
      rw [← hw0, List.getD_eq_getElem?_getD, List.getElem?_replicate]; split <;> rfl
    clear hw0 emk e0
    have hfw : Fr h3 (h3.new (.cells false (ints w0))) := (Fr.refl h3).new _
    have hgw : (h3.new (.cells false (ints w0))).get h3.next = some (.cells false (ints w0)) := H.get_new_same ..
    have hnw : (h3.new (.cells false (ints w0))).next = h3.next + 1 := H.next_new ..
    generalize h3.new (.cells false (ints w0)) = hw at *
    refine Wp_loop (fun k' vars h4 => ∃ (j : Nat) (w : List Int), (∃ g : Nat → V, vars = [g 0, .int .i64 (n : Int), .int .i64 (m : Int), g 3, g 4, u, g 6, .sl h3.next 0 (m * i + 1) (.kn (m * i + 1)), .int .i64 (j : Int), g 9, g 10, g 11, g 12, g 13, g 14, g 15, g 16, g 17, g 18, g 19, g 20, g 21, g 22, g 23, g 24, g 25, g 26]) ∧ j ≤ i ∧ w.length = m * i + 1 ∧ (∀ k, k < m * i + 1 → w.getD k 0 = if k % m = 0 ∧ k / m < j then c.getD (k / m) 0 else 0) ∧ h4.get h3.next = some (.cells false (ints w)) ∧ h4.next = h3.next + 1 ∧ Fr h3 h4 ∧ k' = i - j) i
      ⟨0, w0, ex_junk rfl, Nat.zero_le _, lw0, fun k _ => by rw [zw0, if_neg (fun h => Nat.not_lt_zero _ h.2)], hgw, hnw, hfw, rfl⟩ ?_
    rintro k' vars h4 ⟨j, w, ⟨g, rfl⟩, hj, lw, zw, gw, nw, fw, rfl⟩
    simp (disch := first | omega | (simp only [Qn] <;> omega)) only [go_sem, hlu]
    by_cases hjt : (j : Int) < (i : Int)
    · rw [decide_eq_true hjt]
      obtain ⟨idu, offu, su, hidu, cu⟩ := (hsu.mono fw).open
      have hjm : m * j < m * i := Nat.mul_lt_mul_of_pos_left (by omega) hm1
      have emj : (j : Int) * (m : Int) = ((m * j : Nat) : Int) := by rw [Nat.mul_comm]; exact (Int.natCast_mul ..).symm
      have cj := cu j (by omega)
      have su' := fun k a b => su.ixa .i64 k a b
      simp (disch := first | omega | (simp only [Qn] <;> omega)) only [go_sem, emj, su.ixa, cj, gw]
      rw [show (j : Int) + 1 = ((j + 1 : Nat) : Int) from by omega]
      refine ⟨i - (j + 1), by omega, j + 1, w.set (m * j) (c.getD j 0), ex_junk rfl, by omega, by rw [List.length_set]; exact lw, fun k hk => ?_, rfl, nw, fw.set (Nat.le_refl _) _, rfl⟩
      rw [getD_set, zw k hk]
      by_cases he : m * j = k
      · subst he
        rw [if_pos rfl, if_pos (by omega), if_pos ⟨Nat.mul_mod_right m j, by rw [Nat.mul_div_cancel_left j hm1]; omega⟩, Nat.mul_div_cancel_left j hm1]
      · rw [if_neg he]
        have hiff : (k % m = 0 ∧ k / m < j) ↔ (k % m = 0 ∧ k / m < j + 1) := ⟨fun h => ⟨h.1, Nat.lt_succ_of_lt h.2⟩, fun h => ⟨h.1, Nat.lt_of_le_of_ne (Nat.le_of_lt_succ h.2) fun e => he (by
          have := Nat.div_add_mod k m
          rw [h.1, e] at this; omega)⟩⟩
        simp only [hiff]
    rw [decide_eq_false hjt]
    obtain rfl : j = i := by omega
    have mk2 := wide_num hn1 hm1 hnm (w := w) (by omega) (by omega) hcz (by rw [lw, hcl]) (fun k hk => by rw [hcl]; exact zw k (by omega))
    have emn : (n : Int) * (m : Int) = ((n * m : Nat) : Int) := (Int.natCast_mul ..).symm
    have hsw := SI.own (h := h4) (id := h3.next) (by omega) gw (.kn (m * j + 1))
    rw [lw] at hsw
    obtain ⟨VV, eV⟩ : ∃ X, numF n (fun k => c.getD k 0) = X := ⟨_, rfl⟩
    rw [eV] at mk1 mk2 t1 t5 t6 t7
    have hsu := hsu.mono fw
    have hwl : w.length < 1000000 := by omega
    have hcl2 : c.length < 1000000 := by omega
    clear zw gw eV hL hcz ho ht3 hf3
    simp (disch := first | omega | (simp only [Qn] <;> omega)) only [go_sem]
    refine (make_ok (n : Int) u c h4 hsu hcl2).mono ?_
    rintro v ha ⟨w, rfl, ⟨ua, rfl, hua, -⟩, fa⟩
    simp only [mk1] at hua ⊢
    have st := fun hh id => stV_agg2 hh id 0 (v := .int .i64 (VV).1) (u := ua) rfl hua.what.2.1
    simp (disch := first | omega | (simp only [Qn] <;> omega)) only [go_sem, d00, d0, decide_true, st, bxH_eq, List.getElem?_cons_zero, List.getElem?_cons_succ]
    have fxa := fa.trans (bxH_fr ha (VV).1 ua)
    have ba := bxH_bx ha (N := (VV).1) (A := (VV).2) hua
    clear st hua
    have na := fa.next
    generalize ha.next = ia at *
    generalize bxH ha (VV).1 ua = ka at *
    simp (disch := first | omega | (simp only [Qn] <;> omega)) only [go_sem, emn]
    refine (make_ok ((n * m : Nat) : Int) _ w _ (hsw.mono fxa) hwl).mono ?_
    rintro v hb ⟨w, rfl, ⟨ub, rfl, hub, -⟩, fb⟩
    simp only [mk2] at hub ⊢
    have st := fun hh id => stV_agg2 hh id 0 (v := .int .i64 (VV).1) (u := ub) rfl hub.what.2.1
    simp (disch := first | omega | (simp only [Qn] <;> omega)) only [go_sem, d00, d0, decide_true, st, bxH_eq, List.getElem?_cons_zero, List.getElem?_cons_succ]
    have fxb := fb.trans (bxH_fr hb (VV).1 ub)
    have bb := bxH_bx hb (N := (VV).1) (A := (VV).2) hub
    clear st hub
    have nb := fb.next
    generalize hb.next = ib at *
    generalize bxH hb (VV).1 ub = kb at *
    replace ba := ba.mono fxb
    obtain ⟨aa, ra, qa⟩ := ba.cv
    obtain ⟨ab, rb, qb⟩ := bb.cv
    simp (disch := first | omega | (simp only [Qn] <;> omega)) only [go_sem, d00, d0, decide_true, ra, rb]
    refine (lawsame_ok _ _ VV VV _ qa qb t6 t6).mono ?_
    rintro v k9 ⟨rfl, f9⟩
    replace ba := ba.mono f9
    obtain ⟨ux, gx, sx, lx⟩ := ba
    have cx : k9.cell ia 0 = some (.int .i64 (N : Int)) := by rw [H.cell_of gx, ← t1]; rfl
    have dn1 : decide ((N : Int) < 1) = false := decide_eq_false (by omega)
    have hN0 : (N : Int) ≠ 0 := by omega
    have em : (n : Int).tmod (N : Int) = 0 := by rw [tmod_nat, t4]; rfl
    have rx := row_two gx
    simp (disch := first | omega | (simp only [Qn] <;> omega)) only [go_sem, d00, d0, decide_true, cx, dn1, em, rx]
    have ba : Bx k9 ia VV := ⟨ux, gx, sx, lx⟩
    refine (check_ok _ VV k9 ⟨ux, rfl, sx⟩ t6).mono ?_
    rintro v kb9 ⟨rfl, fb9⟩
    rw [t5]
    simp (disch := first | omega | (simp only [Qn] <;> omega)) only [go_sem, d00, d0, decide_true]
    replace ba := ba.mono fb9
    clear gx sx lx cx rx em dn1 f9 fb9 mk1 mk2 hsw hsu
    refine Wp_loop (fun k' vars h5 => ∃ q : Nat, (∃ g : Nat → V, vars = [g 0, g 1, g 2, g 3, g 4, g 5, g 6, g 7, g 8, .ptr ia 0, g 10, g 11, g 12, .int .i64 (q : Int), g 14, g 15, g 16, g 17, g 18, g 19, g 20, g 21, g 22, g 23, g 24, g 25, g 26]) ∧ 2 ≤ q ∧ q ≤ N + 1 ∧ Fr kb9 h5 ∧ k' = N + 1 - q) (N - 1)
      ⟨2, ex_junk rfl, by omega, by omega, Fr.refl _, by omega⟩ ?_
    rintro k' vars h5 ⟨q, ⟨g, rfl⟩, hq2, hq3, f5, rfl⟩
    have ba5 := ba.mono f5
    obtain ⟨ux, gx, sx, lx⟩ := ba5
    have cx : h5.cell ia 0 = some (.int .i64 (N : Int)) := by rw [H.cell_of gx, ← t1]; rfl
    simp (disch := first | omega | (simp only [Qn] <;> omega)) only [go_sem, cx]
    by_cases hqN : (q : Int) ≤ (N : Int)
    · rw [decide_eq_true hqN]
      have hq0 : (q : Int) ≠ 0 := by omega
      have em : (N : Int).tmod (q : Int) = ((N % q : Nat) : Int) := tmod_nat ..
      have eq : (N : Int).tdiv (q : Int) = ((N / q : Nat) : Int) := by rw [Int.tdiv_eq_ediv_of_nonneg (by omega)]; rfl
      simp (disch := first | omega | (simp only [Qn] <;> omega)) only [go_sem, cx, em]
      by_cases hz : N % q = 0
      · have dz : decide (((N % q : Nat) : Int) ≠ 0) = false := decide_eq_false (by omega)
        rw [dz]
        simp (disch := first | omega | (simp only [Qn] <;> omega)) only [go_sem]
        refine (odd_ok q h5 (by omega)).mono ?_
        rintro v h5' ⟨rfl, he⟩
        subst he
        cases ho : oddF q with
        | false =>
          simp (disch := first | omega | (simp only [Qn] <;> omega)) only [go_sem]
          rw [show (q : Int) + 1 = ((q + 1 : Nat) : Int) from by omega]
          exact ⟨N + 1 - (q + 1), by omega, q + 1, ex_junk rfl, by omega, by omega, f5, rfl⟩
        | true =>
          simp (disch := first | omega | (simp only [Qn] <;> omega)) only [go_sem]
          obtain ⟨hD1, s, hs1, hs2, hs3⟩ := t7 q hq2 (by omega) hz ho
          have hDN : N / q ≤ N := Nat.div_le_self ..
          generalize N / q = D at *
          refine Wp_loop (fun k' vars h6 => ∃ (t K : Nat) (mv : Bool), (∃ g : Nat → V, vars = [g 0, g 1, g 2, g 3, g 4, g 5, g 6, g 7, g 8, .ptr ia 0, g 10, g 11, g 12, .int .i64 (q : Int), .bool mv, .int .i64 (K : Int), g 16, g 17, g 18, g 19, g 20, g 21, g 22, g 23, g 24, g 25, g 26]) ∧ K = 1 + t * D ∧ t ≤ N ∧ K ≤ 1 + N + D ∧ (s < t → mv = true) ∧ Fr kb9 h6 ∧ k' = N - t) N
            ⟨0, 1, false, ex_junk rfl, by omega, by omega, by omega, fun h => absurd h (Nat.not_lt_zero _), f5, rfl⟩ ?_
          clear cx gx sx lx
          rintro k' vars h6 ⟨t, K, mv, ⟨g, rfl⟩, hK, htN, hKN, hmv, f6, rfl⟩
          have ba6 := ba.mono f6
          obtain ⟨ux, gx, sx, lx⟩ := ba6
          have cx : h6.cell ia 0 = some (.int .i64 (N : Int)) := by rw [H.cell_of gx, ← t1]; rfl
          simp (disch := first | omega | (simp only [Qn] <;> omega)) only [go_sem, cx]
          have htD : t ≤ t * D := Nat.le_mul_of_pos_right t hD1
          have hst : t * D + D = (t + 1) * D := by rw [Nat.add_mul, Nat.one_mul]
          by_cases hKt : (K : Int) < (N : Int)
          · rw [decide_eq_true hKt]
            obtain ⟨X, E, eX⟩ : ∃ X E, galF VV (K : Int) = (X, E) := ⟨_, _, rfl⟩
            have lX : Ln X := by have := galF_len' VV (K : Int); rw [eX] at this; exact this
            have hgood : t = s → E = 0 ∧ X ≠ VV := fun e => by
              subst e
              rw [← hK, eX] at hs2 hs3
              exact ⟨hs2, hs3⟩
            have ba6 : Bx h6 ia VV := ⟨ux, gx, sx, lx⟩
            clear gx sx lx cx
            obtain ⟨a6, r6, q6⟩ := ba6.cv
            simp (disch := first | omega | (simp only [Qn] <;> omega)) only [go_sem, r6]
            refine (gal_ok _ VV (K : Int) h6 q6 t6).mono ?_
            rintro v hd ⟨w', rfl, ⟨ud, rfl, hud, -⟩, fd⟩
            simp only [eX] at hud ⊢
            have st := fun hh id => stV_agg2 hh id 0 (v := .int .i64 X.1) (u := ud) rfl hud.what.2.1
            simp (disch := first | omega | (simp only [Qn] <;> omega)) only [go_sem, d00, d0, decide_true, st, bxH_eq, List.getElem?_cons_zero, List.getElem?_cons_succ]
            have fxd := fd.trans (bxH_fr hd X.1 ud)
            have bd := bxH_bx hd (N := X.1) (A := X.2) hud
            clear st hud fd
            generalize hd.next = id at *
            generalize bxH hd X.1 ud = kd at *
            replace ba6 := ba6.mono fxd
            have eK : ((K : Nat) : Int) + ((D : Nat) : Int) = ((K + D : Nat) : Int) := by omega
            have fin : ∀ (hh : H) (mv' : Bool), Fr kd hh → (s < t + 1 → mv' = true) → hh.cell ia 0 = some (.int .i64 (N : Int)) ∧ Fr kb9 hh := fun hh mv' f _ => by
              obtain ⟨ux, gx, sx, lx⟩ := ba6.mono f
              exact ⟨by rw [H.cell_of gx, ← t1]; rfl, (f6.trans fxd).trans f⟩
            cases mv with
            | true =>
              have cx := (fin kd true (Fr.refl _) fun _ => rfl).1
              simp (disch := first | omega | (simp only [Qn] <;> omega)) only [go_sem, undef_eq, cx, eq, eK]
              exact ⟨N - (t + 1), by omega, t + 1, K + D, true, ex_junk rfl, by omega, by omega, by omega, fun _ => rfl, f6.trans fxd, rfl⟩
            | false =>
              by_cases hE : E = 0
              · have dE : decide (E = 0) = true := decide_eq_true hE
                obtain ⟨a7, r7, q7⟩ := ba6.cv
                obtain ⟨a8, r8, q8⟩ := bd.cv
                simp (disch := first | omega | (simp only [Qn] <;> omega)) only [go_sem, dE, r7, r8]
                refine (lawsame_ok _ _ X VV _ q8 q7 lX t6).mono ?_
                rintro v ke ⟨rfl, fe⟩
                have cx := (fin ke true fe fun _ => rfl).1
                simp (disch := first | omega | (simp only [Qn] <;> omega)) only [go_sem, cx, eq, eK]
                refine ⟨N - (t + 1), by omega, t + 1, K + D, !decide (X = VV), ex_junk rfl, by omega, by omega, by omega, fun h => ?_, (f6.trans fxd).trans fe, rfl⟩
                by_cases hts : t = s
                · rw [decide_eq_false (hgood hts).2]; rfl
                · have := hmv (by omega); cases this
              · have dE : decide (E = 0) = false := decide_eq_false hE
                have cx := (fin kd true (Fr.refl _) fun _ => rfl).1
                simp (disch := first | omega | (simp only [Qn] <;> omega)) only [go_sem, dE, undef_eq, cx, eq, eK]
                refine ⟨N - (t + 1), by omega, t + 1, K + D, false, ex_junk rfl, by omega, by omega, by omega, fun h => ?_, f6.trans fxd, rfl⟩
                by_cases hts : t = s
                · exact absurd (hgood hts).1 hE
                · exact hmv (by omega)
          · rw [decide_eq_false hKt]
            have hst2 : s < t := by
              refine Nat.lt_of_mul_lt_mul_right (a := D) ?_
              omega
            rw [hmv hst2]
            simp (disch := first | omega | (simp only [Qn] <;> omega)) only [go_sem]
            rw [show (q : Int) + 1 = ((q + 1 : Nat) : Int) from by omega]
            exact ⟨N + 1 - (q + 1), by omega, q + 1, ex_junk rfl, by omega, by omega, f6, rfl⟩
      · have dz : decide (((N % q : Nat) : Int) ≠ 0) = true := decide_eq_true (by omega)
        rw [dz]
        simp (disch := first | omega | (simp only [Qn] <;> omega)) only [go_sem]
        rw [show (q : Int) + 1 = ((q + 1 : Nat) : Int) from by omega]
        exact ⟨N + 1 - (q + 1), by omega, q + 1, ex_junk rfl, by omega, by omega, f5, rfl⟩
    · rw [decide_eq_false hqN]
      simp (disch := first | omega | (simp only [Qn] <;> omega)) only [go_sem]
end
end Go.Proofs.Ythfabknpogbcaaa
