/- Layer 4: the reference's Pow. Layer 4: what is too large. The law MatrixCalls, walked. The law MatrixValues, walked. -/
import Derived.Test.YtonhijbeddcmpaaM4tctoM4tg
import Derived.Test.YtonhijbeddcmpaaM4rftoDt9
import Derived.Test.YtonhijbeddcmpaaAy34
/- Layer 4: the reference's Pow. -/
namespace Go.Proofs.Ytonhijbeddcmpaa
open Go Go.Ay
set_option maxRecDepth 100000
structure PQ (p : Int) (n A2 A3 O : Nat) (base : H) (out x : Mat) (uo ux : V) (hh : H) : Prop where
  gO : hh.get O = some (.cells false [.int .i64 p, uo])
  gX : hh.get A2 = some (.cells false [.int .i64 p, ux])
  gA : hh.get A3 = some (.cells false [.int .i64 0, .nils])
  so : SRa hh uo out.2 [A2, A3, O]
  sx : SRa hh ux x.2 [A2, A3, O]
  o1 : out.1 = p
  x1 : x.1 = p
  vo : Vd out n
  vx : Vd x n
  lo : out.2.length = n
  lx : x.2.length = n
  lt : O < hh.next
  fr : Fr base hh
section
variable {p : Int} {n A2 A3 O : Nat} {base : H} {out x out' x' : Mat} {uo ux uo' ux' : V} {hh h' : H}
theorem PQ.frm (k : PQ p n A2 A3 O base out x uo ux hh) (hs : base.next ≤ A2 ∧ A2 < A3 ∧ A3 < O) (f : Fr hh h') : PQ p n A2 A3 O base out x uo ux h' := by
  have ltL := k.lt
  exact ⟨(f.get _ (by omega)).trans k.gO, (f.get _ (by omega)).trans k.gX, (f.get _ (by omega)).trans k.gA, k.so.fr f, k.sx.fr f, k.o1, k.x1, k.vo, k.vx, k.lo, k.lx, Nat.lt_of_lt_of_le k.lt f.next, k.fr.trans f⟩
theorem PQ.setO (k : PQ p n A2 A3 O base out x uo ux hh) (hs : base.next ≤ A2 ∧ A2 < A3 ∧ A3 < O) (so : SRa hh uo' out'.2 [A2, A3, O]) (o1 : out'.1 = p) (vo : Vd out' n) (lo : out'.2.length = n) : PQ p n A2 A3 O base out' x uo' ux (hh.set O (some (.cells false [.int .i64 p, uo']))) :=
  ⟨H.get_set_same .., by rw [H.get_set_ne _ (by omega)]; exact k.gX, by rw [H.get_set_ne _ (by omega)]; exact k.gA, so.set (by simp) _, k.sx.set (by simp) _, o1, k.x1, vo, k.vx, lo, k.lx, k.lt, k.fr.set (by omega) _⟩
theorem PQ.setX (k : PQ p n A2 A3 O base out x uo ux hh) (hs : base.next ≤ A2 ∧ A2 < A3 ∧ A3 < O) (sx : SRa hh ux' x'.2 [A2, A3, O]) (x1 : x'.1 = p) (vx : Vd x' n) (lx : x'.2.length = n) : PQ p n A2 A3 O base out x' uo ux' (hh.set A2 (some (.cells false [.int .i64 p, ux']))) :=
  ⟨by rw [H.get_set_ne _ (by omega)]; exact k.gO, H.get_set_same .., by rw [H.get_set_ne _ (by omega)]; exact k.gA, k.so.set (by simp) _, sx.set (by simp) _, k.o1, x1, k.vo, vx, k.lo, lx, k.lt, k.fr.set (by omega) _⟩
end
set_option maxHeartbeats 16000000 in
theorem ref_Pow_ok (va : V) (a : Mat) (k : Int) (h : H) (ha : MatV h va a) (la : (a.2.length : Int) ≤ 2 ^ 63 - 1) (hk : -9223372036854775808 ≤ k ∧ k < 9223372036854775808) :
    Ev T n_ref04_Pow [va, .int .i64 k] h (fun v h' => ∃ w, v = .tup [w, .int .i64 (PowF a k).2] ∧ MatV h' w (PowF a k).1 ∧ Fr h h') := by
  obtain ⟨ua, rfl, hua⟩ := ha
  refine Ev_of t_ref04_Pow rfl ?_
  have wa := SV.what hua.choose_spec.1
  simp (disch := first | omega | (simp only [Qn] <;> omega)) only [go_sem, c_ref04_Pow, initV_eq, boxV_agg2 h (v := .int .i64 a.1) rfl wa.2.1]
  have hfx : Fr h (h.new (.cells false [.int .i64 a.1, ua])) := (Fr.refl h).new _
  have hgx : (h.new (.cells false [.int .i64 a.1, ua])).get h.next = some (.cells false [.int .i64 a.1, ua]) := H.get_new_same ..
  have hnx : (h.new (.cells false [.int .i64 a.1, ua])).next = h.next + 1 := H.next_new ..
  generalize h.new (.cells false [.int .i64 a.1, ua]) = hx at *
  have hfy : Fr hx (hx.new (.cells false [.int .i64 0, .nils])) := (Fr.refl hx).new _
  have hgy : (hx.new (.cells false [.int .i64 0, .nils])).get hx.next = some (.cells false [.int .i64 0, .nils]) := H.get_new_same ..
  have hny : (hx.new (.cells false [.int .i64 0, .nils])).next = hx.next + 1 := H.next_new ..
  generalize hx.new (.cells false [.int .i64 0, .nils]) = hy at *
  have F := hfx.trans hfy
  have gx := (hfy.get h.next (by omega)).trans hgx
  simp (disch := first | omega | (simp only [Qn] <;> omega)) only [go_sem, row_two gx]
  refine (ref_square_ok _ a hy ⟨ua, rfl, hua.mono F⟩ la).mono ?_
  rintro v h5 ⟨rfl, f5⟩
  have F5 := F.trans f5
  have gx5 := (f5.get h.next (by omega)).trans gx
  have gy5 := (f5.get hx.next (by omega)).trans hgy
  have n5 := f5.next
  rw [← hnx]
  obtain ⟨A2, hA2⟩ : ∃ A2, h.next = A2 := ⟨_, rfl⟩
  obtain ⟨A3, hA3⟩ : ∃ A3, hx.next = A3 := ⟨_, rfl⟩
  rw [hA2] at gx5
  rw [hA3] at gy5
  rw [hA2, hA3]
  have hst0 := fun hh => stV_agg2 hh A3 0 (v := .int .i64 0) (u := .nils) rfl rfl
  simp (disch := first | omega | (simp only [Qn] <;> omega)) only [go_sem]
  refine iteW_dec (fun he => ?_) (fun he => ?_)
  · have hrow := row_two (h := h5.set A3 (some (.cells false [.int .i64 0, .nils]))) (H.get_set_same ..)
    simp (disch := first | omega | (simp only [Qn] <;> omega)) only [go_sem, bldV_nil, hst0, gy5, hrow]
    have e : PowF a k = ((0, []), sqF a) := by rw [PowF, if_pos he]
    rw [e]
    exact ⟨_, rfl, ⟨.nils, rfl, SR.nils _⟩, F5.set (by omega) _⟩
  have hz : sqF a = 0 := Classical.byContradiction he
  have da := sq_vd hz
  obtain ⟨n, hn⟩ : ∃ n, a.2.length = n := ⟨_, rfl⟩
  rw [hn] at da
  have hr1 := da.r1
  have hr2 := da.r2
  rw [hn] at hr1 hr2
  have hp := fieldF_range da.p
  have sB := hua.mono F5
  simp (disch := first | omega | (simp only [Qn] <;> omega)) only [go_sem]
  refine iteW_then (fun vs h7 => ∃ (b : Mat) (ub : V), (∃ g : Nat → V, vs = [g 0, .int .i64 k, .ptr A2 0, .ptr A3 0, g 4, g 5, g 6, g 7, g 8, g 9, g 10, g 11, g 12, g 13, g 14]) ∧ h7.get A2 = some (.cells false [.int .i64 a.1, ub]) ∧ h7.get A3 = some (.cells false [.int .i64 0, .nils]) ∧ SRa h7 ub b.2 [A2, A3] ∧ Vd b n ∧ b.1 = a.1 ∧ b.2.length = n ∧ Fr h h7 ∧ A3 < h7.next ∧ PowF a k = (pwG n 64 (oneF n a.1) b k.natAbs, 0)) ?_ ?_
  · refine iteW_dec (fun hneg => ?_) (fun hneg => ?_)
    · simp (disch := first | omega | (simp only [Qn] <;> omega)) only [go_sem, row_two gx5]
      refine (ref_Inv_ok _ a h5 ⟨ua, rfl, sB⟩ la).mono ?_
      rintro v h7 ⟨wi, rfl, ⟨ui, wsi, rfl, RI⟩, f7⟩
      have vi := SV.what RI.own.sv
      have hst7 := fun hh id => stV_agg2 hh id 0 (v := .int .i64 (InvF a).1.1) (u := ui) rfl vi.2.1
      simp (disch := first | omega | (simp only [Qn] <;> omega)) only [go_sem, hst7, bxH_eq]
      have fC := bxH_fr h7 (InvF a).1.1 ui
      have gC := bxH_get h7 (InvF a).1.1 ui
      have nC := bxH_next h7 (InvF a).1.1 ui
      have RC := RI.fr fC
      generalize bxH h7 (InvF a).1.1 ui = hC at *
      have fBC := f7.trans fC
      have n7 := f7.next
      have gyC := (fBC.get A3 (by omega)).trans gy5
      have gxC := (fBC.get A2 (by omega)).trans gx5
      refine iteW_dec (fun he1 => ?_) (fun he1 => ?_)
      · have hrow := row_two (h := hC.set A3 (some (.cells false [.int .i64 0, .nils]))) (H.get_set_same ..)
        simp (disch := first | omega | (simp only [Qn] <;> omega)) only [go_sem, bldV_nil, hst0, gyC]
        have e : PowF a k = ((0, []), (InvF a).2) := by rw [PowF, if_neg (by simp [hz]), if_pos ⟨hneg, he1⟩]
        refine .inr ⟨(fun q => nomatch q), ?_⟩
        simp (disch := first | omega | (simp only [Qn] <;> omega)) only [go_sem, hrow]
        rw [e]
        exact ⟨_, rfl, ⟨.nils, rfl, SR.nils _⟩, (F5.trans fBC).set (by omega) _⟩
      · have rC := row_two gC
        have hstA := fun hh => stV_agg2 hh A2 0 (v := .int .i64 (InvF a).1.1) (u := ui) rfl vi.2.1
        have hi0 : (InvF a).2 = 0 := Classical.byContradiction he1
        obtain ⟨X, hX, eX, iX⟩ := inv_vd hi0
        rw [hn] at hX eX iX
        have sq : Sq a.1 n := ⟨da.p, hr1, hr2⟩
        have fD : Fr h (hC.set A2 (some (.cells false [.int .i64 (InvF a).1.1, ui]))) := (F5.trans fBC).set (by omega) _
        have RD : SRa (hC.set A2 (some (.cells false [.int .i64 (InvF a).1.1, ui]))) ui (InvF a).1.2 [A2, A3] := (SRa.new (bad := [A2, A3]) RC fun b hb => by
          simp only [List.mem_cons, List.not_mem_nil, or_false] at hb
          omega).set (by simp) _
        simp (disch := first | omega | (simp only [Qn] <;> omega)) only [go_sem, rC, hstA, gxC]
        refine .inl ⟨(InvF a).1, ui, ex_junk rfl, by rw [eX], gyC, RD, by rw [eX]; exact sq.vd iX, by rw [eX], by rw [eX]; exact mkR_len .., fD, by omega, ?_⟩
        rw [PowF, if_neg (by simp [hz]), if_neg (by simp [hi0]), if_pos hneg, hn]
    · simp (disch := first | omega | (simp only [Qn] <;> omega)) only [go_sem]
      refine .inl ⟨a, ua, ex_junk rfl, gx5, gy5, ?_, da, rfl, hn, F5, by omega, ?_⟩
      · exact (SRa.old (bad := [A2, A3]) hua fun b hb => by
          simp only [List.mem_cons, List.not_mem_nil, or_false] at hb
          omega).fr F5
      · rw [PowF, if_neg (by simp [hz]), if_neg (fun q => hneg q.1), if_neg hneg, hn]
  · rintro vs h7 ⟨b, ub, ⟨g, rfl⟩, gA2, gA3, sb, db, hb1, hbn, F7, l3, hres⟩
    have x0 : h7.cell A2 0 = some (.int .i64 a.1) := by rw [H.cell_of gA2]; rfl
    have x1 : h7.cell A2 1 = some ub := by rw [H.cell_of gA2]; rfl
    have lB : lensV ub = some (.int .i64 (n : Int)) := by rw [← hbn]; exact sb.sr.lens
    simp (disch := first | omega | (simp only [Qn] <;> omega)) only [go_sem, x0, x1, lB]
    refine (ref_one_ok n a.1 h7 hr1 hr2 (by omega)).mono ?_
    rintro v h8 ⟨⟨u8, ws8, rfl, R8⟩, f8⟩
    have v8 := SV.what R8.own.sv
    have e81 : (oneF n a.1).1 = a.1 := rfl
    rw [e81]
    have hst8 := fun hh id => stV_agg2 hh id 0 (v := .int .i64 a.1) (u := u8) rfl v8.2.1
    simp (disch := first | omega | (simp only [Qn] <;> omega)) only [go_sem, hst8, bxH_eq]
    have fC := bxH_fr h8 a.1 u8
    have gC := bxH_get h8 a.1 u8
    have nC := bxH_next h8 a.1 u8
    have RC := R8.fr fC
    generalize bxH h8 a.1 u8 = hC at *
    obtain ⟨O, hO⟩ : ∃ O, h8.next = O := ⟨_, rfl⟩
    rw [hO] at gC nC
    rw [hO]
    have n8 := f8.next
    have fC7 := f8.trans fC
    have gA2C := (fC7.get A2 (by omega)).trans gA2
    have gA3C := (fC7.get A3 (by omega)).trans gA3
    have sbC := sb.fr fC7
    refine (size_ok k hC hk).mono ?_
    rintro v h9 ⟨rfl, rfl⟩
    have hs : h.next ≤ A2 ∧ A2 < A3 ∧ A3 < O := ⟨by omega, by omega, by omega⟩
    obtain ⟨RES, hRES⟩ : ∃ R, pwG n 64 (oneF n a.1) b k.natAbs = R := ⟨_, rfl⟩
    have K0 : PQ a.1 n A2 A3 O h (oneF n a.1) b u8 ub h9 := by
      refine ⟨gC, gA2C, gA3C, ?_, ?_, rfl, hb1, ?_, db, by simp only [oneF, mkR_len], hbn, by omega, F7.trans fC7⟩
      · exact (SRa.new (bad := [A2, A3, O]) R8 fun q hq => by
          simp only [List.mem_cons, List.not_mem_nil, or_false] at hq
          omega).fr fC
      · exact (sb.ext (bad' := [A2, A3, O]) fun q hq => by
          simp only [List.mem_cons, List.not_mem_nil, or_false] at hq ⊢
          omega).fr fC7
      · have sq : Sq a.1 n := ⟨da.p, hr1, hr2⟩
        exact sq.vd sq.on
    simp (disch := first | omega | (simp only [Qn] <;> omega)) only [go_sem]
    refine Wp_loop (fun f vars hh => ∃ (left : Nat) (out x : Mat) (uo ux : V), (∃ g : Nat → V, vars = [g 0, g 1, .ptr A2 0, .ptr A3 0, g 4, g 5, g 6, g 7, .ptr O 0, .int .u64 (left : Int), g 10, g 11, g 12, g 13, g 14]) ∧ PQ a.1 n A2 A3 O h out x uo ux hh ∧ left < 2 ^ f ∧ left ≤ 9223372036854775808 ∧ pwG n f out x left = RES) 64
      ⟨k.natAbs, _, b, _, _, ex_junk rfl, K0, by omega, by omega, hRES⟩ ?_
    clear K0 sbC gA2C gA3C RC gC
    rintro f vars hh ⟨left, out, x, uo, ux, ⟨g, rfl⟩, K, hlf, hl63, hpw⟩
    simp (disch := first | omega | (simp only [Qn] <;> omega)) only [go_sem]
    by_cases h0 : 0 < (left : Int)
    · rw [decide_eq_true h0]
      obtain ⟨f', rfl⟩ : ∃ f', f = f' + 1 := by
        cases f with
        | zero => simp at hlf; omega
        | succ f => exact ⟨f, rfl⟩
      rw [pwG, if_neg (by omega)] at hpw
      have hlf2 : left / 2 < 2 ^ f' := by rw [Nat.pow_succ] at hlf; omega
      have em : (left : Int).tmod 2 = ((left % 2 : Nat) : Int) := tmod_nat left 2
      have ed : (left : Int).tdiv 2 = ((left / 2 : Nat) : Int) := rfl
      have ew : IntKind.u64.wrap ((left / 2 : Nat) : Int) = ((left / 2 : Nat) : Int) := wrap_u64 (by omega) (by omega)
      simp (disch := first | omega | (simp only [Qn] <;> omega)) only [go_sem, em]
      refine iteW_then (fun vs h2 => ∃ (out' : Mat) (uo' : V), (∃ g : Nat → V, vs = [g 0, g 1, .ptr A2 0, .ptr A3 0, g 4, g 5, g 6, g 7, .ptr O 0, .int .u64 (left : Int), g 10, g 11, g 12, g 13, g 14]) ∧ PQ a.1 n A2 A3 O h out' x uo' ux h2 ∧ pwG n f' out' (mulF x x n n) (left / 2) = RES) ?_ ?_
      · by_cases hodd : ((left % 2 : Nat) : Int) = 1
        · rw [decide_eq_true hodd]
          rw [if_pos (by omega)] at hpw
          simp (disch := first | omega | (simp only [Qn] <;> omega)) only [go_sem, row_two K.gO, row_two K.gX]
          have n1 := K.lt
          refine (ref_mul_ok _ _ out x n n hh ⟨uo, by rw [K.o1], K.so.sr⟩ ⟨ux, by rw [K.x1], K.sx.sr⟩ K.vo K.vx (by rw [K.o1, K.x1]) K.lx.symm).mono ?_
          rintro v h3 ⟨⟨um, wsm, rfl, RM⟩, f3⟩
          have vm := SV.what RM.own.sv
          have e1 : (mulF out x n n).1 = a.1 := K.o1
          have hstm := fun hh id => stV_agg2 hh id 0 (v := .int .i64 (mulF out x n n).1) (u := um) rfl vm.2.1
          rw [e1] at hstm
          rw [e1]
          have K4 := (K.frm hs f3).setO hs (out' := mulF out x n n) (SRa.new (bad := [A2, A3, O]) RM fun b hb => by
            simp only [List.mem_cons, List.not_mem_nil, or_false] at hb
            omega) e1 (K.vo.mul K.vx) (by rw [mulF, mkR_len]; exact K.lo)
          simp (disch := first | omega | (simp only [Qn] <;> omega)) only [go_sem, hstm, (K.frm hs f3).gO]
          exact .inl ⟨_, _, ex_junk rfl, K4, hpw⟩
        · rw [decide_eq_false hodd]
          rw [if_neg (by omega)] at hpw
          simp (disch := first | omega | (simp only [Qn] <;> omega)) only [go_sem]
          exact .inl ⟨_, _, ex_junk rfl, K, hpw⟩
      · clear K hpw
        rintro vs h2 ⟨out', uo', ⟨g, rfl⟩, K, hpw⟩
        simp (disch := first | omega | (simp only [Qn] <;> omega)) only [go_sem, row_two K.gX]
        have n1 := K.lt
        refine (ref_mul_ok _ _ x x n n h2 ⟨ux, by rw [K.x1], K.sx.sr⟩ ⟨ux, by rw [K.x1], K.sx.sr⟩ K.vx K.vx rfl K.lx.symm).mono ?_
        rintro v h3 ⟨⟨um, wsm, rfl, RM⟩, f3⟩
        have vm := SV.what RM.own.sv
        have e1 : (mulF x x n n).1 = a.1 := K.x1
        have hstm := fun hh id => stV_agg2 hh id 0 (v := .int .i64 (mulF x x n n).1) (u := um) rfl vm.2.1
        rw [e1] at hstm
        rw [e1]
        have K4 := (K.frm hs f3).setX hs (x' := mulF x x n n) (SRa.new (bad := [A2, A3, O]) RM fun b hb => by
          simp only [List.mem_cons, List.not_mem_nil, or_false] at hb
          omega) e1 (K.vx.mul K.vx) (by rw [mulF, mkR_len]; exact K.lx)
        simp (disch := first | omega | (simp only [Qn] <;> omega)) only [go_sem, hstm, (K.frm hs f3).gX, ed, ew]
        exact ⟨f', by omega, left / 2, out', mulF x x n n, uo', um, ex_junk rfl, K4, hlf2, by omega, hpw⟩
    rw [decide_eq_false h0]
    obtain rfl : left = 0 := by omega
    have hout : RES = out := by
      rw [← hpw]
      cases f with
      | zero => rfl
      | succ f => rw [pwG, if_pos rfl]
    have vo := SV.what K.so.sr.choose_spec.1
    have hst9 := fun hh => stV_agg2 hh A3 0 (v := .int .i64 a.1) (u := uo) rfl vo.2.1
    have hrow := row_two (h := hh.set A3 (some (.cells false [.int .i64 a.1, uo]))) (H.get_set_same ..)
    simp (disch := first | omega | (simp only [Qn] <;> omega)) only [go_sem, row_two K.gO, hst9, K.gA, hrow]
    rw [hres, hRES, hout]
    exact ⟨_, rfl, ⟨uo, by rw [K.o1], (K.so.set (by simp) _).sr⟩, K.fr.set (by omega) _⟩
end Go.Proofs.Ytonhijbeddcmpaa

/- Layer 4: what is too large. -/
namespace Go.Proofs.Ytonhijbeddcmpaa
open Go Go.Ay
set_option maxRecDepth 100000
/-- A matrix that is small enough. -/
def smallM (l : List (List Int)) : Prop := l.length ≤ 6 ∧ ∀ r ∈ l, r.length ≤ 6
set_option maxHeartbeats 8000000 in
theorem large_ok (v : V) (id off n : Nat) (us : Nat → V) (lls : Nat → List (List Int)) (h : H) (hsl : Sl v 2 n id off) (hcs : ∀ i, i < n → h.cell id (off + i * 2 + 1) = some (us i)) (hR : ∀ i, i < n → SR h (us i) (lls i)) (hl : ∀ i, i < n → ((lls i).length : Int) ≤ 2 ^ 63 - 1) (hn : n < 1000000) :
    Ev T n_law04_large [v] h (fun w h' => h' = h ∧ ∃ b, w = .bool b ∧ (b = false → ∀ i, i < n → smallM (lls i))) := by
  refine Ev_of t_law04_large rfl ?_
  simp (disch := first | omega | (simp only [Qn] <;> omega)) only [go_sem, c_law04_large, initV_eq]
  refine Wp_loop (fun k' vars h1 => h1 = h ∧ ∃ i : Nat, (∃ g : Nat → V, vars = [v, .bool false, .int .i64 (i : Int), g 3, g 4, g 5, g 6, g 7]) ∧ i ≤ n ∧ (∀ k, k < i → smallM (lls k)) ∧ k' = n - i) n
    ⟨rfl, 0, ex_junk rfl, Nat.zero_le _, fun k hk => by omega, rfl⟩ ?_
  rintro k' vars h1 ⟨rfl, i, ⟨g, rfl⟩, hi, hgood, rfl⟩
  simp (disch := first | omega | (simp only [Qn] <;> omega)) only [go_sem, hsl.lens]
  by_cases hlt : (i : Int) < (n : Int)
  · rw [decide_eq_true hlt]
    have ci := hcs i (by omega)
    have si := hR i (by omega)
    have li := hl i (by omega)
    obtain ⟨u, hu⟩ : ∃ u, us i = u := ⟨_, rfl⟩
    obtain ⟨ll, hll⟩ : ∃ ll, lls i = ll := ⟨_, rfl⟩
    rw [hu] at ci si
    rw [hll] at si li
    simp (disch := first | omega | (simp only [Qn] <;> omega)) only [go_sem, hsl.ixa, ci, si.lens]
    by_cases h6 : (6 : Int) < (ll.length : Int)
    · rw [decide_eq_true h6]
      simp (disch := first | omega | (simp only [Qn] <;> omega)) only [go_sem]
      exact ⟨true, rfl, fun e => by cases e⟩
    rw [decide_eq_false h6]
    obtain ⟨idu, offu, ws, su, hidu, hwl, hcu, hall⟩ := si.open
    simp (disch := first | omega | (simp only [Qn] <;> omega)) only [go_sem]
    refine Wp_loop (fun k' vars h2 => h2 = h1 ∧ ∃ j : Nat, (∃ g : Nat → V, vars = [v, .bool false, .int .i64 (i : Int), .int .i64 (j : Int), g 4, g 5, g 6, g 7]) ∧ j ≤ ll.length ∧ (∀ r ∈ ll.take j, r.length ≤ 6) ∧ k' = ll.length - j) ll.length
      ⟨rfl, 0, ex_junk rfl, Nat.zero_le _, fun r hr => by simp at hr, rfl⟩ ?_
    rintro k' vars h2 ⟨rfl, j, ⟨g, rfl⟩, hj, hrow, rfl⟩
    simp (disch := first | omega | (simp only [Qn] <;> omega)) only [go_sem, hsl.ixa, ci, si.lens]
    by_cases hjl : (j : Int) < (ll.length : Int)
    · rw [decide_eq_true hjl]
      have cj := hcu j (by omega)
      have rj := row_at hall (i := j) (by omega)
      have lj := rj.lens
      have ej : ll.getD j [] = ll[j]'(by omega) := by rw [List.getD_eq_getElem?_getD, List.getElem?_eq_getElem (by omega)]; rfl
      obtain ⟨r, hr⟩ : ∃ r, ll.getD j [] = r := ⟨_, rfl⟩
      rw [hr] at lj ej
      simp (disch := first | omega | (simp only [Qn] <;> omega)) only [go_sem, hsl.ixa, ci, su.ixa, cj, lj]
      by_cases hr6 : (6 : Int) < (r.length : Int)
      · rw [decide_eq_true hr6]
        simp (disch := first | omega | (simp only [Qn] <;> omega)) only [go_sem]
        exact ⟨true, rfl, fun e => by cases e⟩
      rw [decide_eq_false hr6]
      simp (disch := first | omega | (simp only [Qn] <;> omega)) only [go_sem]
      refine ⟨ll.length - (j + 1), by omega, j + 1, ex_junk rfl, by omega, fun x hx => ?_, rfl⟩
      rw [List.take_add_one, List.getElem?_eq_getElem (by omega), ← ej] at hx
      rcases List.mem_append.1 hx with hx | hx
      · exact hrow x hx
      · simp at hx; rw [hx]; omega
    · rw [decide_eq_false hjl]
      simp (disch := first | omega | (simp only [Qn] <;> omega)) only [go_sem]
      refine ⟨n - (i + 1), by omega, i + 1, ex_junk rfl, by omega, fun k hk => ?_, rfl⟩
      by_cases e : k = i
      · subst e
        rw [hll]
        refine ⟨by omega, fun r hr => hrow r ?_⟩
        rw [List.take_of_length_le (by omega)]; exact hr
      · exact hgood k (by omega)
  · rw [decide_eq_false hlt]
    simp (disch := first | omega | (simp only [Qn] <;> omega)) only [go_sem]
    refine ⟨false, rfl, fun _ k hk => hgood k (by omega)⟩
end Go.Proofs.Ytonhijbeddcmpaa

/- The law MatrixCalls, walked. -/
namespace Go.Proofs.Ytonhijbeddcmpaa
open Go Go.Ay
set_option maxRecDepth 100000
theorem fit_none (q : Int) : Fit (q, []) := ⟨by simp, fun i hi => by simp at hi⟩
theorem fit_mk (q : Int) (r c : Nat) (f : Nat → Nat → Int) (hr : r < 1000000) (hc : c < 1000000) : Fit (q, mkR r c f) := by
  refine ⟨by simp only [mkR_len]; omega, fun i hi => ?_⟩
  simp only [mkR_len] at hi
  simp only
  rw [mkR_row _ hi, mkV_len]; omega
theorem one_i (k : IntKind) (n : Int) : (V.int k n).one = true := rfl
theorem blsV_1 (h : H) (p : Int) (u : V) (hu : u.one = true) : blsV h 2 [.int .i64 0, .nils] 1 [(0, 2, .agg [.int .i64 p, u])] = some (.sl h.next 0 1 (.kn 1), h.new (.cells false [.int .i64 p, u])) := by
  simp [blsV, fillV, zerosV, putAt, V.cells, one_i, hu, List.range_succ]
/-- A box whose content is named. -/
structure Mu (h : H) (id : Nat) (a : Mat) (u : V) : Prop where
  g : h.get id = some (.cells false [.int .i64 a.1, u])
  s : SR h u a.2
  lt : id < h.next
theorem Mu.mono {h h' : H} {id : Nat} {a : Mat} {u : V} (b : Mu h id a u) (f : Fr h h') : Mu h' id a u := ⟨(f.get id b.lt).trans b.g, b.s.mono f, Nat.lt_of_lt_of_le b.lt f.next⟩
theorem Mu.row {h : H} {id : Nat} {a : Mat} {u : V} (b : Mu h id a u) : h.row id 0 2 = some [.int .i64 a.1, u] := row_two b.g
theorem Mu.mv {h : H} {id : Nat} {a : Mat} {u : V} (b : Mu h id a u) : MatV h (.agg [.int .i64 a.1, u]) a := ⟨u, rfl, b.s⟩
theorem MB.row' {h : H} {id : Nat} {a : Mat} (b : MB h id a) : ∃ u, h.row id 0 2 = some [.int .i64 a.1, u] ∧ MatV h (.agg [.int .i64 a.1, u]) a := by
  obtain ⟨u, h1, h2, h3⟩ := b
  exact ⟨u, row_two h1, u, rfl, h2⟩
theorem MB.new' {h : H} {a : Mat} {u : V} (s : SR h u a.2) : MB (bxH h a.1 u) h.next a :=
  ⟨u, bxH_get h a.1 u, s.mono (bxH_fr h a.1 u), by rw [bxH_next]; omega⟩
end Go.Proofs.Ytonhijbeddcmpaa

/- The law MatrixValues, walked. -/
namespace Go.Proofs.Ytonhijbeddcmpaa
open Go Go.Ay
set_option maxRecDepth 100000
theorem fit_Inv {a : Mat} (ha : smallM a.2) : Fit (InvF a).1 := by
  have h1 := ha.1
  rw [InvF]
  split
  · exact fit_none 0
  · split
    · exact fit_none 0
    · exact fit_mk _ _ _ _ (by omega) (by omega)
theorem pwG_fit {n : Nat} (hn : n < 1000000) : ∀ f (out x : Mat) (left : Nat), out.2.length = n → Fit out → Fit (pwG n f out x left)
  | 0, out, x, left, _, h => h
  | f + 1, out, x, left, l, h => by
    rw [pwG]
    split
    · exact h
    · by_cases e : left % 2 = 1
      · rw [if_pos e]
        exact pwG_fit hn f _ _ _ (by rw [mulF, mkR_len]; exact l) (by rw [mulF]; exact fit_mk _ _ _ _ (by omega) hn)
      · rw [if_neg e]
        exact pwG_fit hn f _ _ _ l h
theorem fit_Pow {a : Mat} (ha : smallM a.2) (k : Int) : Fit (PowF a k).1 := by
  have h1 := ha.1
  rw [PowF]
  split
  · exact fit_none 0
  · split
    · exact fit_none 0
    · exact pwG_fit (by omega) _ _ _ _ (by rw [oneF, mkR_len]) (by rw [oneF]; exact fit_mk _ _ _ _ (by omega) (by omega))
theorem len_Poly {a : Mat} (ha : smallM a.2) : (PolyF a).1.length < 1000000 := by
  have h1 := ha.1
  rw [PolyF]
  split
  · simp
  · simp only [mkV_len]; omega
/-- A box whose content is named and came in. -/
structure Mk (h : H) (id : Nat) (a : Mat) (u : V) : Prop where
  g : h.get id = some (.cells false [.int .i64 a.1, u])
  s : SRk h u a.2
  lt : id < h.next
theorem Mk.mono {h h' : H} {id : Nat} {a : Mat} {u : V} (b : Mk h id a u) (f : Fr h h') : Mk h' id a u := ⟨(f.get id b.lt).trans b.g, b.s.mono f, Nat.lt_of_lt_of_le b.lt f.next⟩
theorem Mk.row {h : H} {id : Nat} {a : Mat} {u : V} (b : Mk h id a u) : h.row id 0 2 = some [.int .i64 a.1, u] := row_two b.g
theorem Mk.mv {h : H} {id : Nat} {a : Mat} {u : V} (b : Mk h id a u) : MatV h (.agg [.int .i64 a.1, u]) a := ⟨u, rfl, b.s.sr⟩
theorem Mk.kn {h : H} {id : Nat} {a : Mat} {u : V} (b : Mk h id a u) : MatK h (.agg [.int .i64 a.1, u]) a := ⟨u, rfl, b.s⟩
set_option maxHeartbeats 32000000 in
theorem values_ok (va : V) (A : Mat) (nn : Int) (h : H) (ha : MatK h va A) (la : (A.2.length : Int) ≤ 2 ^ 63 - 1) (hk : -9223372036854775808 ≤ nn ∧ nn < 9223372036854775808) :
    Ev T n_law04_MatrixValues [va, .int .i64 nn] h (fun v _ => v = .bool true) := by
  obtain ⟨u, rfl, hu⟩ := ha
  refine Ev_of t_law04_MatrixValues rfl ?_
  have uw := SV.what hu.sr.choose_spec.1
  simp (disch := first | omega | (simp only [Qn] <;> omega)) only [go_sem, c_law04_MatrixValues, initV_eq, boxV_agg2 h (v := .int .i64 A.1) rfl uw.2.1]
  have hfx : Fr h (h.new (.cells false [.int .i64 A.1, u])) := (Fr.refl h).new _
  have hgx : (h.new (.cells false [.int .i64 A.1, u])).get h.next = some (.cells false [.int .i64 A.1, u]) := H.get_new_same ..
  have hnx : (h.new (.cells false [.int .i64 A.1, u])).next = h.next + 1 := H.next_new ..
  generalize h.new (.cells false [.int .i64 A.1, u]) = hx at *
  have ga : Mk hx h.next A u := ⟨hgx, hu.mono hfx, by show h.next < hx.next; omega⟩
  clear hfx hgx hu
  generalize h.next = ia at *
  refine (lives_ok hx).mono ?_
  rintro v h0 ⟨rfl, f0⟩
  replace ga := ga.mono f0
  clear f0
  simp (disch := first | omega | (simp only [Qn] <;> omega)) only [go_sem, ga.row, blsV_1 _ _ _ uw.2.1]
  have hfz : Fr h0 (h0.new (.cells false [.int .i64 A.1, u])) := (Fr.refl h0).new _
  have hgz : (h0.new (.cells false [.int .i64 A.1, u])).get h0.next = some (.cells false [.int .i64 A.1, u]) := H.get_new_same ..
  have hnz : (h0.new (.cells false [.int .i64 A.1, u])).next = h0.next + 1 := H.next_new ..
  generalize h0.new (.cells false [.int .i64 A.1, u]) = hz at *
  replace ga := ga.mono hfz
  have c1 : hz.cell h0.next 1 = some u := by rw [H.cell_of hgz]; rfl
  clear hfz hgz
  generalize h0.next = iz at *
  refine (large_ok (.sl iz 0 1 (.kn 1)) iz 0 1 (fun i => u) (fun i => A.2) hz ⟨rfl, fun k i h1 h2 => ixaV_sl h1 h2, rfl, rfl⟩ (fun i hi => ?_) (fun i hi => ?_) (fun i hi => ?_) (by omega)).mono ?_
  · obtain rfl : i = 0 := by omega
    exact c1
  · exact ga.s.sr
  · exact la
  clear c1
  rintro v hq ⟨rfl, b, rfl, hb⟩
  cases b with
  | true =>
    simp (disch := first | omega | (simp only [Qn] <;> omega)) only [go_sem]
  | false =>
  have sA : smallM A.2 := hb rfl 0 (by omega)
  simp (disch := first | omega | (simp only [Qn] <;> omega)) only [go_sem]
  clear hb
  obtain ⟨X0, hX0⟩ : ∃ X, InvF A = X := ⟨_, rfl⟩
  have l0 := fit_Inv sA
  rw [hX0] at l0
  obtain ⟨X1, hX1⟩ : ∃ X, PowF A nn = X := ⟨_, rfl⟩
  have l1 := fit_Pow sA nn
  rw [hX1] at l1
  obtain ⟨X9, hX9⟩ : ∃ X, PolyF A = X := ⟨_, rfl⟩
  have l9 := len_Poly sA
  rw [hX9] at l9
  obtain ⟨X7, hX7⟩ : ∃ X, DetF A = X := ⟨_, rfl⟩
  obtain ⟨X8, hX8⟩ : ∃ X, TraceF A = X := ⟨_, rfl⟩
  simp (disch := first | omega | (simp only [Qn] <;> omega)) only [go_sem, ga.row]
  refine (Det_ok _ A _ ga.mv la).mono ?_
  rintro v h10 ⟨rfl, f0⟩
  rw [hX7]
  replace ga := ga.mono f0
  clear f0
  try simp (disch := first | omega | (simp only [Qn] <;> omega)) only [go_sem, List.getElem?_cons_zero, List.getElem?_cons_succ]
  simp (disch := first | omega | (simp only [Qn] <;> omega)) only [go_sem, ga.row]
  refine (ref_Det_ok _ A _ ga.kn la).mono ?_
  rintro v h11 ⟨rfl, f1⟩
  rw [hX7]
  replace ga := ga.mono f1
  clear f1
  try simp (disch := first | omega | (simp only [Qn] <;> omega)) only [go_sem, List.getElem?_cons_zero, List.getElem?_cons_succ]
  simp (disch := first | omega | (simp only [Qn] <;> omega)) only [go_sem, ga.row]
  refine (Trace_ok _ A _ ga.mv la).mono ?_
  rintro v h12 ⟨rfl, f2⟩
  rw [hX8]
  replace ga := ga.mono f2
  clear f2
  try simp (disch := first | omega | (simp only [Qn] <;> omega)) only [go_sem, List.getElem?_cons_zero, List.getElem?_cons_succ]
  simp (disch := first | omega | (simp only [Qn] <;> omega)) only [go_sem, ga.row]
  refine (ref_Trace_ok _ A _ ga.mv la).mono ?_
  rintro v h13 ⟨rfl, f3⟩
  rw [hX8]
  replace ga := ga.mono f3
  clear f3
  try simp (disch := first | omega | (simp only [Qn] <;> omega)) only [go_sem, List.getElem?_cons_zero, List.getElem?_cons_succ]
  simp (disch := first | omega | (simp only [Qn] <;> omega)) only [go_sem, ga.row]
  refine (Poly_ok _ A _ ga.mv la).mono ?_
  rintro v h14 ⟨z4, rfl, s4, f4⟩
  rw [hX9] at s4
  rw [hX9]
  replace ga := ga.mono f4
  clear f4
  try simp (disch := first | omega | (simp only [Qn] <;> omega)) only [go_sem, List.getElem?_cons_zero, List.getElem?_cons_succ]
  simp (disch := first | omega | (simp only [Qn] <;> omega)) only [go_sem, ga.row]
  refine (ref_Poly_ok _ A _ ga.kn la).mono ?_
  rintro v h15 ⟨z5, rfl, s5, f5⟩
  rw [hX9] at s5
  rw [hX9]
  replace ga := ga.mono f5
  replace s4 := s4.mono f5
  clear f5
  try simp (disch := first | omega | (simp only [Qn] <;> omega)) only [go_sem, List.getElem?_cons_zero, List.getElem?_cons_succ]
  simp (disch := first | omega | (simp only [Qn] <;> omega)) only [go_sem, ga.row]
  refine (Inv_ok _ A _ ga.mv la).mono ?_
  rintro v h16 ⟨z, rfl, ⟨u6, ws6, rfl, R6⟩, f6⟩
  rw [hX0] at R6
  rw [hX0]
  replace R6 := R6.sr
  have st := fun hh id => stV_agg2 hh id 0 (v := .int .i64 X0.1.1) (u := u6) rfl (SV.what R6.choose_spec.1).2.1
  simp (disch := first | omega | (simp only [Qn] <;> omega)) only [go_sem, st, bxH_eq, List.getElem?_cons_zero, List.getElem?_cons_succ]
  have fx := f6.trans (bxH_fr h16 X0.1.1 u6)
  replace ga := ga.mono fx
  replace s4 := s4.mono fx
  replace s5 := s5.mono fx
  have b6 := MB.new' (h := h16) (a := X0.1) R6
  clear fx st f6 R6
  generalize bxH h16 X0.1.1 u6 = k16 at *
  generalize h16.next = j6 at *
  simp (disch := first | omega | (simp only [Qn] <;> omega)) only [go_sem, ga.row]
  refine (ref_Inv_ok _ A _ ga.mv la).mono ?_
  rintro v h17 ⟨z, rfl, ⟨u7, ws7, rfl, R7⟩, f7⟩
  rw [hX0] at R7
  rw [hX0]
  replace R7 := R7.sr
  have st := fun hh id => stV_agg2 hh id 0 (v := .int .i64 X0.1.1) (u := u7) rfl (SV.what R7.choose_spec.1).2.1
  simp (disch := first | omega | (simp only [Qn] <;> omega)) only [go_sem, st, bxH_eq, List.getElem?_cons_zero, List.getElem?_cons_succ]
  have fx := f7.trans (bxH_fr h17 X0.1.1 u7)
  replace ga := ga.mono fx
  replace b6 := b6.mono fx
  replace s4 := s4.mono fx
  replace s5 := s5.mono fx
  have b7 := MB.new' (h := h17) (a := X0.1) R7
  clear fx st f7 R7
  generalize bxH h17 X0.1.1 u7 = k17 at *
  generalize h17.next = j7 at *
  simp (disch := first | omega | (simp only [Qn] <;> omega)) only [go_sem, ga.row]
  refine (Pow_ok _ A nn _ ga.mv la hk).mono ?_
  rintro v h18 ⟨z, rfl, ⟨u8, rfl, R8⟩, f8⟩
  rw [hX1] at R8
  rw [hX1]
  have st := fun hh id => stV_agg2 hh id 0 (v := .int .i64 X1.1.1) (u := u8) rfl (SV.what R8.choose_spec.1).2.1
  simp (disch := first | omega | (simp only [Qn] <;> omega)) only [go_sem, st, bxH_eq, List.getElem?_cons_zero, List.getElem?_cons_succ]
  have fx := f8.trans (bxH_fr h18 X1.1.1 u8)
  replace ga := ga.mono fx
  replace b6 := b6.mono fx
  replace b7 := b7.mono fx
  replace s4 := s4.mono fx
  replace s5 := s5.mono fx
  have b8 := MB.new' (h := h18) (a := X1.1) R8
  clear fx st f8 R8
  generalize bxH h18 X1.1.1 u8 = k18 at *
  generalize h18.next = j8 at *
  simp (disch := first | omega | (simp only [Qn] <;> omega)) only [go_sem, ga.row]
  refine (ref_Pow_ok _ A nn _ ga.mv la hk).mono ?_
  rintro v h19 ⟨z, rfl, ⟨u9, rfl, R9⟩, f9⟩
  rw [hX1] at R9
  rw [hX1]
  have st := fun hh id => stV_agg2 hh id 0 (v := .int .i64 X1.1.1) (u := u9) rfl (SV.what R9.choose_spec.1).2.1
  simp (disch := first | omega | (simp only [Qn] <;> omega)) only [go_sem, st, bxH_eq, List.getElem?_cons_zero, List.getElem?_cons_succ]
  have fx := f9.trans (bxH_fr h19 X1.1.1 u9)
  replace ga := ga.mono fx
  replace b6 := b6.mono fx
  replace b7 := b7.mono fx
  replace b8 := b8.mono fx
  replace s4 := s4.mono fx
  replace s5 := s5.mono fx
  have b9 := MB.new' (h := h19) (a := X1.1) R9
  clear fx st f9 R9
  generalize bxH h19 X1.1.1 u9 = k19 at *
  generalize h19.next = j9 at *
  try simp (disch := first | omega | (simp only [Qn] <;> omega)) only [go_sem, decide_true]
  refine (same_ok _ _ X9.1 X9.1 _ s4 s5 l9 l9).mono ?_
  rintro v k20 ⟨rfl, f10⟩
  replace ga := ga.mono f10
  replace b6 := b6.mono f10
  replace b7 := b7.mono f10
  replace b8 := b8.mono f10
  replace b9 := b9.mono f10
  replace s4 := s4.mono f10
  replace s5 := s5.mono f10
  clear f10
  try simp (disch := first | omega | (simp only [Qn] <;> omega)) only [go_sem, decide_true]
  obtain ⟨y11a, r11a, q11a⟩ := b6.row'
  obtain ⟨y11b, r11b, q11b⟩ := b7.row'
  simp (disch := first | omega | (simp only [Qn] <;> omega)) only [go_sem, decide_true, r11a, r11b]
  refine (Same_ok _ _ X0.1 X0.1 _ q11a q11b l0 l0).mono ?_
  rintro v k21 ⟨rfl, f11⟩
  replace ga := ga.mono f11
  replace b6 := b6.mono f11
  replace b7 := b7.mono f11
  replace b8 := b8.mono f11
  replace b9 := b9.mono f11
  replace s4 := s4.mono f11
  replace s5 := s5.mono f11
  clear f11
  try simp (disch := first | omega | (simp only [Qn] <;> omega)) only [go_sem, decide_true]
  obtain ⟨y12a, r12a, q12a⟩ := b8.row'
  obtain ⟨y12b, r12b, q12b⟩ := b9.row'
  simp (disch := first | omega | (simp only [Qn] <;> omega)) only [go_sem, decide_true, r12a, r12b]
  refine (Same_ok _ _ X1.1 X1.1 _ q12a q12b l1 l1).mono ?_
  rintro v k22 ⟨rfl, f12⟩
  replace ga := ga.mono f12
  replace b6 := b6.mono f12
  replace b7 := b7.mono f12
  replace b8 := b8.mono f12
  replace b9 := b9.mono f12
  replace s4 := s4.mono f12
  replace s5 := s5.mono f12
  clear f12
  try simp (disch := first | omega | (simp only [Qn] <;> omega)) only [go_sem, decide_true]
end Go.Proofs.Ytonhijbeddcmpaa

