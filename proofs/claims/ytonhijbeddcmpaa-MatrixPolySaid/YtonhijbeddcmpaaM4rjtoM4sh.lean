/- Layer 4: powers. Layer 4: determinants, inverses and powers of valid square matrices. Layer 4: what MatrixPoly needs. The law MatrixPoly, walked. -/
import Derived.Test.YtonhijbeddcmpaaM4rftoM4sf
/- Layer 4: powers. -/
namespace Go.Proofs.Ytonhijbeddcmpaa
open Go Go.Ay
set_option maxRecDepth 100000
theorem wrap_u64 {n : Int} (h1 : 0 ≤ n) (h2 : n < 18446744073709551616) : IntKind.u64.wrap n = n := by
  have : IntKind.u64.wrap n = n % 18446744073709551616 := by
    simp [IntKind.wrap, IntKind.bits, IntKind.signed]
  rw [this, Int.emod_eq_of_lt h1 h2]
theorem wrap_u64_neg {n : Int} (h1 : -18446744073709551616 ≤ n) (h2 : n < 0) : IntKind.u64.wrap n = n + 18446744073709551616 := by
  have : IntKind.u64.wrap n = n % 18446744073709551616 := by
    simp [IntKind.wrap, IntKind.bits, IntKind.signed]
  rw [this, ← Int.add_emod_right, Int.emod_eq_of_lt (by omega) (by omega)]
def pwG (n : Nat) : Nat → Mat → Mat → Nat → Mat
  | 0, out, _, _ => out
  | f + 1, out, x, left => if left = 0 then out else pwG n f (if left % 2 = 1 then mulF out x n n else out) (mulF x x n n) (left / 2)
noncomputable def PowF (a : Mat) (k : Int) : Mat × Int :=
  if sqF a ≠ 0 then ((0, []), sqF a)
  else if k < 0 ∧ (InvF a).2 ≠ 0 then ((0, []), (InvF a).2)
  else (pwG a.2.length 64 (oneF a.2.length a.1) (if k < 0 then (InvF a).1 else a) k.natAbs, 0)
/-- A unit has an inverse. -/
theorem inv_ex {p : Int} (hp : isP p = true) {m : Nat} {A : Mx} (hd : det (m + 1) A % p ≠ 0) : ∃ X, IsInv p (m + 1) A X := by
  have P := isP_pr hp
  have h2 := P.two
  have hr := tmod_range (det (m + 1) A) (show 0 < p by omega)
  have f := fermat P (a := det (m + 1) A % p) (by omega) (by omega)
  rw [show (p.toNat : Int) = p by omega] at f
  obtain ⟨e, he⟩ : ∃ e, (det (m + 1) A % p) ^ (p.toNat - 2) = e := ⟨_, rfl⟩
  rw [he] at f
  have em : ∀ a : Int, a % p % p = a % p := fun a => Int.emod_emod_of_dvd _ (Int.dvd_refl p)
  have f2 : e * det (m + 1) A % p = 1 := by
    rw [Int.mul_comm, mul_mod (em (det (m + 1) A)).symm (rfl : e % p = e % p)]; exact f
  refine ⟨fun i j => e * adjM m A i j % p, fun i j _ _ => (tmod_range _ (by omega)).1, fun i j _ _ => (tmod_range _ (by omega)).2, fun i j hi hj => ?_⟩
  rw [mulM_mod (A' := fun i j => e * adjM m A i j) (B' := A) (fun k _ => em _) (fun _ _ => rfl)]
  have e1 : mulM (m + 1) (fun i j => e * adjM m A i j) A i j = e * mulM (m + 1) (adjM m A) A i j := by
    simp only [mulM]
    rw [← sm_mul]
    exact sm_congr fun k _ => by rw [Int.mul_assoc]
  rw [e1, adj_mul A hi hj]
  simp only [idM]
  split
  · rw [f2]; exact (one_mod (by omega)).symm
  · rw [Int.mul_zero]
theorem inv_vd {a : Mat} (h : (InvF a).2 = 0) : ∃ X, IsInv a.1 a.2.length (ent a.2) X ∧ (InvF a).1 = (a.1, mkR a.2.length a.2.length X) ∧ InP a.1 a.2.length X := by
  have hz := inv_sq h
  have da := sq_vd hz
  have hd : ¬ det a.2.length (ent a.2) % a.1 = 0 := fun e => by
    rw [InvF, if_neg (by simp [hz]), if_pos e] at h
    cases h
  obtain ⟨m, hm⟩ : ∃ m, a.2.length = m + 1 := ⟨a.2.length - 1, by have := da.r1; omega⟩
  have hP : isP a.1 = true := by
    have := da.p
    simp only [fieldF, Bool.and_eq_true] at this; exact this.2
  rw [InvF, if_neg (by simp [hz]), if_neg hd]
  rw [hm] at hd ⊢
  obtain ⟨X, hX⟩ := inv_ex hP hd
  exact ⟨X, hX, by rw [invX_eq hX], fun i k hi hk => ⟨hX.lo i k hi hk, hX.hi i k hi hk⟩⟩
/-- A slice in no block of the list. -/
def Away (bad : List Nat) (v : V) : Prop := ∀ id off n c, v = .sl id off n c → id ∉ bad
/-- Rows in no block of the list. -/
def SRa (h : H) (u : V) (ll : List (List Int)) (bad : List Nat) : Prop := ∃ ws, SV h u 1 ws ∧ All2 (SI h) ws ll ∧ Away bad u ∧ ∀ w ∈ ws, Away bad w
theorem SRa.sr {h : H} {u : V} {ll : List (List Int)} {bad : List Nat} (s : SRa h u ll bad) : SR h u ll := by
  obtain ⟨ws, h1, h2, _⟩ := s; exact ⟨ws, h1, h2⟩
theorem SRa.fr {h h' : H} {u : V} {ll : List (List Int)} {bad : List Nat} (s : SRa h u ll bad) (f : Fr h h') : SRa h' u ll bad := by
  obtain ⟨ws, h1, h2, h3, h4⟩ := s
  exact ⟨ws, h1.mono f, h2.mono fun _ _ x => x.mono f, h3, h4⟩
theorem SRa.set {h : H} {u : V} {ll : List (List Int)} {bad : List Nat} (s : SRa h u ll bad) {x : Nat} (hx : x ∈ bad) (o : Option Ob) : SRa (h.set x o) u ll bad := by
  obtain ⟨ws, h1, h2, h3, h4⟩ := s
  refine ⟨ws, ?_, All2.keep h2 fun w hw _ q => SI.keep q (Nat.le_refl _) fun id off n c e => H.get_set_ne h (fun e2 => h4 w hw _ _ _ _ e (by rw [e2]; exact hx)) o, h3, h4⟩
  rcases h1 with h1 | ⟨id, off, len, cap, ro, vs, q1, q2, q3, q4, q5, q6⟩
  · exact .inl h1
  · exact .inr ⟨id, off, len, cap, ro, vs, q1, q2, q3, by rw [H.get_set_ne h (fun e2 => h3 _ _ _ _ q1 (by rw [e2]; exact hx))]; exact q4, q5, q6⟩
theorem SV.lt {h : H} {v : V} {sz : Nat} {ws : List V} (s : SV h v sz ws) {id off n : Nat} {c : Cap} (e : v = .sl id off n c) : id < h.next := by
  rcases s with ⟨h1 | ⟨_, h1⟩, _⟩ | ⟨id', o', l', c', _, _, h1, _, h3, _⟩
  · rw [h1] at e; cases e
  · rw [h1] at e; cases e
  · rw [h1] at e; cases e; exact h3
theorem all2_lt {h : H} {ws : List V} {ll : List (List Int)} (a : All2 (SI h) ws ll) {w : V} (hw : w ∈ ws) {id off n : Nat} {c : Cap} (e : w = .sl id off n c) : id < h.next := by
  obtain ⟨i, hi, rfl⟩ := List.mem_iff_getElem.1 hw
  exact SI.lt (a.get i hi (by rw [← a.length]; exact hi)) e
/-- From of old. -/
theorem SRa.old {h : H} {u : V} {ll : List (List Int)} {bad : List Nat} (s : SR h u ll) (hb : ∀ b ∈ bad, h.next ≤ b) : SRa h u ll bad := by
  obtain ⟨ws, h1, h2⟩ := s
  exact ⟨ws, h1, h2, fun id off n c e hm => by have := SV.lt h1 e; have := hb id hm; omega, fun w hw id off n c e hm => by have := all2_lt h2 hw e; have := hb id hm; omega⟩
/-- New. -/
theorem SRa.new {h : H} {u : V} {ws : List V} {ll : List (List Int)} {lo : Nat} {bad : List Nat} (r : Rws h u ws ll lo) (hb : ∀ b ∈ bad, b < lo ∨ h.next ≤ b) : SRa h u ll bad :=
  ⟨ws, r.own.sv, r.row, fun id off n c e hm => by
    have := SV.lt r.own.sv e
    have := Frs.own r.own _ _ _ _ e
    have := hb id hm; omega, fun w hw id off n c e hm => by
    have := all2_lt r.row hw e
    have := r.frs w hw _ _ _ _ e
    have := hb id hm; omega⟩
structure PI0 (p : Int) (n : Nat) (rc : LRec) (L6 O9 XB LID A3 : Nat) (base : H) (left : Nat) (out x : Mat) (uo ux : V) (hh : H) : Prop where
  gL : hh.get LID = some (.loop rc)
  g6 : hh.get L6 = some (.cells false [.int .u64 (left : Int)])
  g9 : hh.get O9 = some (.cells false [.int .i64 p, uo])
  gX : hh.get XB = some (.cells false [.int .i64 p, ux])
  so : SRa hh uo out.2 [L6, O9, XB, LID, A3]
  sx : SRa hh ux x.2 [L6, O9, XB, LID, A3]
  o1 : out.1 = p
  x1 : x.1 = p
  vo : Vd out n
  vx : Vd x n
  lo : out.2.length = n
  lx : x.2.length = n
  lt : LID < hh.next
  fr : Fr base hh
def DN (p : Int) (rc : LRec) (O9 LID : Nat) (RES : Mat) (base : H) (L6 XB A3 : Nat) (hh : H) : Prop := ∃ uo, hh.get LID = some (.loop { rc with st := .done, pend := some (.exit 0) }) ∧ hh.get O9 = some (.cells false [.int .i64 p, uo]) ∧ SRa hh uo RES.2 [L6, O9, XB, LID, A3] ∧ Fr base hh ∧ RES.1 = p
theorem PI0.set {p : Int} {n : Nat} {rc : LRec} {L6 O9 XB LID A3 : Nat} {base : H} {left : Nat} {out x : Mat} {uo ux : V} {hh : H} (k : PI0 p n rc L6 O9 XB LID A3 base left out x uo ux hh) (hs : base.next ≤ L6 ∧ L6 < O9 ∧ O9 < XB ∧ XB < LID) (rc' : LRec) : PI0 p n rc' L6 O9 XB LID A3 base left out x uo ux (hh.set LID (some (.loop rc'))) :=
  ⟨H.get_set_same .., by rw [H.get_set_ne _ (by omega)]; exact k.g6, by rw [H.get_set_ne _ (by omega)]; exact k.g9, by rw [H.get_set_ne _ (by omega)]; exact k.gX, k.so.set (by simp) _, k.sx.set (by simp) _, k.o1, k.x1, k.vo, k.vx, k.lo, k.lx, k.lt, k.fr.set (by omega) _⟩
theorem SRa.ext {h : H} {u : V} {ll : List (List Int)} {bad bad' : List Nat} (s : SRa h u ll bad) (hb : ∀ b ∈ bad', b ∈ bad ∨ h.next ≤ b) : SRa h u ll bad' := by
  obtain ⟨ws, h1, h2, h3, h4⟩ := s
  refine ⟨ws, h1, h2, fun id off n c e hm => ?_, fun w hw id off n c e hm => ?_⟩
  · rcases hb id hm with q | q
    · exact h3 _ _ _ _ e q
    · have := SV.lt h1 e; omega
  · rcases hb id hm with q | q
    · exact h4 w hw _ _ _ _ e q
    · have := all2_lt h2 hw e; omega
theorem iteW_then {p : Nat → Option Ay.Fn} {rd : Option Nat} {a b c : C} {vars : List V} {h : H} {Q : E → List V → H → Prop} {v : V} (J : List V → H → Prop) (h1 : iteW p rd a b vars h (fun e vs h' => e = .norm ∧ J vs h' ∨ e ≠ .norm ∧ Q e vs h') v) (h2 : ∀ vs h', J vs h' → Wp p rd c vs h' Q) : iteW p rd a b vars h (thenP p rd c Q) v := by
  have key : ∀ e vs h', (e = .norm ∧ J vs h' ∨ e ≠ .norm ∧ Q e vs h') → thenP p rd c Q e vs h' := fun e vs h' q => by
    rcases q with ⟨rfl, q⟩ | ⟨hne, q⟩
    · exact h2 vs h' q
    · cases e
      · exact absurd rfl hne
      · exact q
      · exact q
  cases v with
  | bool t =>
    cases t
    · exact Wp.mono (show Wp p rd b vars h _ from h1) key
    · exact Wp.mono (show Wp p rd a vars h _ from h1) key
  | _ => exact (show False from h1).elim
theorem PI0.frm {p : Int} {n : Nat} {rc : LRec} {L6 O9 XB LID A3 : Nat} {base : H} {left : Nat} {out x : Mat} {uo ux : V} {hh h' : H} (k : PI0 p n rc L6 O9 XB LID A3 base left out x uo ux hh) (hs : base.next ≤ L6 ∧ L6 < O9 ∧ O9 < XB ∧ XB < LID) (f : Fr hh h') : PI0 p n rc L6 O9 XB LID A3 base left out x uo ux h' := by
  have ltL := k.lt
  exact ⟨(f.get _ (by omega)).trans k.gL, (f.get _ (by omega)).trans k.g6, (f.get _ (by omega)).trans k.g9, (f.get _ (by omega)).trans k.gX, k.so.fr f, k.sx.fr f, k.o1, k.x1, k.vo, k.vx, k.lo, k.lx, Nat.lt_of_lt_of_le k.lt f.next, k.fr.trans f⟩
theorem PI0.setO {p : Int} {n : Nat} {rc : LRec} {L6 O9 XB LID A3 : Nat} {base : H} {left : Nat} {out x out' : Mat} {uo ux uo' : V} {hh : H} (k : PI0 p n rc L6 O9 XB LID A3 base left out x uo ux hh) (hs : base.next ≤ L6 ∧ L6 < O9 ∧ O9 < XB ∧ XB < LID) (so : SRa hh uo' out'.2 [L6, O9, XB, LID, A3]) (o1 : out'.1 = p) (vo : Vd out' n) (lo : out'.2.length = n) : PI0 p n rc L6 O9 XB LID A3 base left out' x uo' ux (hh.set O9 (some (.cells false [.int .i64 p, uo']))) :=
  ⟨by rw [H.get_set_ne _ (by omega)]; exact k.gL, by rw [H.get_set_ne _ (by omega)]; exact k.g6, H.get_set_same .., by rw [H.get_set_ne _ (by omega)]; exact k.gX, so.set (by simp) _, k.sx.set (by simp) _, o1, k.x1, vo, k.vx, lo, k.lx, k.lt, k.fr.set (by omega) _⟩
theorem PI0.setX {p : Int} {n : Nat} {rc : LRec} {L6 O9 XB LID A3 : Nat} {base : H} {left : Nat} {out x x' : Mat} {uo ux ux' : V} {hh : H} (k : PI0 p n rc L6 O9 XB LID A3 base left out x uo ux hh) (hs : base.next ≤ L6 ∧ L6 < O9 ∧ O9 < XB ∧ XB < LID) (sx : SRa hh ux' x'.2 [L6, O9, XB, LID, A3]) (x1 : x'.1 = p) (vx : Vd x' n) (lx : x'.2.length = n) : PI0 p n rc L6 O9 XB LID A3 base left out x' uo ux' (hh.set XB (some (.cells false [.int .i64 p, ux']))) :=
  ⟨by rw [H.get_set_ne _ (by omega)]; exact k.gL, by rw [H.get_set_ne _ (by omega)]; exact k.g6, by rw [H.get_set_ne _ (by omega)]; exact k.g9, H.get_set_same .., k.so.set (by simp) _, sx.set (by simp) _, k.o1, x1, k.vo, vx, k.lo, lx, k.lt, k.fr.set (by omega) _⟩
theorem PI0.setL {p : Int} {n : Nat} {rc : LRec} {L6 O9 XB LID A3 : Nat} {base : H} {left : Nat} {out x : Mat} {uo ux : V} {hh : H} (k : PI0 p n rc L6 O9 XB LID A3 base left out x uo ux hh) (hs : base.next ≤ L6 ∧ L6 < O9 ∧ O9 < XB ∧ XB < LID) (left' : Nat) : PI0 p n rc L6 O9 XB LID A3 base left' out x uo ux (hh.set L6 (some (.cells false [.int .u64 (left' : Int)]))) :=
  ⟨by rw [H.get_set_ne _ (by omega)]; exact k.gL, H.get_set_same .., by rw [H.get_set_ne _ (by omega)]; exact k.g9, by rw [H.get_set_ne _ (by omega)]; exact k.gX, k.so.set (by simp) _, k.sx.set (by simp) _, k.o1, k.x1, k.vo, k.vx, k.lo, k.lx, k.lt, k.fr.set (by omega) _⟩
theorem squares_ok (p : Int) (u : V) (h : H) (hu : u.one = true) : Ev T n_matrix_squares [.agg [.int .i64 p, u]] h (fun v h' => v = .fn 87 [] [.ptr h.next 0] ∧ h' = h.new (.cells false [.int .i64 p, u])) := by
  refine Ev_of t_matrix_squares rfl ?_
  simp (disch := first | omega | (simp only [Qn] <;> omega)) only [go_sem, c_matrix_squares, initV_eq, boxV_agg2 h (v := .int .i64 p) rfl hu]
set_option maxHeartbeats 16000000 in
theorem Pow_ok (va : V) (a : Mat) (k : Int) (h : H) (ha : MatV h va a) (la : (a.2.length : Int) ≤ 2 ^ 63 - 1) (hk : -9223372036854775808 ≤ k ∧ k < 9223372036854775808) :
    Ev T n_matrix_Pow [va, .int .i64 k] h (fun v h' => ∃ w, v = .tup [w, .int .i64 (PowF a k).2] ∧ MatV h' w (PowF a k).1 ∧ Fr h h') := by
  obtain ⟨ua, rfl, hua⟩ := ha
  refine Ev_of t_matrix_Pow rfl ?_
  have wa := SV.what hua.choose_spec.1
  simp (disch := first | omega | (simp only [Qn] <;> omega)) only [go_sem, c_matrix_Pow, initV_eq, boxV_agg2 h (v := .int .i64 a.1) rfl wa.2.1]
  have hfx : Fr h (h.new (.cells false [.int .i64 a.1, ua])) := (Fr.refl h).new _
  have hgx : (h.new (.cells false [.int .i64 a.1, ua])).get h.next = some (.cells false [.int .i64 a.1, ua]) := H.get_new_same ..
  have hnx : (h.new (.cells false [.int .i64 a.1, ua])).next = h.next + 1 := H.next_new ..
  generalize h.new (.cells false [.int .i64 a.1, ua]) = hx at *
  have hfy : Fr hx (hx.new (.cells false [.int .i64 0, .nils])) := (Fr.refl hx).new _
  have hgy : (hx.new (.cells false [.int .i64 0, .nils])).get hx.next = some (.cells false [.int .i64 0, .nils]) := H.get_new_same ..
  have hny : (hx.new (.cells false [.int .i64 0, .nils])).next = hx.next + 1 := H.next_new ..
  generalize hx.new (.cells false [.int .i64 0, .nils]) = hy at *
  have F := hfx.trans hfy
  have gx := (hfy.get h.next (by omega)).trans hgx
  simp (disch := first | omega | (simp only [Qn] <;> omega)) only [go_sem, row_two gx]
  refine (square_ok _ a hy ⟨ua, rfl, hua.mono F⟩ la).mono ?_
  rintro v h5 ⟨rfl, f5⟩
  have F5 := F.trans f5
  have gx5 := (f5.get h.next (by omega)).trans gx
  have gy5 := (f5.get hx.next (by omega)).trans hgy
  have n5 := f5.next
  rw [← hnx]
  obtain ⟨A2, hA2⟩ : ∃ A2, h.next = A2 := ⟨_, rfl⟩
  obtain ⟨A3, hA3⟩ : ∃ A3, hx.next = A3 := ⟨_, rfl⟩
  rw [hA2] at gx5
  rw [hA3] at gy5
  rw [hA2, hA3]
  have hst0 := fun hh => stV_agg2 hh A3 0 (v := .int .i64 0) (u := .nils) rfl rfl
  simp (disch := first | omega | (simp only [Qn] <;> omega)) only [go_sem]
  refine iteW_dec (fun he => ?_) (fun he => ?_)
  · have hrow := row_two (h := h5.set A3 (some (.cells false [.int .i64 0, .nils]))) (H.get_set_same ..)
    simp (disch := first | omega | (simp only [Qn] <;> omega)) only [go_sem, bldV_nil, hst0, gy5, hrow]
    have e : PowF a k = ((0, []), sqF a) := by rw [PowF, if_pos he]
    rw [e]
    exact ⟨_, rfl, ⟨.nils, rfl, SR.nils _⟩, F5.set (by omega) _⟩
  have hz : sqF a = 0 := Classical.byContradiction he
  have da := sq_vd hz
  obtain ⟨n, hn⟩ : ∃ n, a.2.length = n := ⟨_, rfl⟩
  rw [hn] at da
  have hr1 := da.r1
  have hr2 := da.r2
  rw [hn] at hr1 hr2
  have hp := fieldF_range da.p
  have hst6 := fun hh id (z : Int) => stV_one (y := .int .u64 z) rfl rfl hh id 0
  simp (disch := first | omega | (simp only [Qn] <;> omega)) only [go_sem]
  obtain ⟨L6, hL6⟩ : ∃ L6, h5.next = L6 := ⟨_, rfl⟩
  obtain ⟨w, hw⟩ : ∃ w, IntKind.u64.wrap k = w := ⟨_, rfl⟩
  rw [hL6, hw]
  have fB : Fr h5 ((h5.new (.cells false [.int .u64 0])).set L6 (some (.cells false [.int .u64 w]))) := ((Fr.refl h5).new _).set (by omega) _
  have gB : ((h5.new (.cells false [.int .u64 0])).set L6 (some (.cells false [.int .u64 w]))).get L6 = some (.cells false [.int .u64 w]) := H.get_set_same ..
  have nB : ((h5.new (.cells false [.int .u64 0])).set L6 (some (.cells false [.int .u64 w]))).next = L6 + 1 := by rw [H.next_set, H.next_new, hL6]
  generalize (h5.new (.cells false [.int .u64 0])).set L6 (some (.cells false [.int .u64 w])) = hB at *
  have gxB := (fB.get A2 (by omega)).trans gx5
  have gyB := (fB.get A3 (by omega)).trans gy5
  have sB := hua.mono (F5.trans fB)
  refine iteW_then (fun vs h7 => ∃ (b : Mat) (ub : V) (m : Nat), (∃ g : Nat → V, vs = [g 0, g 1, .ptr A2 0, .ptr A3 0, g 4, g 5, .ptr L6 0, g 7, g 8, g 9, g 10, g 11, g 12, g 13, g 14, g 15, g 16, g 17]) ∧ h7.get A2 = some (.cells false [.int .i64 a.1, ub]) ∧ h7.get L6 = some (.cells false [.int .u64 (m : Int)]) ∧ h7.get A3 = some (.cells false [.int .i64 0, .nils]) ∧ SRa h7 ub b.2 [A2, A3, L6] ∧ Vd b n ∧ b.1 = a.1 ∧ b.2.length = n ∧ m ≤ 9223372036854775808 ∧ Fr h h7 ∧ L6 < h7.next ∧ PowF a k = (pwG n 64 (oneF n a.1) b m, 0)) ?_ ?_
  · refine iteW_dec (fun hneg => ?_) (fun hneg => ?_)
    · simp (disch := first | omega | (simp only [Qn] <;> omega)) only [go_sem, row_two gxB]
      refine (Inv_ok _ a hB ⟨ua, rfl, sB⟩ la).mono ?_
      rintro v h7 ⟨wi, rfl, ⟨ui, wsi, rfl, RI⟩, f7⟩
      have vi := SV.what RI.own.sv
      have hst7 := fun hh id => stV_agg2 hh id 0 (v := .int .i64 (InvF a).1.1) (u := ui) rfl vi.2.1
      simp (disch := first | omega | (simp only [Qn] <;> omega)) only [go_sem, hst7, bxH_eq]
      have fC := bxH_fr h7 (InvF a).1.1 ui
      have gC := bxH_get h7 (InvF a).1.1 ui
      have nC := bxH_next h7 (InvF a).1.1 ui
      have RC := RI.fr fC
      generalize bxH h7 (InvF a).1.1 ui = hC at *
      have fBC := f7.trans fC
      have n7 := f7.next
      have gyC := (fBC.get A3 (by omega)).trans gyB
      have gxC := (fBC.get A2 (by omega)).trans gxB
      have g6C := (fBC.get L6 (by omega)).trans gB
      refine iteW_dec (fun he1 => ?_) (fun he1 => ?_)
      · have hrow := row_two (h := hC.set A3 (some (.cells false [.int .i64 0, .nils]))) (H.get_set_same ..)
        simp (disch := first | omega | (simp only [Qn] <;> omega)) only [go_sem, bldV_nil, hst0, gyC]
        have e : PowF a k = ((0, []), (InvF a).2) := by rw [PowF, if_neg (by simp [hz]), if_pos ⟨hneg, he1⟩]
        have hrow := row_two (h := hC.set A3 (some (.cells false [.int .i64 0, .nils]))) (H.get_set_same ..)
        refine .inr ⟨(fun q => nomatch q), ?_⟩
        simp (disch := first | omega | (simp only [Qn] <;> omega)) only [go_sem, hrow]
        rw [e]
        exact ⟨_, rfl, ⟨.nils, rfl, SR.nils _⟩, ((F5.trans fB).trans fBC).set (by omega) _⟩
      · have rC := row_two gC
        have hstA := fun hh => stV_agg2 hh A2 0 (v := .int .i64 (InvF a).1.1) (u := ui) rfl vi.2.1
        have rCb : (H.mk hC.tr (hC.next + 5)).row h7.next 0 2 = some [.int .i64 (InvF a).1.1, ui] := rC
        have c6 : hC.cell L6 0 = some (.int .u64 w) := by rw [H.cell_of g6C]; rfl
        have hw2 : w = k + 18446744073709551616 := by rw [← hw, wrap_u64_neg (by omega) (by omega)]
        have hwn : IntKind.u64.wrap (0 - w) = -k := by rw [wrap_u64_neg (by omega) (by omega)]; omega
        have hstm := fun hh (z : Int) => stV_one (y := .int .u64 z) rfl rfl hh L6 0
        have hpm := fun (hh : H) (z : Int) => putO_one (vs := [.int .u64 w]) (off := 0) (by simp) hh L6 (.int .u64 z)
        have hi0 : (InvF a).2 = 0 := Classical.byContradiction he1
        obtain ⟨X, hX, eX, iX⟩ := inv_vd hi0
        rw [hn] at hX eX iX
        have sq : Sq a.1 n := ⟨da.p, hr1, hr2⟩
        have fD : Fr h (((H.mk hC.tr (hC.next + 5)).set A2 (some (.cells false [.int .i64 (InvF a).1.1, ui]))).set L6 (some (.cells false [.int .u64 (-k)]))) := (((((F5.trans fB).trans fBC).bump (by omega)).set (by omega) _).set (by omega) _)
        have RD : SRa (((H.mk hC.tr (hC.next + 5)).set A2 (some (.cells false [.int .i64 (InvF a).1.1, ui]))).set L6 (some (.cells false [.int .u64 (-k)]))) ui (InvF a).1.2 [A2, A3, L6] := (((SRa.new (bad := [A2, A3, L6]) RC fun b hb => by
          simp only [List.mem_cons, List.not_mem_nil, or_false] at hb
          omega).fr ((Fr.refl hC).bump (n := hC.next + 5) (by omega))).set (by simp) _).set (by simp) _
        simp (disch := first | omega | (simp only [Qn] <;> omega)) only [go_sem, rCb, c6, hstA, gxC, eqV_int, hwn, hstm, g6C, hpm]
        refine .inl ⟨(InvF a).1, ui, k.natAbs, ex_junk rfl, by rw [eX], by rw [show (k.natAbs : Int) = -k by omega], gyC, RD, by rw [eX]; exact sq.vd iX, by rw [eX], by rw [eX]; exact mkR_len .., by omega, fD, by omega, ?_⟩
        rw [PowF, if_neg (by simp [hz]), if_neg (by simp [hi0]), if_pos hneg, hn]
    · simp (disch := first | omega | (simp only [Qn] <;> omega)) only [go_sem]
      refine .inl ⟨a, ua, k.natAbs, ex_junk rfl, gxB, ?_, gyB, ?_, da, rfl, hn, by omega, F5.trans fB, by omega, ?_⟩
      · rw [gB, ← hw, wrap_u64 (by omega) (by omega), show (k.natAbs : Int) = k by omega]
      · exact (SRa.old (bad := [A2, A3, L6]) hua fun b hb => by
          simp only [List.mem_cons, List.not_mem_nil, or_false] at hb
          have := F5.next
          omega).fr (F5.trans fB)
      · rw [PowF, if_neg (by simp [hz]), if_neg (fun q => hneg q.1), if_neg hneg, hn]
  · rintro vs h7 ⟨b, ub, m, ⟨g, rfl⟩, gA2, g6, gA3, sb, db, hb1, hbn, hm, F7, l6, hres⟩
    clear gxB gyB sB gB nB fB hst6 hw
    have x0 : h7.cell A2 0 = some (.int .i64 a.1) := by rw [H.cell_of gA2]; rfl
    have x1 : h7.cell A2 1 = some ub := by rw [H.cell_of gA2]; rfl
    have lB : lensV ub = some (.int .i64 (n : Int)) := by rw [← hbn]; exact sb.sr.lens
    simp (disch := first | omega | (simp only [Qn] <;> omega)) only [go_sem, x0, x1, lB]
    refine (one_ok n a.1 h7 hr1 hr2).mono ?_
    rintro v h8 ⟨⟨u8, ws8, rfl, R8⟩, f8⟩
    have v8 := SV.what R8.own.sv
    have hst8 := fun hh id => stV_agg2 hh id 0 (v := .int .i64 (oneF n a.1).1) (u := u8) rfl v8.2.1
    simp (disch := first | omega | (simp only [Qn] <;> omega)) only [go_sem, hst8, bxH_eq]
    have fC := bxH_fr h8 (oneF n a.1).1 u8
    have gC := bxH_get h8 (oneF n a.1).1 u8
    have nC := bxH_next h8 (oneF n a.1).1 u8
    have RC := R8.fr fC
    generalize bxH h8 (oneF n a.1).1 u8 = hC at *
    obtain ⟨O9, hO9⟩ : ∃ O9, h8.next = O9 := ⟨_, rfl⟩
    rw [hO9] at gC nC
    rw [hO9]
    have n8 := f8.next
    have fC7 := f8.trans fC
    have gA2C := (fC7.get A2 (by omega)).trans gA2
    have gA3C := (fC7.get A3 (by omega)).trans gA3
    have g6C := (fC7.get L6 (by omega)).trans g6
    have sbC := sb.fr fC7
    simp (disch := first | omega | (simp only [Qn] <;> omega)) only [go_sem, row_two gA2C]
    refine (squares_ok a.1 ub hC (SV.what sbC.sr.choose_spec.1).2.1).mono ?_
    rintro v h9 ⟨rfl, rfl⟩
    have hfx9 : Fr hC (hC.new (.cells false [.int .i64 a.1, ub])) := (Fr.refl hC).new _
    have hgx9 : (hC.new (.cells false [.int .i64 a.1, ub])).get hC.next = some (.cells false [.int .i64 a.1, ub]) := H.get_new_same ..
    have hnx9 : (hC.new (.cells false [.int .i64 a.1, ub])).next = hC.next + 1 := H.next_new ..
    generalize hC.new (.cells false [.int .i64 a.1, ub]) = hX at *
    obtain ⟨XB, hXB⟩ : ∃ XB, hC.next = XB := ⟨_, rfl⟩
    rw [hXB] at hgx9 hnx9
    rw [hXB]
    obtain ⟨LID, hLID⟩ : ∃ LID, hX.next = LID := ⟨_, rfl⟩
    simp (disch := first | omega | (simp only [Qn] <;> omega)) only [go_sem]
    rw [hLID]
    generalize hrc : LRec.mk _ _ _ _ _ _ = rc
    refine ⟨rfl, ?_⟩
    obtain ⟨base, hbase⟩ : ∃ base, base = H.mk h7.tr L6 := ⟨_, rfl⟩
    have nb : base.next = L6 := by rw [hbase]
    have gb : ∀ id, base.get id = h7.get id := fun id => by rw [hbase]; rfl
    have f57 := F5.next
    have Fb : Fr h base := ⟨by omega, fun id hid => (gb id).trans (F7.get id hid)⟩
    have Fb7 : Fr base h7 := ⟨by omega, fun id hid => (gb id).symm⟩
    have hs : base.next ≤ L6 ∧ L6 < O9 ∧ O9 < XB ∧ XB < LID := ⟨by omega, by omega, by omega, by omega⟩
    have nLX : LID ≠ L6 ∧ LID ≠ O9 ∧ LID ≠ XB := ⟨by omega, by omega, by omega⟩
    obtain ⟨RES, hRES⟩ : ∃ R, pwG n 64 (oneF n a.1) b m = R := ⟨_, rfl⟩
    have hRp : ∀ f out x left, out.1 = a.1 → (pwG n f out x left).1 = a.1 := fun f => by
      induction f with
      | zero => intro out x left h; exact h
      | succ f ih =>
        intro out x left h
        rw [pwG]
        split
        · exact h
        · apply ih
          split
          · exact h
          · exact h
    have hY : ∀ f left out x uo ux hh, PI0 a.1 n rc L6 O9 XB LID A3 base left out x uo ux hh → left < 2 ^ f → left ≤ 9223372036854775808 → pwG n f out x left = RES →
        Ey T LID [.agg [.int .i64 a.1, ux]] hh (fun v hh' => (v = .bool true ∧ ∃ f' left' out' uo', f = f' + 1 ∧ PI0 a.1 n rc L6 O9 XB LID A3 base left' out' x uo' ux hh' ∧ left' < 2 ^ f' ∧ left' ≤ 9223372036854775808 ∧ pwG n f' out' (mulF x x n n) left' = RES) ∨ (v = .bool false ∧ DN a.1 rc O9 LID RES base L6 XB A3 hh')) := by
      intro f left out x uo ux hh K hlf hl63 hpw
      refine Ey_of K.gL (by rw [← hrc]; rfl) ?_
      have hux := SV.what K.sx.sr.choose_spec.1
      have hstx := fun hh id => stV_agg2 hh id 0 (v := .int .i64 a.1) (u := ux) rfl hux.2.1
      have ltL := K.lt
      have K1 : PI0 a.1 n rc L6 O9 XB LID A3 base left out x uo ux (bxH hh a.1 ux) := by
        have f := bxH_fr hh a.1 ux
        exact ⟨(f.get _ (by omega)).trans K.gL, (f.get _ (by omega)).trans K.g6, (f.get _ (by omega)).trans K.g9, (f.get _ (by omega)).trans K.gX, K.so.fr f, K.sx.fr f, K.o1, K.x1, K.vo, K.vx, K.lo, K.lx, by rw [bxH_next]; omega, K.fr.trans f⟩
      have gbx := bxH_get hh a.1 ux
      have nbx := bxH_next hh a.1 ux
      subst hrc
      simp (disch := first | omega | (simp only [Qn] <;> omega)) only [go_sem, List.zip_cons_cons, List.zip_nil_left, hstx, bxH_eq]
      refine ⟨_, K1.gL, rfl, ?_⟩
      generalize bxH hh a.1 ux = h1 at *
      have K2 := fun rc' => K1.set hs rc'
      generalize hrb : LRec.mk _ _ _ _ LSt.busy _ = rb
      have K3 := K2 rb
      have gbx2 : (h1.set LID (some (.loop rb))).get hh.next = some (.cells false [.int .i64 a.1, ux]) := by rw [H.get_set_ne _ (by omega)]; exact gbx
      have n2 : (h1.set LID (some (.loop rb))).next = h1.next := rfl
      generalize h1.set LID (some (.loop rb)) = h2 at *
      clear K2
      have c6 : h2.cell L6 0 = some (.int .u64 (left : Int)) := by rw [H.cell_of K3.g6]; rfl
      have c61 : h1.cell L6 0 = some (.int .u64 (left : Int)) := by rw [H.cell_of K1.g6]; rfl
      simp (disch := first | omega | (simp only [Qn] <;> omega)) only [go_sem, c61]
      by_cases h0 : (left : Int) = 0
      · rw [decide_eq_true h0]
        simp (disch := first | omega | (simp only [Qn] <;> omega)) only [go_sem]
        refine ⟨_, K3.gL, ?_⟩
        have K4 := fun rc' => K3.set hs rc'
        refine .inr ⟨rfl, uo, ?_, (K4 _).g9, ?_, (K4 _).fr, ?_⟩
        · rw [← hrb]; exact H.get_set_same ..
        · have e : RES = out := by
            rw [← hpw]
            cases f with
            | zero => rfl
            | succ f => rw [pwG, if_pos (by omega)]
          rw [e]
          exact (K4 _).so
        · rw [← hpw]; exact hRp _ _ _ _ K.o1
      · rw [decide_eq_false h0]
        obtain ⟨f', rfl⟩ : ∃ f', f = f' + 1 := by
          cases f with
          | zero => simp at hlf; omega
          | succ f => exact ⟨f, rfl⟩
        rw [pwG, if_neg (by omega)] at hpw
        have hlf2 : left / 2 < 2 ^ f' := by rw [Nat.pow_succ] at hlf; omega
        have em : (left : Int).tmod 2 = ((left % 2 : Nat) : Int) := tmod_nat left 2
        have ed : (left : Int).tdiv 2 = ((left / 2 : Nat) : Int) := rfl
        have ew : IntKind.u64.wrap ((left / 2 : Nat) : Int) = ((left / 2 : Nat) : Int) := wrap_u64 (by omega) (by omega)
        have hst6 := fun hh (z : Int) => stV_one (y := .int .u64 z) rfl rfl hh L6 0
        have hpm := fun (hh : H) (z : Int) => putO_one (vs := [.int .u64 (left : Int)]) (off := 0) (by simp) hh L6 (.int .u64 z)
        simp (disch := first | omega | (simp only [Qn] <;> omega)) only [go_sem, c6, em]
        by_cases hodd : ((left % 2 : Nat) : Int) = 1
        · rw [decide_eq_true hodd]
          rw [if_pos (by omega)] at hpw
          have n1 : LID < h2.next := K3.lt
          simp (disch := first | omega | (simp only [Qn] <;> omega)) only [go_sem, row_two K3.g9, row_two gbx2]
          refine (mul_ok _ _ out x n n h2 ⟨uo, by rw [K3.o1], K3.so.sr⟩ ⟨ux, by rw [K3.x1], K3.sx.sr⟩ K3.vo K3.vx (by rw [K3.o1, K3.x1]) K3.lx.symm).mono ?_
          rintro v h3 ⟨⟨um, wsm, rfl, RM⟩, f3⟩
          have vm := SV.what RM.own.sv
          have e1 : (mulF out x n n).1 = a.1 := K3.o1
          have hstm := fun hh id => stV_agg2 hh id 0 (v := .int .i64 (mulF out x n n).1) (u := um) rfl vm.2.1
          rw [e1] at hstm
          rw [e1]
          have K4 := (K3.frm hs f3).setO hs (SRa.new (bad := [L6, O9, XB, LID, A3]) RM fun b hb => by
            simp only [List.mem_cons, List.not_mem_nil, or_false] at hb
            omega) e1 (K3.vo.mul K3.vx) (by rw [mulF, mkR_len]; exact K3.lo)
          have g93 := (K3.frm hs f3).g9
          have g63 := (K3.frm hs f3).g6
          have c63 : h3.cell L6 0 = some (.int .u64 (left : Int)) := by rw [H.cell_of g63]; rfl
          have K5 := K4.setL hs (left / 2)
          simp (disch := first | omega | (simp only [Qn] <;> omega)) only [go_sem, hstm, g93, c63, ed, ew, hst6, g63, hpm]
          generalize (h3.set O9 (some (.cells false [.int .i64 a.1, um]))).set L6 (some (.cells false [.int .u64 ((left / 2 : Nat) : Int)])) = h5 at *
          refine ⟨rb, K5.gL, .inl ⟨rfl, f', left / 2, mulF out x n n, um, rfl, ?_, hlf2, by omega, hpw⟩⟩
          subst hrb
          exact K5.set hs _
        · rw [decide_eq_false hodd]
          rw [if_neg (by omega)] at hpw
          have K5 := K3.setL hs (left / 2)
          simp (disch := first | omega | (simp only [Qn] <;> omega)) only [go_sem, c6, ed, ew, hst6, K3.g6, hpm]
          generalize h2.set L6 (some (.cells false [.int .u64 ((left / 2 : Nat) : Int)])) = h5 at *
          refine ⟨rb, K5.gL, .inl ⟨rfl, f', left / 2, out, uo, rfl, ?_, hlf2, by omega, hpw⟩⟩
          subst hrb
          exact K5.set hs _
    have K0 : PI0 a.1 n rc L6 O9 XB LID A3 base m (oneF n a.1) b u8 ub (hX.new (.loop rc)) := by
      have fN : Fr hC (hX.new (.loop rc)) := hfx9.new _
      have gN : ∀ id, id < XB → (hX.new (.loop rc)).get id = hC.get id := fun id hid => fN.get id (by omega)
      refine ⟨by rw [← hLID]; exact H.get_new_same .., (gN _ (by omega)).trans g6C, (gN _ (by omega)).trans gC, ?_, ?_, ?_, rfl, hb1, ?_, db, by simp only [oneF, mkR_len], hbn, by rw [H.next_new]; omega, (Fb7.trans fC7).trans fN⟩
      · rw [H.get_new_ne _ (by omega)]; exact hgx9
      · exact (SRa.new (bad := [L6, O9, XB, LID, A3]) R8 fun q hq => by
          simp only [List.mem_cons, List.not_mem_nil, or_false] at hq
          omega).fr (fC.trans fN)
      · exact (sb.ext (bad' := [L6, O9, XB, LID, A3]) fun q hq => by
          simp only [List.mem_cons, List.not_mem_nil, or_false] at hq ⊢
          omega).fr (fC7.trans fN)
      · have sq : Sq a.1 n := ⟨da.p, hr1, hr2⟩
        exact sq.vd sq.on
    have hpw0 : m < 2 ^ 64 := by omega
    have loop : Ev T 87 [.yl LID, .ptr XB 0] (hX.new (.loop rc)) (fun _ hh => DN a.1 rc O9 LID RES base L6 XB A3 hh) := by
      refine Ev_of t_matrix_squares_1 rfl ?_
      simp (disch := first | omega | (simp only [Qn] <;> omega)) only [go_sem, c_matrix_squares_1, initV_eq]
      refine Wp_loop (fun f vars hh => ∃ (left : Nat) (out x : Mat) (uo ux : V), (∃ g : Nat → V, vars = [.yl LID, .ptr XB 0, g 2]) ∧ PI0 a.1 n rc L6 O9 XB LID A3 base left out x uo ux hh ∧ left < 2 ^ f ∧ left ≤ 9223372036854775808 ∧ pwG n f out x left = RES) 64
        ⟨m, _, b, _, _, ex_junk rfl, K0, hpw0, hm, hRES⟩ ?_
      rintro f vars hh ⟨left, out, x, uo, ux, ⟨g, rfl⟩, K, hlf, hl63, hpw⟩
      simp (disch := first | omega | (simp only [Qn] <;> omega)) only [go_sem, row_two K.gX]
      refine (hY f left out x uo ux hh K hlf hl63 hpw).mono ?_
      rintro v h3 (⟨rfl, f', left', out', uo', rfl, K3, hlf', hl63', hpw'⟩ | ⟨rfl, hd⟩)
      · have n1 : LID < h3.next := K3.lt
        simp (disch := first | omega | (simp only [Qn] <;> omega)) only [go_sem, row_two K3.gX]
        refine (mul_ok _ _ x x n n h3 ⟨ux, by rw [K3.x1], K3.sx.sr⟩ ⟨ux, by rw [K3.x1], K3.sx.sr⟩ K3.vx K3.vx rfl K3.lx.symm).mono ?_
        rintro v h4 ⟨⟨um, wsm, rfl, RM⟩, f4⟩
        have vm := SV.what RM.own.sv
        have e1 : (mulF x x n n).1 = a.1 := K3.x1
        have hstm := fun hh id => stV_agg2 hh id 0 (v := .int .i64 (mulF x x n n).1) (u := um) rfl vm.2.1
        rw [e1] at hstm
        rw [e1]
        have gX4 := (K3.frm hs f4).gX
        have K4 := (K3.frm hs f4).setX hs (x' := mulF x x n n) (SRa.new (bad := [L6, O9, XB, LID, A3]) RM fun b hb => by
            simp only [List.mem_cons, List.not_mem_nil, or_false] at hb
            omega) e1 (K3.vx.mul K3.vx) (by rw [mulF, mkR_len]; exact K3.lx)
        simp (disch := first | omega | (simp only [Qn] <;> omega)) only [go_sem, hstm, gX4]
        exact ⟨f', by omega, left', out', mulF x x n n, uo', um, ex_junk rfl, K4, hlf', hl63', hpw'⟩
      · simp (disch := first | omega | (simp only [Qn] <;> omega)) only [go_sem]
        exact hd
    refine loop.mono ?_
    rintro _ h10 ⟨uo, gL, g9, so, f10, hR1⟩
    refine ⟨_, gL, by simp, ?_⟩
    have g3b : base.get A3 = some (.cells false [.int .i64 0, .nils]) := (gb A3).trans gA3
    have g310 := (f10.get A3 (by omega)).trans g3b
    have vo := SV.what so.sr.choose_spec.1
    have hst9 := fun hh id => stV_agg2 hh id 0 (v := .int .i64 a.1) (u := uo) rfl vo.2.1
    simp only [Option.getD_some]
    generalize hrb2 : Ob.loop _ = rb2
    have nl3 : LID ≠ A3 := by omega
    have r9 := row_two (h := h10.set LID (some rb2)) (id := O9) (ro := false) (v := .int .i64 a.1) (u := uo) (by rw [H.get_set_ne _ (by omega)]; exact g9)
    have hrow := row_two (h := (h10.set LID (some rb2)).set A3 (some (.cells false [.int .i64 a.1, uo]))) (H.get_set_same ..)
    simp (disch := first | omega | (simp only [Qn] <;> omega)) only [go_sem, r9, hst9, g310, hrow]
    rw [hres, hRES]
    have sF : SR ((h10.set LID (some rb2)).set A3 (some (.cells false [.int .i64 a.1, uo]))) uo RES.2 := ((so.set (by simp) _).set (by simp) _).sr
    exact ⟨_, rfl, ⟨uo, by rw [hR1], sF⟩, (((Fb.trans f10).set (by omega) _).set (by omega) _)⟩
end Go.Proofs.Ytonhijbeddcmpaa
/- Layer 4: determinants, inverses and powers of valid square matrices. -/
namespace Go.Proofs.Ytonhijbeddcmpaa
open Go Go.Ay
set_option maxRecDepth 100000
theorem emm (p a : Int) : a % p % p = a % p := Int.emod_emod_of_dvd _ (Int.dvd_refl p)
/-- Congruent. -/
def Em (p : Int) (n : Nat) (A B : Mx) : Prop := ∀ i j, i < n → j < n → A i j % p = B i j % p
theorem Em.refl (p : Int) (n : Nat) (A : Mx) : Em p n A A := fun _ _ _ _ => rfl
theorem Em.symm {p : Int} {n : Nat} {A B : Mx} (h : Em p n A B) : Em p n B A := fun i j hi hj => (h i j hi hj).symm
theorem Em.trans {p : Int} {n : Nat} {A B C : Mx} (h : Em p n A B) (k : Em p n B C) : Em p n A C := fun i j hi hj => (h i j hi hj).trans (k i j hi hj)
theorem Em.mul {p : Int} {n : Nat} {A A' B B' : Mx} (h : Em p n A A') (k : Em p n B B') : Em p n (mulM n A B) (mulM n A' B') := fun i j hi hj => mulM_mod (fun l hl => h i l hi hl) (fun l hl => k l j hl hj)
theorem Em.of {p : Int} {n : Nat} {A B : Mx} (h : ∀ i j, i < n → j < n → A i j = B i j) : Em p n A B := fun i j hi hj => by rw [h i j hi hj]
theorem Em.assoc (p : Int) (n : Nat) (A B C : Mx) : Em p n (mulM n (mulM n A B) C) (mulM n A (mulM n B C)) := fun i j _ _ => by rw [mulM_assoc]
theorem Em.mm (p : Int) (n : Nat) (A B : Mx) : Em p n (mmP p n A B) (mulM n A B) := fun i j _ _ => emm p _
theorem Em.rows {p : Int} {n : Nat} {A B : Mx} (h : Em p n A B) (hA : InP p n A) (hB : InP p n B) : mkR n n A = mkR n n B := mkR_congr fun i k hi hk => by
  have := h i k hi hk
  rwa [Int.emod_eq_of_lt (hA i k hi hk).1 (hA i k hi hk).2, Int.emod_eq_of_lt (hB i k hi hk).1 (hB i k hi hk).2] at this
theorem Em.idl (p : Int) (n : Nat) (A : Mx) : Em p n (mulM n idM A) A := fun i j hi _ => by rw [id_mulM n A hi]
theorem Em.idr (p : Int) (n : Nat) (A : Mx) : Em p n (mulM n A idM) A := fun i j _ hj => by rw [mulM_id n A hj]
theorem pw_add (p : Int) (n : Nat) (A : Mx) (a b : Nat) : Em p n (mulM n (pwM n A a) (pwM n A b)) (pwM n A (a + b)) := by
  induction a with
  | zero => rw [Nat.zero_add]; exact Em.idl p n _
  | succ a ih =>
    rw [show a + 1 + b = (a + b) + 1 by omega]
    exact (Em.assoc p n A (pwM n A a) (pwM n A b)).trans ((Em.refl p n A).mul ih)
theorem pw_one (p : Int) (n : Nat) (A : Mx) : Em p n (pwM n A 1) A := Em.idr p n A
theorem pw_last (p : Int) (n : Nat) (A : Mx) (k : Nat) : Em p n (mulM n (pwM n A k) A) (pwM n A (k + 1)) :=
  ((Em.refl p n _).mul (pw_one p n A).symm).trans (pw_add p n A k 1)
theorem Sq.mulF {p : Int} {n : Nat} (s : Sq p n) (A B : Mx) : mulF (p, mkR n n A) (p, mkR n n B) n n = (p, mkR n n (mmP p n A B)) := by
  simp only [Proofs.Ytonhijbeddcmpaa.mulF, mkR_len]
  rw [mkR_congr fun i k hi hk => ?_]
  refine congrArg (· % p) (sm_congr fun j hj => ?_)
  rw [mkR_ent _ hi hj, mkR_ent _ hj hk]
theorem Sq.pw {p : Int} {n : Nat} (s : Sq p n) (A : Mx) : ∀ f e t m (O B : Mx), InP p n O → InP p n B → Em p n O (pwM n A e) → Em p n B (pwM n A t) → m < 2 ^ f → pwG n f (p, mkR n n O) (p, mkR n n B) m = (p, mkR n n (fun i j => pwM n A (e + t * m) i j % p))
  | 0, e, t, m, O, B, hO, hB, eO, eB, hm => by
    have : m = 0 := by simp at hm; exact hm
    subst this
    rw [pwG, Nat.mul_zero, Nat.add_zero]
    congr 1
    exact Em.rows (eO.trans fun i j _ _ => (emm p _).symm) hO fun i j _ _ => tmod_range _ (by have := s.p; omega)
  | f + 1, e, t, m, O, B, hO, hB, eO, eB, hm => by
    have hp := s.p
    rw [pwG]
    by_cases h0 : m = 0
    · subst h0
      rw [if_pos rfl, Nat.mul_zero, Nat.add_zero]
      congr 1
      exact Em.rows (eO.trans fun i j _ _ => (emm p _).symm) hO fun i j _ _ => tmod_range _ (by omega)
    · rw [if_neg h0, s.mulF, s.mulF]
      have e2 : Em p n (mmP p n B B) (pwM n A (t + t)) := (Em.mm p n B B).trans ((eB.mul eB).trans (pw_add p n A t t))
      have hf : m / 2 < 2 ^ f := by rw [Nat.pow_succ] at hm; omega
      by_cases ho : m % 2 = 1
      · rw [if_pos ho]
        have e1 : Em p n (mmP p n O B) (pwM n A (e + t)) := (Em.mm p n O B).trans ((eO.mul eB).trans (pw_add p n A e t))
        rw [Sq.pw s A f (e + t) (t + t) (m / 2) _ _ (s.mm _ _) (s.mm _ _) e1 e2 hf]
        have : e + t + (t + t) * (m / 2) = e + t * m := by
          obtain ⟨q, hq⟩ : ∃ q, m = 2 * q + 1 := ⟨m / 2, by omega⟩
          subst hq
          rw [show (2 * q + 1) / 2 = q by omega]
          grind
        rw [this]
      · rw [if_neg ho]
        rw [Sq.pw s A f e (t + t) (m / 2) _ _ hO (s.mm _ _) eO e2 hf]
        have : e + (t + t) * (m / 2) = e + t * m := by
          obtain ⟨q, hq⟩ : ∃ q, m = 2 * q := ⟨m / 2, by omega⟩
          subst hq
          rw [show (2 * q) / 2 = q by omega]
          grind
        rw [this]
theorem Sq.sqF {p : Int} {n : Nat} (s : Sq p n) {A : Mx} (hA : InP p n A) : sqF (p, mkR n n A) = 0 := by
  rw [Proofs.Ytonhijbeddcmpaa.sqF, vd_check (s.vd hA), if_neg (by simp), if_neg (by simp only [mkR_len, len0 s.n1, ne_eq, not_true_eq_false, not_false_eq_true])]
theorem det_ent (n : Nat) (A : Mx) : det n (ent (mkR n n A)) = det n A := det_congr fun i j hi hj => mkR_ent _ hi hj
theorem Sq.det {p : Int} {n : Nat} (s : Sq p n) {A : Mx} (hA : InP p n A) : DetF (p, mkR n n A) = (Ay.det n A % p, 0) := by
  rw [DetF, s.sqF hA, if_neg (by simp)]
  simp only [mkR_len, det_ent]
theorem Sq.isP {p : Int} {n : Nat} (s : Sq p n) : isP p = true := by
  have := s.f
  simp only [fieldF, Bool.and_eq_true] at this; exact this.2
theorem isInv_ent {p : Int} {n : Nat} {A X : Mx} (h : IsInv p n A X) : IsInv p n (ent (mkR n n A)) X :=
  ⟨h.lo, h.hi, fun i j hi hj => by
    rw [mulM_mod (A' := X) (B' := A) (fun _ _ => rfl) (fun k hk => by rw [mkR_ent _ hk hj])]; exact h.left i j hi hj⟩
theorem Sq.inv {p : Int} {n : Nat} (s : Sq p n) {A : Mx} (hA : InP p n A) : (Ay.det n A % p = 0 ∧ InvF (p, mkR n n A) = ((0, []), 15)) ∨ (Ay.det n A % p ≠ 0 ∧ ∃ X, IsInv p n A X ∧ InP p n X ∧ InvF (p, mkR n n A) = ((p, mkR n n X), 0)) := by
  by_cases hd : Ay.det n A % p = 0
  · refine .inl ⟨hd, ?_⟩
    rw [InvF, s.sqF hA, if_neg (by simp), if_pos (by simp only [mkR_len, det_ent]; exact hd)]
  · obtain ⟨m, hm⟩ : ∃ m, n = m + 1 := ⟨n - 1, by have := s.n1; omega⟩
    subst hm
    obtain ⟨X, hX⟩ := inv_ex s.isP hd
    refine .inr ⟨hd, X, hX, fun i k hi hk => ⟨hX.lo i k hi hk, hX.hi i k hi hk⟩, ?_⟩
    rw [InvF, s.sqF hA, if_neg (by simp), if_neg (by simp only [mkR_len, det_ent]; exact hd)]
    simp only [mkR_len]
    rw [← invX_eq (isInv_ent hX)]
/-- The power of a unit. -/
def pwZ (p : Int) (n : Nat) (A X : Mx) (k : Int) : Mx := fun i j => (if k < 0 then pwM n X k.natAbs i j else pwM n A k.natAbs i j) % p
theorem Sq.pz {p : Int} {n : Nat} (s : Sq p n) (A X : Mx) (k : Int) : InP p n (pwZ p n A X k) := fun i j _ _ => tmod_range _ (by have := s.p; omega)
theorem Sq.inI {p : Int} {n : Nat} (s : Sq p n) : oneF n p = (p, mkR n n idM) := rfl
theorem Sq.pow {p : Int} {n : Nat} (s : Sq p n) {A X : Mx} (hA : InP p n A) (hX : InP p n X) (eX : InvF (p, mkR n n A) = ((p, mkR n n X), 0)) (k : Int) (hk : -9223372036854775808 ≤ k ∧ k < 9223372036854775808) : PowF (p, mkR n n A) k = ((p, mkR n n (pwZ p n A X k)), 0) := by
  rw [PowF, s.sqF hA, if_neg (by simp), eX, if_neg (by simp)]
  simp only [mkR_len]
  rw [s.inI]
  by_cases h : k < 0
  · rw [if_pos h, s.pw X 64 0 1 k.natAbs idM X s.on hX (Em.refl p n _) (pw_one p n X).symm (by omega), Nat.one_mul, Nat.zero_add]
    rw [show pwZ p n A X k = fun i j => pwM n X k.natAbs i j % p from by funext i j; simp only [pwZ, if_pos h]]
  · rw [if_neg h, s.pw A 64 0 1 k.natAbs idM A s.on hA (Em.refl p n _) (pw_one p n A).symm (by omega), Nat.one_mul, Nat.zero_add]
    rw [show pwZ p n A X k = fun i j => pwM n A k.natAbs i j % p from by funext i j; simp only [pwZ, if_neg h]]
/-- Where there is no inverse. -/
theorem Sq.powS {p : Int} {n : Nat} (s : Sq p n) {A : Mx} (hA : InP p n A) (eX : InvF (p, mkR n n A) = ((0, []), 15)) : PowF (p, mkR n n A) (-1) = ((0, []), 15) := by
  rw [PowF, s.sqF hA, if_neg (by simp), eX, if_pos (by simp)]
theorem Sq.ordS {p : Int} {n : Nat} {A : Mx} (eX : InvF (p, mkR n n A) = ((0, []), 15)) : OrderF (p, mkR n n A) = (0, 15) := by
  rw [OrderF, eX, if_pos (by simp)]
/-- A power and one of the inverse. -/
theorem pw_cancel {p : Int} {n : Nat} {A X : Mx} (h : Em p n (mulM n A X) idM) : ∀ a b, Em p n (mulM n (pwM n A (a + b)) (pwM n X b)) (pwM n A a)
  | a, 0 => Em.idr p n _
  | a, b + 1 => by
    have e1 : Em p n (mulM n (pwM n A (a + (b + 1))) (pwM n X (b + 1))) (mulM n (mulM n (pwM n A (a + b)) A) (mulM n X (pwM n X b))) := ((pw_last p n A (a + b)).symm).mul (Em.refl p n _)
    have e2 : Em p n (mulM n (mulM n (pwM n A (a + b)) A) (mulM n X (pwM n X b))) (mulM n (pwM n A (a + b)) (mulM n (mulM n A X) (pwM n X b))) := (Em.assoc p n _ A _).trans ((Em.refl p n _).mul (Em.assoc p n A X _).symm)
    have e3 : Em p n (mulM n (pwM n A (a + b)) (mulM n (mulM n A X) (pwM n X b))) (mulM n (pwM n A (a + b)) (pwM n X b)) := (Em.refl p n _).mul ((h.mul (Em.refl p n _)).trans (Em.idl p n _))
    exact e1.trans (e2.trans (e3.trans (pw_cancel h a b)))
theorem pw_cancel' {p : Int} {n : Nat} {A X : Mx} (h : Em p n (mulM n A X) idM) : ∀ a b, Em p n (mulM n (pwM n A b) (pwM n X (a + b))) (pwM n X a)
  | a, 0 => Em.idl p n _
  | a, b + 1 => by
    have e1 : Em p n (mulM n (pwM n A (b + 1)) (pwM n X (a + (b + 1)))) (mulM n (mulM n (pwM n A b) A) (mulM n X (pwM n X (a + b)))) := ((pw_last p n A b).symm).mul (Em.refl p n _)
    have e2 : Em p n (mulM n (mulM n (pwM n A b) A) (mulM n X (pwM n X (a + b)))) (mulM n (pwM n A b) (mulM n (mulM n A X) (pwM n X (a + b)))) := (Em.assoc p n _ A _).trans ((Em.refl p n _).mul (Em.assoc p n A X _).symm)
    have e3 : Em p n (mulM n (pwM n A b) (mulM n (mulM n A X) (pwM n X (a + b)))) (mulM n (pwM n A b) (pwM n X (a + b))) := (Em.refl p n _).mul ((h.mul (Em.refl p n _)).trans (Em.idl p n _))
    exact e1.trans (e2.trans (e3.trans (pw_cancel' h a b)))
theorem pwZ_neg {p : Int} {n : Nat} {A X : Mx} {k : Int} (h : k < 0) : Em p n (pwZ p n A X k) (pwM n X k.natAbs) := fun i j _ _ => by simp only [pwZ, if_pos h]; exact emm p _
theorem pwZ_pos {p : Int} {n : Nat} {A X : Mx} {k : Int} (h : ¬ k < 0) : Em p n (pwZ p n A X k) (pwM n A k.natAbs) := fun i j _ _ => by simp only [pwZ, if_neg h]; exact emm p _
/-- Powers add up. -/
theorem pwZ_add {p : Int} {n : Nat} {A X : Mx} (h1 : Em p n (mulM n A X) idM) (h2 : Em p n (mulM n X A) idM) (x y : Int) : Em p n (mulM n (pwZ p n A X x) (pwZ p n A X y)) (pwZ p n A X (x + y)) := by
  by_cases hx : x < 0
  · by_cases hy : y < 0
    · refine ((pwZ_neg hx).mul (pwZ_neg hy)).trans ((pw_add p n X _ _).trans ?_)
      rw [show x.natAbs + y.natAbs = (x + y).natAbs by omega]
      exact (pwZ_neg (by omega)).symm
    · refine ((pwZ_neg hx).mul (pwZ_pos hy)).trans ?_
      by_cases hz : x + y < 0
      · rw [show x.natAbs = (x + y).natAbs + y.natAbs by omega]
        exact (pw_cancel h2 _ _).trans (pwZ_neg hz).symm
      · rw [show y.natAbs = (x + y).natAbs + x.natAbs by omega]
        exact (pw_cancel' h2 _ _).trans (pwZ_pos hz).symm
  · by_cases hy : y < 0
    · refine ((pwZ_pos hx).mul (pwZ_neg hy)).trans ?_
      by_cases hz : x + y < 0
      · rw [show y.natAbs = (x + y).natAbs + x.natAbs by omega]
        exact (pw_cancel' h1 _ _).trans (pwZ_neg hz).symm
      · rw [show x.natAbs = (x + y).natAbs + y.natAbs by omega]
        exact (pw_cancel h1 _ _).trans (pwZ_pos hz).symm
    · refine ((pwZ_pos hx).mul (pwZ_pos hy)).trans ((pw_add p n A _ _).trans ?_)
      rw [show x.natAbs + y.natAbs = (x + y).natAbs by omega]
      exact (pwZ_pos (by omega)).symm
theorem bad_ok (va : V) (a : Mat) (e w : Int) (h : H) (ha : MatV h va a) : Ev T n_law04_bad [va, .int .i64 e, .int .i64 w] h (fun v h' => v = .bool (decide (e = w ∧ a.1 = 0 ∧ a.2.length = 0)) ∧ Fr h h') := by
  obtain ⟨u, rfl, hu⟩ := ha
  obtain ⟨p, A⟩ := a
  simp only at hu
  refine Ev_of t_law04_bad rfl ?_
  have wa := SV.what hu.choose_spec.1
  simp (disch := first | omega | (simp only [Qn] <;> omega)) only [go_sem, c_law04_bad, initV_eq, boxV_agg2 h (v := .int .i64 p) rfl wa.2.1]
  have hfx : Fr h (h.new (.cells false [.int .i64 p, u])) := (Fr.refl h).new _
  have hgx : (h.new (.cells false [.int .i64 p, u])).get h.next = some (.cells false [.int .i64 p, u]) := H.get_new_same ..
  have hnx : (h.new (.cells false [.int .i64 p, u])).next = h.next + 1 := H.next_new ..
  generalize h.new (.cells false [.int .i64 p, u]) = hx at *
  have x0 : hx.cell h.next 0 = some (.int .i64 p) := by rw [H.cell_of hgx]; rfl
  have x1 : hx.cell h.next 1 = some u := by rw [H.cell_of hgx]; rfl
  by_cases h1 : e = w
  · rw [decide_eq_true h1]
    simp (disch := first | omega | (simp only [Qn] <;> omega)) only [go_sem, x0]
    by_cases h2 : p = 0
    · rw [decide_eq_true h2]
      simp (disch := first | omega | (simp only [Qn] <;> omega)) only [go_sem, x1, hu.lens]
      refine ⟨?_, hfx⟩
      congr 1
      rw [decide_eq_decide]
      exact ⟨fun h => ⟨h1, h2, by omega⟩, fun h => by have := h.2.2; omega⟩
    · rw [decide_eq_false h2]
      simp (disch := first | omega | (simp only [Qn] <;> omega)) only [go_sem, undef_eq]
      exact ⟨by rw [decide_eq_false fun h => h2 h.2.1], hfx⟩
  · rw [decide_eq_false h1]
    simp (disch := first | omega | (simp only [Qn] <;> omega)) only [go_sem, undef_eq]
    exact ⟨by rw [decide_eq_false fun h => h1 h.1], hfx⟩
end Go.Proofs.Ytonhijbeddcmpaa
/- Layer 4: what MatrixPoly needs. -/
namespace Go.Proofs.Ytonhijbeddcmpaa
open Go Go.Ay
set_option maxRecDepth 100000
/-- Horner's way. -/
def hwM (p : Int) (n : Nat) (A : Mx) (c : Nat → Int) : Nat → Mx
  | 0 => fun i k => (0 % p) * idM i k % p
  | t + 1 => fun i k => (mmP p n (hwM p n A c t) A i k + (c (n - t) % p) * idM i k % p) % p
theorem hw_in {p : Int} (hp : 0 < p) (n : Nat) (A : Mx) (c : Nat → Int) : ∀ t, InP p n (hwM p n A c t)
  | 0 => fun i k _ _ => tmod_range _ hp
  | t + 1 => fun i k _ _ => tmod_range _ hp
theorem pw_step {p : Int} {n : Nat} {A : Mx} (e : Nat) {i j : Nat} (hi : i < n) (hj : j < n) : mulM n (pwM n A e) A i j % p = pwM n A (e + 1) i j % p := by
  rw [← pw_add p n A e 1 i j hi hj]
  refine mulM_mod (fun _ _ => rfl) fun l hl => ?_
  simp only [pwM]
  rw [mulM_id n A hj]
theorem hw_sum {p : Int} {n : Nat} {A : Mx} {c : Nat → Int} : ∀ t, t ≤ n + 1 → ∀ i j, i < n → j < n → hwM p n A c t i j % p = sm t (fun e => c (n + 1 + e - t) * pwM n A e i j) % p
  | 0, _, i, j, _, _ => by simp [hwM, sm]
  | t + 1, ht, i, j, hi, hj => by
    have em : ∀ z : Int, z % p % p = z % p := fun z => Int.emod_emod_of_dvd _ (Int.dvd_refl p)
    have ih := hw_sum (p := p) (n := n) (A := A) (c := c) t (by omega)
    rw [sm_first]
    simp only [hwM]
    rw [em]
    have e1 : mmP p n (hwM p n A c t) A i j % p = sm t (fun e => c (n + 1 + (e + 1) - (t + 1)) * pwM n A (e + 1) i j) % p := by
      simp only [mmP]
      rw [em, mulM_mod (A' := fun i l => sm t (fun e => c (n + 1 + e - t) * pwM n A e i l)) (B' := A) (fun l hl => ih i l hi hl) (fun _ _ => rfl)]
      simp only [mulM]
      rw [sm_congr (g := fun l => sm t (fun e => c (n + 1 + e - t) * pwM n A e i l * A l j)) fun l _ => (sm_mulr t _ _).symm, sm_swap]
      refine sm_mod fun e he => ?_
      rw [sm_congr (g := fun l => c (n + 1 + e - t) * (pwM n A e i l * A l j)) fun l _ => Int.mul_assoc .., sm_mul, show n + 1 + (e + 1) - (t + 1) = n + 1 + e - t by omega]
      exact mul_mod rfl (pw_step e hi hj)
    have e2 : (c (n - t) % p * idM i j % p) % p = (c (n + 1 + 0 - (t + 1)) * pwM n A 0 i j) % p := by
      rw [em, show n + 1 + 0 - (t + 1) = n - t by omega]
      exact mul_mod (em _) rfl
    rw [add_mod' e1 e2, Int.add_comm]
theorem hw_zero {p : Int} {m : Nat} (hp : 0 < p) (A : Mx) : mkR (m + 1) (m + 1) (hwM p (m + 1) A (fun q => chp (m + 1) A q % p) (m + 2)) = mkR (m + 1) (m + 1) (fun i k => (0 % p) * idM i k % p) := by
  have em : ∀ z : Int, z % p % p = z % p := fun z => Int.emod_emod_of_dvd _ (Int.dvd_refl p)
  refine Em.rows (p := p) (fun i j hi hj => ?_) (hw_in hp _ _ _ _) (fun _ _ _ _ => tmod_range _ hp)
  rw [hw_sum (m + 2) (by omega) i j hi hj, sm_mod (g := fun e => chp (m + 1) A e * pwM (m + 1) A e i j) fun e he => by
    rw [show m + 1 + 1 + e - (m + 2) = e by omega]; exact mul_mod (em _) rfl, cayley m A hi hj]
  simp
theorem ent_mkR (n : Nat) (A : Mx) : ∀ i j, i < n → j < n → ent (mkR n n A) i j = A i j := fun i j hi hj => mkR_ent _ hi hj
theorem Sq.poly {p : Int} {n : Nat} (s : Sq p n) {A : Mx} (hA : InP p n A) : PolyF (p, mkR n n A) = (mkV (n + 1) (fun q => chp n A q % p), 0) := by
  rw [PolyF, s.sqF hA, if_neg (by simp)]
  simp only [mkR_len]
  rw [mkV_congr fun q hq => by rw [chp_congr (ent_mkR n A) q hq]]
theorem Sq.trace {p : Int} {n : Nat} (s : Sq p n) {A : Mx} (hA : InP p n A) : TraceF (p, mkR n n A) = (sm n (fun i => A i i) % p, 0) := by
  rw [TraceF, s.sqF hA, if_neg (by simp)]
  simp only [mkR_len]
  rw [sm_congr fun i hi => ent_mkR n A i i hi hi]
theorem poly_lead {p : Int} {n : Nat} (hp : 1 < p) (A : Mx) : chp n A n % p = 1 := by rw [chp_lead, one_mod hp]
theorem poly_trace {p : Int} {n : Nat} (hn : 1 ≤ n) (A : Mx) : (chp n A (n - 1) % p + sm n (fun i => A i i) % p) % p = 0 := by
  obtain ⟨m, rfl⟩ : ∃ m, n = m + 1 := ⟨n - 1, by omega⟩
  rw [← Int.add_emod, show m + 1 - 1 = m by omega, chp_trace]
  rw [show -sm (m + 1) (fun i => A i i) + sm (m + 1) (fun i => A i i) = 0 by omega, Int.zero_emod]
theorem sgn_even {n : Nat} : sgn n = if n % 2 = 0 then 1 else -1 := by
  induction n with
  | zero => rfl
  | succ n ih => rw [sgn_succ, ih]; split <;> split <;> omega
theorem poly_even {p : Int} {n : Nat} (h : n % 2 = 0) (A : Mx) : chp n A 0 % p = det n A % p := by rw [chp_const, sgn_even, if_pos h, Int.one_mul]
theorem poly_odd {p : Int} {n : Nat} (h : n % 2 = 1) (A : Mx) : (chp n A 0 % p + det n A % p) % p = 0 := by
  rw [← Int.add_emod, chp_const, sgn_even, if_neg (by omega), show -1 * det n A + det n A = 0 by omega, Int.zero_emod]
theorem poly_conj {p : Int} {n : Nat} {A B Y : Mx} (hY : IsInv p n B Y) : mkV (n + 1) (fun q => chp n (mmP p n (mmP p n Y A) B) q % p) = mkV (n + 1) (fun q => chp n A q % p) := by
  refine mkV_congr fun q hq => ?_
  exact (chp_mod (fun i j hi hj => (((Em.mm p n (mmP p n Y A) B).trans (Em.mul (Em.mm p n Y A) (Em.refl p n B)))) i j hi hj) q).trans (chp_conj hY.left q hq)
end Go.Proofs.Ytonhijbeddcmpaa
/- The law MatrixPoly, walked. -/
namespace Go.Proofs.Ytonhijbeddcmpaa
open Go Go.Ay
set_option maxRecDepth 100000
set_option maxHeartbeats 32000000 in
theorem poly_ok (vl : V) (l : List Int) (pp nn : Int) (h : H) (hc : SI h vl l) (hcl : (l.length : Int) ≤ 2 ^ 63 - 1) : Ev T n_law04_MatrixPoly [vl, .int .i64 pp, .int .i64 nn] h (fun v _ => v = .bool true) := by
  refine Ev_of t_law04_MatrixPoly rfl ?_
  simp (disch := first | omega | (simp only [Qn] <;> omega)) only [go_sem, c_law04_MatrixPoly, initV_eq]
  refine (lives_ok h).mono ?_
  rintro v h0 ⟨rfl, g⟩
  replace hc := hc.mono g
  clear g
  simp (disch := first | omega | (simp only [Qn] <;> omega)) only [go_sem, hc.lens]
  refine iteW_dec (fun hlong => ?_) (fun hlong => ?_)
  · simp (disch := first | omega | (simp only [Qn] <;> omega)) only [go_sem]
  have hl : l.length < 1000000 := by omega
  simp (disch := first | omega | (simp only [Qn] <;> omega)) only [go_sem]
  refine (lawfield_ok pp _).mono ?_
  rintro v hb ⟨p, rfl, hf, fb⟩
  replace hc := hc.mono fb
  clear fb
  simp (disch := first | omega | (simp only [Qn] <;> omega)) only [go_sem]
  refine (pick_ok nn 5 hb (by omega) (by omega)).mono ?_
  rintro v h1 ⟨rfl, rfl⟩
  obtain ⟨n, hn⟩ : ∃ n : Nat, 1 + nn % 5 = (n : Int) := ⟨(1 + nn % 5).toNat, by omega⟩
  have s : Sq p n := ⟨hf, by omega, by omega⟩
  have hn5 : n ≤ 5 := by omega
  have hp := s.p
  have vc := SV.what hc
  have hbl : bldV [.nils, .int .i64 0] [(0, 1, vl)] = some (.agg [vl, .int .i64 0]) := bldV_fst (z1 := .nils) (z2 := .int .i64 0) (v := vl) vc.1 vc.2.1
  have hbo := fun hh => boxV_agg2 hh (v := vl) (u := .int .i64 0) vc.2.1 rfl
  simp (disch := first | omega | (simp only [Qn] <;> omega)) only [go_sem, hn, hbl, hbo]
  have hfx : Fr h1 (h1.new (.cells false [vl, .int .i64 0])) := (Fr.refl h1).new _
  have hgx : (h1.new (.cells false [vl, .int .i64 0])).get h1.next = some (.cells false [vl, .int .i64 0]) := H.get_new_same ..
  have hnx : (h1.new (.cells false [vl, .int .i64 0])).next = h1.next + 1 := H.next_new ..
  generalize h1.new (.cells false [vl, .int .i64 0]) = hx at *
  have ht : Tk hx h1.next l := ⟨vl, 0, hgx, hc.mono hfx, fun id off len c e => by
    rcases hc with ⟨h0 | ⟨_, h0⟩, _⟩ | ⟨_, _, _, _, _, _, h0, _, h3, _⟩
    · rw [h0] at e; cases e
    · rw [h0] at e; cases e
    · rw [h0] at e; cases e; exact h3, Nat.zero_le _, by omega⟩
  have htid : h1.next < hx.next := by omega
  clear hfx hgx hnx hbl hbo hc vc
  generalize h1.next = tid at *
  refine (drawn_ok tid l n p _ ht hl (by omega) (by omega)).mono ?_
  rintro v k0 ⟨A, iA, ⟨uA, wsA, rfl, RA⟩, ht0, f0⟩
  replace RA := RA.le (lo' := tid + 1) (by omega)
  clear ht
  have ht := ht0
  replace htid := Nat.lt_of_lt_of_le htid f0.next
  simp (disch := first | omega | (simp only [Qn] <;> omega)) only [go_sem]
  refine (drawn_ok tid l n p _ ht hl (by omega) (by omega)).mono ?_
  rintro v k1 ⟨B, iB, ⟨uB, wsB, rfl, RB⟩, ht1, f1⟩
  replace RB := RB.le (lo' := tid + 1) (by omega)
  replace RA := Rws.fx RA (Nat.lt_succ_self _) f1
  clear ht
  have ht := ht1
  replace htid := Nat.lt_of_lt_of_le htid f1.next
  simp (disch := first | omega | (simp only [Qn] <;> omega)) only [go_sem]
  have hfA : Fr k1 (k1.new (.cells false [.int .i64 0, .nils])) := (Fr.refl k1).new _
  have hgA : (k1.new (.cells false [.int .i64 0, .nils])).get k1.next = some (.cells false [.int .i64 0, .nils]) := H.get_new_same ..
  have hnA : (k1.new (.cells false [.int .i64 0, .nils])).next = k1.next + 1 := H.next_new ..
  generalize k1.new (.cells false [.int .i64 0, .nils]) = nA at *
  have hfB : Fr nA (nA.new (.cells false [.int .i64 0, .nils])) := (Fr.refl nA).new _
  have hgB : (nA.new (.cells false [.int .i64 0, .nils])).get nA.next = some (.cells false [.int .i64 0, .nils]) := H.get_new_same ..
  have hnB : (nA.new (.cells false [.int .i64 0, .nils])).next = nA.next + 1 := H.next_new ..
  generalize nA.new (.cells false [.int .i64 0, .nils]) = nB at *
  have F : Fr k1 nB := (hfA.trans hfB)
  obtain ⟨bA, hbA⟩ : ∃ b, k1.next = b := ⟨_, rfl⟩
  have gA : nB.get bA = some (.cells false [.int .i64 0, .nils]) := by rw [← hbA]; exact (hfB.get _ (by omega)).trans (hgA)
  have vA := SV.what RA.own.sv
  have stA := fun hh id => stV_agg2 hh id 0 (v := .int .i64 p) (u := uA) rfl vA.2.1
  have sA := RA.sr.mono F
  obtain ⟨bB, hbB⟩ : ∃ b, nA.next = b := ⟨_, rfl⟩
  have gB : nB.get bB = some (.cells false [.int .i64 0, .nils]) := by rw [← hbB]; exact hgB
  have vB := SV.what RB.own.sv
  have stB := fun hh id => stV_agg2 hh id 0 (v := .int .i64 p) (u := uB) rfl vB.2.1
  have sB := RB.sr.mono F
  rw [← hnA, hbA, hbB]
  have neAB : bA ≠ bB := by omega
  have neBA : bB ≠ bA := by omega
  simp (disch := first | omega | (simp only [Qn] <;> omega)) only [go_sem, stA, stB, gA, gB]
  have qA : ((nB.set bA (some (.cells false [.int .i64 p, uA]))).set bB (some (.cells false [.int .i64 p, uB]))).get bA = some (.cells false [.int .i64 p, uA]) := by simp (disch := first | omega | (simp only [Qn] <;> omega)) only [go_sem]
  have qB : ((nB.set bA (some (.cells false [.int .i64 p, uA]))).set bB (some (.cells false [.int .i64 p, uB]))).get bB = some (.cells false [.int .i64 p, uB]) := by simp (disch := first | omega | (simp only [Qn] <;> omega)) only [go_sem]
  have fz : Fr k1 ((nB.set bA (some (.cells false [.int .i64 p, uA]))).set bB (some (.cells false [.int .i64 p, uB]))) := ((F.set (by omega) _).set (by omega) _)
  have nz : ((nB.set bA (some (.cells false [.int .i64 p, uA]))).set bB (some (.cells false [.int .i64 p, uB]))).next = nB.next := rfl
  have b_A : MB ((nB.set bA (some (.cells false [.int .i64 p, uA]))).set bB (some (.cells false [.int .i64 p, uB]))) bA (p, mkR n n A) := ⟨uA, qA, RA.sr.mono fz, by rw [nz]; omega⟩
  have b_B : MB ((nB.set bA (some (.cells false [.int .i64 p, uA]))).set bB (some (.cells false [.int .i64 p, uB]))) bB (p, mkR n n B) := ⟨uB, qB, RB.sr.mono fz, by rw [nz]; omega⟩
  clear qA qB
  generalize ((nB.set bA (some (.cells false [.int .i64 p, uA]))).set bB (some (.cells false [.int .i64 p, uB]))) = kz at *
  clear fz nz F RA vA stA sA gA hfA hgA hnA hbA RB vB stB sB gB hfB hgB hnB hbB ht htid
  have hn1 := s.n1
  obtain ⟨a0, r0, q0⟩ := b_A.row
  simp (disch := first | omega | (simp only [Qn] <;> omega)) only [go_sem, d6', d0', decide_true, r0]
  refine (Poly_ok _ (p, mkR n n A) _ q0 (s.la _)).mono ?_
  rintro v k20 ⟨vc, rfl, sc, fc⟩
  rw [s.poly iA] at sc
  rw [s.poly iA]
  replace b_A := b_A.mono fc
  replace b_B := b_B.mono fc
  clear fc
  try simp (disch := first | omega | (simp only [Qn] <;> omega)) only [go_sem, List.getElem?_cons_zero, List.getElem?_cons_succ]
  obtain ⟨a0, r0, q0⟩ := b_A.row
  simp (disch := first | omega | (simp only [Qn] <;> omega)) only [go_sem, d6', d0', decide_true, r0]
  refine (Det_ok _ (p, mkR n n A) _ q0 (s.la _)).mono ?_
  rintro v k21 ⟨rfl, fd⟩
  rw [s.det iA]
  replace b_A := b_A.mono fd
  replace b_B := b_B.mono fd
  replace sc := sc.mono fd
  clear fd
  try simp (disch := first | omega | (simp only [Qn] <;> omega)) only [go_sem, List.getElem?_cons_zero, List.getElem?_cons_succ]
  obtain ⟨a0, r0, q0⟩ := b_A.row
  simp (disch := first | omega | (simp only [Qn] <;> omega)) only [go_sem, d6', d0', decide_true, r0]
  refine (Trace_ok _ (p, mkR n n A) _ q0 (s.la _)).mono ?_
  rintro v k22 ⟨rfl, ft⟩
  rw [s.trace iA]
  replace b_A := b_A.mono ft
  replace b_B := b_B.mono ft
  replace sc := sc.mono ft
  clear ft
  obtain ⟨C, hC⟩ : ∃ C : Nat → Int, C = fun q => chp n A q % p := ⟨_, rfl⟩
  have rC : ∀ q, 0 ≤ C q ∧ C q < p := fun q => by rw [hC]; exact tmod_range _ (by omega)
  have sc0 : SI k22 vc (mkV (n + 1) C) := by rw [hC]; exact sc
  have lc := sc0.lens
  rw [mkV_len] at lc
  obtain ⟨idc, offc, shc, hidc, hcc⟩ := sc0.open
  rw [mkV_len] at shc hidc hcc
  have c0 := hcc 0 (by omega)
  have c1 := hcc (n - 1) (by omega)
  have c2 := hcc n (by omega)
  rw [mkV_get _ (by omega)] at c0 c1 c2
  have en : C n = 1 := by rw [hC]; exact poly_lead (by omega) A
  rw [en] at c2
  obtain ⟨S, hS⟩ : ∃ S, sm n (fun i => A i i) % p = S := ⟨_, rfl⟩
  obtain ⟨D, hD⟩ : ∃ D, Ay.det n A % p = D := ⟨_, rfl⟩
  have rS : 0 ≤ S ∧ S < p := by rw [← hS]; exact tmod_range _ (by omega)
  have rD : 0 ≤ D ∧ D < p := by rw [← hD]; exact tmod_range _ (by omega)
  have e1 : (C (n - 1) + S) % p = 0 := by rw [hC, ← hS]; exact poly_trace hn1 A
  have r1 := rC (n - 1)
  have r0' := rC 0
  have em1 := nonneg_tmod (a := C (n - 1) + S) (p := p) (by omega)
  rw [e1] at em1
  have tn : ((n : Int) - 1).toNat = n - 1 := by omega
  have dn : decide (((n + 1 : Nat) : Int) ≠ (n : Int) + 1) = false := by simp
  have d1 : decide ((1 : Int) ≠ 1) = false := by decide
  rw [hS, hD]
  simp (disch := first | omega | (simp only [Qn] <;> omega)) only [go_sem, d6', d0', decide_true, lc, dn, shc.ixa, c2, d1, tn, c1, em1]

  simp only [Nat.add_zero] at c0
  have tm : (n : Int).tmod 2 = ((n % 2 : Nat) : Int) := by rw [nonneg_tmod (by omega)]; omega
  have b_c := sc0
  clear sc c1 c2 em1 e1 tn dn lc
  rcases (show n % 2 = 0 ∨ n % 2 = 1 by omega) with hpar | hpar
  · have et : decide ((n : Int).tmod 2 = 0) = true := decide_eq_true (by omega)
    have eu : decide ((n : Int).tmod 2 = 1) = false := decide_eq_false (by omega)
    have e0 : C 0 = D := by rw [hC, ← hD]; exact poly_even hpar A
    have dd : decide (D ≠ D) = false := by simp
    rw [e0] at c0
    simp (disch := first | omega | (simp only [Qn] <;> omega)) only [go_sem, et, eu, shc.ixa, c0, dd, d6', d0', decide_true]
    clear et eu e0 dd
    clear c0 shc hidc hcc tm
    refine (One_ok (n : Int) p _).mono ?_
    rintro v h20 ⟨w, rfl, ⟨u0, ws0, rfl, R0⟩, f0⟩
    have eq := s.one
    rw [eq] at R0
    rw [eq]
    have st := fun hh id => stV_agg2 hh id 0 (v := .int .i64 p) (u := u0) rfl (SV.what R0.own.sv).2.1
    simp (disch := first | omega | (simp only [Qn] <;> omega)) only [go_sem, d6', d0', decide_true, st, bxH_eq, List.getElem?_cons_zero, List.getElem?_cons_succ]
    have fx := f0.trans (bxH_fr h20 p u0)
    replace b_A := b_A.mono fx
    replace b_B := b_B.mono fx
    replace b_c := b_c.mono fx
    have b_id := MB.new (h := h20) (p := p) R0.sr
    have iid : InP p n idM := s.on
    clear fx st eq f0 R0
    generalize bxH h20 p u0 = kb at *
    generalize h20.next = jid at *
    obtain ⟨a0, r0, q0⟩ := b_id.row
    simp (disch := first | omega | (simp only [Qn] <;> omega)) only [go_sem, d6', d0', decide_true, r0]
    refine (Scale_ok _ (p, mkR n n idM) 0 _ q0 (s.la _)).mono ?_
    rintro v hv ⟨w, rfl, ⟨uv, wsv, rfl, Rv⟩, fv⟩
    have eq := s.scale iid 0
    rw [eq] at Rv
    rw [eq]
    have st := fun hh id => stV_agg2 hh id 0 (v := .int .i64 p) (u := uv) rfl (SV.what Rv.own.sv).2.1
    simp (disch := first | omega | (simp only [Qn] <;> omega)) only [go_sem, d6', d0', decide_true, st, bxH_eq, List.getElem?_cons_zero, List.getElem?_cons_succ]
    have fx := fv.trans (bxH_fr hv p uv)
    have b_val : MB _ _ (p, mkR n n (hwM p n A C 0)) := MB.new (h := hv) (p := p) Rv.sr
    have jl := fv.next
    clear st eq fv Rv
    generalize bxH hv p uv = kv at *
    generalize hv.next = jv at *
    have jlt := b_val.choose_spec.2.2
    refine Wp_loop (fun k' vars hh => ∃ (t : Nat) (kk : Int), (∃ g : Nat → V, vars = [g 0, .int .i64 p, .int .i64 (n : Int), g 3, g 4, .ptr bA 0, .ptr bB 0, vc, g 8, g 9, g 10, g 11, g 12, .ptr jid 0, g 14, .ptr jv 0, g 16, .int .i64 kk, g 18, g 19, g 20, g 21, g 22, g 23, g 24, g 25, g 26, g 27, g 28, g 29, g 30, g 31, g 32, g 33, g 34, g 35, g 36, g 37, g 38, g 39, g 40, g 41, g 42]) ∧ kk = (n : Int) - (t : Int) ∧ t ≤ n + 1 ∧ MB hh jv (p, mkR n n (hwM p n A C t)) ∧ Fr kb hh ∧ k' = n + 1 - t) (n + 1)
      ⟨0, _, ex_junk rfl, by omega, Nat.zero_le _, b_val, fx, rfl⟩ ?_
    clear b_val fx jlt
    rintro k' vars hh ⟨t, kk, ⟨g, rfl⟩, hkk, ht, b_val, fx, rfl⟩
    simp (disch := first | omega | (simp only [Qn] <;> omega)) only [go_sem]
    by_cases h0 : 0 ≤ kk
    · rw [decide_eq_true h0]
      obtain ⟨q, hq⟩ : ∃ q : Nat, kk = (q : Int) := ⟨kk.toNat, by omega⟩
      subst hq
      have iW := hw_in (show 0 < p by omega) n A C t
      replace b_A := b_A.mono fx
      replace b_B := b_B.mono fx
      replace b_c := b_c.mono fx
      replace b_id := b_id.mono fx
      have jlt := b_val.choose_spec.2.2
      have gJ0 := b_val.choose_spec.1
      obtain ⟨a0, r0, q0⟩ := b_val.row
      obtain ⟨a1, r1, q1⟩ := b_A.row
      simp (disch := first | omega | (simp only [Qn] <;> omega)) only [go_sem, r0, r1]
      refine (Mul_ok _ _ (p, mkR n n (hwM p n A C t)) (p, mkR n n A) _ q0 q1 (s.la _) (s.la _)).mono ?_
      rintro v h1 ⟨w, rfl, ⟨u1, ws1, rfl, R1⟩, f1⟩
      have eq := s.mul iW iA
      rw [eq] at R1
      rw [eq]
      have st := fun hh id => stV_agg2 hh id 0 (v := .int .i64 p) (u := u1) rfl (SV.what R1.own.sv).2.1
      simp (disch := first | omega | (simp only [Qn] <;> omega)) only [go_sem, st, bxH_eq, List.getElem?_cons_zero, List.getElem?_cons_succ]
      have fx1 := f1.trans (bxH_fr h1 p u1)
      replace b_A := b_A.mono fx1
      replace b_B := b_B.mono fx1
      replace b_c := b_c.mono fx1
      replace b_id := b_id.mono fx1
      have b_x := MB.new (h := h1) (p := p) R1.sr
      have iX : InP p n (mmP p n (hwM p n A C t) A) := s.mm _ _
      have F1 := fx.trans fx1
      have gJ1 := (fx1.get jv jlt).trans gJ0
      have jk1 : jv < (bxH h1 p u1).next := Nat.lt_of_lt_of_le jlt fx1.next
      have jx : jv < h1.next := Nat.lt_of_lt_of_le jlt f1.next
      clear fx1 st eq f1 R1
      generalize bxH h1 p u1 = k1 at *
      generalize h1.next = jx1 at *
      obtain ⟨a0, r0, q0⟩ := b_id.row
      obtain ⟨idc, offc, shc, hidc, hcc⟩ := b_c.open
      rw [mkV_len] at shc hidc hcc
      have cq := hcc q (by omega)
      rw [mkV_get _ (by omega)] at cq
      have fb : Fr k1 (H.mk k1.tr (k1.next + 12)) := (Fr.refl k1).bump (by omega)
      have nz : (H.mk k1.tr (k1.next + 12)).next = k1.next + 12 := rfl
      have r0z : (H.mk k1.tr (k1.next + 12)).row jid 0 2 = _ := r0
      have cqz : (H.mk k1.tr (k1.next + 12)).cell idc (offc + q) = _ := cq
      have jidlt := b_id.choose_spec.2.2
      have bz := b_id.mono fb
      simp (disch := first | omega | (simp only [Qn] <;> omega)) only [go_sem, r0z, shc.ixa, cqz, cq]
      generalize H.mk k1.tr (k1.next + 12) = kz at *
      obtain ⟨a2, r2, q2⟩ := bz.row
      rw [r0z] at r2
      have ea : a0 = a2 := by simpa using r2
      subst ea
      refine (Scale_ok _ (p, mkR n n idM) (C q) kz q2 (s.la _)).mono ?_
      rintro v h2 ⟨w, rfl, ⟨u2, ws2, rfl, R2⟩, f2⟩
      have eq := s.scale iid (C q)
      rw [eq] at R2
      rw [eq]
      have st := fun hh id => stV_agg2 hh id 0 (v := .int .i64 p) (u := u2) rfl (SV.what R2.own.sv).2.1
      have n2 := f2.next
      simp (disch := first | omega | (simp only [Qn] <;> omega)) only [go_sem, litV_eq, st, List.getElem?_cons_zero, List.getElem?_cons_succ]
      obtain ⟨O, hO⟩ : ∃ O, k1.next + 9 = O := ⟨_, rfl⟩
      rw [hO]
      have gO : ((litV h2 O [V.int IntKind.i64 0, V.nils] h2.next).set O (some (Ob.cells false [V.int IntKind.i64 p, u2]))).get O = some (.cells false [.int .i64 p, u2]) := H.get_set_same ..
      have gn : ∀ k, k ≠ O → ((litV h2 O [V.int IntKind.i64 0, V.nils] h2.next).set O (some (Ob.cells false [V.int IntKind.i64 p, u2]))).get k = h2.get k := fun k hk => by simp (disch := first | omega | (simp only [Qn] <;> omega)) only [go_sem]
      have nB : ((litV h2 O [V.int IntKind.i64 0, V.nils] h2.next).set O (some (Ob.cells false [V.int IntKind.i64 p, u2]))).next = h2.next := rfl
      generalize ((litV h2 O [V.int IntKind.i64 0, V.nils] h2.next).set O (some (Ob.cells false [V.int IntKind.i64 p, u2]))) = hF at *
      have fF : Fr k1 hF := ⟨by omega, fun k hk => by rw [gn k (by omega)]; exact (f2.get k (by omega)).trans (fb.get k hk)⟩
      have b_y : MB hF O (p, mkR n n (fun i j => (C q % p) * idM i j % p)) := ⟨u2, gO, (Rws.fx R2 (x := O) (by omega) ⟨by omega, fun k _ hne => gn k hne⟩).sr, by omega⟩
      have iY : InP p n (fun i j => (C q % p) * idM i j % p) := s.sc _ _
      replace b_A := b_A.mono fF
      replace b_B := b_B.mono fF
      replace b_c := b_c.mono fF
      replace b_id := b_id.mono fF
      replace b_x := b_x.mono fF
      have FF := F1.trans fF
      have nF := fF.next
      have nk1 := f2.next
      clear gO gn fb f2 R2 st eq bz r0z cqz cq r0 q0 q2 r1 q1 r2
      obtain ⟨a0, r0, q0⟩ := b_x.row
      obtain ⟨a1, r1, q1⟩ := b_y.row
      simp (disch := first | omega | (simp only [Qn] <;> omega)) only [go_sem, r0, r1]
      refine (Add_ok _ _ (p, mkR n n (mmP p n (hwM p n A C t) A)) (p, mkR n n (fun i j => (C q % p) * idM i j % p)) _ q0 q1 (s.la _) (s.la _)).mono ?_
      rintro v h3 ⟨w, rfl, ⟨u3, ws3, rfl, R3⟩, f3⟩
      have eq := s.add iX iY
      rw [eq] at R3
      rw [eq]
      have st := fun hh id => stV_agg2 hh id 0 (v := .int .i64 p) (u := u3) rfl (SV.what R3.own.sv).2.1
      have jvk : jv < kb.next + (jv + 1) := by omega
      have fB := bxH_fr h3 p u3
      have rB := row_two (bxH_get h3 p u3)
      have gJ : (bxH h3 p u3).get jv = some (.cells false [.int .i64 p, b_val.choose]) := by
        rw [fB.get jv (by have := f3.next; omega), f3.get jv (by omega), fF.get jv (by omega)]
        exact gJ1
      simp (disch := first | omega | (simp only [Qn] <;> omega)) only [go_sem, d6', d0', decide_true, st, bxH_eq, rB, gJ, List.getElem?_cons_zero, List.getElem?_cons_succ]
      have nJ := fB.next
      have n3 := f3.next
      have hqn : q = n - t := by omega
      have eW : hwM p n A C (t + 1) = fun i k => (mmP p n (hwM p n A C t) A i k + (C q % p) * idM i k % p) % p := by
        simp only [hwM]; rw [← hqn]
      refine ⟨n + 1 - (t + 1), by omega, t + 1, (q : Int) - 1, ex_junk rfl, by omega, by omega, ?_, ((FF.trans f3).trans fB).set jl _, rfl⟩
      rw [eW]
      exact ⟨u3, H.get_set_same .., ((R3.fr fB).set (by omega) _).sr, by rw [H.next_set]; omega⟩
    rw [decide_eq_false h0]
    obtain rfl : t = n + 1 := by omega
    have hp0 : 0 < p := by omega
    replace b_A := b_A.mono fx
    replace b_B := b_B.mono fx
    replace b_c := b_c.mono fx
    replace b_id := b_id.mono fx
    have iV := hw_in hp0 n A C (n + 1)
    have eV : mkR n n (hwM p n A C (n + 1)) = mkR n n (fun i j => (0 % p) * idM i j % p) := by
      obtain ⟨m, rfl⟩ : ∃ m, n = m + 1 := ⟨n - 1, by omega⟩
      rw [hC]; exact hw_zero hp0 A
    clear fx
    try simp (disch := first | omega | (simp only [Qn] <;> omega)) only [go_sem, d6', d0', decide_true]
    obtain ⟨a0, r0, q0⟩ := b_id.row
    simp (disch := first | omega | (simp only [Qn] <;> omega)) only [go_sem, d6', d0', decide_true, r0]
    refine (Scale_ok _ (p, mkR n n idM) 0 _ q0 (s.la _)).mono ?_
    rintro v h40 ⟨w, rfl, ⟨u30, ws30, rfl, R30⟩, f30⟩
    have eq := s.scale iid 0
    rw [eq] at R30
    rw [eq]
    have st := fun hh id => stV_agg2 hh id 0 (v := .int .i64 p) (u := u30) rfl (SV.what R30.own.sv).2.1
    simp (disch := first | omega | (simp only [Qn] <;> omega)) only [go_sem, d6', d0', decide_true, st, bxH_eq, List.getElem?_cons_zero, List.getElem?_cons_succ]
    have fx := f30.trans (bxH_fr h40 p u30)
    replace b_A := b_A.mono fx
    replace b_B := b_B.mono fx
    replace b_c := b_c.mono fx
    replace b_id := b_id.mono fx
    replace b_val := b_val.mono fx
    have b_zero := MB.new (h := h40) (p := p) R30.sr
    have izero : InP p n (fun i j => (0 % p) * idM i j % p) := s.sc _ _
    clear fx st eq f30 R30
    generalize bxH h40 p u30 = k40 at *
    generalize h40.next = j30 at *
    obtain ⟨a0, r0, q0⟩ := b_val.row
    obtain ⟨a1, r1, q1⟩ := b_zero.row
    simp (disch := first | omega | (simp only [Qn] <;> omega)) only [go_sem, d6', d0', decide_true, r0, r1]
    refine (Same_ok _ _ (p, mkR n n (hwM p n A C (n + 1))) (p, mkR n n (fun i j => (0 % p) * idM i j % p)) _ q0 q1 (s.fits _) (s.fits _)).mono ?_
    rintro v k41 ⟨rfl, f31⟩
    rw [decide_eq_true (show ((p, mkR n n (hwM p n A C (n + 1))) : Mat) = (p, mkR n n (fun i j => (0 % p) * idM i j % p)) from by rw [eV])]
    replace b_A := b_A.mono f31
    replace b_B := b_B.mono f31
    replace b_c := b_c.mono f31
    replace b_id := b_id.mono f31
    replace b_val := b_val.mono f31
    replace b_zero := b_zero.mono f31
    try simp (disch := first | omega | (simp only [Qn] <;> omega)) only [go_sem, d6', d0', decide_true]
    rcases s.inv iB with ⟨hd, eI⟩ | ⟨hd, Y, hY, iY, eI⟩
    · obtain ⟨a0, r0, q0⟩ := b_B.row
      simp (disch := first | omega | (simp only [Qn] <;> omega)) only [go_sem, d6', d0', decide_true, r0]
      refine (Inv_ok _ (p, mkR n n B) _ q0 (s.la _)).mono ?_
      rintro v h60 ⟨w, rfl, ⟨u60, ws60, rfl, R60⟩, f60⟩
      rw [eI] at R60
      rw [eI]
      have st := fun hh id => stV_agg2 hh id 0 (v := .int .i64 0) (u := u60) rfl (SV.what R60.own.sv).2.1
      have d15 : decide ((15 : Int) ≠ 0) = true := by decide
      simp (disch := first | omega | (simp only [Qn] <;> omega)) only [go_sem, st, bxH_eq, d15, decide_true]
    · obtain ⟨a0, r0, q0⟩ := b_B.row
      simp (disch := first | omega | (simp only [Qn] <;> omega)) only [go_sem, d6', d0', decide_true, r0]
      refine (Inv_ok _ (p, mkR n n B) _ q0 (s.la _)).mono ?_
      rintro v h42 ⟨w, rfl, ⟨u32, ws32, rfl, R32⟩, f32⟩
      have eq := eI
      rw [eq] at R32
      rw [eq]
      have st := fun hh id => stV_agg2 hh id 0 (v := .int .i64 p) (u := u32) rfl (SV.what R32.own.sv).2.1
      simp (disch := first | omega | (simp only [Qn] <;> omega)) only [go_sem, d6', d0', decide_true, st, bxH_eq, List.getElem?_cons_zero, List.getElem?_cons_succ]
      have fx := f32.trans (bxH_fr h42 p u32)
      replace b_A := b_A.mono fx
      replace b_B := b_B.mono fx
      replace b_c := b_c.mono fx
      replace b_id := b_id.mono fx
      replace b_val := b_val.mono fx
      replace b_zero := b_zero.mono fx
      have b_inv := MB.new (h := h42) (p := p) R32.sr
      have iinv : InP p n Y := iY
      clear fx st eq f32 R32
      generalize bxH h42 p u32 = k42 at *
      generalize h42.next = j32 at *
      obtain ⟨a0, r0, q0⟩ := b_inv.row
      obtain ⟨a1, r1, q1⟩ := b_A.row
      simp (disch := first | omega | (simp only [Qn] <;> omega)) only [go_sem, d6', d0', decide_true, r0, r1]
      refine (Mul_ok _ _ (p, mkR n n Y) (p, mkR n n A) _ q0 q1 (s.la _) (s.la _)).mono ?_
      rintro v h43 ⟨w, rfl, ⟨u33, ws33, rfl, R33⟩, f33⟩
      have eq := s.mul iinv iA
      rw [eq] at R33
      rw [eq]
      have st := fun hh id => stV_agg2 hh id 0 (v := .int .i64 p) (u := u33) rfl (SV.what R33.own.sv).2.1
      simp (disch := first | omega | (simp only [Qn] <;> omega)) only [go_sem, d6', d0', decide_true, st, bxH_eq, List.getElem?_cons_zero, List.getElem?_cons_succ]
      have fx := f33.trans (bxH_fr h43 p u33)
      replace b_A := b_A.mono fx
      replace b_B := b_B.mono fx
      replace b_c := b_c.mono fx
      replace b_id := b_id.mono fx
      replace b_val := b_val.mono fx
      replace b_zero := b_zero.mono fx
      replace b_inv := b_inv.mono fx
      have b_x := MB.new (h := h43) (p := p) R33.sr
      have ix : InP p n (mmP p n Y A) := s.mm _ _
      clear fx st eq f33 R33
      generalize bxH h43 p u33 = k43 at *
      generalize h43.next = j33 at *
      obtain ⟨a0, r0, q0⟩ := b_x.row
      obtain ⟨a1, r1, q1⟩ := b_B.row
      simp (disch := first | omega | (simp only [Qn] <;> omega)) only [go_sem, d6', d0', decide_true, r0, r1]
      refine (Mul_ok _ _ (p, mkR n n (mmP p n Y A)) (p, mkR n n B) _ q0 q1 (s.la _) (s.la _)).mono ?_
      rintro v h44 ⟨w, rfl, ⟨u34, ws34, rfl, R34⟩, f34⟩
      have eq := s.mul ix iB
      rw [eq] at R34
      rw [eq]
      have st := fun hh id => stV_agg2 hh id 0 (v := .int .i64 p) (u := u34) rfl (SV.what R34.own.sv).2.1
      simp (disch := first | omega | (simp only [Qn] <;> omega)) only [go_sem, d6', d0', decide_true, st, bxH_eq, List.getElem?_cons_zero, List.getElem?_cons_succ]
      have fx := f34.trans (bxH_fr h44 p u34)
      replace b_A := b_A.mono fx
      replace b_B := b_B.mono fx
      replace b_c := b_c.mono fx
      replace b_id := b_id.mono fx
      replace b_val := b_val.mono fx
      replace b_zero := b_zero.mono fx
      replace b_inv := b_inv.mono fx
      replace b_x := b_x.mono fx
      have b_y := MB.new (h := h44) (p := p) R34.sr
      have iy : InP p n (mmP p n (mmP p n Y A) B) := s.mm _ _
      clear fx st eq f34 R34
      generalize bxH h44 p u34 = k44 at *
      generalize h44.next = j34 at *
      obtain ⟨a0, r0, q0⟩ := b_y.row
      simp (disch := first | omega | (simp only [Qn] <;> omega)) only [go_sem, d6', d0', decide_true, r0]
      refine (Poly_ok _ (p, mkR n n (mmP p n (mmP p n Y A) B)) _ q0 (s.la _)).mono ?_
      rintro v h70 ⟨vw, rfl, sw, fw⟩
      rw [s.poly iy] at sw
      rw [s.poly iy]
      replace b_c := b_c.mono fw
      simp (disch := first | omega | (simp only [Qn] <;> omega)) only [go_sem, d6', d0', decide_true, List.getElem?_cons_zero, List.getElem?_cons_succ]
      have ec : mkV (n + 1) (fun q => chp n (mmP p n (mmP p n Y A) B) q % p) = mkV (n + 1) C := by rw [hC]; exact poly_conj hY
      rw [ec] at sw
      refine (same_ok _ _ (mkV (n + 1) C) (mkV (n + 1) C) _ sw b_c (by rw [mkV_len]; omega) (by rw [mkV_len]; omega)).mono ?_
      rintro v h71 ⟨rfl, f71⟩
      simp (disch := first | omega | (simp only [Qn] <;> omega)) only [go_sem, decide_true]
  · have et : decide ((n : Int).tmod 2 = 0) = false := decide_eq_false (by omega)
    have eu : decide ((n : Int).tmod 2 = 1) = true := decide_eq_true (by omega)
    have e0 : (C 0 + D) % p = 0 := by rw [hC, ← hD]; exact poly_odd hpar A
    have em0 := nonneg_tmod (a := C 0 + D) (p := p) (by omega)
    rw [e0] at em0
    simp (disch := first | omega | (simp only [Qn] <;> omega)) only [go_sem, et, eu, shc.ixa, c0, em0, d6', d0', decide_true]
    clear et eu e0 em0
    clear c0 shc hidc hcc tm
    refine (One_ok (n : Int) p _).mono ?_
    rintro v h20 ⟨w, rfl, ⟨u0, ws0, rfl, R0⟩, f0⟩
    have eq := s.one
    rw [eq] at R0
    rw [eq]
    have st := fun hh id => stV_agg2 hh id 0 (v := .int .i64 p) (u := u0) rfl (SV.what R0.own.sv).2.1
    simp (disch := first | omega | (simp only [Qn] <;> omega)) only [go_sem, d6', d0', decide_true, st, bxH_eq, List.getElem?_cons_zero, List.getElem?_cons_succ]
    have fx := f0.trans (bxH_fr h20 p u0)
    replace b_A := b_A.mono fx
    replace b_B := b_B.mono fx
    replace b_c := b_c.mono fx
    have b_id := MB.new (h := h20) (p := p) R0.sr
    have iid : InP p n idM := s.on
    clear fx st eq f0 R0
    generalize bxH h20 p u0 = kb at *
    generalize h20.next = jid at *
    obtain ⟨a0, r0, q0⟩ := b_id.row
    simp (disch := first | omega | (simp only [Qn] <;> omega)) only [go_sem, d6', d0', decide_true, r0]
    refine (Scale_ok _ (p, mkR n n idM) 0 _ q0 (s.la _)).mono ?_
    rintro v hv ⟨w, rfl, ⟨uv, wsv, rfl, Rv⟩, fv⟩
    have eq := s.scale iid 0
    rw [eq] at Rv
    rw [eq]
    have st := fun hh id => stV_agg2 hh id 0 (v := .int .i64 p) (u := uv) rfl (SV.what Rv.own.sv).2.1
    simp (disch := first | omega | (simp only [Qn] <;> omega)) only [go_sem, d6', d0', decide_true, st, bxH_eq, List.getElem?_cons_zero, List.getElem?_cons_succ]
    have fx := fv.trans (bxH_fr hv p uv)
    have b_val : MB _ _ (p, mkR n n (hwM p n A C 0)) := MB.new (h := hv) (p := p) Rv.sr
    have jl := fv.next
    clear st eq fv Rv
    generalize bxH hv p uv = kv at *
    generalize hv.next = jv at *
    have jlt := b_val.choose_spec.2.2
    refine Wp_loop (fun k' vars hh => ∃ (t : Nat) (kk : Int), (∃ g : Nat → V, vars = [g 0, .int .i64 p, .int .i64 (n : Int), g 3, g 4, .ptr bA 0, .ptr bB 0, vc, g 8, g 9, g 10, g 11, g 12, .ptr jid 0, g 14, .ptr jv 0, g 16, .int .i64 kk, g 18, g 19, g 20, g 21, g 22, g 23, g 24, g 25, g 26, g 27, g 28, g 29, g 30, g 31, g 32, g 33, g 34, g 35, g 36, g 37, g 38, g 39, g 40, g 41, g 42]) ∧ kk = (n : Int) - (t : Int) ∧ t ≤ n + 1 ∧ MB hh jv (p, mkR n n (hwM p n A C t)) ∧ Fr kb hh ∧ k' = n + 1 - t) (n + 1)
      ⟨0, _, ex_junk rfl, by omega, Nat.zero_le _, b_val, fx, rfl⟩ ?_
    clear b_val fx jlt
    rintro k' vars hh ⟨t, kk, ⟨g, rfl⟩, hkk, ht, b_val, fx, rfl⟩
    simp (disch := first | omega | (simp only [Qn] <;> omega)) only [go_sem]
    by_cases h0 : 0 ≤ kk
    · rw [decide_eq_true h0]
      obtain ⟨q, hq⟩ : ∃ q : Nat, kk = (q : Int) := ⟨kk.toNat, by omega⟩
      subst hq
      have iW := hw_in (show 0 < p by omega) n A C t
      replace b_A := b_A.mono fx
      replace b_B := b_B.mono fx
      replace b_c := b_c.mono fx
      replace b_id := b_id.mono fx
      have jlt := b_val.choose_spec.2.2
      have gJ0 := b_val.choose_spec.1
      obtain ⟨a0, r0, q0⟩ := b_val.row
      obtain ⟨a1, r1, q1⟩ := b_A.row
      simp (disch := first | omega | (simp only [Qn] <;> omega)) only [go_sem, r0, r1]
      refine (Mul_ok _ _ (p, mkR n n (hwM p n A C t)) (p, mkR n n A) _ q0 q1 (s.la _) (s.la _)).mono ?_
      rintro v h1 ⟨w, rfl, ⟨u1, ws1, rfl, R1⟩, f1⟩
      have eq := s.mul iW iA
      rw [eq] at R1
      rw [eq]
      have st := fun hh id => stV_agg2 hh id 0 (v := .int .i64 p) (u := u1) rfl (SV.what R1.own.sv).2.1
      simp (disch := first | omega | (simp only [Qn] <;> omega)) only [go_sem, st, bxH_eq, List.getElem?_cons_zero, List.getElem?_cons_succ]
      have fx1 := f1.trans (bxH_fr h1 p u1)
      replace b_A := b_A.mono fx1
      replace b_B := b_B.mono fx1
      replace b_c := b_c.mono fx1
      replace b_id := b_id.mono fx1
      have b_x := MB.new (h := h1) (p := p) R1.sr
      have iX : InP p n (mmP p n (hwM p n A C t) A) := s.mm _ _
      have F1 := fx.trans fx1
      have gJ1 := (fx1.get jv jlt).trans gJ0
      have jk1 : jv < (bxH h1 p u1).next := Nat.lt_of_lt_of_le jlt fx1.next
      have jx : jv < h1.next := Nat.lt_of_lt_of_le jlt f1.next
      clear fx1 st eq f1 R1
      generalize bxH h1 p u1 = k1 at *
      generalize h1.next = jx1 at *
      obtain ⟨a0, r0, q0⟩ := b_id.row
      obtain ⟨idc, offc, shc, hidc, hcc⟩ := b_c.open
      rw [mkV_len] at shc hidc hcc
      have cq := hcc q (by omega)
      rw [mkV_get _ (by omega)] at cq
      have fb : Fr k1 (H.mk k1.tr (k1.next + 12)) := (Fr.refl k1).bump (by omega)
      have nz : (H.mk k1.tr (k1.next + 12)).next = k1.next + 12 := rfl
      have r0z : (H.mk k1.tr (k1.next + 12)).row jid 0 2 = _ := r0
      have cqz : (H.mk k1.tr (k1.next + 12)).cell idc (offc + q) = _ := cq
      have jidlt := b_id.choose_spec.2.2
      have bz := b_id.mono fb
      simp (disch := first | omega | (simp only [Qn] <;> omega)) only [go_sem, r0z, shc.ixa, cqz, cq]
      generalize H.mk k1.tr (k1.next + 12) = kz at *
      obtain ⟨a2, r2, q2⟩ := bz.row
      rw [r0z] at r2
      have ea : a0 = a2 := by simpa using r2
      subst ea
      refine (Scale_ok _ (p, mkR n n idM) (C q) kz q2 (s.la _)).mono ?_
      rintro v h2 ⟨w, rfl, ⟨u2, ws2, rfl, R2⟩, f2⟩
      have eq := s.scale iid (C q)
      rw [eq] at R2
      rw [eq]
      have st := fun hh id => stV_agg2 hh id 0 (v := .int .i64 p) (u := u2) rfl (SV.what R2.own.sv).2.1
      have n2 := f2.next
      simp (disch := first | omega | (simp only [Qn] <;> omega)) only [go_sem, litV_eq, st, List.getElem?_cons_zero, List.getElem?_cons_succ]
      obtain ⟨O, hO⟩ : ∃ O, k1.next + 9 = O := ⟨_, rfl⟩
      rw [hO]
      have gO : ((litV h2 O [V.int IntKind.i64 0, V.nils] h2.next).set O (some (Ob.cells false [V.int IntKind.i64 p, u2]))).get O = some (.cells false [.int .i64 p, u2]) := H.get_set_same ..
      have gn : ∀ k, k ≠ O → ((litV h2 O [V.int IntKind.i64 0, V.nils] h2.next).set O (some (Ob.cells false [V.int IntKind.i64 p, u2]))).get k = h2.get k := fun k hk => by simp (disch := first | omega | (simp only [Qn] <;> omega)) only [go_sem]
      have nB : ((litV h2 O [V.int IntKind.i64 0, V.nils] h2.next).set O (some (Ob.cells false [V.int IntKind.i64 p, u2]))).next = h2.next := rfl
      generalize ((litV h2 O [V.int IntKind.i64 0, V.nils] h2.next).set O (some (Ob.cells false [V.int IntKind.i64 p, u2]))) = hF at *
      have fF : Fr k1 hF := ⟨by omega, fun k hk => by rw [gn k (by omega)]; exact (f2.get k (by omega)).trans (fb.get k hk)⟩
      have b_y : MB hF O (p, mkR n n (fun i j => (C q % p) * idM i j % p)) := ⟨u2, gO, (Rws.fx R2 (x := O) (by omega) ⟨by omega, fun k _ hne => gn k hne⟩).sr, by omega⟩
      have iY : InP p n (fun i j => (C q % p) * idM i j % p) := s.sc _ _
      replace b_A := b_A.mono fF
      replace b_B := b_B.mono fF
      replace b_c := b_c.mono fF
      replace b_id := b_id.mono fF
      replace b_x := b_x.mono fF
      have FF := F1.trans fF
      have nF := fF.next
      have nk1 := f2.next
      clear gO gn fb f2 R2 st eq bz r0z cqz cq r0 q0 q2 r1 q1 r2
      obtain ⟨a0, r0, q0⟩ := b_x.row
      obtain ⟨a1, r1, q1⟩ := b_y.row
      simp (disch := first | omega | (simp only [Qn] <;> omega)) only [go_sem, r0, r1]
      refine (Add_ok _ _ (p, mkR n n (mmP p n (hwM p n A C t) A)) (p, mkR n n (fun i j => (C q % p) * idM i j % p)) _ q0 q1 (s.la _) (s.la _)).mono ?_
      rintro v h3 ⟨w, rfl, ⟨u3, ws3, rfl, R3⟩, f3⟩
      have eq := s.add iX iY
      rw [eq] at R3
      rw [eq]
      have st := fun hh id => stV_agg2 hh id 0 (v := .int .i64 p) (u := u3) rfl (SV.what R3.own.sv).2.1
      have jvk : jv < kb.next + (jv + 1) := by omega
      have fB := bxH_fr h3 p u3
      have rB := row_two (bxH_get h3 p u3)
      have gJ : (bxH h3 p u3).get jv = some (.cells false [.int .i64 p, b_val.choose]) := by
        rw [fB.get jv (by have := f3.next; omega), f3.get jv (by omega), fF.get jv (by omega)]
        exact gJ1
      simp (disch := first | omega | (simp only [Qn] <;> omega)) only [go_sem, d6', d0', decide_true, st, bxH_eq, rB, gJ, List.getElem?_cons_zero, List.getElem?_cons_succ]
      have nJ := fB.next
      have n3 := f3.next
      have hqn : q = n - t := by omega
      have eW : hwM p n A C (t + 1) = fun i k => (mmP p n (hwM p n A C t) A i k + (C q % p) * idM i k % p) % p := by
        simp only [hwM]; rw [← hqn]
      refine ⟨n + 1 - (t + 1), by omega, t + 1, (q : Int) - 1, ex_junk rfl, by omega, by omega, ?_, ((FF.trans f3).trans fB).set jl _, rfl⟩
      rw [eW]
      exact ⟨u3, H.get_set_same .., ((R3.fr fB).set (by omega) _).sr, by rw [H.next_set]; omega⟩
    rw [decide_eq_false h0]
    obtain rfl : t = n + 1 := by omega
    have hp0 : 0 < p := by omega
    replace b_A := b_A.mono fx
    replace b_B := b_B.mono fx
    replace b_c := b_c.mono fx
    replace b_id := b_id.mono fx
    have iV := hw_in hp0 n A C (n + 1)
    have eV : mkR n n (hwM p n A C (n + 1)) = mkR n n (fun i j => (0 % p) * idM i j % p) := by
      obtain ⟨m, rfl⟩ : ∃ m, n = m + 1 := ⟨n - 1, by omega⟩
      rw [hC]; exact hw_zero hp0 A
    clear fx
    try simp (disch := first | omega | (simp only [Qn] <;> omega)) only [go_sem, d6', d0', decide_true]
    obtain ⟨a0, r0, q0⟩ := b_id.row
    simp (disch := first | omega | (simp only [Qn] <;> omega)) only [go_sem, d6', d0', decide_true, r0]
    refine (Scale_ok _ (p, mkR n n idM) 0 _ q0 (s.la _)).mono ?_
    rintro v h40 ⟨w, rfl, ⟨u30, ws30, rfl, R30⟩, f30⟩
    have eq := s.scale iid 0
    rw [eq] at R30
    rw [eq]
    have st := fun hh id => stV_agg2 hh id 0 (v := .int .i64 p) (u := u30) rfl (SV.what R30.own.sv).2.1
    simp (disch := first | omega | (simp only [Qn] <;> omega)) only [go_sem, d6', d0', decide_true, st, bxH_eq, List.getElem?_cons_zero, List.getElem?_cons_succ]
    have fx := f30.trans (bxH_fr h40 p u30)
    replace b_A := b_A.mono fx
    replace b_B := b_B.mono fx
    replace b_c := b_c.mono fx
    replace b_id := b_id.mono fx
    replace b_val := b_val.mono fx
    have b_zero := MB.new (h := h40) (p := p) R30.sr
    have izero : InP p n (fun i j => (0 % p) * idM i j % p) := s.sc _ _
    clear fx st eq f30 R30
    generalize bxH h40 p u30 = k40 at *
    generalize h40.next = j30 at *
    obtain ⟨a0, r0, q0⟩ := b_val.row
    obtain ⟨a1, r1, q1⟩ := b_zero.row
    simp (disch := first | omega | (simp only [Qn] <;> omega)) only [go_sem, d6', d0', decide_true, r0, r1]
    refine (Same_ok _ _ (p, mkR n n (hwM p n A C (n + 1))) (p, mkR n n (fun i j => (0 % p) * idM i j % p)) _ q0 q1 (s.fits _) (s.fits _)).mono ?_
    rintro v k41 ⟨rfl, f31⟩
    rw [decide_eq_true (show ((p, mkR n n (hwM p n A C (n + 1))) : Mat) = (p, mkR n n (fun i j => (0 % p) * idM i j % p)) from by rw [eV])]
    replace b_A := b_A.mono f31
    replace b_B := b_B.mono f31
    replace b_c := b_c.mono f31
    replace b_id := b_id.mono f31
    replace b_val := b_val.mono f31
    replace b_zero := b_zero.mono f31
    try simp (disch := first | omega | (simp only [Qn] <;> omega)) only [go_sem, d6', d0', decide_true]
    rcases s.inv iB with ⟨hd, eI⟩ | ⟨hd, Y, hY, iY, eI⟩
    · obtain ⟨a0, r0, q0⟩ := b_B.row
      simp (disch := first | omega | (simp only [Qn] <;> omega)) only [go_sem, d6', d0', decide_true, r0]
      refine (Inv_ok _ (p, mkR n n B) _ q0 (s.la _)).mono ?_
      rintro v h60 ⟨w, rfl, ⟨u60, ws60, rfl, R60⟩, f60⟩
      rw [eI] at R60
      rw [eI]
      have st := fun hh id => stV_agg2 hh id 0 (v := .int .i64 0) (u := u60) rfl (SV.what R60.own.sv).2.1
      have d15 : decide ((15 : Int) ≠ 0) = true := by decide
      simp (disch := first | omega | (simp only [Qn] <;> omega)) only [go_sem, st, bxH_eq, d15, decide_true]
    · obtain ⟨a0, r0, q0⟩ := b_B.row
      simp (disch := first | omega | (simp only [Qn] <;> omega)) only [go_sem, d6', d0', decide_true, r0]
      refine (Inv_ok _ (p, mkR n n B) _ q0 (s.la _)).mono ?_
      rintro v h42 ⟨w, rfl, ⟨u32, ws32, rfl, R32⟩, f32⟩
      have eq := eI
      rw [eq] at R32
      rw [eq]
      have st := fun hh id => stV_agg2 hh id 0 (v := .int .i64 p) (u := u32) rfl (SV.what R32.own.sv).2.1
      simp (disch := first | omega | (simp only [Qn] <;> omega)) only [go_sem, d6', d0', decide_true, st, bxH_eq, List.getElem?_cons_zero, List.getElem?_cons_succ]
      have fx := f32.trans (bxH_fr h42 p u32)
      replace b_A := b_A.mono fx
      replace b_B := b_B.mono fx
      replace b_c := b_c.mono fx
      replace b_id := b_id.mono fx
      replace b_val := b_val.mono fx
      replace b_zero := b_zero.mono fx
      have b_inv := MB.new (h := h42) (p := p) R32.sr
      have iinv : InP p n Y := iY
      clear fx st eq f32 R32
      generalize bxH h42 p u32 = k42 at *
      generalize h42.next = j32 at *
      obtain ⟨a0, r0, q0⟩ := b_inv.row
      obtain ⟨a1, r1, q1⟩ := b_A.row
      simp (disch := first | omega | (simp only [Qn] <;> omega)) only [go_sem, d6', d0', decide_true, r0, r1]
      refine (Mul_ok _ _ (p, mkR n n Y) (p, mkR n n A) _ q0 q1 (s.la _) (s.la _)).mono ?_
      rintro v h43 ⟨w, rfl, ⟨u33, ws33, rfl, R33⟩, f33⟩
      have eq := s.mul iinv iA
      rw [eq] at R33
      rw [eq]
      have st := fun hh id => stV_agg2 hh id 0 (v := .int .i64 p) (u := u33) rfl (SV.what R33.own.sv).2.1
      simp (disch := first | omega | (simp only [Qn] <;> omega)) only [go_sem, d6', d0', decide_true, st, bxH_eq, List.getElem?_cons_zero, List.getElem?_cons_succ]
      have fx := f33.trans (bxH_fr h43 p u33)
      replace b_A := b_A.mono fx
      replace b_B := b_B.mono fx
      replace b_c := b_c.mono fx
      replace b_id := b_id.mono fx
      replace b_val := b_val.mono fx
      replace b_zero := b_zero.mono fx
      replace b_inv := b_inv.mono fx
      have b_x := MB.new (h := h43) (p := p) R33.sr
      have ix : InP p n (mmP p n Y A) := s.mm _ _
      clear fx st eq f33 R33
      generalize bxH h43 p u33 = k43 at *
      generalize h43.next = j33 at *
      obtain ⟨a0, r0, q0⟩ := b_x.row
      obtain ⟨a1, r1, q1⟩ := b_B.row
      simp (disch := first | omega | (simp only [Qn] <;> omega)) only [go_sem, d6', d0', decide_true, r0, r1]
      refine (Mul_ok _ _ (p, mkR n n (mmP p n Y A)) (p, mkR n n B) _ q0 q1 (s.la _) (s.la _)).mono ?_
      rintro v h44 ⟨w, rfl, ⟨u34, ws34, rfl, R34⟩, f34⟩
      have eq := s.mul ix iB
      rw [eq] at R34
      rw [eq]
      have st := fun hh id => stV_agg2 hh id 0 (v := .int .i64 p) (u := u34) rfl (SV.what R34.own.sv).2.1
      simp (disch := first | omega | (simp only [Qn] <;> omega)) only [go_sem, d6', d0', decide_true, st, bxH_eq, List.getElem?_cons_zero, List.getElem?_cons_succ]
      have fx := f34.trans (bxH_fr h44 p u34)
      replace b_A := b_A.mono fx
      replace b_B := b_B.mono fx
      replace b_c := b_c.mono fx
      replace b_id := b_id.mono fx
      replace b_val := b_val.mono fx
      replace b_zero := b_zero.mono fx
      replace b_inv := b_inv.mono fx
      replace b_x := b_x.mono fx
      have b_y := MB.new (h := h44) (p := p) R34.sr
      have iy : InP p n (mmP p n (mmP p n Y A) B) := s.mm _ _
      clear fx st eq f34 R34
      generalize bxH h44 p u34 = k44 at *
      generalize h44.next = j34 at *
      obtain ⟨a0, r0, q0⟩ := b_y.row
      simp (disch := first | omega | (simp only [Qn] <;> omega)) only [go_sem, d6', d0', decide_true, r0]
      refine (Poly_ok _ (p, mkR n n (mmP p n (mmP p n Y A) B)) _ q0 (s.la _)).mono ?_
      rintro v h70 ⟨vw, rfl, sw, fw⟩
      rw [s.poly iy] at sw
      rw [s.poly iy]
      replace b_c := b_c.mono fw
      simp (disch := first | omega | (simp only [Qn] <;> omega)) only [go_sem, d6', d0', decide_true, List.getElem?_cons_zero, List.getElem?_cons_succ]
      have ec : mkV (n + 1) (fun q => chp n (mmP p n (mmP p n Y A) B) q % p) = mkV (n + 1) C := by rw [hC]; exact poly_conj hY
      rw [ec] at sw
      refine (same_ok _ _ (mkV (n + 1) C) (mkV (n + 1) C) _ sw b_c (by rw [mkV_len]; omega) (by rw [mkV_len]; omega)).mono ?_
      rintro v h71 ⟨rfl, f71⟩
      simp (disch := first | omega | (simp only [Qn] <;> omega)) only [go_sem, decide_true]
end Go.Proofs.Ytonhijbeddcmpaa
