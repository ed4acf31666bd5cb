/- Layer 4: the reference's Poly. Layer 4: powers. Layer 4: determinants, inverses and powers of valid square matrices. Layer 4: what MatrixPoly needs. Layer 4: the reference's Det. Layer 4: the reference's size. Layer 4: rows in places, appended one by one. Layer 4: the reference's Inv. Layer 4: the reference's Pow. Layer 4: the reference's Order. Layer 4: the permutation of the vectors. Layer 4: the reference's permutation of the vectors. Layer 4: what is too large. The law MatrixCalls, walked. The law MatrixValues, walked. The law MatrixOrders, walked. The law MatrixInverse, walked. The law MatrixNames, walked. The law MatrixNames, walked: the walk. -/
import Derived.Test.YtonhijbeddcmpaaM4rftoDt9
import Derived.Test.YtonhijbeddcmpaaAy34
/- Layer 4: the reference's Poly.
-/
namespace Go.Proofs.Ytonhijbeddcmpaa
open Go Go.Ay
set_option maxRecDepth 100000
theorem kn_slc {v : V} {l : List Int} {h : H} (s : SI h v l) (c : Kn v) {k : Nat} (hk : k ≤ l.length) (h0 : 0 < l.length) : ∃ v', slcV 1 v none (some (.int .i64 (k : Int))) none = some v' ∧ SI h v' (l.take k) := by
  rcases s with ⟨_, e⟩ | ⟨id, off, len, cap, ro, vs, rfl, h2, h3, h4, h5, h6⟩
  · have : (ints l).length = 0 := by rw [e]; rfl
    rw [ints_length] at this; omega
  · obtain ⟨q, rfl, hq⟩ := c id off len cap rfl
    rw [ints_length, Nat.mul_one] at h2
    refine ⟨_, slc_kn (by omega) (by omega), ?_⟩
    rw [Int.toNat_natCast]
    refine .inr ⟨id, off, k, _, ro, vs, rfl, by rw [ints_length, List.length_take]; omega, h3, h4, by omega, ?_⟩
    rw [Nat.mul_one] at h6 ⊢
    rw [← ints_take, ← h6, List.take_take, Nat.min_eq_left (by omega)]
/-- A matrix that came in. -/
def MatK (h : H) (v : V) (a : Mat) : Prop := ∃ u, v = .agg [.int .i64 a.1, u] ∧ SRk h u a.2
end Go.Proofs.Ytonhijbeddcmpaa

/- Layer 4: powers. -/
namespace Go.Proofs.Ytonhijbeddcmpaa
open Go Go.Ay
set_option maxRecDepth 100000
theorem wrap_u64 {n : Int} (h1 : 0 ≤ n) (h2 : n < 18446744073709551616) : IntKind.u64.wrap n = n := by
  have : IntKind.u64.wrap n = n % 18446744073709551616 := by
    simp [IntKind.wrap, IntKind.bits, IntKind.signed]
  rw [this, Int.emod_eq_of_lt h1 h2]
theorem wrap_u64_neg {n : Int} (h1 : -18446744073709551616 ≤ n) (h2 : n < 0) : IntKind.u64.wrap n = n + 18446744073709551616 := by
  have : IntKind.u64.wrap n = n % 18446744073709551616 := by
    simp [IntKind.wrap, IntKind.bits, IntKind.signed]
  rw [this, ← Int.add_emod_right, Int.emod_eq_of_lt (by omega) (by omega)]
def pwG (n : Nat) : Nat → Mat → Mat → Nat → Mat
  | 0, out, _, _ => out
  | f + 1, out, x, left => if left = 0 then out else pwG n f (if left % 2 = 1 then mulF out x n n else out) (mulF x x n n) (left / 2)
noncomputable def PowF (a : Mat) (k : Int) : Mat × Int :=
  if sqF a ≠ 0 then ((0, []), sqF a)
  else if k < 0 ∧ (InvF a).2 ≠ 0 then ((0, []), (InvF a).2)
  else (pwG a.2.length 64 (oneF a.2.length a.1) (if k < 0 then (InvF a).1 else a) k.natAbs, 0)
/-- A unit has an inverse. -/
theorem inv_ex {p : Int} (hp : isP p = true) {m : Nat} {A : Mx} (hd : det (m + 1) A % p ≠ 0) : ∃ X, IsInv p (m + 1) A X := by
  have P := isP_pr hp
  have h2 := P.two
  have hr := tmod_range (det (m + 1) A) (show 0 < p by omega)
  have f := fermat P (a := det (m + 1) A % p) (by omega) (by omega)
  rw [show (p.toNat : Int) = p by omega] at f
  obtain ⟨e, he⟩ : ∃ e, (det (m + 1) A % p) ^ (p.toNat - 2) = e := ⟨_, rfl⟩
  rw [he] at f
  have em : ∀ a : Int, a % p % p = a % p := fun a => Int.emod_emod_of_dvd _ (Int.dvd_refl p)
  have f2 : e * det (m + 1) A % p = 1 := by
    rw [Int.mul_comm, mul_mod (em (det (m + 1) A)).symm (rfl : e % p = e % p)]; exact f
  refine ⟨fun i j => e * adjM m A i j % p, fun i j _ _ => (tmod_range _ (by omega)).1, fun i j _ _ => (tmod_range _ (by omega)).2, fun i j hi hj => ?_⟩
  rw [mulM_mod (A' := fun i j => e * adjM m A i j) (B' := A) (fun k _ => em _) (fun _ _ => rfl)]
  have e1 : mulM (m + 1) (fun i j => e * adjM m A i j) A i j = e * mulM (m + 1) (adjM m A) A i j := by
    simp only [mulM]
    rw [← sm_mul]
    exact sm_congr fun k _ => by rw [Int.mul_assoc]
  rw [e1, adj_mul A hi hj]
  simp only [idM]
  split
  · rw [f2]; exact (one_mod (by omega)).symm
  · rw [Int.mul_zero]
theorem inv_vd {a : Mat} (h : (InvF a).2 = 0) : ∃ X, IsInv a.1 a.2.length (ent a.2) X ∧ (InvF a).1 = (a.1, mkR a.2.length a.2.length X) ∧ InP a.1 a.2.length X := by
  have hz := inv_sq h
  have da := sq_vd hz
  have hd : ¬ det a.2.length (ent a.2) % a.1 = 0 := fun e => by
    rw [InvF, if_neg (by simp [hz]), if_pos e] at h
    cases h
  obtain ⟨m, hm⟩ : ∃ m, a.2.length = m + 1 := ⟨a.2.length - 1, by have := da.r1; omega⟩
  have hP : isP a.1 = true := by
    have := da.p
    simp only [fieldF, Bool.and_eq_true] at this; exact this.2
  rw [InvF, if_neg (by simp [hz]), if_neg hd]
  rw [hm] at hd ⊢
  obtain ⟨X, hX⟩ := inv_ex hP hd
  exact ⟨X, hX, by rw [invX_eq hX], fun i k hi hk => ⟨hX.lo i k hi hk, hX.hi i k hi hk⟩⟩
/-- A slice in no block of the list. -/
def Away (bad : List Nat) (v : V) : Prop := ∀ id off n c, v = .sl id off n c → id ∉ bad
/-- Rows in no block of the list. -/
def SRa (h : H) (u : V) (ll : List (List Int)) (bad : List Nat) : Prop := ∃ ws, SV h u 1 ws ∧ All2 (SI h) ws ll ∧ Away bad u ∧ ∀ w ∈ ws, Away bad w
theorem SRa.sr {h : H} {u : V} {ll : List (List Int)} {bad : List Nat} (s : SRa h u ll bad) : SR h u ll := by
  obtain ⟨ws, h1, h2, _⟩ := s; exact ⟨ws, h1, h2⟩
theorem SRa.fr {h h' : H} {u : V} {ll : List (List Int)} {bad : List Nat} (s : SRa h u ll bad) (f : Fr h h') : SRa h' u ll bad := by
  obtain ⟨ws, h1, h2, h3, h4⟩ := s
  exact ⟨ws, h1.mono f, h2.mono fun _ _ x => x.mono f, h3, h4⟩
theorem SRa.set {h : H} {u : V} {ll : List (List Int)} {bad : List Nat} (s : SRa h u ll bad) {x : Nat} (hx : x ∈ bad) (o : Option Ob) : SRa (h.set x o) u ll bad := by
  obtain ⟨ws, h1, h2, h3, h4⟩ := s
  refine ⟨ws, ?_, All2.keep h2 fun w hw _ q => SI.keep q (Nat.le_refl _) fun id off n c e => H.get_set_ne h (fun e2 => h4 w hw _ _ _ _ e (by rw [e2]; exact hx)) o, h3, h4⟩
  rcases h1 with h1 | ⟨id, off, len, cap, ro, vs, q1, q2, q3, q4, q5, q6⟩
  · exact .inl h1
  · exact .inr ⟨id, off, len, cap, ro, vs, q1, q2, q3, by rw [H.get_set_ne h (fun e2 => h3 _ _ _ _ q1 (by rw [e2]; exact hx))]; exact q4, q5, q6⟩
theorem SV.lt {h : H} {v : V} {sz : Nat} {ws : List V} (s : SV h v sz ws) {id off n : Nat} {c : Cap} (e : v = .sl id off n c) : id < h.next := by
  rcases s with ⟨h1 | ⟨_, h1⟩, _⟩ | ⟨id', o', l', c', _, _, h1, _, h3, _⟩
  · rw [h1] at e; cases e
  · rw [h1] at e; cases e
  · rw [h1] at e; cases e; exact h3
theorem all2_lt {h : H} {ws : List V} {ll : List (List Int)} (a : All2 (SI h) ws ll) {w : V} (hw : w ∈ ws) {id off n : Nat} {c : Cap} (e : w = .sl id off n c) : id < h.next := by
  obtain ⟨i, hi, rfl⟩ := List.mem_iff_getElem.1 hw
  exact SI.lt (a.get i hi (by rw [← a.length]; exact hi)) e
/-- From of old. -/
theorem SRa.old {h : H} {u : V} {ll : List (List Int)} {bad : List Nat} (s : SR h u ll) (hb : ∀ b ∈ bad, h.next ≤ b) : SRa h u ll bad := by
  obtain ⟨ws, h1, h2⟩ := s
  exact ⟨ws, h1, h2, fun id off n c e hm => by have := SV.lt h1 e; have := hb id hm; omega, fun w hw id off n c e hm => by have := all2_lt h2 hw e; have := hb id hm; omega⟩
/-- New. -/
theorem SRa.new {h : H} {u : V} {ws : List V} {ll : List (List Int)} {lo : Nat} {bad : List Nat} (r : Rws h u ws ll lo) (hb : ∀ b ∈ bad, b < lo ∨ h.next ≤ b) : SRa h u ll bad :=
  ⟨ws, r.own.sv, r.row, fun id off n c e hm => by
    have := SV.lt r.own.sv e
    have := Frs.own r.own _ _ _ _ e
    have := hb id hm; omega, fun w hw id off n c e hm => by
    have := all2_lt r.row hw e
    have := r.frs w hw _ _ _ _ e
    have := hb id hm; omega⟩
structure PI0 (p : Int) (n : Nat) (rc : LRec) (L6 O9 XB LID A3 : Nat) (base : H) (left : Nat) (out x : Mat) (uo ux : V) (hh : H) : Prop where
  gL : hh.get LID = some (.loop rc)
  g6 : hh.get L6 = some (.cells false [.int .u64 (left : Int)])
  g9 : hh.get O9 = some (.cells false [.int .i64 p, uo])
  gX : hh.get XB = some (.cells false [.int .i64 p, ux])
  so : SRa hh uo out.2 [L6, O9, XB, LID, A3]
  sx : SRa hh ux x.2 [L6, O9, XB, LID, A3]
  o1 : out.1 = p
  x1 : x.1 = p
  vo : Vd out n
  vx : Vd x n
  lo : out.2.length = n
  lx : x.2.length = n
  lt : LID < hh.next
  fr : Fr base hh
def DN (p : Int) (rc : LRec) (O9 LID : Nat) (RES : Mat) (base : H) (L6 XB A3 : Nat) (hh : H) : Prop := ∃ uo, hh.get LID = some (.loop { rc with st := .done, pend := some (.exit 0) }) ∧ hh.get O9 = some (.cells false [.int .i64 p, uo]) ∧ SRa hh uo RES.2 [L6, O9, XB, LID, A3] ∧ Fr base hh ∧ RES.1 = p
theorem PI0.set {p : Int} {n : Nat} {rc : LRec} {L6 O9 XB LID A3 : Nat} {base : H} {left : Nat} {out x : Mat} {uo ux : V} {hh : H} (k : PI0 p n rc L6 O9 XB LID A3 base left out x uo ux hh) (hs : base.next ≤ L6 ∧ L6 < O9 ∧ O9 < XB ∧ XB < LID) (rc' : LRec) : PI0 p n rc' L6 O9 XB LID A3 base left out x uo ux (hh.set LID (some (.loop rc'))) :=
  ⟨H.get_set_same .., by rw [H.get_set_ne _ (by omega)]; exact k.g6, by rw [H.get_set_ne _ (by omega)]; exact k.g9, by rw [H.get_set_ne _ (by omega)]; exact k.gX, k.so.set (by simp) _, k.sx.set (by simp) _, k.o1, k.x1, k.vo, k.vx, k.lo, k.lx, k.lt, k.fr.set (by omega) _⟩
theorem SRa.ext {h : H} {u : V} {ll : List (List Int)} {bad bad' : List Nat} (s : SRa h u ll bad) (hb : ∀ b ∈ bad', b ∈ bad ∨ h.next ≤ b) : SRa h u ll bad' := by
  obtain ⟨ws, h1, h2, h3, h4⟩ := s
  refine ⟨ws, h1, h2, fun id off n c e hm => ?_, fun w hw id off n c e hm => ?_⟩
  · rcases hb id hm with q | q
    · exact h3 _ _ _ _ e q
    · have := SV.lt h1 e; omega
  · rcases hb id hm with q | q
    · exact h4 w hw _ _ _ _ e q
    · have := all2_lt h2 hw e; omega
theorem iteW_then {p : Nat → Option Ay.Fn} {rd : Option Nat} {a b c : C} {vars : List V} {h : H} {Q : E → List V → H → Prop} {v : V} (J : List V → H → Prop) (h1 : iteW p rd a b vars h (fun e vs h' => e = .norm ∧ J vs h' ∨ e ≠ .norm ∧ Q e vs h') v) (h2 : ∀ vs h', J vs h' → Wp p rd c vs h' Q) : iteW p rd a b vars h (thenP p rd c Q) v := by
  have key : ∀ e vs h', (e = .norm ∧ J vs h' ∨ e ≠ .norm ∧ Q e vs h') → thenP p rd c Q e vs h' := fun e vs h' q => by
    rcases q with ⟨rfl, q⟩ | ⟨hne, q⟩
    · exact h2 vs h' q
    · cases e
      · exact absurd rfl hne
      · exact q
      · exact q
  cases v with
  | bool t =>
    cases t
    · exact Wp.mono (show Wp p rd b vars h _ from h1) key
    · exact Wp.mono (show Wp p rd a vars h _ from h1) key
  | _ => exact (show False from h1).elim
theorem PI0.frm {p : Int} {n : Nat} {rc : LRec} {L6 O9 XB LID A3 : Nat} {base : H} {left : Nat} {out x : Mat} {uo ux : V} {hh h' : H} (k : PI0 p n rc L6 O9 XB LID A3 base left out x uo ux hh) (hs : base.next ≤ L6 ∧ L6 < O9 ∧ O9 < XB ∧ XB < LID) (f : Fr hh h') : PI0 p n rc L6 O9 XB LID A3 base left out x uo ux h' := by
  have ltL := k.lt
  exact ⟨(f.get _ (by omega)).trans k.gL, (f.get _ (by omega)).trans k.g6, (f.get _ (by omega)).trans k.g9, (f.get _ (by omega)).trans k.gX, k.so.fr f, k.sx.fr f, k.o1, k.x1, k.vo, k.vx, k.lo, k.lx, Nat.lt_of_lt_of_le k.lt f.next, k.fr.trans f⟩
theorem PI0.setO {p : Int} {n : Nat} {rc : LRec} {L6 O9 XB LID A3 : Nat} {base : H} {left : Nat} {out x out' : Mat} {uo ux uo' : V} {hh : H} (k : PI0 p n rc L6 O9 XB LID A3 base left out x uo ux hh) (hs : base.next ≤ L6 ∧ L6 < O9 ∧ O9 < XB ∧ XB < LID) (so : SRa hh uo' out'.2 [L6, O9, XB, LID, A3]) (o1 : out'.1 = p) (vo : Vd out' n) (lo : out'.2.length = n) : PI0 p n rc L6 O9 XB LID A3 base left out' x uo' ux (hh.set O9 (some (.cells false [.int .i64 p, uo']))) :=
  ⟨by rw [H.get_set_ne _ (by omega)]; exact k.gL, by rw [H.get_set_ne _ (by omega)]; exact k.g6, H.get_set_same .., by rw [H.get_set_ne _ (by omega)]; exact k.gX, so.set (by simp) _, k.sx.set (by simp) _, o1, k.x1, vo, k.vx, lo, k.lx, k.lt, k.fr.set (by omega) _⟩
theorem PI0.setX {p : Int} {n : Nat} {rc : LRec} {L6 O9 XB LID A3 : Nat} {base : H} {left : Nat} {out x x' : Mat} {uo ux ux' : V} {hh : H} (k : PI0 p n rc L6 O9 XB LID A3 base left out x uo ux hh) (hs : base.next ≤ L6 ∧ L6 < O9 ∧ O9 < XB ∧ XB < LID) (sx : SRa hh ux' x'.2 [L6, O9, XB, LID, A3]) (x1 : x'.1 = p) (vx : Vd x' n) (lx : x'.2.length = n) : PI0 p n rc L6 O9 XB LID A3 base left out x' uo ux' (hh.set XB (some (.cells false [.int .i64 p, ux']))) :=
  ⟨by rw [H.get_set_ne _ (by omega)]; exact k.gL, by rw [H.get_set_ne _ (by omega)]; exact k.g6, by rw [H.get_set_ne _ (by omega)]; exact k.g9, H.get_set_same .., k.so.set (by simp) _, sx.set (by simp) _, k.o1, x1, k.vo, vx, k.lo, lx, k.lt, k.fr.set (by omega) _⟩
theorem PI0.setL {p : Int} {n : Nat} {rc : LRec} {L6 O9 XB LID A3 : Nat} {base : H} {left : Nat} {out x : Mat} {uo ux : V} {hh : H} (k : PI0 p n rc L6 O9 XB LID A3 base left out x uo ux hh) (hs : base.next ≤ L6 ∧ L6 < O9 ∧ O9 < XB ∧ XB < LID) (left' : Nat) : PI0 p n rc L6 O9 XB LID A3 base left' out x uo ux (hh.set L6 (some (.cells false [.int .u64 (left' : Int)]))) :=
  ⟨by rw [H.get_set_ne _ (by omega)]; exact k.gL, H.get_set_same .., by rw [H.get_set_ne _ (by omega)]; exact k.g9, by rw [H.get_set_ne _ (by omega)]; exact k.gX, k.so.set (by simp) _, k.sx.set (by simp) _, k.o1, k.x1, k.vo, k.vx, k.lo, k.lx, k.lt, k.fr.set (by omega) _⟩
theorem squares_ok (p : Int) (u : V) (h : H) (hu : u.one = true) : Ev T n_matrix_squares [.agg [.int .i64 p, u]] h (fun v h' => v = .fn 87 [] [.ptr h.next 0] ∧ h' = h.new (.cells false [.int .i64 p, u])) := by
  refine Ev_of t_matrix_squares rfl ?_
  simp (disch := first | omega | (simp only [Qn] <;> omega)) only [go_sem, c_matrix_squares, initV_eq, boxV_agg2 h (v := .int .i64 p) rfl hu]
set_option maxHeartbeats 16000000 in
theorem Pow_ok (va : V) (a : Mat) (k : Int) (h : H) (ha : MatV h va a) (la : (a.2.length : Int) ≤ 2 ^ 63 - 1) (hk : -9223372036854775808 ≤ k ∧ k < 9223372036854775808) :
    Ev T n_matrix_Pow [va, .int .i64 k] h (fun v h' => ∃ w, v = .tup [w, .int .i64 (PowF a k).2] ∧ MatV h' w (PowF a k).1 ∧ Fr h h') := by
  obtain ⟨ua, rfl, hua⟩ := ha
  refine Ev_of t_matrix_Pow rfl ?_
  have wa := SV.what hua.choose_spec.1
  simp (disch := first | omega | (simp only [Qn] <;> omega)) only [go_sem, c_matrix_Pow, initV_eq, boxV_agg2 h (v := .int .i64 a.1) rfl wa.2.1]
  have hfx : Fr h (h.new (.cells false [.int .i64 a.1, ua])) := (Fr.refl h).new _
  have hgx : (h.new (.cells false [.int .i64 a.1, ua])).get h.next = some (.cells false [.int .i64 a.1, ua]) := H.get_new_same ..
  have hnx : (h.new (.cells false [.int .i64 a.1, ua])).next = h.next + 1 := H.next_new ..
  generalize h.new (.cells false [.int .i64 a.1, ua]) = hx at *
  have hfy : Fr hx (hx.new (.cells false [.int .i64 0, .nils])) := (Fr.refl hx).new _
  have hgy : (hx.new (.cells false [.int .i64 0, .nils])).get hx.next = some (.cells false [.int .i64 0, .nils]) := H.get_new_same ..
  have hny : (hx.new (.cells false [.int .i64 0, .nils])).next = hx.next + 1 := H.next_new ..
  generalize hx.new (.cells false [.int .i64 0, .nils]) = hy at *
  have F := hfx.trans hfy
  have gx := (hfy.get h.next (by omega)).trans hgx
  simp (disch := first | omega | (simp only [Qn] <;> omega)) only [go_sem, row_two gx]
  refine (square_ok _ a hy ⟨ua, rfl, hua.mono F⟩ la).mono ?_
  rintro v h5 ⟨rfl, f5⟩
  have F5 := F.trans f5
  have gx5 := (f5.get h.next (by omega)).trans gx
  have gy5 := (f5.get hx.next (by omega)).trans hgy
  have n5 := f5.next
  rw [← hnx]
  obtain ⟨A2, hA2⟩ : ∃ A2, h.next = A2 := ⟨_, rfl⟩
  obtain ⟨A3, hA3⟩ : ∃ A3, hx.next = A3 := ⟨_, rfl⟩
  rw [hA2] at gx5
  rw [hA3] at gy5
  rw [hA2, hA3]
  have hst0 := fun hh => stV_agg2 hh A3 0 (v := .int .i64 0) (u := .nils) rfl rfl
  simp (disch := first | omega | (simp only [Qn] <;> omega)) only [go_sem]
  refine iteW_dec (fun he => ?_) (fun he => ?_)
  · have hrow := row_two (h := h5.set A3 (some (.cells false [.int .i64 0, .nils]))) (H.get_set_same ..)
    simp (disch := first | omega | (simp only [Qn] <;> omega)) only [go_sem, bldV_nil, hst0, gy5, hrow]
    have e : PowF a k = ((0, []), sqF a) := by rw [PowF, if_pos he]
    rw [e]
    exact ⟨_, rfl, ⟨.nils, rfl, SR.nils _⟩, F5.set (by omega) _⟩
  have hz : sqF a = 0 := Classical.byContradiction he
  have da := sq_vd hz
  obtain ⟨n, hn⟩ : ∃ n, a.2.length = n := ⟨_, rfl⟩
  rw [hn] at da
  have hr1 := da.r1
  have hr2 := da.r2
  rw [hn] at hr1 hr2
  have hp := fieldF_range da.p
  have hst6 := fun hh id (z : Int) => stV_one (y := .int .u64 z) rfl rfl hh id 0
  simp (disch := first | omega | (simp only [Qn] <;> omega)) only [go_sem]
  obtain ⟨L6, hL6⟩ : ∃ L6, h5.next = L6 := ⟨_, rfl⟩
  obtain ⟨w, hw⟩ : ∃ w, IntKind.u64.wrap k = w := ⟨_, rfl⟩
  rw [hL6, hw]
  have fB : Fr h5 ((h5.new (.cells false [.int .u64 0])).set L6 (some (.cells false [.int .u64 w]))) := ((Fr.refl h5).new _).set (by omega) _
  have gB : ((h5.new (.cells false [.int .u64 0])).set L6 (some (.cells false [.int .u64 w]))).get L6 = some (.cells false [.int .u64 w]) := H.get_set_same ..
  have nB : ((h5.new (.cells false [.int .u64 0])).set L6 (some (.cells false [.int .u64 w]))).next = L6 + 1 := by rw [H.next_set, H.next_new, hL6]
  generalize (h5.new (.cells false [.int .u64 0])).set L6 (some (.cells false [.int .u64 w])) = hB at *
  have gxB := (fB.get A2 (by omega)).trans gx5
  have gyB := (fB.get A3 (by omega)).trans gy5
  have sB := hua.mono (F5.trans fB)
  refine iteW_then (fun vs h7 => ∃ (b : Mat) (ub : V) (m : Nat), (∃ g : Nat → V, vs = [g 0, g 1, .ptr A2 0, .ptr A3 0, g 4, g 5, .ptr L6 0, g 7, g 8, g 9, g 10, g 11, g 12, g 13, g 14, g 15, g 16, g 17]) ∧ h7.get A2 = some (.cells false [.int .i64 a.1, ub]) ∧ h7.get L6 = some (.cells false [.int .u64 (m : Int)]) ∧ h7.get A3 = some (.cells false [.int .i64 0, .nils]) ∧ SRa h7 ub b.2 [A2, A3, L6] ∧ Vd b n ∧ b.1 = a.1 ∧ b.2.length = n ∧ m ≤ 9223372036854775808 ∧ Fr h h7 ∧ L6 < h7.next ∧ PowF a k = (pwG n 64 (oneF n a.1) b m, 0)) ?_ ?_
  · refine iteW_dec (fun hneg => ?_) (fun hneg => ?_)
    · simp (disch := first | omega | (simp only [Qn] <;> omega)) only [go_sem, row_two gxB]
      refine (Inv_ok _ a hB ⟨ua, rfl, sB⟩ la).mono ?_
      rintro v h7 ⟨wi, rfl, ⟨ui, wsi, rfl, RI⟩, f7⟩
      have vi := SV.what RI.own.sv
      have hst7 := fun hh id => stV_agg2 hh id 0 (v := .int .i64 (InvF a).1.1) (u := ui) rfl vi.2.1
      simp (disch := first | omega | (simp only [Qn] <;> omega)) only [go_sem, hst7, bxH_eq]
      have fC := bxH_fr h7 (InvF a).1.1 ui
      have gC := bxH_get h7 (InvF a).1.1 ui
      have nC := bxH_next h7 (InvF a).1.1 ui
      have RC := RI.fr fC
      generalize bxH h7 (InvF a).1.1 ui = hC at *
      have fBC := f7.trans fC
      have n7 := f7.next
      have gyC := (fBC.get A3 (by omega)).trans gyB
      have gxC := (fBC.get A2 (by omega)).trans gxB
      have g6C := (fBC.get L6 (by omega)).trans gB
      refine iteW_dec (fun he1 => ?_) (fun he1 => ?_)
      · have hrow := row_two (h := hC.set A3 (some (.cells false [.int .i64 0, .nils]))) (H.get_set_same ..)
        simp (disch := first | omega | (simp only [Qn] <;> omega)) only [go_sem, bldV_nil, hst0, gyC]
        have e : PowF a k = ((0, []), (InvF a).2) := by rw [PowF, if_neg (by simp [hz]), if_pos ⟨hneg, he1⟩]
        have hrow := row_two (h := hC.set A3 (some (.cells false [.int .i64 0, .nils]))) (H.get_set_same ..)
        refine .inr ⟨(fun q => nomatch q), ?_⟩
        simp (disch := first | omega | (simp only [Qn] <;> omega)) only [go_sem, hrow]
        rw [e]
        exact ⟨_, rfl, ⟨.nils, rfl, SR.nils _⟩, ((F5.trans fB).trans fBC).set (by omega) _⟩
      · have rC := row_two gC
        have hstA := fun hh => stV_agg2 hh A2 0 (v := .int .i64 (InvF a).1.1) (u := ui) rfl vi.2.1
        have rCb : (H.mk hC.tr (hC.next + 5)).row h7.next 0 2 = some [.int .i64 (InvF a).1.1, ui] := rC
        have c6 : hC.cell L6 0 = some (.int .u64 w) := by rw [H.cell_of g6C]; rfl
        have hw2 : w = k + 18446744073709551616 := by rw [← hw, wrap_u64_neg (by omega) (by omega)]
        have hwn : IntKind.u64.wrap (0 - w) = -k := by rw [wrap_u64_neg (by omega) (by omega)]; omega
        have hstm := fun hh (z : Int) => stV_one (y := .int .u64 z) rfl rfl hh L6 0
        have hpm := fun (hh : H) (z : Int) => putO_one (vs := [.int .u64 w]) (off := 0) (by simp) hh L6 (.int .u64 z)
        have hi0 : (InvF a).2 = 0 := Classical.byContradiction he1
        obtain ⟨X, hX, eX, iX⟩ := inv_vd hi0
        rw [hn] at hX eX iX
        have sq : Sq a.1 n := ⟨da.p, hr1, hr2⟩
        have fD : Fr h (((H.mk hC.tr (hC.next + 5)).set A2 (some (.cells false [.int .i64 (InvF a).1.1, ui]))).set L6 (some (.cells false [.int .u64 (-k)]))) := (((((F5.trans fB).trans fBC).bump (by omega)).set (by omega) _).set (by omega) _)
        have RD : SRa (((H.mk hC.tr (hC.next + 5)).set A2 (some (.cells false [.int .i64 (InvF a).1.1, ui]))).set L6 (some (.cells false [.int .u64 (-k)]))) ui (InvF a).1.2 [A2, A3, L6] := (((SRa.new (bad := [A2, A3, L6]) RC fun b hb => by
          simp only [List.mem_cons, List.not_mem_nil, or_false] at hb
          omega).fr ((Fr.refl hC).bump (n := hC.next + 5) (by omega))).set (by simp) _).set (by simp) _
        simp (disch := first | omega | (simp only [Qn] <;> omega)) only [go_sem, rCb, c6, hstA, gxC, eqV_int, hwn, hstm, g6C, hpm]
        refine .inl ⟨(InvF a).1, ui, k.natAbs, ex_junk rfl, by rw [eX], by rw [show (k.natAbs : Int) = -k by omega], gyC, RD, by rw [eX]; exact sq.vd iX, by rw [eX], by rw [eX]; exact mkR_len .., by omega, fD, by omega, ?_⟩
        rw [PowF, if_neg (by simp [hz]), if_neg (by simp [hi0]), if_pos hneg, hn]
    · simp (disch := first | omega | (simp only [Qn] <;> omega)) only [go_sem]
      refine .inl ⟨a, ua, k.natAbs, ex_junk rfl, gxB, ?_, gyB, ?_, da, rfl, hn, by omega, F5.trans fB, by omega, ?_⟩
      · rw [gB, ← hw, wrap_u64 (by omega) (by omega), show (k.natAbs : Int) = k by omega]
      · exact (SRa.old (bad := [A2, A3, L6]) hua fun b hb => by
          simp only [List.mem_cons, List.not_mem_nil, or_false] at hb
          have := F5.next
          omega).fr (F5.trans fB)
      · rw [PowF, if_neg (by simp [hz]), if_neg (fun q => hneg q.1), if_neg hneg, hn]
  · rintro vs h7 ⟨b, ub, m, ⟨g, rfl⟩, gA2, g6, gA3, sb, db, hb1, hbn, hm, F7, l6, hres⟩
    clear gxB gyB sB gB nB fB hst6 hw
    have x0 : h7.cell A2 0 = some (.int .i64 a.1) := by rw [H.cell_of gA2]; rfl
    have x1 : h7.cell A2 1 = some ub := by rw [H.cell_of gA2]; rfl
    have lB : lensV ub = some (.int .i64 (n : Int)) := by rw [← hbn]; exact sb.sr.lens
    simp (disch := first | omega | (simp only [Qn] <;> omega)) only [go_sem, x0, x1, lB]
    refine (one_ok n a.1 h7 hr1 hr2).mono ?_
    rintro v h8 ⟨⟨u8, ws8, rfl, R8⟩, f8⟩
    have v8 := SV.what R8.own.sv
    have hst8 := fun hh id => stV_agg2 hh id 0 (v := .int .i64 (oneF n a.1).1) (u := u8) rfl v8.2.1
    simp (disch := first | omega | (simp only [Qn] <;> omega)) only [go_sem, hst8, bxH_eq]
    have fC := bxH_fr h8 (oneF n a.1).1 u8
    have gC := bxH_get h8 (oneF n a.1).1 u8
    have nC := bxH_next h8 (oneF n a.1).1 u8
    have RC := R8.fr fC
    generalize bxH h8 (oneF n a.1).1 u8 = hC at *
    obtain ⟨O9, hO9⟩ : ∃ O9, h8.next = O9 := ⟨_, rfl⟩
    rw [hO9] at gC nC
    rw [hO9]
    have n8 := f8.next
    have fC7 := f8.trans fC
    have gA2C := (fC7.get A2 (by omega)).trans gA2
    have gA3C := (fC7.get A3 (by omega)).trans gA3
    have g6C := (fC7.get L6 (by omega)).trans g6
    have sbC := sb.fr fC7
    simp (disch := first | omega | (simp only [Qn] <;> omega)) only [go_sem, row_two gA2C]
    refine (squares_ok a.1 ub hC (SV.what sbC.sr.choose_spec.1).2.1).mono ?_
    rintro v h9 ⟨rfl, rfl⟩
    have hfx9 : Fr hC (hC.new (.cells false [.int .i64 a.1, ub])) := (Fr.refl hC).new _
    have hgx9 : (hC.new (.cells false [.int .i64 a.1, ub])).get hC.next = some (.cells false [.int .i64 a.1, ub]) := H.get_new_same ..
    have hnx9 : (hC.new (.cells false [.int .i64 a.1, ub])).next = hC.next + 1 := H.next_new ..
    generalize hC.new (.cells false [.int .i64 a.1, ub]) = hX at *
    obtain ⟨XB, hXB⟩ : ∃ XB, hC.next = XB := ⟨_, rfl⟩
    rw [hXB] at hgx9 hnx9
    rw [hXB]
    obtain ⟨LID, hLID⟩ : ∃ LID, hX.next = LID := ⟨_, rfl⟩
    simp (disch := first | omega | (simp only [Qn] <;> omega)) only [go_sem]
    rw [hLID]
    generalize hrc : LRec.mk _ _ _ _ _ _ = rc
    refine ⟨rfl, ?_⟩
    obtain ⟨base, hbase⟩ : ∃ base, base = H.mk h7.tr L6 := ⟨_, rfl⟩
    have nb : base.next = L6 := by rw [hbase]
    have gb : ∀ id, base.get id = h7.get id := fun id => by rw [hbase]; rfl
    have f57 := F5.next
    have Fb : Fr h base := ⟨by omega, fun id hid => (gb id).trans (F7.get id hid)⟩
    have Fb7 : Fr base h7 := ⟨by omega, fun id hid => (gb id).symm⟩
    have hs : base.next ≤ L6 ∧ L6 < O9 ∧ O9 < XB ∧ XB < LID := ⟨by omega, by omega, by omega, by omega⟩
    have nLX : LID ≠ L6 ∧ LID ≠ O9 ∧ LID ≠ XB := ⟨by omega, by omega, by omega⟩
    obtain ⟨RES, hRES⟩ : ∃ R, pwG n 64 (oneF n a.1) b m = R := ⟨_, rfl⟩
    have hRp : ∀ f out x left, out.1 = a.1 → (pwG n f out x left).1 = a.1 := fun f => by
      induction f with
      | zero => intro out x left h; exact h
      | succ f ih =>
        intro out x left h
        rw [pwG]
        split
        · exact h
        · apply ih
          split
          · exact h
          · exact h
    have hY : ∀ f left out x uo ux hh, PI0 a.1 n rc L6 O9 XB LID A3 base left out x uo ux hh → left < 2 ^ f → left ≤ 9223372036854775808 → pwG n f out x left = RES →
        Ey T LID [.agg [.int .i64 a.1, ux]] hh (fun v hh' => (v = .bool true ∧ ∃ f' left' out' uo', f = f' + 1 ∧ PI0 a.1 n rc L6 O9 XB LID A3 base left' out' x uo' ux hh' ∧ left' < 2 ^ f' ∧ left' ≤ 9223372036854775808 ∧ pwG n f' out' (mulF x x n n) left' = RES) ∨ (v = .bool false ∧ DN a.1 rc O9 LID RES base L6 XB A3 hh')) := by
      intro f left out x uo ux hh K hlf hl63 hpw
      refine Ey_of K.gL (by rw [← hrc]; rfl) ?_
      have hux := SV.what K.sx.sr.choose_spec.1
      have hstx := fun hh id => stV_agg2 hh id 0 (v := .int .i64 a.1) (u := ux) rfl hux.2.1
      have ltL := K.lt
      have K1 : PI0 a.1 n rc L6 O9 XB LID A3 base left out x uo ux (bxH hh a.1 ux) := by
        have f := bxH_fr hh a.1 ux
        exact ⟨(f.get _ (by omega)).trans K.gL, (f.get _ (by omega)).trans K.g6, (f.get _ (by omega)).trans K.g9, (f.get _ (by omega)).trans K.gX, K.so.fr f, K.sx.fr f, K.o1, K.x1, K.vo, K.vx, K.lo, K.lx, by rw [bxH_next]; omega, K.fr.trans f⟩
      have gbx := bxH_get hh a.1 ux
      have nbx := bxH_next hh a.1 ux
      subst hrc
      simp (disch := first | omega | (simp only [Qn] <;> omega)) only [go_sem, List.zip_cons_cons, List.zip_nil_left, hstx, bxH_eq]
      refine ⟨_, K1.gL, rfl, ?_⟩
      generalize bxH hh a.1 ux = h1 at *
      have K2 := fun rc' => K1.set hs rc'
      generalize hrb : LRec.mk _ _ _ _ LSt.busy _ = rb
      have K3 := K2 rb
      have gbx2 : (h1.set LID (some (.loop rb))).get hh.next = some (.cells false [.int .i64 a.1, ux]) := by rw [H.get_set_ne _ (by omega)]; exact gbx
      have n2 : (h1.set LID (some (.loop rb))).next = h1.next := rfl
      generalize h1.set LID (some (.loop rb)) = h2 at *
      clear K2
      have c6 : h2.cell L6 0 = some (.int .u64 (left : Int)) := by rw [H.cell_of K3.g6]; rfl
      have c61 : h1.cell L6 0 = some (.int .u64 (left : Int)) := by rw [H.cell_of K1.g6]; rfl
      simp (disch := first | omega | (simp only [Qn] <;> omega)) only [go_sem, c61]
      by_cases h0 : (left : Int) = 0
      · rw [decide_eq_true h0]
        simp (disch := first | omega | (simp only [Qn] <;> omega)) only [go_sem]
        refine ⟨_, K3.gL, ?_⟩
        have K4 := fun rc' => K3.set hs rc'
        refine .inr ⟨rfl, uo, ?_, (K4 _).g9, ?_, (K4 _).fr, ?_⟩
        · rw [← hrb]; exact H.get_set_same ..
        · have e : RES = out := by
            rw [← hpw]
            cases f with
            | zero => rfl
            | succ f => rw [pwG, if_pos (by omega)]
          rw [e]
          exact (K4 _).so
        · rw [← hpw]; exact hRp _ _ _ _ K.o1
      · rw [decide_eq_false h0]
        obtain ⟨f', rfl⟩ : ∃ f', f = f' + 1 := by
          cases f with
          | zero => simp at hlf; omega
          | succ f => exact ⟨f, rfl⟩
        rw [pwG, if_neg (by omega)] at hpw
        have hlf2 : left / 2 < 2 ^ f' := by rw [Nat.pow_succ] at hlf; omega
        have em : (left : Int).tmod 2 = ((left % 2 : Nat) : Int) := tmod_nat left 2
        have ed : (left : Int).tdiv 2 = ((left / 2 : Nat) : Int) := rfl
        have ew : IntKind.u64.wrap ((left / 2 : Nat) : Int) = ((left / 2 : Nat) : Int) := wrap_u64 (by omega) (by omega)
        have hst6 := fun hh (z : Int) => stV_one (y := .int .u64 z) rfl rfl hh L6 0
        have hpm := fun (hh : H) (z : Int) => putO_one (vs := [.int .u64 (left : Int)]) (off := 0) (by simp) hh L6 (.int .u64 z)
        simp (disch := first | omega | (simp only [Qn] <;> omega)) only [go_sem, c6, em]
        by_cases hodd : ((left % 2 : Nat) : Int) = 1
        · rw [decide_eq_true hodd]
          rw [if_pos (by omega)] at hpw
          have n1 : LID < h2.next := K3.lt
          simp (disch := first | omega | (simp only [Qn] <;> omega)) only [go_sem, row_two K3.g9, row_two gbx2]
          refine (mul_ok _ _ out x n n h2 ⟨uo, by rw [K3.o1], K3.so.sr⟩ ⟨ux, by rw [K3.x1], K3.sx.sr⟩ K3.vo K3.vx (by rw [K3.o1, K3.x1]) K3.lx.symm).mono ?_
          rintro v h3 ⟨⟨um, wsm, rfl, RM⟩, f3⟩
          have vm := SV.what RM.own.sv
          have e1 : (mulF out x n n).1 = a.1 := K3.o1
          have hstm := fun hh id => stV_agg2 hh id 0 (v := .int .i64 (mulF out x n n).1) (u := um) rfl vm.2.1
          rw [e1] at hstm
          rw [e1]
          have K4 := (K3.frm hs f3).setO hs (SRa.new (bad := [L6, O9, XB, LID, A3]) RM fun b hb => by
            simp only [List.mem_cons, List.not_mem_nil, or_false] at hb
            omega) e1 (K3.vo.mul K3.vx) (by rw [mulF, mkR_len]; exact K3.lo)
          have g93 := (K3.frm hs f3).g9
          have g63 := (K3.frm hs f3).g6
          have c63 : h3.cell L6 0 = some (.int .u64 (left : Int)) := by rw [H.cell_of g63]; rfl
          have K5 := K4.setL hs (left / 2)
          simp (disch := first | omega | (simp only [Qn] <;> omega)) only [go_sem, hstm, g93, c63, ed, ew, hst6, g63, hpm]
          generalize (h3.set O9 (some (.cells false [.int .i64 a.1, um]))).set L6 (some (.cells false [.int .u64 ((left / 2 : Nat) : Int)])) = h5 at *
          refine ⟨rb, K5.gL, .inl ⟨rfl, f', left / 2, mulF out x n n, um, rfl, ?_, hlf2, by omega, hpw⟩⟩
          subst hrb
          exact K5.set hs _
        · rw [decide_eq_false hodd]
          rw [if_neg (by omega)] at hpw
          have K5 := K3.setL hs (left / 2)
          simp (disch := first | omega | (simp only [Qn] <;> omega)) only [go_sem, c6, ed, ew, hst6, K3.g6, hpm]
          generalize h2.set L6 (some (.cells false [.int .u64 ((left / 2 : Nat) : Int)])) = h5 at *
          refine ⟨rb, K5.gL, .inl ⟨rfl, f', left / 2, out, uo, rfl, ?_, hlf2, by omega, hpw⟩⟩
          subst hrb
          exact K5.set hs _
    have K0 : PI0 a.1 n rc L6 O9 XB LID A3 base m (oneF n a.1) b u8 ub (hX.new (.loop rc)) := by
      have fN : Fr hC (hX.new (.loop rc)) := hfx9.new _
      have gN : ∀ id, id < XB → (hX.new (.loop rc)).get id = hC.get id := fun id hid => fN.get id (by omega)
      refine ⟨by rw [← hLID]; exact H.get_new_same .., (gN _ (by omega)).trans g6C, (gN _ (by omega)).trans gC, ?_, ?_, ?_, rfl, hb1, ?_, db, by simp only [oneF, mkR_len], hbn, by rw [H.next_new]; omega, (Fb7.trans fC7).trans fN⟩
      · rw [H.get_new_ne _ (by omega)]; exact hgx9
      · exact (SRa.new (bad := [L6, O9, XB, LID, A3]) R8 fun q hq => by
          simp only [List.mem_cons, List.not_mem_nil, or_false] at hq
          omega).fr (fC.trans fN)
      · exact (sb.ext (bad' := [L6, O9, XB, LID, A3]) fun q hq => by
          simp only [List.mem_cons, List.not_mem_nil, or_false] at hq ⊢
          omega).fr (fC7.trans fN)
      · have sq : Sq a.1 n := ⟨da.p, hr1, hr2⟩
        exact sq.vd sq.on
    have hpw0 : m < 2 ^ 64 := by omega
    have loop : Ev T 87 [.yl LID, .ptr XB 0] (hX.new (.loop rc)) (fun _ hh => DN a.1 rc O9 LID RES base L6 XB A3 hh) := by
      refine Ev_of t_matrix_squares_1 rfl ?_
      simp (disch := first | omega | (simp only [Qn] <;> omega)) only [go_sem, c_matrix_squares_1, initV_eq]
      refine Wp_loop (fun f vars hh => ∃ (left : Nat) (out x : Mat) (uo ux : V), (∃ g : Nat → V, vars = [.yl LID, .ptr XB 0, g 2]) ∧ PI0 a.1 n rc L6 O9 XB LID A3 base left out x uo ux hh ∧ left < 2 ^ f ∧ left ≤ 9223372036854775808 ∧ pwG n f out x left = RES) 64
        ⟨m, _, b, _, _, ex_junk rfl, K0, hpw0, hm, hRES⟩ ?_
      rintro f vars hh ⟨left, out, x, uo, ux, ⟨g, rfl⟩, K, hlf, hl63, hpw⟩
      simp (disch := first | omega | (simp only [Qn] <;> omega)) only [go_sem, row_two K.gX]
      refine (hY f left out x uo ux hh K hlf hl63 hpw).mono ?_
      rintro v h3 (⟨rfl, f', left', out', uo', rfl, K3, hlf', hl63', hpw'⟩ | ⟨rfl, hd⟩)
      · have n1 : LID < h3.next := K3.lt
        simp (disch := first | omega | (simp only [Qn] <;> omega)) only [go_sem, row_two K3.gX]
        refine (mul_ok _ _ x x n n h3 ⟨ux, by rw [K3.x1], K3.sx.sr⟩ ⟨ux, by rw [K3.x1], K3.sx.sr⟩ K3.vx K3.vx rfl K3.lx.symm).mono ?_
        rintro v h4 ⟨⟨um, wsm, rfl, RM⟩, f4⟩
        have vm := SV.what RM.own.sv
        have e1 : (mulF x x n n).1 = a.1 := K3.x1
        have hstm := fun hh id => stV_agg2 hh id 0 (v := .int .i64 (mulF x x n n).1) (u := um) rfl vm.2.1
        rw [e1] at hstm
        rw [e1]
        have gX4 := (K3.frm hs f4).gX
        have K4 := (K3.frm hs f4).setX hs (x' := mulF x x n n) (SRa.new (bad := [L6, O9, XB, LID, A3]) RM fun b hb => by
            simp only [List.mem_cons, List.not_mem_nil, or_false] at hb
            omega) e1 (K3.vx.mul K3.vx) (by rw [mulF, mkR_len]; exact K3.lx)
        simp (disch := first | omega | (simp only [Qn] <;> omega)) only [go_sem, hstm, gX4]
        exact ⟨f', by omega, left', out', mulF x x n n, uo', um, ex_junk rfl, K4, hlf', hl63', hpw'⟩
      · simp (disch := first | omega | (simp only [Qn] <;> omega)) only [go_sem]
        exact hd
    refine loop.mono ?_
    rintro _ h10 ⟨uo, gL, g9, so, f10, hR1⟩
    refine ⟨_, gL, by simp, ?_⟩
    have g3b : base.get A3 = some (.cells false [.int .i64 0, .nils]) := (gb A3).trans gA3
    have g310 := (f10.get A3 (by omega)).trans g3b
    have vo := SV.what so.sr.choose_spec.1
    have hst9 := fun hh id => stV_agg2 hh id 0 (v := .int .i64 a.1) (u := uo) rfl vo.2.1
    simp only [Option.getD_some]
    generalize hrb2 : Ob.loop _ = rb2
    have nl3 : LID ≠ A3 := by omega
    have r9 := row_two (h := h10.set LID (some rb2)) (id := O9) (ro := false) (v := .int .i64 a.1) (u := uo) (by rw [H.get_set_ne _ (by omega)]; exact g9)
    have hrow := row_two (h := (h10.set LID (some rb2)).set A3 (some (.cells false [.int .i64 a.1, uo]))) (H.get_set_same ..)
    simp (disch := first | omega | (simp only [Qn] <;> omega)) only [go_sem, r9, hst9, g310, hrow]
    rw [hres, hRES]
    have sF : SR ((h10.set LID (some rb2)).set A3 (some (.cells false [.int .i64 a.1, uo]))) uo RES.2 := ((so.set (by simp) _).set (by simp) _).sr
    exact ⟨_, rfl, ⟨uo, by rw [hR1], sF⟩, (((Fb.trans f10).set (by omega) _).set (by omega) _)⟩
end Go.Proofs.Ytonhijbeddcmpaa

/- Layer 4: determinants, inverses and powers of valid square matrices. -/
namespace Go.Proofs.Ytonhijbeddcmpaa
open Go Go.Ay
set_option maxRecDepth 100000
theorem emm (p a : Int) : a % p % p = a % p := Int.emod_emod_of_dvd _ (Int.dvd_refl p)
/-- Congruent. -/
def Em (p : Int) (n : Nat) (A B : Mx) : Prop := ∀ i j, i < n → j < n → A i j % p = B i j % p
theorem Em.refl (p : Int) (n : Nat) (A : Mx) : Em p n A A := fun _ _ _ _ => rfl
theorem Em.symm {p : Int} {n : Nat} {A B : Mx} (h : Em p n A B) : Em p n B A := fun i j hi hj => (h i j hi hj).symm
theorem Em.trans {p : Int} {n : Nat} {A B C : Mx} (h : Em p n A B) (k : Em p n B C) : Em p n A C := fun i j hi hj => (h i j hi hj).trans (k i j hi hj)
theorem Em.mul {p : Int} {n : Nat} {A A' B B' : Mx} (h : Em p n A A') (k : Em p n B B') : Em p n (mulM n A B) (mulM n A' B') := fun i j hi hj => mulM_mod (fun l hl => h i l hi hl) (fun l hl => k l j hl hj)
theorem Em.of {p : Int} {n : Nat} {A B : Mx} (h : ∀ i j, i < n → j < n → A i j = B i j) : Em p n A B := fun i j hi hj => by rw [h i j hi hj]
theorem Em.assoc (p : Int) (n : Nat) (A B C : Mx) : Em p n (mulM n (mulM n A B) C) (mulM n A (mulM n B C)) := fun i j _ _ => by rw [mulM_assoc]
theorem Em.mm (p : Int) (n : Nat) (A B : Mx) : Em p n (mmP p n A B) (mulM n A B) := fun i j _ _ => emm p _
theorem Em.rows {p : Int} {n : Nat} {A B : Mx} (h : Em p n A B) (hA : InP p n A) (hB : InP p n B) : mkR n n A = mkR n n B := mkR_congr fun i k hi hk => by
  have := h i k hi hk
  rwa [Int.emod_eq_of_lt (hA i k hi hk).1 (hA i k hi hk).2, Int.emod_eq_of_lt (hB i k hi hk).1 (hB i k hi hk).2] at this
theorem Em.idl (p : Int) (n : Nat) (A : Mx) : Em p n (mulM n idM A) A := fun i j hi _ => by rw [id_mulM n A hi]
theorem Em.idr (p : Int) (n : Nat) (A : Mx) : Em p n (mulM n A idM) A := fun i j _ hj => by rw [mulM_id n A hj]
theorem pw_add (p : Int) (n : Nat) (A : Mx) (a b : Nat) : Em p n (mulM n (pwM n A a) (pwM n A b)) (pwM n A (a + b)) := by
  induction a with
  | zero => rw [Nat.zero_add]; exact Em.idl p n _
  | succ a ih =>
    rw [show a + 1 + b = (a + b) + 1 by omega]
    exact (Em.assoc p n A (pwM n A a) (pwM n A b)).trans ((Em.refl p n A).mul ih)
theorem Sq.mulF {p : Int} {n : Nat} (s : Sq p n) (A B : Mx) : mulF (p, mkR n n A) (p, mkR n n B) n n = (p, mkR n n (mmP p n A B)) := by
  simp only [Proofs.Ytonhijbeddcmpaa.mulF, mkR_len]
  rw [mkR_congr fun i k hi hk => ?_]
  refine congrArg (· % p) (sm_congr fun j hj => ?_)
  rw [mkR_ent _ hi hj, mkR_ent _ hj hk]
theorem Sq.pw {p : Int} {n : Nat} (s : Sq p n) (A : Mx) : ∀ f e t m (O B : Mx), InP p n O → InP p n B → Em p n O (pwM n A e) → Em p n B (pwM n A t) → m < 2 ^ f → pwG n f (p, mkR n n O) (p, mkR n n B) m = (p, mkR n n (fun i j => pwM n A (e + t * m) i j % p))
  | 0, e, t, m, O, B, hO, hB, eO, eB, hm => by
    have : m = 0 := by simp at hm; exact hm
    subst this
    rw [pwG, Nat.mul_zero, Nat.add_zero]
    congr 1
    exact Em.rows (eO.trans fun i j _ _ => (emm p _).symm) hO fun i j _ _ => tmod_range _ (by have := s.p; omega)
  | f + 1, e, t, m, O, B, hO, hB, eO, eB, hm => by
    have hp := s.p
    rw [pwG]
    by_cases h0 : m = 0
    · subst h0
      rw [if_pos rfl, Nat.mul_zero, Nat.add_zero]
      congr 1
      exact Em.rows (eO.trans fun i j _ _ => (emm p _).symm) hO fun i j _ _ => tmod_range _ (by omega)
    · rw [if_neg h0, s.mulF, s.mulF]
      have e2 : Em p n (mmP p n B B) (pwM n A (t + t)) := (Em.mm p n B B).trans ((eB.mul eB).trans (pw_add p n A t t))
      have hf : m / 2 < 2 ^ f := by rw [Nat.pow_succ] at hm; omega
      by_cases ho : m % 2 = 1
      · rw [if_pos ho]
        have e1 : Em p n (mmP p n O B) (pwM n A (e + t)) := (Em.mm p n O B).trans ((eO.mul eB).trans (pw_add p n A e t))
        rw [Sq.pw s A f (e + t) (t + t) (m / 2) _ _ (s.mm _ _) (s.mm _ _) e1 e2 hf]
        have : e + t + (t + t) * (m / 2) = e + t * m := by
          obtain ⟨q, hq⟩ : ∃ q, m = 2 * q + 1 := ⟨m / 2, by omega⟩
          subst hq
          rw [show (2 * q + 1) / 2 = q by omega]
          grind
        rw [this]
      · rw [if_neg ho]
        rw [Sq.pw s A f e (t + t) (m / 2) _ _ hO (s.mm _ _) eO e2 hf]
        have : e + (t + t) * (m / 2) = e + t * m := by
          obtain ⟨q, hq⟩ : ∃ q, m = 2 * q := ⟨m / 2, by omega⟩
          subst hq
          rw [show (2 * q) / 2 = q by omega]
          grind
        rw [this]
theorem Sq.sqF {p : Int} {n : Nat} (s : Sq p n) {A : Mx} (hA : InP p n A) : sqF (p, mkR n n A) = 0 := by
  rw [Proofs.Ytonhijbeddcmpaa.sqF, vd_check (s.vd hA), if_neg (by simp), if_neg (by simp only [mkR_len, len0 s.n1, ne_eq, not_true_eq_false, not_false_eq_true])]
theorem det_ent (n : Nat) (A : Mx) : det n (ent (mkR n n A)) = det n A := det_congr fun i j hi hj => mkR_ent _ hi hj
theorem Sq.det {p : Int} {n : Nat} (s : Sq p n) {A : Mx} (hA : InP p n A) : DetF (p, mkR n n A) = (Ay.det n A % p, 0) := by
  rw [DetF, s.sqF hA, if_neg (by simp)]
  simp only [mkR_len, det_ent]
theorem Sq.isP {p : Int} {n : Nat} (s : Sq p n) : isP p = true := by
  have := s.f
  simp only [fieldF, Bool.and_eq_true] at this; exact this.2
theorem bad_ok (va : V) (a : Mat) (e w : Int) (h : H) (ha : MatV h va a) : Ev T n_law04_bad [va, .int .i64 e, .int .i64 w] h (fun v h' => v = .bool (decide (e = w ∧ a.1 = 0 ∧ a.2.length = 0)) ∧ Fr h h') := by
  obtain ⟨u, rfl, hu⟩ := ha
  obtain ⟨p, A⟩ := a
  simp only at hu
  refine Ev_of t_law04_bad rfl ?_
  have wa := SV.what hu.choose_spec.1
  simp (disch := first | omega | (simp only [Qn] <;> omega)) only [go_sem, c_law04_bad, initV_eq, boxV_agg2 h (v := .int .i64 p) rfl wa.2.1]
  have hfx : Fr h (h.new (.cells false [.int .i64 p, u])) := (Fr.refl h).new _
  have hgx : (h.new (.cells false [.int .i64 p, u])).get h.next = some (.cells false [.int .i64 p, u]) := H.get_new_same ..
  have hnx : (h.new (.cells false [.int .i64 p, u])).next = h.next + 1 := H.next_new ..
  generalize h.new (.cells false [.int .i64 p, u]) = hx at *
  have x0 : hx.cell h.next 0 = some (.int .i64 p) := by rw [H.cell_of hgx]; rfl
  have x1 : hx.cell h.next 1 = some u := by rw [H.cell_of hgx]; rfl
  by_cases h1 : e = w
  · rw [decide_eq_true h1]
    simp (disch := first | omega | (simp only [Qn] <;> omega)) only [go_sem, x0]
    by_cases h2 : p = 0
    · rw [decide_eq_true h2]
      simp (disch := first | omega | (simp only [Qn] <;> omega)) only [go_sem, x1, hu.lens]
      refine ⟨?_, hfx⟩
      congr 1
      rw [decide_eq_decide]
      exact ⟨fun h => ⟨h1, h2, by omega⟩, fun h => by have := h.2.2; omega⟩
    · rw [decide_eq_false h2]
      simp (disch := first | omega | (simp only [Qn] <;> omega)) only [go_sem, undef_eq]
      exact ⟨by rw [decide_eq_false fun h => h2 h.2.1], hfx⟩
  · rw [decide_eq_false h1]
    simp (disch := first | omega | (simp only [Qn] <;> omega)) only [go_sem, undef_eq]
    exact ⟨by rw [decide_eq_false fun h => h1 h.1], hfx⟩
end Go.Proofs.Ytonhijbeddcmpaa

/- Layer 4: what MatrixPoly needs. -/
namespace Go.Proofs.Ytonhijbeddcmpaa
open Go Go.Ay
set_option maxRecDepth 100000
end Go.Proofs.Ytonhijbeddcmpaa

/- Layer 4: the reference's Det. -/
namespace Go.Proofs.Ytonhijbeddcmpaa
open Go Go.Ay
set_option maxRecDepth 100000
end Go.Proofs.Ytonhijbeddcmpaa

/- Layer 4: the reference's size. -/
namespace Go.Proofs.Ytonhijbeddcmpaa
open Go Go.Ay
set_option maxRecDepth 100000
end Go.Proofs.Ytonhijbeddcmpaa

/- Layer 4: rows in places, appended one by one. -/
namespace Go.Proofs.Ytonhijbeddcmpaa
open Go Go.Ay
set_option maxRecDepth 100000
def Gu (h : H) (u : V) (i c : Nat) (ρ : Nat → Nat) (κ : Nat → Cap) (τ : Nat → List V) (f : Nat → Nat → Int) (lo : Nat) : Prop :=
  (i = 0 ∧ u = .nils) ∨ ∃ R, u = .sl R 0 i (.un 1) ∧ Gc h R i c ρ κ τ f lo
section
variable {h h' : H} {u : V} {i c : Nat} {ρ : Nat → Nat} {κ : Nat → Cap} {τ : Nat → List V} {f : Nat → Nat → Int} {lo : Nat}
theorem Gu.own (g : Gu h u i c ρ κ τ f lo) : Own h u 1 ((List.range i).map fun j => V.sl (ρ j) 0 c (κ j)) lo := by
  rcases g with ⟨rfl, rfl⟩ | ⟨R, rfl, g⟩
  · exact .inl ⟨rfl, rfl⟩
  · exact .inr ⟨R, i, _, [], rfl, by simp, .inl rfl, g.hR, g.ltR, by rw [List.append_nil]; exact g.gR⟩
theorem Gu.fr (g : Gu h u i c ρ κ τ f lo) (F : Fr h h') : Gu h' u i c ρ κ τ f lo := by
  rcases g with g | ⟨R, e, g⟩
  · exact .inl g
  · exact .inr ⟨R, e, g.fr F⟩
theorem Gu.app (g : Gu h u i c ρ κ τ f lo) (hlo : lo ≤ h.next) (hi : i < 1000000) {y : V} {id : Nat} {cap : Cap} {rest : List V} (hy : SV h y 1 [.sl id 0 c cap]) (h1 : lo ≤ id) (h2 : id < h.next) (h3 : ∀ j, j < i → ρ j ≠ id) (h4 : Apart u id) (h5 : h.get id = some (.cells false (ints (mkV c (f i)) ++ rest))) :
    ∃ h', appP h 1 24 u y = some (.sl h.next 0 (i + 1) (.un 1), h') ∧ Gu h' (.sl h.next 0 (i + 1) (.un 1)) (i + 1) c (upN ρ i id) (upN κ i cap) (upN τ i rest) f lo ∧ h.next < h'.next ∧ (∀ k, k < h.next → Apart u k → h'.get k = h.get k) ∧ ∀ a, Fr a h → a.next ≤ lo → Fr a h' := by
  have o := g.own
  have hr : ∀ j, j < i → h.get (ρ j) = some (.cells false (ints (mkV c (f j)) ++ τ j)) ∧ lo ≤ ρ j ∧ ρ j < h.next ∧ Apart u (ρ j) := fun j hj => by
    rcases g with ⟨rfl, _⟩ | ⟨R, rfl, g⟩
    · omega
    · exact ⟨g.row j hj, g.hρ j hj, g.ltρ j hj, Apart.sl (g.ne j hj)⟩
  have hinj : ∀ x y, x < i → y < i → ρ x = ρ y → x = y := fun x y hx hy e => by
    rcases g with ⟨rfl, _⟩ | ⟨R, rfl, g⟩
    · omega
    · exact g.inj x y hx hy e
  obtain ⟨v, h', e, a⟩ := o.app (bytes := 24) (n := i) (m := 1) hlo hy (by simp) rfl (by omega) (by omega)
  have ev := app_at o (n := i) (by simp) (m := 1) (by omega) (by omega) hy rfl e
  subst ev
  refine ⟨h', e, .inr ⟨h.next, rfl, ?_⟩, ?_, a.get, a.fr⟩
  · rcases a.what with ⟨w1, _⟩ | ⟨id', w1, w2, w3, w4⟩
    · omega
    · have : id' = h.next := by cases w1; rfl
      subst this
      refine ⟨?_, fun j hj => ?_, fun x y hx hy e => ?_, hlo, w3, fun j hj => ?_, fun j hj => ?_, fun j hj => ?_⟩
      · rw [w4, List.range_succ, List.map_append]
        congr 3
        · exact List.map_congr_left fun j hj => by
            have := List.mem_range.1 hj
            simp only [upN]
            rw [if_neg (by omega), if_neg (by omega)]
        · simp [upN]
      · simp only [upN]
        by_cases e : j = i
        · subst e
          simp only [if_true]
          rw [a.get id h2 h4]; exact h5
        · obtain ⟨r1, r2, r3, r4⟩ := hr j (by omega)
          simp only [if_neg e]
          rw [a.get _ r3 r4]; exact r1
      · simp only [upN] at e
        by_cases e1 : x = i
        · by_cases e2 : y = i
          · omega
          · rw [if_pos e1, if_neg e2] at e
            exact absurd e.symm (h3 y (by omega))
        · by_cases e2 : y = i
          · rw [if_neg e1, if_pos e2] at e
            exact absurd e (h3 x (by omega))
          · rw [if_neg e1, if_neg e2] at e
            exact hinj x y (by omega) (by omega) e
      · simp only [upN]
        split
        · exact h1
        · exact (hr j (by omega)).2.1
      · simp only [upN]
        split
        · omega
        · have := (hr j (by omega)).2.2.1; omega
      · simp only [upN]
        split
        · omega
        · have := (hr j (by omega)).2.2.1; omega
  · rcases a.what with ⟨w1, _⟩ | ⟨id', w1, w2, w3, w4⟩
    · omega
    · have : id' = h.next := by cases w1; rfl
      omega
end
end Go.Proofs.Ytonhijbeddcmpaa

/- Layer 4: the reference's Inv. -/
namespace Go.Proofs.Ytonhijbeddcmpaa
open Go Go.Ay
set_option maxRecDepth 100000
end Go.Proofs.Ytonhijbeddcmpaa

/- Layer 4: the reference's Pow. -/
namespace Go.Proofs.Ytonhijbeddcmpaa
open Go Go.Ay
set_option maxRecDepth 100000
structure PQ (p : Int) (n A2 A3 O : Nat) (base : H) (out x : Mat) (uo ux : V) (hh : H) : Prop where
  gO : hh.get O = some (.cells false [.int .i64 p, uo])
  gX : hh.get A2 = some (.cells false [.int .i64 p, ux])
  gA : hh.get A3 = some (.cells false [.int .i64 0, .nils])
  so : SRa hh uo out.2 [A2, A3, O]
  sx : SRa hh ux x.2 [A2, A3, O]
  o1 : out.1 = p
  x1 : x.1 = p
  vo : Vd out n
  vx : Vd x n
  lo : out.2.length = n
  lx : x.2.length = n
  lt : O < hh.next
  fr : Fr base hh
section
variable {p : Int} {n A2 A3 O : Nat} {base : H} {out x out' x' : Mat} {uo ux uo' ux' : V} {hh h' : H}
theorem PQ.frm (k : PQ p n A2 A3 O base out x uo ux hh) (hs : base.next ≤ A2 ∧ A2 < A3 ∧ A3 < O) (f : Fr hh h') : PQ p n A2 A3 O base out x uo ux h' := by
  have ltL := k.lt
  exact ⟨(f.get _ (by omega)).trans k.gO, (f.get _ (by omega)).trans k.gX, (f.get _ (by omega)).trans k.gA, k.so.fr f, k.sx.fr f, k.o1, k.x1, k.vo, k.vx, k.lo, k.lx, Nat.lt_of_lt_of_le k.lt f.next, k.fr.trans f⟩
theorem PQ.setO (k : PQ p n A2 A3 O base out x uo ux hh) (hs : base.next ≤ A2 ∧ A2 < A3 ∧ A3 < O) (so : SRa hh uo' out'.2 [A2, A3, O]) (o1 : out'.1 = p) (vo : Vd out' n) (lo : out'.2.length = n) : PQ p n A2 A3 O base out' x uo' ux (hh.set O (some (.cells false [.int .i64 p, uo']))) :=
  ⟨H.get_set_same .., by rw [H.get_set_ne _ (by omega)]; exact k.gX, by rw [H.get_set_ne _ (by omega)]; exact k.gA, so.set (by simp) _, k.sx.set (by simp) _, o1, k.x1, vo, k.vx, lo, k.lx, k.lt, k.fr.set (by omega) _⟩
theorem PQ.setX (k : PQ p n A2 A3 O base out x uo ux hh) (hs : base.next ≤ A2 ∧ A2 < A3 ∧ A3 < O) (sx : SRa hh ux' x'.2 [A2, A3, O]) (x1 : x'.1 = p) (vx : Vd x' n) (lx : x'.2.length = n) : PQ p n A2 A3 O base out x' uo ux' (hh.set A2 (some (.cells false [.int .i64 p, ux']))) :=
  ⟨by rw [H.get_set_ne _ (by omega)]; exact k.gO, H.get_set_same .., by rw [H.get_set_ne _ (by omega)]; exact k.gA, k.so.set (by simp) _, sx.set (by simp) _, k.o1, x1, k.vo, vx, k.lo, lx, k.lt, k.fr.set (by omega) _⟩
end
end Go.Proofs.Ytonhijbeddcmpaa

/- Layer 4: the reference's Order. -/
namespace Go.Proofs.Ytonhijbeddcmpaa
open Go Go.Ay
set_option maxRecDepth 100000
end Go.Proofs.Ytonhijbeddcmpaa

/- Layer 4: the permutation of the vectors. -/
namespace Go.Proofs.Ytonhijbeddcmpaa
open Go Go.Ay
set_option maxRecDepth 100000
/-- Horner's way with the first entries. -/
def hor (p : Int) (w : Nat → Int) : Nat → Int
  | 0 => 0
  | i + 1 => hor p w i * p + w i
theorem pw_pos {p : Int} (hp : 1 ≤ p) (i : Nat) : 1 ≤ p ^ i := by
  induction i with
  | zero => rw [Int.pow_zero]; exact Int.le_refl 1
  | succ i ih =>
    rw [Int.pow_succ]
    have := Int.mul_le_mul ih hp (by omega) (by omega)
    omega
theorem pw_mono {p : Int} (hp : 1 ≤ p) {i n : Nat} (h : i ≤ n) : p ^ i ≤ p ^ n := by
  obtain ⟨d, rfl⟩ := Nat.le.dest h
  induction d with
  | zero => exact Int.le_refl _
  | succ d ih =>
    rw [show i + (d + 1) = (i + d) + 1 by omega, Int.pow_succ]
    have a := ih (by omega)
    have b := pw_pos hp (i + d)
    have := Int.mul_le_mul (Int.le_refl (p ^ (i + d))) hp (by omega) (by omega)
    omega
theorem hor_bound {p : Int} (hp : 1 ≤ p) {w : Nat → Int} : ∀ {i : Nat}, (∀ j, j < i → 0 ≤ w j ∧ w j < p) → 0 ≤ hor p w i ∧ hor p w i < p ^ i
  | 0, _ => by simp [hor]
  | i + 1, h => by
    have a := hor_bound hp (i := i) fun j hj => h j (by omega)
    have b := h i (by omega)
    rw [hor, Int.pow_succ]
    have c := Int.mul_nonneg a.1 (show 0 ≤ p by omega)
    have d := Int.mul_le_mul (show hor p w i + 1 ≤ p ^ i by omega) (Int.le_refl p) (by omega) (by omega)
    rw [Int.add_mul] at d
    omega
/-- The digits of a number. -/
def dig (p : Int) (n k : Nat) : Nat → Int := fun i => (k : Int) / p ^ (n - 1 - i) % p
def permE (a : Mat) (n k : Nat) : Int := hor a.1 (fun i => (applyF (mkV n (dig a.1 n k)) a n).getD i 0) n
def PermF (a : Mat) : List Int × Int :=
  if sqF a ≠ 0 then ([], sqF a) else if 64 < a.1 ^ a.2.length then ([], 5) else if det a.2.length (ent a.2) % a.1 = 0 then ([], 15) else (mkV (a.1 ^ a.2.length).toNat (permE a a.2.length), 0)
theorem mks_ints (hh : H) (c : Nat) (hc : c ≤ 1000) : mksV hh 1 8 [.int .i64 0] (.int .i64 (c : Int)) (.int .i64 (c : Int)) = some (.sl hh.next 0 c (.kn c), hh.new (.cells false (ints (mkV c fun _ => 0)))) := by
  rw [mksV_int (by omega) (Int.le_refl _) (by omega) (by omega), Int.toNat_natCast, Nat.mul_one, zeros_int, show List.replicate c (0 : Int) = mkV c (fun _ => 0) from mkV_eq (List.length_replicate ..) fun j hj => by rw [List.getD_eq_getElem?_getD, List.getElem?_replicate, if_pos hj]; rfl]
/-- A block of numbers. -/
def Bk (h : H) (id n : Nat) (f : Nat → Int) : Prop := h.get id = some (.cells false (ints (mkV n f)))
section
variable {h h' : H} {id n : Nat} {f : Nat → Int}
theorem Bk.cell (b : Bk h id n f) {i : Nat} (hi : i < n) : h.cell id i = some (.int .i64 (f i)) := by
  rw [H.cell_of b, ints_getD (by rw [mkV_len]; exact hi), mkV_get _ hi]
theorem Bk.put (b : Bk h id n f) {i : Nat} (hi : i < n) (hh : H) (x : Int) : putO (h.get id) hh id i [.int .i64 x] = some (hh.set id (some (.cells false (ints (mkV n fun j => if j = i then x else f j))))) := by
  rw [b, putO_one (by rw [ints_length, mkV_len]; exact hi), ints_set, mkV_set]
theorem Bk.si (b : Bk h id n f) (hl : id < h.next) (cap : Cap) : SI h (.sl id 0 n cap) (mkV n f) :=
  SV.all (by rw [ints_length, mkV_len]; omega) hl b cap
theorem Bk.set (h : H) (id n : Nat) (f : Nat → Int) : Bk (h.set id (some (.cells false (ints (mkV n f))))) id n f := H.get_set_same ..
theorem Bk.ne (b : Bk h id n f) {x : Nat} (hx : id ≠ x) (o : Option Ob) : Bk (h.set x o) id n f := by
  rw [Bk, H.get_set_ne _ hx]; exact b
theorem Bk.fr (b : Bk h id n f) (F : Fr h h') (hl : id < h.next) : Bk h' id n f := (F.get id hl).trans b
theorem Bk.congr (b : Bk h id n f) {g : Nat → Int} (e : ∀ i, i < n → f i = g i) : Bk h id n g := by
  rw [Bk, ← mkV_congr e]; exact b
end
theorem dig_zero {p : Int} {n k : Nat} : (k : Int) / p ^ (n - n) = k := by
  rw [Nat.sub_self, Int.pow_zero, Int.ediv_one]
theorem dig_step {p : Int} (hp : 1 ≤ p) {n k r : Nat} (hr : r < n) : (k : Int) / p ^ (n - (r + 1)) / p = (k : Int) / p ^ (n - r) := by
  rw [show n - r = (n - (r + 1)) + 1 by omega, Int.pow_succ, Int.ediv_ediv_of_nonneg (by have := pw_pos hp (n - (r + 1)); omega)]
theorem dig_range {p : Int} (hp : 1 ≤ p) {m k : Nat} : 0 ≤ (k : Int) / p ^ m ∧ (k : Int) / p ^ m ≤ k := by
  have a := pw_pos hp m
  exact ⟨Int.ediv_nonneg (by omega) (by omega), Int.ediv_le_self _ (by omega)⟩
theorem applyF_range {v : List Int} {a : Mat} {c i : Nat} (hp : 0 < a.1) (hi : i < c) : 0 ≤ (applyF v a c).getD i 0 ∧ (applyF v a c).getD i 0 < a.1 := by
  rw [applyF, mkV_get _ hi]
  exact tmod_range _ hp
set_option maxHeartbeats 16000000 in
theorem Perm_kn (va : V) (a : Mat) (h : H) (ha : MatV h va a) (la : (a.2.length : Int) ≤ 2 ^ 63 - 1) : Ev T n_matrix_Perm [va] h (fun v h' => ∃ w, v = .tup [w, .int .i64 (PermF a).2] ∧ SI h' w (PermF a).1 ∧ Fr h h' ∧ Kn w) := by
  obtain ⟨ua, rfl, hua⟩ := ha
  refine Ev_of t_matrix_Perm rfl ?_
  have wa := SV.what hua.choose_spec.1
  simp (disch := first | omega | (simp only [Qn] <;> omega)) only [go_sem, c_matrix_Perm, initV_eq, boxV_agg2 h (v := .int .i64 a.1) rfl wa.2.1]
  have hfx : Fr h (h.new (.cells false [.int .i64 a.1, ua])) := (Fr.refl h).new _
  have hgx : (h.new (.cells false [.int .i64 a.1, ua])).get h.next = some (.cells false [.int .i64 a.1, ua]) := H.get_new_same ..
  have hnx : (h.new (.cells false [.int .i64 a.1, ua])).next = h.next + 1 := H.next_new ..
  generalize h.new (.cells false [.int .i64 a.1, ua]) = hx at *
  simp (disch := first | omega | (simp only [Qn] <;> omega)) only [go_sem, row_two hgx]
  refine (square_ok _ a hx ⟨ua, rfl, hua.mono hfx⟩ la).mono ?_
  rintro v h5 ⟨rfl, f5⟩
  have F5 := hfx.trans f5
  have gx5 := (f5.get h.next (by omega)).trans hgx
  simp (disch := first | omega | (simp only [Qn] <;> omega)) only [go_sem]
  refine iteW_dec (fun he => ?_) (fun he => ?_)
  · simp (disch := first | omega | (simp only [Qn] <;> omega)) only [go_sem]
    rw [show PermF a = ([], sqF a) from if_pos he]
    exact ⟨_, rfl, SI.nils _, F5, fun _ _ _ _ e => by cases e⟩
  have hz : sqF a = 0 := Classical.byContradiction he
  have da := sq_vd hz
  have hp := fieldF_range da.p
  obtain ⟨n, hn⟩ : ∃ n, a.2.length = n := ⟨_, rfl⟩
  obtain ⟨p, hpe⟩ : ∃ p, a.1 = p := ⟨_, rfl⟩
  rw [hpe] at hp
  have hr1 := da.r1
  have hr2 := da.r2
  rw [hn] at hr1 hr2 da
  have hx5 : h.next < h5.next := by have := f5.next; omega
  have x0 : h5.cell h.next 0 = some (.int .i64 p) := by rw [H.cell_of gx5, ← hpe]; rfl
  have x1 : h5.cell h.next 1 = some ua := by rw [H.cell_of gx5]; rfl
  have lA : lensV ua = some (.int .i64 (n : Int)) := by rw [← hn]; exact hua.lens
  simp (disch := first | omega | (simp only [Qn] <;> omega)) only [go_sem, x1, lA]
  refine Wp_loop (fun k' vars hh => hh = h5 ∧ ∃ (i : Nat) (q : Int), (∃ g : Nat → V, vars = [g 0, .ptr h.next 0, g 2, g 3, g 4, .int .i64 q, g 6, g 7, g 8, g 9, g 10, g 11, g 12, g 13, .int .i64 (n : Int), .int .i64 (i : Int), g 16, g 17, g 18, g 19, g 20, g 21, g 22, g 23, g 24, g 25, g 26]) ∧ q = p ^ i ∧ i ≤ n ∧ q ≤ 64 ∧ k' = n - i) n
    ⟨rfl, 0, 1, ex_junk rfl, (Int.pow_zero _).symm, Nat.zero_le _, by omega, rfl⟩ ?_
  rintro k' vars hh ⟨rfl, i, q, ⟨g, rfl⟩, hq, hi, hq64, rfl⟩
  simp (disch := first | omega | (simp only [Qn] <;> omega)) only [go_sem]
  have q1 := pw_pos (p := p) (by omega) i
  rw [← hq] at q1
  by_cases hlt : (i : Int) < (n : Int)
  · rw [decide_eq_true hlt]
    have b1 := Int.mul_nonneg (show 0 ≤ q by omega) (show 0 ≤ p by omega)
    have b2 := Int.mul_le_mul (show q ≤ 64 by omega) (show p ≤ 10000 by omega) (by omega) (by omega)
    have hq2 : q * p = p ^ (i + 1) := by rw [Int.pow_succ, hq]
    simp (disch := first | omega | (simp only [Qn] <;> omega)) only [go_sem, x0]
    by_cases h64 : 64 < q * p
    · rw [decide_eq_true h64]
      simp (disch := first | omega | (simp only [Qn] <;> omega)) only [go_sem]
      have := pw_mono (p := p) (by omega) (show i + 1 ≤ n by omega)
      rw [show PermF a = ([], 5) by rw [PermF, if_neg (by simp [hz]), hpe, hn, if_pos (by omega)]]
      exact ⟨_, rfl, SI.nils _, F5, fun _ _ _ _ e => by cases e⟩
    · rw [decide_eq_false h64]
      simp (disch := first | omega | (simp only [Qn] <;> omega)) only [go_sem]
      rw [show (i : Int) + 1 = ((i + 1 : Nat) : Int) from by omega]
      exact ⟨n - (i + 1), by omega, i + 1, _, ex_junk rfl, hq2, by omega, by omega, rfl⟩
  rw [decide_eq_false hlt]
  obtain rfl : n = i := by omega
  obtain ⟨m, hm⟩ : ∃ m : Nat, q = (m : Int) := ⟨q.toNat, by omega⟩
  subst hm
  simp (disch := first | omega | (simp only [Qn] <;> omega)) only [go_sem, row_two gx5]
  rw [hpe]
  refine (invert_ok _ a n hh ⟨ua, by rw [hpe], hua.mono F5⟩ da hn).mono ?_
  rintro v h6 ⟨w, dd, rfl, f6, hdd, hd0, hd1⟩
  obtain ⟨q, u, ws, rfl, R⟩ : ∃ q u ws, w = V.agg [.int .i64 q, u] ∧ SV h6 u 1 ws := by
    by_cases hd : dd = 0
    · obtain ⟨u, ws, rfl, R⟩ := hd0 hd
      exact ⟨_, _, _, rfl, R.own.sv⟩
    · obtain ⟨X, hX, u, ws, rfl, R⟩ := hd1 hd
      exact ⟨_, _, _, rfl, R.own.sv⟩
  have vu := SV.what R
  have hst5 := fun hh id => stV_agg2 hh id 0 (v := .int .i64 q) (u := u) rfl vu.2.1
  simp (disch := first | omega | (simp only [Qn] <;> omega)) only [go_sem, hst5, bxH_eq]
  have fB := bxH_fr h6 q u
  generalize bxH h6 q u = hB at *
  have F6 := F5.trans (f6.trans fB)
  have gx6 := ((f6.trans fB).get _ hx5).trans gx5
  clear hd0 hd1 hst5 vu R
  by_cases hd : dd = 0
  · rw [decide_eq_true hd]
    simp (disch := first | omega | (simp only [Qn] <;> omega)) only [go_sem]
    rw [show PermF a = ([], 15) by rw [PermF, if_neg (by simp [hz]), hpe, hn, if_neg (by omega), if_pos (by rw [← hpe, ← hdd]; exact hd)]]
    exact ⟨_, rfl, SI.nils _, F6, fun _ _ _ _ e => by cases e⟩
  rw [decide_eq_false hd]
  have hP : PermF a = (mkV m (permE a n), 0) := by
    rw [PermF, if_neg (by simp [hz]), hpe, hn, if_neg (by omega), if_neg (by rw [← hpe, ← hdd]; exact hd), ← hq, Int.toNat_natCast]
  rw [hP]
  have lB : h.next < hB.next := by have := (f6.trans fB).next; omega
  have x1B : hB.cell h.next 1 = some ua := by rw [H.cell_of gx6]; rfl
  simp (disch := first | omega | (simp only [Qn] <;> omega)) only [go_sem, mks_ints _ m (by omega), x1B, lA, mks_ints _ n (by omega)]
  have hf7 : Fr hB (hB.new (.cells false (ints (mkV m fun _ => 0)))) := (Fr.refl hB).new _
  have hg7 : (hB.new (.cells false (ints (mkV m fun _ => 0)))).get hB.next = some (.cells false (ints (mkV m fun _ => 0))) := H.get_new_same ..
  have hn7 : (hB.new (.cells false (ints (mkV m fun _ => 0)))).next = hB.next + 1 := H.next_new ..
  generalize hB.new (.cells false (ints (mkV m fun _ => 0))) = h7 at *
  have hf8 : Fr h7 (h7.new (.cells false (ints (mkV n fun _ => 0)))) := (Fr.refl h7).new _
  have hg8 : (h7.new (.cells false (ints (mkV n fun _ => 0)))).get h7.next = some (.cells false (ints (mkV n fun _ => 0))) := H.get_new_same ..
  have hn8 : (h7.new (.cells false (ints (mkV n fun _ => 0)))).next = h7.next + 1 := H.next_new ..
  generalize h7.new (.cells false (ints (mkV n fun _ => 0))) = h8 at *
  obtain ⟨Oo, hOo⟩ : ∃ Oo, hB.next = Oo := ⟨_, rfl⟩
  obtain ⟨Vv, hVv⟩ : ∃ Vv, h7.next = Vv := ⟨_, rfl⟩
  have gO : Bk h8 Oo m (fun j => if j < 0 then permE a n j else 0) := by
    rw [← hOo]
    exact ((hf8.get hB.next (by omega)).trans hg7).trans (by congr 4)
  have gV : Bk h8 Vv n (fun _ => 0) := by rw [← hVv]; exact hg8
  have F8 := hf7.trans hf8
  have hs : h.next < Oo ∧ Oo < Vv ∧ Vv < h8.next := ⟨by omega, by omega, by omega⟩
  rw [← hn7, hVv, hOo]
  refine Wp_loop (fun k' vars hh => ∃ (k : Nat) (f : Nat → Int), (∃ g : Nat → V, vars = [g 0, .ptr h.next 0, g 2, g 3, g 4, .int .i64 (m : Int), g 6, .sl Oo 0 m (.kn m), .sl Vv 0 n (.kn n), g 9, g 10, g 11, g 12, g 13, g 14, g 15, g 16, g 17, g 18, .int .i64 (m : Int), .int .i64 (k : Int), g 21, g 22, g 23, g 24, g 25, g 26]) ∧ k ≤ m ∧ Bk hh Oo m (fun j => if j < k then permE a n j else 0) ∧ Bk hh Vv n f ∧ Vv < hh.next ∧ Fr hB hh ∧ k' = m - k) m
    ⟨0, _, ex_junk rfl, Nat.zero_le _, gO, gV, by omega, F8, rfl⟩ ?_
  clear gO gV F8 hg7 hg8 hf7 hf8
  rintro k' vars h9 ⟨k, f, ⟨g, rfl⟩, hk, gO, gV, lV, F9, rfl⟩
  simp (disch := first | omega | (simp only [Qn] <;> omega)) only [go_sem]
  by_cases hkm : (k : Int) < (m : Int)
  · rw [decide_eq_true hkm]
    simp (disch := first | omega | (simp only [Qn] <;> omega)) only [go_sem]
    have hkm' : k < m := by omega
    obtain ⟨W, hW⟩ : ∃ W : Nat → Int, W = fun j => (applyF (mkV n (dig p n k)) a n).getD j 0 := ⟨_, rfl⟩
    have hPE : permE a n k = hor p W n := by rw [hW, permE, hpe]
    have hWr : ∀ j, j < n → 0 ≤ W j ∧ W j < p := fun j hj => by
      rw [hW, ← hpe]; exact applyF_range (by omega) hj
    refine Wp_loop (fun k' vars hh => ∃ (r : Nat) (i x : Int), (∃ g : Nat → V, vars = [g 0, .ptr h.next 0, g 2, g 3, g 4, .int .i64 (m : Int), g 6, .sl Oo 0 m (.kn m), .sl Vv 0 n (.kn n), .int .i64 (k : Int), .int .i64 i, .int .i64 x, g 12, g 13, g 14, g 15, g 16, g 17, g 18, .int .i64 (m : Int), .int .i64 (k : Int), g 21, g 22, g 23, g 24, g 25, g 26]) ∧ i = (r : Int) - 1 ∧ x = (k : Int) / p ^ (n - r) ∧ r ≤ n ∧ Bk hh Oo m (fun j => if j < k then permE a n j else 0) ∧ Bk hh Vv n (fun j => if j < r then f j else dig p n k j) ∧ Vv < hh.next ∧ Fr hB hh ∧ k' = r) n
      ⟨n, _, _, ex_junk rfl, rfl, dig_zero.symm, Nat.le_refl _, gO, gV.congr fun i hi => (if_pos hi).symm, lV, F9, rfl⟩ ?_
    clear gO gV lV F9
    rintro k' vars h10 ⟨r, i, x, ⟨g, rfl⟩, hir, hxr, hr, gO, gV, lV, F10, rfl⟩
    have c0 : h10.cell h.next 0 = some (.int .i64 p) := by rw [F10.cell (by omega), H.cell_of gx6, ← hpe]; rfl
    simp (disch := first | omega | (simp only [Qn] <;> omega)) only [go_sem]
    by_cases h0 : 0 ≤ i
    · rw [decide_eq_true h0]
      obtain ⟨t, rfl⟩ : ∃ t : Nat, i = (t : Int) := ⟨i.toNat, by omega⟩
      obtain rfl : k' = t + 1 := by omega
      have xr := dig_range (p := p) (by omega) (m := n - (t + 1)) (k := k)
      rw [← hxr] at xr
      have e1 := nonneg_tmod (a := x) (p := p) xr.1
      have e2 : x.tdiv p = x / p := Int.tdiv_eq_ediv_of_nonneg xr.1
      have hd := dig_step (p := p) (k := k) (by omega) (show t < n by omega)
      rw [← hxr] at hd
      have q1 := Int.ediv_nonneg xr.1 (show 0 ≤ p by omega)
      have q2 := Int.ediv_le_self p xr.1
      obtain ⟨y, hy⟩ : ∃ y, x / p = y := ⟨_, rfl⟩
      rw [hy] at q1 q2 e2 hd
      have hpt := fun hh => gV.put (i := t) (by omega) hh (x % p)
      have c0' : (h10.set Vv (some (.cells false (ints (mkV n fun j => if j = t then x % p else if j < t + 1 then f j else dig p n k j))))).cell h.next 0 = some (.int .i64 p) := by rw [H.cell_set_ne _ (by omega)]; exact c0
      simp (disch := first | omega | (simp only [Qn] <;> omega)) only [go_sem, c0, e1, e2, hpt, c0']
      refine ⟨t, by omega, t, _, _, ex_junk rfl, rfl, hd, by omega, gO.ne (by omega) _, (Bk.set ..).congr fun j hj => ?_, lV, F10.set (by omega) _, rfl⟩
      by_cases e : j = t
      · rw [if_pos e, if_neg (by omega), e, dig, show n - 1 - t = n - (t + 1) by omega, ← hxr]
      · rw [if_neg e]
        by_cases e3 : j < t
        · rw [if_pos e3, if_pos (by omega)]
        · rw [if_neg e3, if_neg (by omega)]
    rw [decide_eq_false h0]
    obtain rfl : k' = 0 := by omega
    have gV2 := gV.congr (g := dig p n k) fun j _ => if_neg (Nat.not_lt_zero j)
    have gxr := (F10.get _ (by omega)).trans gx6
    rw [hpe] at gxr
    simp (disch := first | omega | (simp only [Qn] <;> omega)) only [go_sem, row_two gxr]
    refine (apply_ok (.sl Vv 0 n (.kn n)) _ (mkV n (dig p n k)) a n h10 (gV2.si lV _) ⟨ua, by rw [hpe], hua.mono (F6.trans F10)⟩ da (by rw [mkV_len]; omega) (fun i hi => by
      rw [mkV_len] at hi
      rw [mkV_get _ hi, dig, hpe]; exact tmod_range _ (by omega))).mono ?_
    rintro w h11 ⟨o, f11⟩
    have la : (applyF (mkV n (dig p n k)) a n).length = n := by rw [applyF, mkV_len]
    obtain ⟨idw, capw, restw, rfl, i1, i2, i3⟩ := own_open o (by omega)
    rw [la]
    have n11 := f11.next
    have cW : ∀ j, j < n → (ints (applyF (mkV n (dig p n k)) a n) ++ restw)[j]? = some (.int .i64 (W j)) := fun j hj => by
      rw [List.getElem?_append_left (by rw [ints_length]; omega), ints_getD (by omega), hW]
    have F11 := F10.trans f11
    have gO1 := gO.fr f11 (by omega)
    have gV1 := gV2.fr f11 lV
    simp (disch := first | omega | (simp only [Qn] <;> omega)) only [go_sem]
    refine Wp_loop (fun k' vars hh => ∃ (i : Nat), (∃ g : Nat → V, vars = [g 0, .ptr h.next 0, g 2, g 3, g 4, .int .i64 (m : Int), g 6, .sl Oo 0 m (.kn m), .sl Vv 0 n (.kn n), .int .i64 (k : Int), g 10, g 11, g 12, g 13, g 14, g 15, g 16, g 17, g 18, .int .i64 (m : Int), .int .i64 (k : Int), g 21, g 22, .sl idw 0 n capw, .int .i64 (n : Int), .int .i64 (i : Int), g 26]) ∧ i ≤ n ∧ Bk hh Oo m (fun j => if j < k then permE a n j else if j = k then hor p W i else 0) ∧ Bk hh Vv n (dig p n k) ∧ hh.get idw = some (.cells false (ints (applyF (mkV n (dig p n k)) a n) ++ restw)) ∧ idw < hh.next ∧ Fr hB hh ∧ k' = n - i) n
      ⟨0, ex_junk rfl, Nat.zero_le _, gO1.congr fun j hj => by
        by_cases e : j = k
        · rw [e, if_neg (Nat.lt_irrefl k), if_neg (Nat.lt_irrefl k), if_pos rfl]; rfl
        · rw [if_neg e], gV1, i3, i2, F11, rfl⟩ ?_
    clear gO1 gV1 i3 i2 gV gV2 gO c0 o
    rintro k' vars h12 ⟨i, ⟨g, rfl⟩, hi, gO, gV, gw, lw, F12, rfl⟩
    simp (disch := first | omega | (simp only [Qn] <;> omega)) only [go_sem]
    by_cases hin : (i : Int) < (n : Int)
    · rw [decide_eq_true hin]
      have hi' : i < n := by omega
      have cw : h12.cell idw i = some (.int .i64 (W i)) := by rw [H.cell_of gw]; exact cW i hi'
      have c0 : h12.cell h.next 0 = some (.int .i64 p) := by rw [F12.cell (by omega), H.cell_of gx6, ← hpe]; rfl
      have y1 := gO.cell hkm'
      rw [if_neg (Nat.lt_irrefl k), if_pos rfl] at y1
      have hb := hor_bound (p := p) (by omega) (w := W) (i := i) fun j hj => hWr j (by omega)
      have hm1 := pw_mono (p := p) (by omega) (show i ≤ n by omega)
      have b1 := Int.mul_nonneg hb.1 (show 0 ≤ p by omega)
      have b2 := Int.mul_le_mul (show hor p W i ≤ 64 by omega) (show p ≤ 10000 by omega) (by omega) (by omega)
      have b3 := hWr i hi'
      have hpt := gO.put hkm' (H.mk h12.tr (h12.next + 13)) (hor p W i * p + W i)
      simp (disch := first | omega | (simp only [Qn] <;> omega)) only [go_sem, cw, c0, y1, hpt]
      rw [show (i : Int) + 1 = ((i + 1 : Nat) : Int) from by omega]
      refine ⟨n - (i + 1), by omega, i + 1, ex_junk rfl, by omega, (Bk.set ..).congr fun j hj => ?_, gV.ne (by omega) _, ?_, by show idw < h12.next + 13; omega, (F12.bump (by omega)).set (by omega) _, rfl⟩
      · by_cases e : j = k
        · rw [if_pos e, if_neg (by omega), if_pos e, hor]
        · simp only [if_neg e]
      · first | exact gw | (rw [H.get_set_ne _ (by omega)]; exact gw)
    rw [decide_eq_false hin]
    obtain rfl : n = i := by omega
    simp (disch := first | omega | (simp only [Qn] <;> omega)) only [go_sem]
    rw [show (k : Int) + 1 = ((k + 1 : Nat) : Int) from by omega]
    refine ⟨m - (k + 1), by omega, k + 1, _, ex_junk rfl, by omega, gO.congr fun j hj => ?_, gV, by have := F12.next; omega, F12, rfl⟩
    by_cases e : j = k
    · rw [e, if_neg (Nat.lt_irrefl k), if_pos rfl, if_pos (Nat.lt_succ_self k), hPE]
    · by_cases e2 : j < k
      · rw [if_pos e2, if_pos (by omega)]
      · rw [if_neg e2, if_neg e, if_neg (by omega)]
  rw [decide_eq_false hkm]
  obtain rfl : m = k := by omega
  simp (disch := first | omega | (simp only [Qn] <;> omega)) only [go_sem]
  have gO' := gO.congr (g := permE a n) fun i hi => if_pos hi
  exact ⟨_, rfl, gO'.si (by omega) _, F6.trans F9, fun _ _ _ _ e => by cases e; exact ⟨m, rfl, Nat.le_refl _⟩⟩
theorem Perm_ok (va : V) (a : Mat) (h : H) (ha : MatV h va a) (la : (a.2.length : Int) ≤ 2 ^ 63 - 1) : Ev T n_matrix_Perm [va] h (fun v h' => ∃ w, v = .tup [w, .int .i64 (PermF a).2] ∧ SI h' w (PermF a).1 ∧ Fr h h') :=
  (Perm_kn va a h ha la).mono fun v h' ⟨w, e, s, f, _⟩ => ⟨w, e, s, f⟩
end Go.Proofs.Ytonhijbeddcmpaa

/- Layer 4: the reference's permutation of the vectors. -/
namespace Go.Proofs.Ytonhijbeddcmpaa
open Go Go.Ay
set_option maxRecDepth 100000
end Go.Proofs.Ytonhijbeddcmpaa

/- Layer 4: what is too large. -/
namespace Go.Proofs.Ytonhijbeddcmpaa
open Go Go.Ay
set_option maxRecDepth 100000
end Go.Proofs.Ytonhijbeddcmpaa

/- The law MatrixCalls, walked. -/
namespace Go.Proofs.Ytonhijbeddcmpaa
open Go Go.Ay
set_option maxRecDepth 100000
/-- A box whose content is named. -/
structure Mu (h : H) (id : Nat) (a : Mat) (u : V) : Prop where
  g : h.get id = some (.cells false [.int .i64 a.1, u])
  s : SR h u a.2
  lt : id < h.next
theorem Mu.mono {h h' : H} {id : Nat} {a : Mat} {u : V} (b : Mu h id a u) (f : Fr h h') : Mu h' id a u := ⟨(f.get id b.lt).trans b.g, b.s.mono f, Nat.lt_of_lt_of_le b.lt f.next⟩
theorem Mu.row {h : H} {id : Nat} {a : Mat} {u : V} (b : Mu h id a u) : h.row id 0 2 = some [.int .i64 a.1, u] := row_two b.g
theorem Mu.mv {h : H} {id : Nat} {a : Mat} {u : V} (b : Mu h id a u) : MatV h (.agg [.int .i64 a.1, u]) a := ⟨u, rfl, b.s⟩
end Go.Proofs.Ytonhijbeddcmpaa

/- The law MatrixValues, walked. -/
namespace Go.Proofs.Ytonhijbeddcmpaa
open Go Go.Ay
set_option maxRecDepth 100000
/-- A box whose content is named and came in. -/
structure Mk (h : H) (id : Nat) (a : Mat) (u : V) : Prop where
  g : h.get id = some (.cells false [.int .i64 a.1, u])
  s : SRk h u a.2
  lt : id < h.next
theorem Mk.mono {h h' : H} {id : Nat} {a : Mat} {u : V} (b : Mk h id a u) (f : Fr h h') : Mk h' id a u := ⟨(f.get id b.lt).trans b.g, b.s.mono f, Nat.lt_of_lt_of_le b.lt f.next⟩
theorem Mk.row {h : H} {id : Nat} {a : Mat} {u : V} (b : Mk h id a u) : h.row id 0 2 = some [.int .i64 a.1, u] := row_two b.g
theorem Mk.mv {h : H} {id : Nat} {a : Mat} {u : V} (b : Mk h id a u) : MatV h (.agg [.int .i64 a.1, u]) a := ⟨u, rfl, b.s.sr⟩
theorem Mk.kn {h : H} {id : Nat} {a : Mat} {u : V} (b : Mk h id a u) : MatK h (.agg [.int .i64 a.1, u]) a := ⟨u, rfl, b.s⟩
end Go.Proofs.Ytonhijbeddcmpaa

/- The law MatrixOrders, walked. -/
namespace Go.Proofs.Ytonhijbeddcmpaa
open Go Go.Ay
set_option maxRecDepth 100000
end Go.Proofs.Ytonhijbeddcmpaa

/- The law MatrixInverse, walked. -/
namespace Go.Proofs.Ytonhijbeddcmpaa
open Go Go.Ay
set_option maxRecDepth 100000
end Go.Proofs.Ytonhijbeddcmpaa

/- The law MatrixNames, walked. -/
namespace Go.Proofs.Ytonhijbeddcmpaa
open Go Go.Ay
set_option maxRecDepth 100000
theorem bls_int3 (h : H) (x y z : Int) : blsV h 1 [.int .i64 0] 3 [(0, 1, .int .i64 x), (1, 1, .int .i64 y), (2, 1, .int .i64 z)] = some (.sl h.next 0 3 (.kn 3), h.new (.cells false (ints [x, y, z]))) := by
  have e : zerosV [V.int .i64 0] 3 = [.int .i64 0, .int .i64 0, .int .i64 0] := rfl
  simp [blsV, fillV, e, V.cells, V.one, putAt, ints]
theorem bls_int4 (h : H) (x y z t : Int) : blsV h 1 [.int .i64 0] 4 [(0, 1, .int .i64 x), (1, 1, .int .i64 y), (2, 1, .int .i64 z), (3, 1, .int .i64 t)] = some (.sl h.next 0 4 (.kn 4), h.new (.cells false (ints [x, y, z, t]))) := by
  have e : zerosV [V.int .i64 0] 4 = [.int .i64 0, .int .i64 0, .int .i64 0, .int .i64 0] := rfl
  simp [blsV, fillV, e, V.cells, V.one, putAt, ints]
theorem bls_int7 (h : H) (x y z t a b c : Int) : blsV h 1 [.int .i64 0] 7 [(0, 1, .int .i64 x), (1, 1, .int .i64 y), (2, 1, .int .i64 z), (3, 1, .int .i64 t), (4, 1, .int .i64 a), (5, 1, .int .i64 b), (6, 1, .int .i64 c)] = some (.sl h.next 0 7 (.kn 7), h.new (.cells false (ints [x, y, z, t, a, b, c]))) := by
  have e : zerosV [V.int .i64 0] 7 = [.int .i64 0, .int .i64 0, .int .i64 0, .int .i64 0, .int .i64 0, .int .i64 0, .int .i64 0] := rfl
  simp [blsV, fillV, e, V.cells, V.one, putAt, ints]
theorem bls_sl1 (h : H) (a b c : Nat) (d : Cap) : blsV h 1 [.nils] 1 [(0, 1, .sl a b c d)] = some (.sl h.next 0 1 (.kn 1), h.new (.cells false [.sl a b c d])) := bls_row h rfl rfl
theorem bls_nil1 (h : H) : blsV h 1 [.nils] 1 [(0, 1, .nils)] = some (.sl h.next 0 1 (.kn 1), h.new (.cells false [.nils])) := bls_row h rfl rfl
theorem bls_sl4 (h : H) (a b c a' b' c' a2 b2 c2 a3 b3 c3 : Nat) (d d' d2 d3 : Cap) : blsV h 1 [.nils] 4 [(0, 1, .sl a b c d), (1, 1, .sl a' b' c' d'), (2, 1, .sl a2 b2 c2 d2), (3, 1, .sl a3 b3 c3 d3)] = some (.sl h.next 0 4 (.kn 4), h.new (.cells false [.sl a b c d, .sl a' b' c' d', .sl a2 b2 c2 d2, .sl a3 b3 c3 d3])) := by
  have e : zerosV [V.nils] 4 = [.nils, .nils, .nils, .nils] := rfl
  simp [blsV, fillV, e, V.cells, V.one, putAt]
theorem bld_mat (p : Int) (a b c : Nat) (d : Cap) : bldV [.int .i64 0, .nils] [(0, 1, .int .i64 p), (1, 1, .sl a b c d)] = some (.agg [.int .i64 p, .sl a b c d]) := bldV_two rfl rfl rfl rfl
theorem lit2 (h : H) (l : List Int) : ∃ h3, h.new (.cells false (ints l)) = h3 ∧ Fr h h3 ∧ SI h3 (.sl h.next 0 l.length (.kn l.length)) l ∧ h3.next = h.next + 1 :=
  ⟨_, rfl, (Fr.refl h).new _, SI.own (by simp only [H.next_new]; omega) (H.get_new_same ..) _, rfl⟩
theorem litV2 {b0 h : H} (f0 : Fr b0 h) (l : List Int) (i m : Nat) (hi : b0.next ≤ i) (hm : i < m) : ∃ h3, litV h i (ints l) m = h3 ∧ Fr b0 h3 ∧ SI h3 (.sl i 0 l.length (.kn l.length)) l ∧ h3.next = m :=
  ⟨_, rfl, litV_fr f0 (by omega) (by omega) _, SI.own (by rw [litV_next]; omega) (litV_get ..) _, rfl⟩
theorem sr_rows1 {h : H} {i k : Nat} {ri rk : Bool} {a : List Int} (gi : h.get i = some (.cells ri (ints a))) (gk : h.get k = some (.cells rk [.sl i 0 a.length (.kn a.length)])) (hi : i < h.next) (hk : k < h.next) : SR h (.sl k 0 1 (.kn 1)) [a] :=
  ⟨_, SV.all rfl hk gk _, SI.own hi gi _, trivial⟩
theorem lit1r (h : H) (a : List Int) (n : Nat) (hn : n = a.length) : ∃ h3, (h.new (.cells false (ints a))).new (.cells false [.sl h.next 0 n (.kn n)]) = h3 ∧ Fr h h3 ∧ SR h3 (.sl (h.next + 1) 0 1 (.kn 1)) [a] ∧ h3.next = h.next + 2 := by
  subst hn
  refine ⟨_, rfl, ((Fr.refl h).new _).new _, sr_rows1 (ri := false) (rk := false) (i := h.next) ?_ ?_ ?_ ?_, rfl⟩
  · rw [H.get_new_ne _ (by simp only [H.next_new]; omega)]; exact H.get_new_same ..
  · exact H.get_new_same (h.new _) _
  · simp only [H.next_new]; omega
  · simp only [H.next_new]; omega
theorem litV1r {b0 h : H} (f0 : Fr b0 h) (a : List Int) (n i k m : Nat) (hn : n = a.length) (hi : b0.next ≤ i) (hk : i < k) (hm : k < m) : ∃ h3, litV (litV h i (ints a) m) k [.sl i 0 n (.kn n)] m = h3 ∧ Fr b0 h3 ∧ SR h3 (.sl k 0 1 (.kn 1)) [a] ∧ h3.next = m := by
  subst hn
  refine ⟨_, rfl, litV_fr (litV_fr f0 (by omega) (by omega) _) (by omega) (by omega) _, sr_rows1 (ri := false) (rk := false) (i := i) ?_ ?_ ?_ ?_, rfl⟩
  · rw [litV_ne _ _ _ (by omega)]; exact litV_get ..
  · exact litV_get ..
  · rw [litV_next]; omega
  · rw [litV_next]; omega
theorem lit21 (h : H) (a b c : Int) : ∃ h3, ((h.new (.cells false (ints [a, b]))).new (.cells false (ints [c]))).new (.cells false [.sl h.next 0 2 (.kn 2), .sl (h.next + 1) 0 1 (.kn 1)]) = h3 ∧ Fr h h3 ∧ SR h3 (.sl (h.next + 1 + 1) 0 2 (.kn 2)) [[a, b], [c]] ∧ h3.next = h.next + 3 := by
  refine ⟨_, rfl, (((Fr.refl h).new _).new _).new _, sr_two (ri := false) (rj := false) (rk := false) (i := h.next) (j := h.next + 1) ?_ ?_ ?_ ?_ ?_ ?_, rfl⟩
  · rw [H.get_new_ne _ (by simp only [H.next_new]; omega), H.get_new_ne _ (by simp only [H.next_new]; omega)]; exact H.get_new_same ..
  · rw [H.get_new_ne _ (by simp only [H.next_new]; omega)]; exact H.get_new_same (h.new _) _
  · exact H.get_new_same ((h.new _).new _) _
  · simp only [H.next_new]; omega
  · simp only [H.next_new]; omega
  · simp only [H.next_new]; omega
theorem litn1 (h : H) : ∃ h3, h.new (.cells false [.nils]) = h3 ∧ Fr h h3 ∧ SR h3 (.sl h.next 0 1 (.kn 1)) [[]] ∧ h3.next = h.next + 1 :=
  ⟨_, rfl, (Fr.refl h).new _, ⟨[.nils], SV.all rfl (by simp only [H.next_new]; omega) (H.get_new_same ..) _, SI.nils _, trivial⟩, rfl⟩
theorem lit44 (h : H) (a b c d : List Int) (ha : a.length = 4) (hb : b.length = 4) (hc : c.length = 4) (hd : d.length = 4) : ∃ h3, ((((h.new (.cells false (ints a))).new (.cells false (ints b))).new (.cells false (ints c))).new (.cells false (ints d))).new (.cells false [.sl h.next 0 4 (.kn 4), .sl (h.next + 1) 0 4 (.kn 4), .sl (h.next + 1 + 1) 0 4 (.kn 4), .sl (h.next + 1 + 1 + 1) 0 4 (.kn 4)]) = h3 ∧ Fr h h3 ∧ SR h3 (.sl (h.next + 1 + 1 + 1 + 1) 0 4 (.kn 4)) [a, b, c, d] ∧ h3.next = h.next + 5 := by
  have s : ∀ {hh : H} {i : Nat} {l : List Int}, l.length = 4 → hh.get i = some (.cells false (ints l)) → i < hh.next → SI hh (.sl i 0 4 (.kn 4)) l := fun {hh i l} e g hi => by
    have := SI.own hi g (.kn 4)
    rw [e] at this; exact this
  refine ⟨_, rfl, (((((Fr.refl h).new _).new _).new _).new _).new _, ⟨_, SV.all rfl ?_ (H.get_new_same ((((h.new _).new _).new _).new _) _) _, s ha ?_ ?_, s hb ?_ ?_, s hc ?_ ?_, s hd ?_ ?_, trivial⟩, rfl⟩
  · simp only [H.next_new]; omega
  · rw [H.get_new_ne _ (by simp only [H.next_new]; omega), H.get_new_ne _ (by simp only [H.next_new]; omega), H.get_new_ne _ (by simp only [H.next_new]; omega), H.get_new_ne _ (by simp only [H.next_new]; omega)]; exact H.get_new_same ..
  · simp only [H.next_new]; omega
  · rw [H.get_new_ne _ (by simp only [H.next_new]; omega), H.get_new_ne _ (by simp only [H.next_new]; omega), H.get_new_ne _ (by simp only [H.next_new]; omega)]; exact H.get_new_same (h.new _) _
  · simp only [H.next_new]; omega
  · rw [H.get_new_ne _ (by simp only [H.next_new]; omega), H.get_new_ne _ (by simp only [H.next_new]; omega)]; exact H.get_new_same ((h.new _).new _) _
  · simp only [H.next_new]; omega
  · rw [H.get_new_ne _ (by simp only [H.next_new]; omega)]; exact H.get_new_same (((h.new _).new _).new _) _
  · simp only [H.next_new]; omega
/-- What the chapter's examples come to. -/
theorem nv_add : AddF mA mB = ((5, [[1, 3], [4, 4]]), 0) := by decide +kernel
theorem nv_scale : ScaleF mA (-1) = ((5, [[4, 3], [2, 1]]), 0) := by decide +kernel
theorem nv_turn : TurnF mA = ((5, [[1, 3], [2, 4]]), 0) := by decide +kernel
theorem nv_apply : ApplyF [1, 6] mA = ([4, 1], 0) := by decide +kernel
theorem nv_trace : TraceF mA = (0, 0) := by decide +kernel
theorem nv_poly : PolyF mA = ([3, 0, 1], 0) := by
  rw [PolyF, if_neg (by rw [lv_sq]; decide)]
  have : mkV (mA.2.length + 1) (fun q => chp mA.2.length (ent mA.2) q % mA.1) = [3, 0, 1] := by decide +kernel
  rw [this]
theorem nv_pow2 : PowF mA 2 = ((5, [[2, 0], [0, 2]]), 0) := by
  rw [PowF, if_neg (by rw [lv_sq]; decide), if_neg (by decide), if_neg (by decide)]
  decide +kernel
theorem nv_pow0 : PowF mA 0 = ((5, [[1, 0], [0, 1]]), 0) := by
  rw [PowF, if_neg (by rw [lv_sq]; decide), if_neg (by decide), if_neg (by decide)]
  decide +kernel
def mS : Mat := (5, [[1, 2], [2, 4]])
theorem nv_inv : InvF mS = ((0, []), 15) := by
  rw [InvF, if_neg (by decide +kernel), if_pos (by decide +kernel)]
theorem nv_ordB : OrderF mB = (2, 0) := by
  have h0 : (InvF mB).2 = 0 := by rw [InvF, if_neg (by decide +kernel), if_neg (by decide +kernel)]
  rw [OrderF, if_neg (by rw [h0]; decide)]
  decide +kernel
theorem nv_permB : PermF mB = ([0, 5, 10, 15, 20, 1, 6, 11, 16, 21, 2, 7, 12, 17, 22, 3, 8, 13, 18, 23, 4, 9, 14, 19, 24], 0) := by decide +kernel
def mU : Mat := (9973, [[1, 1], [0, 1]])
def uK (k : Nat) : Mat := (9973, [[1, ((k % 9973 : Nat) : Int)], [0, 1]])
theorem uK_mul (k : Nat) : mulF (uK k) mU 2 2 = uK (k + 1) := by
  have e : (((k % 9973 : Nat) : Int) + 1) % 9973 = (((k + 1) % 9973 : Nat) : Int) := by omega
  simp [mulF, uK, mU, mkR, mkV, sm, ent, List.range_succ, e]
  omega
theorem uK_one (k : Nat) (h1 : 1 ≤ k) (h2 : k < 9973) : (uK k).2 ≠ (oneF 2 9973).2 := by
  have : (oneF 2 9973).2 = [[1, 0], [0, 1]] := by decide +kernel
  rw [this]
  simp [uK]
  omega
theorem ord_uK : ∀ d k, k + d = 9973 → 1 ≤ k → ∀ f, d < f → ordG mU 2 f k (uK k) = (9973, 0)
  | 0, k, hk, _, f, hf => by
    obtain ⟨f, rfl⟩ : ∃ g, f = g + 1 := ⟨f - 1, by omega⟩
    obtain rfl : k = 9973 := by omega
    rw [ordG, if_pos (by decide +kernel)]
    rfl
  | d + 1, k, hk, h1, f, hf => by
    obtain ⟨f, rfl⟩ : ∃ g, f = g + 1 := ⟨f - 1, by omega⟩
    rw [ordG, show mU.1 = 9973 from rfl, if_neg (uK_one k h1 (by omega)), uK_mul]
    exact ord_uK d (k + 1) (by omega) (by omega) f (by omega)
theorem nv_ordU : OrderF mU = (9973, 0) := by
  have h0 : (InvF mU).2 = 0 := by rw [InvF, if_neg (by decide +kernel), if_neg (by decide +kernel)]
  rw [OrderF, if_neg (by rw [h0]; decide)]
  exact ord_uK 9972 1 (by omega) (by omega) 10000 (by omega)
def mI : Mat := (3, [[1, 0, 0, 0], [0, 1, 0, 0], [0, 0, 1, 0], [0, 0, 0, 1]])
theorem nv_permI : PermF mI = ([], 5) := by decide +kernel
def mT : Mat := (61, [[60]])
theorem nv_permT : (PermF mT).2 = 0 ∧ (PermF mT).1.length = 61 ∧ (PermF mT).1.getD 1 0 = 60 := by decide +kernel
theorem nv_mul : MulF mA (5, [[1, 2, 3]]) = ((0, []), 10) := by decide +kernel
theorem nv_one64 : OneF 64 2 = (oneF 64 2, 0) := by rw [OneF, if_neg (by decide +kernel), if_neg (by omega)]; rfl
theorem nv_one65 : OneF 65 2 = ((0, []), 2) := by decide +kernel
theorem nv_oneb : OneF 2 10007 = ((0, []), 3) := by decide +kernel
theorem nv_ck1 : checkM (4, [[1]]) = 3 := by decide +kernel
theorem nv_ck2 : checkM (5, []) = 2 := by decide +kernel
theorem nv_ck3 : checkM (5, [[]]) = 2 := by decide +kernel
theorem nv_ck4 : checkM (5, [[1, 2], [3]]) = 3 := by decide +kernel
theorem nv_ck5 : checkM (oneF 64 2) = 0 := by decide +kernel
end Go.Proofs.Ytonhijbeddcmpaa


/- The law MatrixNames, walked: the walk. -/
namespace Go.Proofs.Ytonhijbeddcmpaa
open Go Go.Ay
set_option maxRecDepth 100000
set_option maxHeartbeats 64000000 in
theorem names_ok (h : H) : Ev T n_law04_MatrixNames [] h (fun v _ => v = .bool true) := by
  refine Ev_of t_law04_MatrixNames rfl ?_
  simp (disch := first | omega | (simp only [Qn] <;> omega)) only [go_sem, c_law04_MatrixNames, initV_eq]
  refine (lives_ok h).mono ?_
  rintro v h0 ⟨rfl, f0⟩
  clear f0
  simp (disch := first | omega | (simp only [Qn] <;> omega)) only [go_sem, bls_int2, bls_sl2]
  obtain ⟨h1, e1, f1, s1, n1⟩ := lit22 h0 1 2 3 4
  rw [e1]
  refine (of_ok _ _ h1 s1).mono ?_
  rintro w h2 ⟨rfl, f2⟩
  simp (disch := first | omega | (simp only [Qn] <;> omega)) only [go_sem, bls_int2, bls_sl2]
  obtain ⟨h3, e3, f3, s3, n3⟩ := lit22 h2 0 1 1 0
  rw [e3]
  refine (of_ok _ _ h3 s3).mono ?_
  rintro w h4 ⟨rfl, f4⟩
  have sA := ((s1.mono f2).mono f3).mono f4
  have sB := s3.mono f4
  have hstA := fun hh id => stV_agg2 hh id 0 (v := .int .i64 5) (u := .sl (h0.next + 1 + 1) 0 2 (.kn 2)) rfl rfl
  have hstB := fun hh id => stV_agg2 hh id 0 (v := .int .i64 5) (u := .sl (h2.next + 1 + 1) 0 2 (.kn 2)) rfl rfl
  obtain ⟨ua, hua⟩ : ∃ u, V.sl (h0.next + 1 + 1) 0 2 (.kn 2) = u := ⟨_, rfl⟩
  obtain ⟨ub, hub⟩ : ∃ u, V.sl (h2.next + 1 + 1) 0 2 (.kn 2) = u := ⟨_, rfl⟩
  rw [hua] at sA hstA
  rw [hub] at sB hstB
  rw [hua, hub]
  simp (disch := first | omega | (simp only [Qn] <;> omega)) only [go_sem]
  have hfa : Fr h4 (h4.new (.cells false [.int .i64 0, .nils])) := (Fr.refl h4).new _
  have hga : (h4.new (.cells false [.int .i64 0, .nils])).get h4.next = some (.cells false [.int .i64 0, .nils]) := H.get_new_same ..
  have hna : (h4.new (.cells false [.int .i64 0, .nils])).next = h4.next + 1 := H.next_new ..
  generalize h4.new (.cells false [.int .i64 0, .nils]) = ha at *
  rw [← hna]
  have hfb : Fr ha (ha.new (.cells false [.int .i64 0, .nils])) := (Fr.refl ha).new _
  have hgb : (ha.new (.cells false [.int .i64 0, .nils])).get ha.next = some (.cells false [.int .i64 0, .nils]) := H.get_new_same ..
  have hnb : (ha.new (.cells false [.int .i64 0, .nils])).next = ha.next + 1 := H.next_new ..
  generalize ha.new (.cells false [.int .i64 0, .nils]) = hb at *
  obtain ⟨A, hA⟩ : ∃ A, h4.next = A := ⟨_, rfl⟩
  obtain ⟨B, hB⟩ : ∃ B, ha.next = B := ⟨_, rfl⟩
  rw [hB] at hgb
  rw [hA] at hga
  have ga : hb.get A = some (.cells false [.int .i64 0, .nils]) := (hfb.get A (by omega)).trans hga
  have nab : B ≠ A := by omega
  rw [hA, hB]
  simp (disch := first | omega | (simp only [Qn] <;> omega)) only [go_sem, hstA, hstB, ga, hgb]
  have fC : Fr h4 ((hb.set A (some (.cells false [.int .i64 5, ua]))).set B (some (.cells false [.int .i64 5, ub]))) := (((hfa.trans hfb).set (by omega) _).set (by omega) _)
  have gA : ((hb.set A (some (.cells false [.int .i64 5, ua]))).set B (some (.cells false [.int .i64 5, ub]))).get A = some (.cells false [.int .i64 5, ua]) := by
    rw [H.get_set_ne _ (by omega)]; exact H.get_set_same ..
  have gB : ((hb.set A (some (.cells false [.int .i64 5, ua]))).set B (some (.cells false [.int .i64 5, ub]))).get B = some (.cells false [.int .i64 5, ub]) := H.get_set_same ..
  have nC : ((hb.set A (some (.cells false [.int .i64 5, ua]))).set B (some (.cells false [.int .i64 5, ub]))).next = B + 1 := by rw [H.next_set, H.next_set]; omega
  generalize (hb.set A (some (.cells false [.int .i64 5, ua]))).set B (some (.cells false [.int .i64 5, ub])) = hC at *
  have ga : Mu hC A mA ua := ⟨gA, sA.mono fC, by omega⟩
  have gb : Mu hC B mB ub := ⟨gB, sB.mono fC, by omega⟩
  clear gA gB nC fC hstA hstB sA sB hga hgb hfa hfb hna hnb hua hub e1 e3 f1 f2 f3 f4 s1 s3 n1 n3 nab hA hB
  simp (disch := first | omega | (simp only [Qn] <;> omega)) only [go_sem, ga.row, gb.row]
  refine (Add_ok _ _ mA mB _ ga.mv gb.mv (by decide) (by decide)).mono ?_
  rintro v h11 ⟨z, rfl, ⟨u1, ws1, rfl, R1⟩, f1⟩
  rw [nv_add] at R1
  rw [nv_add]
  replace R1 := R1.sr
  have st := fun hh id => stV_agg2 hh id 0 (v := .int .i64 (((5, [[1, 3], [4, 4]]) : Mat)).1) (u := u1) rfl (SV.what R1.choose_spec.1).2.1
  try simp only at R1 st
  simp (disch := first | omega | (simp only [Qn] <;> omega)) only [go_sem, st, bxH_eq, List.getElem?_cons_zero, List.getElem?_cons_succ]
  have fx := f1.trans (bxH_fr h11 (((5, [[1, 3], [4, 4]]) : Mat)).1 u1)
  replace ga := ga.mono fx
  replace gb := gb.mono fx
  have b1 : Mu (bxH h11 (((5, [[1, 3], [4, 4]]) : Mat)).1 u1) h11.next ((5, [[1, 3], [4, 4]]) : Mat) u1 := ⟨bxH_get .., R1.mono (bxH_fr ..), by rw [bxH_next]; omega⟩
  clear fx st f1 R1
  try simp only at b1
  generalize bxH h11 _ u1 = k11 at *
  generalize h11.next = j1 at *
  simp (disch := first | omega | (simp only [Qn] <;> omega)) only [go_sem, ga.row]
  refine (Scale_ok _ mA (-1) _ ga.mv (by decide)).mono ?_
  rintro v h12 ⟨z, rfl, ⟨u2, ws2, rfl, R2⟩, f2⟩
  rw [nv_scale] at R2
  rw [nv_scale]
  replace R2 := R2.sr
  have st := fun hh id => stV_agg2 hh id 0 (v := .int .i64 (((5, [[4, 3], [2, 1]]) : Mat)).1) (u := u2) rfl (SV.what R2.choose_spec.1).2.1
  try simp only at R2 st
  simp (disch := first | omega | (simp only [Qn] <;> omega)) only [go_sem, st, bxH_eq, List.getElem?_cons_zero, List.getElem?_cons_succ]
  have fx := f2.trans (bxH_fr h12 (((5, [[4, 3], [2, 1]]) : Mat)).1 u2)
  replace ga := ga.mono fx
  replace gb := gb.mono fx
  replace b1 := b1.mono fx
  have b2 : Mu (bxH h12 (((5, [[4, 3], [2, 1]]) : Mat)).1 u2) h12.next ((5, [[4, 3], [2, 1]]) : Mat) u2 := ⟨bxH_get .., R2.mono (bxH_fr ..), by rw [bxH_next]; omega⟩
  clear fx st f2 R2
  try simp only at b2
  generalize bxH h12 _ u2 = k12 at *
  generalize h12.next = j2 at *
  simp (disch := first | omega | (simp only [Qn] <;> omega)) only [go_sem, ga.row]
  refine (Turn_ok _ mA _ ga.mv (by decide)).mono ?_
  rintro v h13 ⟨z, rfl, ⟨u3, ws3, rfl, R3⟩, f3⟩
  rw [nv_turn] at R3
  rw [nv_turn]
  replace R3 := R3.sr
  have st := fun hh id => stV_agg2 hh id 0 (v := .int .i64 (((5, [[1, 3], [2, 4]]) : Mat)).1) (u := u3) rfl (SV.what R3.choose_spec.1).2.1
  try simp only at R3 st
  simp (disch := first | omega | (simp only [Qn] <;> omega)) only [go_sem, st, bxH_eq, List.getElem?_cons_zero, List.getElem?_cons_succ]
  have fx := f3.trans (bxH_fr h13 (((5, [[1, 3], [2, 4]]) : Mat)).1 u3)
  replace ga := ga.mono fx
  replace gb := gb.mono fx
  replace b1 := b1.mono fx
  replace b2 := b2.mono fx
  have b3 : Mu (bxH h13 (((5, [[1, 3], [2, 4]]) : Mat)).1 u3) h13.next ((5, [[1, 3], [2, 4]]) : Mat) u3 := ⟨bxH_get .., R3.mono (bxH_fr ..), by rw [bxH_next]; omega⟩
  clear fx st f3 R3
  try simp only at b3
  generalize bxH h13 _ u3 = k13 at *
  generalize h13.next = j3 at *
  simp (disch := first | omega | (simp only [Qn] <;> omega)) only [go_sem, bls_int2]
  obtain ⟨hL, eL, fL, sL, nL⟩ := lit2 k13 [1, 6]
  rw [eL]
  replace ga := ga.mono fL
  replace gb := gb.mono fL
  replace b1 := b1.mono fL
  replace b2 := b2.mono fL
  replace b3 := b3.mono fL
  simp (disch := first | omega | (simp only [Qn] <;> omega)) only [go_sem, ga.row]
  refine (Apply_ok _ _ [1, 6] mA _ sL (by decide) ga.mv (by decide)).mono ?_
  rintro v h15 ⟨z5, rfl, s5, f5⟩
  rw [nv_apply] at s5
  rw [nv_apply]
  replace ga := ga.mono f5
  replace gb := gb.mono f5
  replace b1 := b1.mono f5
  replace b2 := b2.mono f5
  replace b3 := b3.mono f5
  clear f5
  simp (disch := first | omega | (simp only [Qn] <;> omega)) only [go_sem, List.getElem?_cons_zero, List.getElem?_cons_succ]
  clear sL eL fL nL
  have rb : (H.mk h15.tr (h15.next + 35)).row _ 0 2 = _ := b1.row
  simp (disch := first | omega | (simp only [Qn] <;> omega)) only [go_sem, decide_true, rb, bls_int2, bls_sl2, litV_eq]
  obtain ⟨h6a, e6a, f6a, s6a, n6a⟩ := litV22 (Fr.refl h15) 1 3 4 4 (h15.next + 2) (h15.next + 3) (h15.next + 4) (h15.next + 35) (by omega) (by omega) (by omega) (by omega)
  rw [e6a]
  refine (of_ok _ _ h6a s6a).mono ?_
  rintro w h6b ⟨rfl, f6b⟩
  have F6b := f6a.trans f6b
  have rb2 := (b1.mono F6b).row
  have eb := SV.eqV b1.s.choose_spec.1
  simp (disch := first | omega | (simp only [Qn] <;> omega)) only [go_sem, rb2, eb]
  refine (is_ok _ _ 0 ((5, [[1, 3], [4, 4]]) : Mat) ((5, [[1, 3], [4, 4]]) : Mat) h6b (b1.mono F6b).mv ⟨_, rfl, s6a.mono f6b⟩ (fit22 ..) (fit22 ..)).mono ?_
  rintro v h6c ⟨rfl, f6c⟩
  rw [decide_eq_true (show (0 : Int) = 0 ∧ ((5, [[1, 3], [4, 4]]) : Mat) = ((5, [[1, 3], [4, 4]]) : Mat) from ⟨rfl, rfl⟩)]
  have F6c := F6b.trans f6c
  have n6b := f6b.next
  have n6c := f6c.next
  clear rb rb2 eb e6a s6a
  have rb := (b2.mono F6c).row
  simp (disch := first | omega | (simp only [Qn] <;> omega)) only [go_sem, decide_true, rb, bls_int2, bls_sl2, litV_eq]
  obtain ⟨h7a, e7a, f7a, s7a, n7a⟩ := litV22 F6c 4 3 2 1 (h15.next + 10) (h15.next + 11) (h15.next + 12) h6c.next (by omega) (by omega) (by omega) (by omega)
  rw [e7a]
  refine (of_ok _ _ h7a s7a).mono ?_
  rintro w h7b ⟨rfl, f7b⟩
  have F7b := f7a.trans f7b
  have rb2 := (b2.mono F7b).row
  have eb := SV.eqV b2.s.choose_spec.1
  simp (disch := first | omega | (simp only [Qn] <;> omega)) only [go_sem, rb2, eb]
  refine (is_ok _ _ 0 ((5, [[4, 3], [2, 1]]) : Mat) ((5, [[4, 3], [2, 1]]) : Mat) h7b (b2.mono F7b).mv ⟨_, rfl, s7a.mono f7b⟩ (fit22 ..) (fit22 ..)).mono ?_
  rintro v h7c ⟨rfl, f7c⟩
  rw [decide_eq_true (show (0 : Int) = 0 ∧ ((5, [[4, 3], [2, 1]]) : Mat) = ((5, [[4, 3], [2, 1]]) : Mat) from ⟨rfl, rfl⟩)]
  have F7c := F7b.trans f7c
  have n7b := f7b.next
  have n7c := f7c.next
  clear rb rb2 eb e7a s7a
  have rb := (b3.mono F7c).row
  simp (disch := first | omega | (simp only [Qn] <;> omega)) only [go_sem, decide_true, rb, bls_int2, bls_sl2, litV_eq]
  obtain ⟨h8a, e8a, f8a, s8a, n8a⟩ := litV22 F7c 1 3 2 4 (h15.next + 19) (h15.next + 20) (h15.next + 21) h7c.next (by omega) (by omega) (by omega) (by omega)
  rw [e8a]
  refine (of_ok _ _ h8a s8a).mono ?_
  rintro w h8b ⟨rfl, f8b⟩
  have F8b := f8a.trans f8b
  have rb2 := (b3.mono F8b).row
  have eb := SV.eqV b3.s.choose_spec.1
  simp (disch := first | omega | (simp only [Qn] <;> omega)) only [go_sem, rb2, eb]
  refine (is_ok _ _ 0 ((5, [[1, 3], [2, 4]]) : Mat) ((5, [[1, 3], [2, 4]]) : Mat) h8b (b3.mono F8b).mv ⟨_, rfl, s8a.mono f8b⟩ (fit22 ..) (fit22 ..)).mono ?_
  rintro v h8c ⟨rfl, f8c⟩
  rw [decide_eq_true (show (0 : Int) = 0 ∧ ((5, [[1, 3], [2, 4]]) : Mat) = ((5, [[1, 3], [2, 4]]) : Mat) from ⟨rfl, rfl⟩)]
  have F8c := F8b.trans f8c
  have n8b := f8b.next
  have n8c := f8c.next
  clear rb rb2 eb e8a s8a
  simp (disch := first | omega | (simp only [Qn] <;> omega)) only [go_sem, decide_true, bls_int2, litV_eq]
  obtain ⟨h9a, e9a, f9a, s9a, n9a⟩ := litV2 F8c [4, 1] (h15.next + 31) h8c.next (by omega) (by omega)
  rw [e9a]
  refine (same_ok _ _ [4, 1] [4, 1] h9a (s5.mono f9a) s9a (by decide) (by decide)).mono ?_
  rintro v h9c ⟨rfl, f9c⟩
  rw [decide_eq_true (show ([4, 1] : List Int) = [4, 1] from rfl)]
  have F9c := f9a.trans f9c
  have n9c := f9c.next
  clear e9a s9a
  replace ga := ga.mono F9c
  replace gb := gb.mono F9c
  replace b1 := b1.mono F9c
  replace b2 := b2.mono F9c
  replace b3 := b3.mono F9c
  replace s5 := s5.mono F9c
  simp (disch := first | omega | (simp only [Qn] <;> omega)) only [go_sem, decide_true, ga.row]
  refine (Trace_ok _ mA _ ga.mv (by decide)).mono ?_
  rintro v h70 ⟨rfl, f⟩
  rw [nv_trace]
  replace ga := ga.mono f
  replace gb := gb.mono f
  clear f
  simp (disch := first | omega | (simp only [Qn] <;> omega)) only [go_sem, ga.row, List.getElem?_cons_zero, List.getElem?_cons_succ]
  refine (Poly_ok _ mA _ ga.mv (by decide)).mono ?_
  rintro v h20 ⟨z10, rfl, s10, f10⟩
  rw [nv_poly] at s10
  rw [nv_poly]
  replace ga := ga.mono f10
  replace gb := gb.mono f10
  clear f10
  simp (disch := first | omega | (simp only [Qn] <;> omega)) only [go_sem, List.getElem?_cons_zero, List.getElem?_cons_succ]
  simp (disch := first | omega | (simp only [Qn] <;> omega)) only [go_sem, ga.row]
  refine (Pow_ok _ mA 2 _ ga.mv (by decide) (by decide)).mono ?_
  rintro v h21 ⟨z, rfl, ⟨u11, rfl, R11⟩, f11⟩
  rw [nv_pow2] at R11
  rw [nv_pow2]
  have st := fun hh id => stV_agg2 hh id 0 (v := .int .i64 (((5, [[2, 0], [0, 2]]) : Mat)).1) (u := u11) rfl (SV.what R11.choose_spec.1).2.1
  try simp only at R11 st
  simp (disch := first | omega | (simp only [Qn] <;> omega)) only [go_sem, st, bxH_eq, List.getElem?_cons_zero, List.getElem?_cons_succ]
  have fx := f11.trans (bxH_fr h21 (((5, [[2, 0], [0, 2]]) : Mat)).1 u11)
  replace ga := ga.mono fx
  replace gb := gb.mono fx
  replace s10 := s10.mono fx
  have b11 : Mu (bxH h21 (((5, [[2, 0], [0, 2]]) : Mat)).1 u11) h21.next ((5, [[2, 0], [0, 2]]) : Mat) u11 := ⟨bxH_get .., R11.mono (bxH_fr ..), by rw [bxH_next]; omega⟩
  clear fx st f11 R11
  try simp only at b11
  generalize bxH h21 _ u11 = k21 at *
  generalize h21.next = j11 at *
  simp (disch := first | omega | (simp only [Qn] <;> omega)) only [go_sem, ga.row]
  refine (Pow_ok _ mA 0 _ ga.mv (by decide) (by decide)).mono ?_
  rintro v h22 ⟨z, rfl, ⟨u12, rfl, R12⟩, f12⟩
  rw [nv_pow0] at R12
  rw [nv_pow0]
  have st := fun hh id => stV_agg2 hh id 0 (v := .int .i64 (((5, [[1, 0], [0, 1]]) : Mat)).1) (u := u12) rfl (SV.what R12.choose_spec.1).2.1
  try simp only at R12 st
  simp (disch := first | omega | (simp only [Qn] <;> omega)) only [go_sem, st, bxH_eq, List.getElem?_cons_zero, List.getElem?_cons_succ]
  have fx := f12.trans (bxH_fr h22 (((5, [[1, 0], [0, 1]]) : Mat)).1 u12)
  replace ga := ga.mono fx
  replace gb := gb.mono fx
  replace s10 := s10.mono fx
  replace b11 := b11.mono fx
  have b12 : Mu (bxH h22 (((5, [[1, 0], [0, 1]]) : Mat)).1 u12) h22.next ((5, [[1, 0], [0, 1]]) : Mat) u12 := ⟨bxH_get .., R12.mono (bxH_fr ..), by rw [bxH_next]; omega⟩
  clear fx st f12 R12
  try simp only at b12
  generalize bxH h22 _ u12 = k22 at *
  generalize h22.next = j12 at *
  simp (disch := first | omega | (simp only [Qn] <;> omega)) only [go_sem, bls_int2, bls_sl2]
  obtain ⟨hL, eL, fL, sL, nL⟩ := lit22 k22 1 2 2 4
  rw [eL]
  replace ga := ga.mono fL
  replace gb := gb.mono fL
  replace s10 := s10.mono fL
  replace b11 := b11.mono fL
  replace b12 := b12.mono fL
  refine (of_ok _ _ hL sL).mono ?_
  rintro w hM ⟨rfl, fM⟩
  replace ga := ga.mono fM
  replace gb := gb.mono fM
  replace s10 := s10.mono fM
  replace b11 := b11.mono fM
  replace b12 := b12.mono fM
  replace sL := sL.mono fM
  clear eL fL nL fM
  simp (disch := first | omega | (simp only [Qn] <;> omega)) only [go_sem]
  refine (Inv_ok _ mS hM ⟨_, rfl, sL⟩ (by decide)).mono ?_
  rintro v h23 ⟨z, rfl, ⟨u13, ws13, rfl, R13⟩, f13⟩
  rw [nv_inv] at R13
  rw [nv_inv]
  replace R13 := R13.sr
  have st := fun hh id => stV_agg2 hh id 0 (v := .int .i64 (((0, []) : Mat)).1) (u := u13) rfl (SV.what R13.choose_spec.1).2.1
  try simp only at R13 st
  simp (disch := first | omega | (simp only [Qn] <;> omega)) only [go_sem, st, bxH_eq, List.getElem?_cons_zero, List.getElem?_cons_succ]
  have fx := f13.trans (bxH_fr h23 (((0, []) : Mat)).1 u13)
  replace ga := ga.mono fx
  replace gb := gb.mono fx
  replace s10 := s10.mono fx
  replace b11 := b11.mono fx
  replace b12 := b12.mono fx
  have b13 : Mu (bxH h23 (((0, []) : Mat)).1 u13) h23.next ((0, []) : Mat) u13 := ⟨bxH_get .., R13.mono (bxH_fr ..), by rw [bxH_next]; omega⟩
  clear fx st f13 R13
  try simp only at b13
  generalize bxH h23 _ u13 = k23 at *
  generalize h23.next = j13 at *
  clear sL
  simp (disch := first | omega | (simp only [Qn] <;> omega)) only [go_sem, decide_true, bls_int3, litV_eq]
  obtain ⟨h14a, e14a, f14a, s14a, n14a⟩ := litV2 (Fr.refl k23) [3, 0, 1] (k23.next + 12) (k23.next + 39) (by omega) (by omega)
  rw [e14a]
  refine (same_ok _ _ [3, 0, 1] [3, 0, 1] h14a (s10.mono f14a) s14a (by decide) (by decide)).mono ?_
  rintro v h14c ⟨rfl, f14c⟩
  rw [decide_eq_true (show ([3, 0, 1] : List Int) = [3, 0, 1] from rfl)]
  have F14c := f14a.trans f14c
  have n14c := f14c.next
  clear e14a s14a
  have rb := (b11.mono F14c).row
  simp (disch := first | omega | (simp only [Qn] <;> omega)) only [go_sem, decide_true, rb, bls_int2, bls_sl2, litV_eq]
  obtain ⟨h15a, e15a, f15a, s15a, n15a⟩ := litV22 F14c 2 0 0 2 (k23.next + 18) (k23.next + 19) (k23.next + 20) h14c.next (by omega) (by omega) (by omega) (by omega)
  rw [e15a]
  refine (of_ok _ _ h15a s15a).mono ?_
  rintro w h15b ⟨rfl, f15b⟩
  have F15b := f15a.trans f15b
  have rb2 := (b11.mono F15b).row
  have eb := SV.eqV b11.s.choose_spec.1
  simp (disch := first | omega | (simp only [Qn] <;> omega)) only [go_sem, rb2, eb]
  refine (is_ok _ _ 0 ((5, [[2, 0], [0, 2]]) : Mat) ((5, [[2, 0], [0, 2]]) : Mat) h15b (b11.mono F15b).mv ⟨_, rfl, s15a.mono f15b⟩ (fit22 ..) (fit22 ..)).mono ?_
  rintro v h15c ⟨rfl, f15c⟩
  rw [decide_eq_true (show (0 : Int) = 0 ∧ ((5, [[2, 0], [0, 2]]) : Mat) = ((5, [[2, 0], [0, 2]]) : Mat) from ⟨rfl, rfl⟩)]
  have F15c := F15b.trans f15c
  have n15b := f15b.next
  have n15c := f15c.next
  clear rb rb2 eb e15a s15a
  have rb := (b12.mono F15c).row
  simp (disch := first | omega | (simp only [Qn] <;> omega)) only [go_sem, decide_true, rb, bls_int2, bls_sl2, litV_eq]
  obtain ⟨h16a, e16a, f16a, s16a, n16a⟩ := litV22 F15c 1 0 0 1 (k23.next + 27) (k23.next + 28) (k23.next + 29) h15c.next (by omega) (by omega) (by omega) (by omega)
  rw [e16a]
  refine (of_ok _ _ h16a s16a).mono ?_
  rintro w h16b ⟨rfl, f16b⟩
  have F16b := f16a.trans f16b
  have rb2 := (b12.mono F16b).row
  have eb := SV.eqV b12.s.choose_spec.1
  simp (disch := first | omega | (simp only [Qn] <;> omega)) only [go_sem, rb2, eb]
  refine (is_ok _ _ 0 ((5, [[1, 0], [0, 1]]) : Mat) ((5, [[1, 0], [0, 1]]) : Mat) h16b (b12.mono F16b).mv ⟨_, rfl, s16a.mono f16b⟩ (fit22 ..) (fit22 ..)).mono ?_
  rintro v h16c ⟨rfl, f16c⟩
  rw [decide_eq_true (show (0 : Int) = 0 ∧ ((5, [[1, 0], [0, 1]]) : Mat) = ((5, [[1, 0], [0, 1]]) : Mat) from ⟨rfl, rfl⟩)]
  have F16c := F16b.trans f16c
  have n16b := f16b.next
  have n16c := f16c.next
  clear rb rb2 eb e16a s16a
  have rb := (b13.mono F16c).row
  simp (disch := first | omega | (simp only [Qn] <;> omega)) only [go_sem, decide_true, rb]
  refine (bad_ok _ ((0, []) : Mat) 15 15 h16c (b13.mono F16c).mv).mono ?_
  rintro v h17c ⟨rfl, f17c⟩
  rw [decide_eq_true (show (15 : Int) = 15 ∧ ((0, []) : Mat).1 = 0 ∧ ((0, []) : Mat).2.length = 0 from ⟨rfl, rfl, rfl⟩)]
  have F17c := F16c.trans f17c
  clear rb
  replace ga := ga.mono F17c
  replace gb := gb.mono F17c
  replace s10 := s10.mono F17c
  replace b11 := b11.mono F17c
  replace b12 := b12.mono F17c
  replace b13 := b13.mono F17c
  simp (disch := first | omega | (simp only [Qn] <;> omega)) only [go_sem, decide_true, gb.row]
  refine (Order_ok _ mB _ gb.mv (by decide)).mono ?_
  rintro v h71 ⟨rfl, f⟩
  rw [nv_ordB]
  replace ga := ga.mono f
  replace gb := gb.mono f
  clear f
  simp (disch := first | omega | (simp only [Qn] <;> omega)) only [go_sem, gb.row, List.getElem?_cons_zero, List.getElem?_cons_succ]
  refine (Perm_kn _ mB _ gb.mv (by decide)).mono ?_
  rintro v h28 ⟨z18, rfl, s18, f18, kB⟩
  rw [nv_permB] at s18
  rw [nv_permB]
  replace ga := ga.mono f18
  replace gb := gb.mono f18
  clear f18
  simp (disch := first | omega | (simp only [Qn] <;> omega)) only [go_sem, List.getElem?_cons_zero, List.getElem?_cons_succ]
  simp (disch := first | omega | (simp only [Qn] <;> omega)) only [go_sem, bls_int2, bls_sl2, bld_mat]
  obtain ⟨hL, eL, fL, sL, nL⟩ := lit22 h28 1 1 0 1
  rw [eL]
  replace ga := ga.mono fL
  replace gb := gb.mono fL
  replace s18 := s18.mono fL
  refine (Order_ok _ mU hL ⟨_, rfl, sL⟩ (by decide)).mono ?_
  rintro v h72 ⟨rfl, f⟩
  rw [nv_ordU]
  replace ga := ga.mono f
  replace gb := gb.mono f
  replace s18 := s18.mono f
  clear f eL fL sL nL
  simp (disch := first | omega | (simp only [Qn] <;> omega)) only [go_sem, List.getElem?_cons_zero, List.getElem?_cons_succ, bls_int4, bls_sl4, bld_mat]
  obtain ⟨hL, eL, fL, sL, nL⟩ := lit44 h72 [1, 0, 0, 0] [0, 1, 0, 0] [0, 0, 1, 0] [0, 0, 0, 1] rfl rfl rfl rfl
  rw [eL]
  replace ga := ga.mono fL
  replace gb := gb.mono fL
  replace s18 := s18.mono fL
  refine (Perm_ok _ mI hL ⟨_, rfl, sL⟩ (by decide)).mono ?_
  rintro v h73 ⟨z, rfl, _, f⟩
  rw [nv_permI]
  replace ga := ga.mono f
  replace gb := gb.mono f
  replace s18 := s18.mono f
  clear f eL fL sL nL
  simp (disch := first | omega | (simp only [Qn] <;> omega)) only [go_sem, List.getElem?_cons_zero, List.getElem?_cons_succ, bls_i1, bls_sl1, bld_mat]
  obtain ⟨hL, eL, fL, sL, nL⟩ := lit1r h73 [60] 1 rfl
  rw [eL]
  replace ga := ga.mono fL
  replace gb := gb.mono fL
  replace s18 := s18.mono fL
  refine (Perm_ok _ mT hL ⟨_, rfl, sL⟩ (by decide)).mono ?_
  rintro v h74 ⟨zT, rfl, sT, f⟩
  obtain ⟨t1, t2, t3⟩ := nv_permT
  rw [t1]
  generalize (PermF mT).1 = LT at *
  replace ga := ga.mono f
  replace gb := gb.mono f
  replace s18 := s18.mono f
  clear f eL fL sL nL t1
  have lB : lensV z18 = some (.int .i64 25) := s18.lens
  have lT : lensV zT = some (.int .i64 61) := by rw [sT.lens, t2]; rfl
  obtain ⟨vs, evs, svs⟩ := kn_slc s18 kB (k := 7) (by decide) (by decide)
  replace evs : slcV 1 z18 none (some (.int .i64 7)) none = some vs := evs
  simp only [List.take_succ_cons, List.take_zero] at svs
  obtain ⟨idt, offt, sht, hidt, hct⟩ := sT.open
  rw [t2] at sht hidt hct
  have c1 : h74.cell idt (offt + 1) = some (.int .i64 60) := by rw [hct 1 (by omega), t3]
  simp (disch := first | omega | (simp only [Qn] <;> omega)) only [go_sem, List.getElem?_cons_zero, List.getElem?_cons_succ, decide_true, lB, evs, bls_int7]
  obtain ⟨hL, eL, fL, sL, nL⟩ := lit2 h74 [0, 5, 10, 15, 20, 1, 6]
  rw [eL]
  refine (same_ok _ _ [0, 5, 10, 15, 20, 1, 6] [0, 5, 10, 15, 20, 1, 6] hL (svs.mono fL) sL (by decide) (by decide)).mono ?_
  rintro v h75 ⟨rfl, f⟩
  rw [decide_eq_true (show ([0, 5, 10, 15, 20, 1, 6] : List Int) = [0, 5, 10, 15, 20, 1, 6] from rfl)]
  have c2 : h75.cell idt (offt + 1) = some (.int .i64 60) := by rw [(fL.trans f).cell (hidt (by omega))]; exact c1
  replace ga := ga.mono (fL.trans f)
  replace gb := gb.mono (fL.trans f)
  replace s18 := s18.mono (fL.trans f)
  replace sT := sT.mono (fL.trans f)
  have st2 : ∀ k : IntKind, ixaV 1 zT (.int k 1) = some (.ptr idt (offt + 1)) := fun k => sht.ixa (k := k) (i := 1) (by omega) (by omega)
  simp (disch := first | omega | (simp only [Qn] <;> omega)) only [go_sem, decide_true, lT, st2, c2]
  clear c1 c2 fL f eL sL nL svs evs sht hct
  have rb : (H.mk h75.tr (h75.next + 11)).row _ 0 2 = _ := ga.row
  simp (disch := first | omega | (simp only [Qn] <;> omega)) only [go_sem, rb, bls_int3, bls_sl1, litV_eq]
  obtain ⟨hL, eL, fL, sL, nL⟩ := litV1r (Fr.refl h75) [1, 2, 3] 3 (h75.next + 1) (h75.next + 2) (h75.next + 11) rfl (by omega) (by omega) (by omega)
  rw [eL]
  refine (of_ok _ _ hL sL).mono ?_
  rintro w hM ⟨rfl, fM⟩
  have rb2 := (ga.mono (fL.trans fM)).row
  have eb := SV.eqV ga.s.choose_spec.1
  simp (disch := first | omega | (simp only [Qn] <;> omega)) only [go_sem, rb2, eb]
  refine (Mul_ok _ _ mA ((5, [[1, 2, 3]]) : Mat) hM (ga.mono (fL.trans fM)).mv ⟨_, rfl, sL.mono fM⟩ (by decide) (by decide)).mono ?_
  rintro v h76 ⟨z, rfl, ⟨u, ws, rfl, R⟩, f⟩
  rw [nv_mul] at R
  rw [nv_mul]
  have st := fun hh id => stV_agg2 hh id 0 (v := .int .i64 0) (u := u) rfl (SV.what R.own.sv).2.1
  have gl := litV_get h76 (h75.next + 8) [.int .i64 0, .nils] h76.next
  simp (disch := first | omega | (simp only [Qn] <;> omega)) only [go_sem, List.getElem?_cons_zero, List.getElem?_cons_succ, litV_eq, st, gl]
  clear gl st R rb rb2 eb eL sL
  generalize (litV h76 (h75.next + 8) [.int .i64 0, .nils] h76.next).set _ _ = h77
  clear ga
  refine (One_ok 64 2 _).mono ?_
  rintro v h30 ⟨z, rfl, ⟨u20, ws20, rfl, R20⟩, f20⟩
  rw [nv_one64] at R20
  rw [nv_one64]
  have st := fun hh id => stV_agg2 hh id 0 (v := .int .i64 ((oneF 64 2)).1) (u := u20) rfl (SV.what R20.own.sv).2.1
  try simp only at R20 st
  simp (disch := first | omega | (simp only [Qn] <;> omega)) only [go_sem, st, bxH_eq, List.getElem?_cons_zero, List.getElem?_cons_succ]
  have fx := f20.trans (bxH_fr h30 ((oneF 64 2)).1 u20)
  have b20 : Mu (bxH h30 ((oneF 64 2)).1 u20) h30.next (oneF 64 2) u20 := ⟨bxH_get .., R20.sr.mono (bxH_fr ..), by rw [bxH_next]; omega⟩
  try simp only at b20
  clear fx st f20 R20
  generalize bxH h30 _ u20 = k30 at *
  generalize h30.next = j20 at *
  refine (One_ok 65 2 _).mono ?_
  rintro v h31 ⟨z, rfl, ⟨u21, ws21, rfl, R21⟩, f21⟩
  rw [nv_one65] at R21
  rw [nv_one65]
  have st := fun hh id => stV_agg2 hh id 0 (v := .int .i64 (((0, []) : Mat)).1) (u := u21) rfl (SV.what R21.own.sv).2.1
  try simp only at R21 st
  simp (disch := first | omega | (simp only [Qn] <;> omega)) only [go_sem, st, bxH_eq, List.getElem?_cons_zero, List.getElem?_cons_succ]
  have fx := f21.trans (bxH_fr h31 (((0, []) : Mat)).1 u21)
  replace b20 := b20.mono fx
  clear fx st f21 R21
  generalize bxH h31 _ u21 = k31 at *
  generalize h31.next = j21 at *
  refine (One_ok 2 10007 _).mono ?_
  rintro v h32 ⟨z, rfl, ⟨u22, ws22, rfl, R22⟩, f22⟩
  rw [nv_oneb] at R22
  rw [nv_oneb]
  have st := fun hh id => stV_agg2 hh id 0 (v := .int .i64 (((0, []) : Mat)).1) (u := u22) rfl (SV.what R22.own.sv).2.1
  try simp only at R22 st
  simp (disch := first | omega | (simp only [Qn] <;> omega)) only [go_sem, st, bxH_eq, List.getElem?_cons_zero, List.getElem?_cons_succ]
  have fx := f22.trans (bxH_fr h32 (((0, []) : Mat)).1 u22)
  replace b20 := b20.mono fx
  clear fx st f22 R22
  generalize bxH h32 _ u22 = k32 at *
  generalize h32.next = j22 at *
  simp (disch := first | omega | (simp only [Qn] <;> omega)) only [go_sem, bls_i1, bls_sl1, bld_mat]
  obtain ⟨hL, eL, fL, sL, nL⟩ := lit1r k32 [1] 1 rfl
  rw [eL]
  replace b20 := b20.mono fL
  clear eL fL nL
  refine (check_ok _ ((4, [[1]]) : Mat) _ ⟨_, rfl, sL⟩ (by decide)).mono ?_
  rintro v h33 ⟨rfl, f23⟩
  rw [nv_ck1]
  replace b20 := b20.mono f23
  clear f23
  clear sL
  simp (disch := first | omega | (simp only [Qn] <;> omega)) only [go_sem, decide_true]
  refine (of_ok _ [] _ (SR.nils _)).mono ?_
  rintro w hM ⟨rfl, fM⟩
  replace b20 := b20.mono fM
  clear fM
  simp (disch := first | omega | (simp only [Qn] <;> omega)) only [go_sem]
  refine (check_ok _ ((5, []) : Mat) _ ⟨_, rfl, SR.nils _⟩ (by decide)).mono ?_
  rintro v h34 ⟨rfl, f24⟩
  rw [nv_ck2]
  replace b20 := b20.mono f24
  clear f24
  simp (disch := first | omega | (simp only [Qn] <;> omega)) only [go_sem, decide_true, bls_nil1]
  obtain ⟨hL, eL, fL, sL, nL⟩ := litn1 h34
  rw [eL]
  replace b20 := b20.mono fL
  refine (of_ok _ _ hL sL).mono ?_
  rintro w hM ⟨rfl, fM⟩
  replace b20 := b20.mono fM
  replace sL := sL.mono fM
  clear eL fL nL fM
  simp (disch := first | omega | (simp only [Qn] <;> omega)) only [go_sem]
  refine (check_ok _ ((5, [[]]) : Mat) _ ⟨_, rfl, sL⟩ (by decide)).mono ?_
  rintro v h35 ⟨rfl, f25⟩
  rw [nv_ck3]
  replace b20 := b20.mono f25
  clear f25
  clear sL
  simp (disch := first | omega | (simp only [Qn] <;> omega)) only [go_sem, decide_true, bls_int2, bls_i1, bls_sl2]
  obtain ⟨hL, eL, fL, sL, nL⟩ := lit21 h35 1 2 3
  rw [eL]
  replace b20 := b20.mono fL
  refine (of_ok _ _ hL sL).mono ?_
  rintro w hM ⟨rfl, fM⟩
  replace b20 := b20.mono fM
  replace sL := sL.mono fM
  clear eL fL nL fM
  simp (disch := first | omega | (simp only [Qn] <;> omega)) only [go_sem]
  refine (check_ok _ ((5, [[1, 2], [3]]) : Mat) _ ⟨_, rfl, sL⟩ (by decide)).mono ?_
  rintro v h36 ⟨rfl, f26⟩
  rw [nv_ck4]
  replace b20 := b20.mono f26
  clear f26
  clear sL
  simp (disch := first | omega | (simp only [Qn] <;> omega)) only [go_sem, decide_true, b20.row]
  refine (check_ok _ (oneF 64 2 : Mat) _ b20.mv (by decide)).mono ?_
  rintro v h37 ⟨rfl, f27⟩
  rw [nv_ck5]
  replace b20 := b20.mono f27
  clear f27
  have cu : h37.cell j20 1 = some u20 := by rw [H.cell_of b20.g]; rfl
  have lu : lensV u20 = some (.int .i64 64) := by rw [b20.s.lens]; rfl
  simp (disch := first | omega | (simp only [Qn] <;> omega)) only [go_sem, decide_true, cu, lu]
end Go.Proofs.Ytonhijbeddcmpaa

