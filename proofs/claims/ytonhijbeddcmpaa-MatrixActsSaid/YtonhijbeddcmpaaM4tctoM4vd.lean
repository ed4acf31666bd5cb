/- Layer 4: the reference's Poly. Layer 4: powers. Layer 4: determinants, inverses and powers of valid square matrices. Layer 4: what MatrixPoly needs. Layer 4: the reference's Det. Layer 4: the reference's size. Layer 4: rows in places, appended one by one. Layer 4: the reference's Inv. Layer 4: the reference's Pow. Layer 4: the reference's Order. Layer 4: the permutation of the vectors. Layer 4: the permutation of the vectors and the order of a matrix, in plain Lean. Layer 4: the kit's Fine, Mul, One. Layer 4: what is too large. The law MatrixCalls, walked. The law MatrixActs, walked. -/
import Derived.Test.YtonhijbeddcmpaaM4rftoDt9
import Derived.Test.YtonhijbeddcmpaaAy34
/- Layer 4: the reference's Poly.
-/
namespace Go.Proofs.Ytonhijbeddcmpaa
open Go Go.Ay
set_option maxRecDepth 100000
end Go.Proofs.Ytonhijbeddcmpaa

/- Layer 4: powers. -/
namespace Go.Proofs.Ytonhijbeddcmpaa
open Go Go.Ay
set_option maxRecDepth 100000
def pwG (n : Nat) : Nat → Mat → Mat → Nat → Mat
  | 0, out, _, _ => out
  | f + 1, out, x, left => if left = 0 then out else pwG n f (if left % 2 = 1 then mulF out x n n else out) (mulF x x n n) (left / 2)
/-- A unit has an inverse. -/
theorem inv_ex {p : Int} (hp : isP p = true) {m : Nat} {A : Mx} (hd : det (m + 1) A % p ≠ 0) : ∃ X, IsInv p (m + 1) A X := by
  have P := isP_pr hp
  have h2 := P.two
  have hr := tmod_range (det (m + 1) A) (show 0 < p by omega)
  have f := fermat P (a := det (m + 1) A % p) (by omega) (by omega)
  rw [show (p.toNat : Int) = p by omega] at f
  obtain ⟨e, he⟩ : ∃ e, (det (m + 1) A % p) ^ (p.toNat - 2) = e := ⟨_, rfl⟩
  rw [he] at f
  have em : ∀ a : Int, a % p % p = a % p := fun a => Int.emod_emod_of_dvd _ (Int.dvd_refl p)
  have f2 : e * det (m + 1) A % p = 1 := by
    rw [Int.mul_comm, mul_mod (em (det (m + 1) A)).symm (rfl : e % p = e % p)]; exact f
  refine ⟨fun i j => e * adjM m A i j % p, fun i j _ _ => (tmod_range _ (by omega)).1, fun i j _ _ => (tmod_range _ (by omega)).2, fun i j hi hj => ?_⟩
  rw [mulM_mod (A' := fun i j => e * adjM m A i j) (B' := A) (fun k _ => em _) (fun _ _ => rfl)]
  have e1 : mulM (m + 1) (fun i j => e * adjM m A i j) A i j = e * mulM (m + 1) (adjM m A) A i j := by
    simp only [mulM]
    rw [← sm_mul]
    exact sm_congr fun k _ => by rw [Int.mul_assoc]
  rw [e1, adj_mul A hi hj]
  simp only [idM]
  split
  · rw [f2]; exact (one_mod (by omega)).symm
  · rw [Int.mul_zero]
/-- A slice in no block of the list. -/
def Away (bad : List Nat) (v : V) : Prop := ∀ id off n c, v = .sl id off n c → id ∉ bad
/-- Rows in no block of the list. -/
def SRa (h : H) (u : V) (ll : List (List Int)) (bad : List Nat) : Prop := ∃ ws, SV h u 1 ws ∧ All2 (SI h) ws ll ∧ Away bad u ∧ ∀ w ∈ ws, Away bad w
theorem SRa.sr {h : H} {u : V} {ll : List (List Int)} {bad : List Nat} (s : SRa h u ll bad) : SR h u ll := by
  obtain ⟨ws, h1, h2, _⟩ := s; exact ⟨ws, h1, h2⟩
theorem SRa.fr {h h' : H} {u : V} {ll : List (List Int)} {bad : List Nat} (s : SRa h u ll bad) (f : Fr h h') : SRa h' u ll bad := by
  obtain ⟨ws, h1, h2, h3, h4⟩ := s
  exact ⟨ws, h1.mono f, h2.mono fun _ _ x => x.mono f, h3, h4⟩
theorem SRa.set {h : H} {u : V} {ll : List (List Int)} {bad : List Nat} (s : SRa h u ll bad) {x : Nat} (hx : x ∈ bad) (o : Option Ob) : SRa (h.set x o) u ll bad := by
  obtain ⟨ws, h1, h2, h3, h4⟩ := s
  refine ⟨ws, ?_, All2.keep h2 fun w hw _ q => SI.keep q (Nat.le_refl _) fun id off n c e => H.get_set_ne h (fun e2 => h4 w hw _ _ _ _ e (by rw [e2]; exact hx)) o, h3, h4⟩
  rcases h1 with h1 | ⟨id, off, len, cap, ro, vs, q1, q2, q3, q4, q5, q6⟩
  · exact .inl h1
  · exact .inr ⟨id, off, len, cap, ro, vs, q1, q2, q3, by rw [H.get_set_ne h (fun e2 => h3 _ _ _ _ q1 (by rw [e2]; exact hx))]; exact q4, q5, q6⟩
theorem SV.lt {h : H} {v : V} {sz : Nat} {ws : List V} (s : SV h v sz ws) {id off n : Nat} {c : Cap} (e : v = .sl id off n c) : id < h.next := by
  rcases s with ⟨h1 | ⟨_, h1⟩, _⟩ | ⟨id', o', l', c', _, _, h1, _, h3, _⟩
  · rw [h1] at e; cases e
  · rw [h1] at e; cases e
  · rw [h1] at e; cases e; exact h3
theorem all2_lt {h : H} {ws : List V} {ll : List (List Int)} (a : All2 (SI h) ws ll) {w : V} (hw : w ∈ ws) {id off n : Nat} {c : Cap} (e : w = .sl id off n c) : id < h.next := by
  obtain ⟨i, hi, rfl⟩ := List.mem_iff_getElem.1 hw
  exact SI.lt (a.get i hi (by rw [← a.length]; exact hi)) e
/-- From of old. -/
theorem SRa.old {h : H} {u : V} {ll : List (List Int)} {bad : List Nat} (s : SR h u ll) (hb : ∀ b ∈ bad, h.next ≤ b) : SRa h u ll bad := by
  obtain ⟨ws, h1, h2⟩ := s
  exact ⟨ws, h1, h2, fun id off n c e hm => by have := SV.lt h1 e; have := hb id hm; omega, fun w hw id off n c e hm => by have := all2_lt h2 hw e; have := hb id hm; omega⟩
/-- New. -/
theorem SRa.new {h : H} {u : V} {ws : List V} {ll : List (List Int)} {lo : Nat} {bad : List Nat} (r : Rws h u ws ll lo) (hb : ∀ b ∈ bad, b < lo ∨ h.next ≤ b) : SRa h u ll bad :=
  ⟨ws, r.own.sv, r.row, fun id off n c e hm => by
    have := SV.lt r.own.sv e
    have := Frs.own r.own _ _ _ _ e
    have := hb id hm; omega, fun w hw id off n c e hm => by
    have := all2_lt r.row hw e
    have := r.frs w hw _ _ _ _ e
    have := hb id hm; omega⟩
structure PI0 (p : Int) (n : Nat) (rc : LRec) (L6 O9 XB LID A3 : Nat) (base : H) (left : Nat) (out x : Mat) (uo ux : V) (hh : H) : Prop where
  gL : hh.get LID = some (.loop rc)
  g6 : hh.get L6 = some (.cells false [.int .u64 (left : Int)])
  g9 : hh.get O9 = some (.cells false [.int .i64 p, uo])
  gX : hh.get XB = some (.cells false [.int .i64 p, ux])
  so : SRa hh uo out.2 [L6, O9, XB, LID, A3]
  sx : SRa hh ux x.2 [L6, O9, XB, LID, A3]
  o1 : out.1 = p
  x1 : x.1 = p
  vo : Vd out n
  vx : Vd x n
  lo : out.2.length = n
  lx : x.2.length = n
  lt : LID < hh.next
  fr : Fr base hh
theorem PI0.set {p : Int} {n : Nat} {rc : LRec} {L6 O9 XB LID A3 : Nat} {base : H} {left : Nat} {out x : Mat} {uo ux : V} {hh : H} (k : PI0 p n rc L6 O9 XB LID A3 base left out x uo ux hh) (hs : base.next ≤ L6 ∧ L6 < O9 ∧ O9 < XB ∧ XB < LID) (rc' : LRec) : PI0 p n rc' L6 O9 XB LID A3 base left out x uo ux (hh.set LID (some (.loop rc'))) :=
  ⟨H.get_set_same .., by rw [H.get_set_ne _ (by omega)]; exact k.g6, by rw [H.get_set_ne _ (by omega)]; exact k.g9, by rw [H.get_set_ne _ (by omega)]; exact k.gX, k.so.set (by simp) _, k.sx.set (by simp) _, k.o1, k.x1, k.vo, k.vx, k.lo, k.lx, k.lt, k.fr.set (by omega) _⟩
theorem SRa.ext {h : H} {u : V} {ll : List (List Int)} {bad bad' : List Nat} (s : SRa h u ll bad) (hb : ∀ b ∈ bad', b ∈ bad ∨ h.next ≤ b) : SRa h u ll bad' := by
  obtain ⟨ws, h1, h2, h3, h4⟩ := s
  refine ⟨ws, h1, h2, fun id off n c e hm => ?_, fun w hw id off n c e hm => ?_⟩
  · rcases hb id hm with q | q
    · exact h3 _ _ _ _ e q
    · have := SV.lt h1 e; omega
  · rcases hb id hm with q | q
    · exact h4 w hw _ _ _ _ e q
    · have := all2_lt h2 hw e; omega
theorem PI0.setX {p : Int} {n : Nat} {rc : LRec} {L6 O9 XB LID A3 : Nat} {base : H} {left : Nat} {out x x' : Mat} {uo ux ux' : V} {hh : H} (k : PI0 p n rc L6 O9 XB LID A3 base left out x uo ux hh) (hs : base.next ≤ L6 ∧ L6 < O9 ∧ O9 < XB ∧ XB < LID) (sx : SRa hh ux' x'.2 [L6, O9, XB, LID, A3]) (x1 : x'.1 = p) (vx : Vd x' n) (lx : x'.2.length = n) : PI0 p n rc L6 O9 XB LID A3 base left out x' uo ux' (hh.set XB (some (.cells false [.int .i64 p, ux']))) :=
  ⟨by rw [H.get_set_ne _ (by omega)]; exact k.gL, by rw [H.get_set_ne _ (by omega)]; exact k.g6, by rw [H.get_set_ne _ (by omega)]; exact k.g9, H.get_set_same .., k.so.set (by simp) _, sx.set (by simp) _, k.o1, x1, k.vo, vx, k.lo, lx, k.lt, k.fr.set (by omega) _⟩
theorem PI0.setL {p : Int} {n : Nat} {rc : LRec} {L6 O9 XB LID A3 : Nat} {base : H} {left : Nat} {out x : Mat} {uo ux : V} {hh : H} (k : PI0 p n rc L6 O9 XB LID A3 base left out x uo ux hh) (hs : base.next ≤ L6 ∧ L6 < O9 ∧ O9 < XB ∧ XB < LID) (left' : Nat) : PI0 p n rc L6 O9 XB LID A3 base left' out x uo ux (hh.set L6 (some (.cells false [.int .u64 (left' : Int)]))) :=
  ⟨by rw [H.get_set_ne _ (by omega)]; exact k.gL, H.get_set_same .., by rw [H.get_set_ne _ (by omega)]; exact k.g9, by rw [H.get_set_ne _ (by omega)]; exact k.gX, k.so.set (by simp) _, k.sx.set (by simp) _, k.o1, k.x1, k.vo, k.vx, k.lo, k.lx, k.lt, k.fr.set (by omega) _⟩
end Go.Proofs.Ytonhijbeddcmpaa

/- Layer 4: determinants, inverses and powers of valid square matrices. -/
namespace Go.Proofs.Ytonhijbeddcmpaa
open Go Go.Ay
set_option maxRecDepth 100000
theorem emm (p a : Int) : a % p % p = a % p := Int.emod_emod_of_dvd _ (Int.dvd_refl p)
/-- Congruent. -/
def Em (p : Int) (n : Nat) (A B : Mx) : Prop := ∀ i j, i < n → j < n → A i j % p = B i j % p
theorem Em.refl (p : Int) (n : Nat) (A : Mx) : Em p n A A := fun _ _ _ _ => rfl
theorem Em.symm {p : Int} {n : Nat} {A B : Mx} (h : Em p n A B) : Em p n B A := fun i j hi hj => (h i j hi hj).symm
theorem Em.trans {p : Int} {n : Nat} {A B C : Mx} (h : Em p n A B) (k : Em p n B C) : Em p n A C := fun i j hi hj => (h i j hi hj).trans (k i j hi hj)
theorem Em.mul {p : Int} {n : Nat} {A A' B B' : Mx} (h : Em p n A A') (k : Em p n B B') : Em p n (mulM n A B) (mulM n A' B') := fun i j hi hj => mulM_mod (fun l hl => h i l hi hl) (fun l hl => k l j hl hj)
theorem Em.of {p : Int} {n : Nat} {A B : Mx} (h : ∀ i j, i < n → j < n → A i j = B i j) : Em p n A B := fun i j hi hj => by rw [h i j hi hj]
theorem Em.assoc (p : Int) (n : Nat) (A B C : Mx) : Em p n (mulM n (mulM n A B) C) (mulM n A (mulM n B C)) := fun i j _ _ => by rw [mulM_assoc]
theorem Em.mm (p : Int) (n : Nat) (A B : Mx) : Em p n (mmP p n A B) (mulM n A B) := fun i j _ _ => emm p _
theorem Em.rows {p : Int} {n : Nat} {A B : Mx} (h : Em p n A B) (hA : InP p n A) (hB : InP p n B) : mkR n n A = mkR n n B := mkR_congr fun i k hi hk => by
  have := h i k hi hk
  rwa [Int.emod_eq_of_lt (hA i k hi hk).1 (hA i k hi hk).2, Int.emod_eq_of_lt (hB i k hi hk).1 (hB i k hi hk).2] at this
theorem Em.idl (p : Int) (n : Nat) (A : Mx) : Em p n (mulM n idM A) A := fun i j hi _ => by rw [id_mulM n A hi]
theorem Em.idr (p : Int) (n : Nat) (A : Mx) : Em p n (mulM n A idM) A := fun i j _ hj => by rw [mulM_id n A hj]
theorem pw_add (p : Int) (n : Nat) (A : Mx) (a b : Nat) : Em p n (mulM n (pwM n A a) (pwM n A b)) (pwM n A (a + b)) := by
  induction a with
  | zero => rw [Nat.zero_add]; exact Em.idl p n _
  | succ a ih =>
    rw [show a + 1 + b = (a + b) + 1 by omega]
    exact (Em.assoc p n A (pwM n A a) (pwM n A b)).trans ((Em.refl p n A).mul ih)
theorem pw_one (p : Int) (n : Nat) (A : Mx) : Em p n (pwM n A 1) A := Em.idr p n A
theorem pw_last (p : Int) (n : Nat) (A : Mx) (k : Nat) : Em p n (mulM n (pwM n A k) A) (pwM n A (k + 1)) :=
  ((Em.refl p n _).mul (pw_one p n A).symm).trans (pw_add p n A k 1)
theorem Sq.mulF {p : Int} {n : Nat} (s : Sq p n) (A B : Mx) : mulF (p, mkR n n A) (p, mkR n n B) n n = (p, mkR n n (mmP p n A B)) := by
  simp only [Proofs.Ytonhijbeddcmpaa.mulF, mkR_len]
  rw [mkR_congr fun i k hi hk => ?_]
  refine congrArg (· % p) (sm_congr fun j hj => ?_)
  rw [mkR_ent _ hi hj, mkR_ent _ hj hk]
theorem Sq.pw {p : Int} {n : Nat} (s : Sq p n) (A : Mx) : ∀ f e t m (O B : Mx), InP p n O → InP p n B → Em p n O (pwM n A e) → Em p n B (pwM n A t) → m < 2 ^ f → pwG n f (p, mkR n n O) (p, mkR n n B) m = (p, mkR n n (fun i j => pwM n A (e + t * m) i j % p))
  | 0, e, t, m, O, B, hO, hB, eO, eB, hm => by
    have : m = 0 := by simp at hm; exact hm
    subst this
    rw [pwG, Nat.mul_zero, Nat.add_zero]
    congr 1
    exact Em.rows (eO.trans fun i j _ _ => (emm p _).symm) hO fun i j _ _ => tmod_range _ (by have := s.p; omega)
  | f + 1, e, t, m, O, B, hO, hB, eO, eB, hm => by
    have hp := s.p
    rw [pwG]
    by_cases h0 : m = 0
    · subst h0
      rw [if_pos rfl, Nat.mul_zero, Nat.add_zero]
      congr 1
      exact Em.rows (eO.trans fun i j _ _ => (emm p _).symm) hO fun i j _ _ => tmod_range _ (by omega)
    · rw [if_neg h0, s.mulF, s.mulF]
      have e2 : Em p n (mmP p n B B) (pwM n A (t + t)) := (Em.mm p n B B).trans ((eB.mul eB).trans (pw_add p n A t t))
      have hf : m / 2 < 2 ^ f := by rw [Nat.pow_succ] at hm; omega
      by_cases ho : m % 2 = 1
      · rw [if_pos ho]
        have e1 : Em p n (mmP p n O B) (pwM n A (e + t)) := (Em.mm p n O B).trans ((eO.mul eB).trans (pw_add p n A e t))
        rw [Sq.pw s A f (e + t) (t + t) (m / 2) _ _ (s.mm _ _) (s.mm _ _) e1 e2 hf]
        have : e + t + (t + t) * (m / 2) = e + t * m := by
          obtain ⟨q, hq⟩ : ∃ q, m = 2 * q + 1 := ⟨m / 2, by omega⟩
          subst hq
          rw [show (2 * q + 1) / 2 = q by omega]
          grind
        rw [this]
      · rw [if_neg ho]
        rw [Sq.pw s A f e (t + t) (m / 2) _ _ hO (s.mm _ _) eO e2 hf]
        have : e + (t + t) * (m / 2) = e + t * m := by
          obtain ⟨q, hq⟩ : ∃ q, m = 2 * q := ⟨m / 2, by omega⟩
          subst hq
          rw [show (2 * q) / 2 = q by omega]
          grind
        rw [this]
theorem Sq.sqF {p : Int} {n : Nat} (s : Sq p n) {A : Mx} (hA : InP p n A) : sqF (p, mkR n n A) = 0 := by
  rw [Proofs.Ytonhijbeddcmpaa.sqF, vd_check (s.vd hA), if_neg (by simp), if_neg (by simp only [mkR_len, len0 s.n1, ne_eq, not_true_eq_false, not_false_eq_true])]
theorem det_ent (n : Nat) (A : Mx) : det n (ent (mkR n n A)) = det n A := det_congr fun i j hi hj => mkR_ent _ hi hj
theorem Sq.det {p : Int} {n : Nat} (s : Sq p n) {A : Mx} (hA : InP p n A) : DetF (p, mkR n n A) = (Ay.det n A % p, 0) := by
  rw [DetF, s.sqF hA, if_neg (by simp)]
  simp only [mkR_len, det_ent]
theorem Sq.isP {p : Int} {n : Nat} (s : Sq p n) : isP p = true := by
  have := s.f
  simp only [fieldF, Bool.and_eq_true] at this; exact this.2
theorem isInv_ent {p : Int} {n : Nat} {A X : Mx} (h : IsInv p n A X) : IsInv p n (ent (mkR n n A)) X :=
  ⟨h.lo, h.hi, fun i j hi hj => by
    rw [mulM_mod (A' := X) (B' := A) (fun _ _ => rfl) (fun k hk => by rw [mkR_ent _ hk hj])]; exact h.left i j hi hj⟩
theorem Sq.inv {p : Int} {n : Nat} (s : Sq p n) {A : Mx} (hA : InP p n A) : (Ay.det n A % p = 0 ∧ InvF (p, mkR n n A) = ((0, []), 15)) ∨ (Ay.det n A % p ≠ 0 ∧ ∃ X, IsInv p n A X ∧ InP p n X ∧ InvF (p, mkR n n A) = ((p, mkR n n X), 0)) := by
  by_cases hd : Ay.det n A % p = 0
  · refine .inl ⟨hd, ?_⟩
    rw [InvF, s.sqF hA, if_neg (by simp), if_pos (by simp only [mkR_len, det_ent]; exact hd)]
  · obtain ⟨m, hm⟩ : ∃ m, n = m + 1 := ⟨n - 1, by have := s.n1; omega⟩
    subst hm
    obtain ⟨X, hX⟩ := inv_ex s.isP hd
    refine .inr ⟨hd, X, hX, fun i k hi hk => ⟨hX.lo i k hi hk, hX.hi i k hi hk⟩, ?_⟩
    rw [InvF, s.sqF hA, if_neg (by simp), if_neg (by simp only [mkR_len, det_ent]; exact hd)]
    simp only [mkR_len]
    rw [← invX_eq (isInv_ent hX)]
theorem Sq.inI {p : Int} {n : Nat} (s : Sq p n) : oneF n p = (p, mkR n n idM) := rfl
/-- A power and one of the inverse. -/
theorem pw_cancel {p : Int} {n : Nat} {A X : Mx} (h : Em p n (mulM n A X) idM) : ∀ a b, Em p n (mulM n (pwM n A (a + b)) (pwM n X b)) (pwM n A a)
  | a, 0 => Em.idr p n _
  | a, b + 1 => by
    have e1 : Em p n (mulM n (pwM n A (a + (b + 1))) (pwM n X (b + 1))) (mulM n (mulM n (pwM n A (a + b)) A) (mulM n X (pwM n X b))) := ((pw_last p n A (a + b)).symm).mul (Em.refl p n _)
    have e2 : Em p n (mulM n (mulM n (pwM n A (a + b)) A) (mulM n X (pwM n X b))) (mulM n (pwM n A (a + b)) (mulM n (mulM n A X) (pwM n X b))) := (Em.assoc p n _ A _).trans ((Em.refl p n _).mul (Em.assoc p n A X _).symm)
    have e3 : Em p n (mulM n (pwM n A (a + b)) (mulM n (mulM n A X) (pwM n X b))) (mulM n (pwM n A (a + b)) (pwM n X b)) := (Em.refl p n _).mul ((h.mul (Em.refl p n _)).trans (Em.idl p n _))
    exact e1.trans (e2.trans (e3.trans (pw_cancel h a b)))
end Go.Proofs.Ytonhijbeddcmpaa

/- Layer 4: what MatrixPoly needs. -/
namespace Go.Proofs.Ytonhijbeddcmpaa
open Go Go.Ay
set_option maxRecDepth 100000
end Go.Proofs.Ytonhijbeddcmpaa

/- Layer 4: the reference's Det. -/
namespace Go.Proofs.Ytonhijbeddcmpaa
open Go Go.Ay
set_option maxRecDepth 100000
end Go.Proofs.Ytonhijbeddcmpaa

/- Layer 4: the reference's size. -/
namespace Go.Proofs.Ytonhijbeddcmpaa
open Go Go.Ay
set_option maxRecDepth 100000
end Go.Proofs.Ytonhijbeddcmpaa

/- Layer 4: rows in places, appended one by one. -/
namespace Go.Proofs.Ytonhijbeddcmpaa
open Go Go.Ay
set_option maxRecDepth 100000
def Gu (h : H) (u : V) (i c : Nat) (ρ : Nat → Nat) (κ : Nat → Cap) (τ : Nat → List V) (f : Nat → Nat → Int) (lo : Nat) : Prop :=
  (i = 0 ∧ u = .nils) ∨ ∃ R, u = .sl R 0 i (.un 1) ∧ Gc h R i c ρ κ τ f lo
section
variable {h h' : H} {u : V} {i c : Nat} {ρ : Nat → Nat} {κ : Nat → Cap} {τ : Nat → List V} {f : Nat → Nat → Int} {lo : Nat}
theorem Gu.own (g : Gu h u i c ρ κ τ f lo) : Own h u 1 ((List.range i).map fun j => V.sl (ρ j) 0 c (κ j)) lo := by
  rcases g with ⟨rfl, rfl⟩ | ⟨R, rfl, g⟩
  · exact .inl ⟨rfl, rfl⟩
  · exact .inr ⟨R, i, _, [], rfl, by simp, .inl rfl, g.hR, g.ltR, by rw [List.append_nil]; exact g.gR⟩
theorem Gu.fr (g : Gu h u i c ρ κ τ f lo) (F : Fr h h') : Gu h' u i c ρ κ τ f lo := by
  rcases g with g | ⟨R, e, g⟩
  · exact .inl g
  · exact .inr ⟨R, e, g.fr F⟩
theorem Gu.app (g : Gu h u i c ρ κ τ f lo) (hlo : lo ≤ h.next) (hi : i < 1000000) {y : V} {id : Nat} {cap : Cap} {rest : List V} (hy : SV h y 1 [.sl id 0 c cap]) (h1 : lo ≤ id) (h2 : id < h.next) (h3 : ∀ j, j < i → ρ j ≠ id) (h4 : Apart u id) (h5 : h.get id = some (.cells false (ints (mkV c (f i)) ++ rest))) :
    ∃ h', appP h 1 24 u y = some (.sl h.next 0 (i + 1) (.un 1), h') ∧ Gu h' (.sl h.next 0 (i + 1) (.un 1)) (i + 1) c (upN ρ i id) (upN κ i cap) (upN τ i rest) f lo ∧ h.next < h'.next ∧ (∀ k, k < h.next → Apart u k → h'.get k = h.get k) ∧ ∀ a, Fr a h → a.next ≤ lo → Fr a h' := by
  have o := g.own
  have hr : ∀ j, j < i → h.get (ρ j) = some (.cells false (ints (mkV c (f j)) ++ τ j)) ∧ lo ≤ ρ j ∧ ρ j < h.next ∧ Apart u (ρ j) := fun j hj => by
    rcases g with ⟨rfl, _⟩ | ⟨R, rfl, g⟩
    · omega
    · exact ⟨g.row j hj, g.hρ j hj, g.ltρ j hj, Apart.sl (g.ne j hj)⟩
  have hinj : ∀ x y, x < i → y < i → ρ x = ρ y → x = y := fun x y hx hy e => by
    rcases g with ⟨rfl, _⟩ | ⟨R, rfl, g⟩
    · omega
    · exact g.inj x y hx hy e
  obtain ⟨v, h', e, a⟩ := o.app (bytes := 24) (n := i) (m := 1) hlo hy (by simp) rfl (by omega) (by omega)
  have ev := app_at o (n := i) (by simp) (m := 1) (by omega) (by omega) hy rfl e
  subst ev
  refine ⟨h', e, .inr ⟨h.next, rfl, ?_⟩, ?_, a.get, a.fr⟩
  · rcases a.what with ⟨w1, _⟩ | ⟨id', w1, w2, w3, w4⟩
    · omega
    · have : id' = h.next := by cases w1; rfl
      subst this
      refine ⟨?_, fun j hj => ?_, fun x y hx hy e => ?_, hlo, w3, fun j hj => ?_, fun j hj => ?_, fun j hj => ?_⟩
      · rw [w4, List.range_succ, List.map_append]
        congr 3
        · exact List.map_congr_left fun j hj => by
            have := List.mem_range.1 hj
            simp only [upN]
            rw [if_neg (by omega), if_neg (by omega)]
        · simp [upN]
      · simp only [upN]
        by_cases e : j = i
        · subst e
          simp only [if_true]
          rw [a.get id h2 h4]; exact h5
        · obtain ⟨r1, r2, r3, r4⟩ := hr j (by omega)
          simp only [if_neg e]
          rw [a.get _ r3 r4]; exact r1
      · simp only [upN] at e
        by_cases e1 : x = i
        · by_cases e2 : y = i
          · omega
          · rw [if_pos e1, if_neg e2] at e
            exact absurd e.symm (h3 y (by omega))
        · by_cases e2 : y = i
          · rw [if_neg e1, if_pos e2] at e
            exact absurd e (h3 x (by omega))
          · rw [if_neg e1, if_neg e2] at e
            exact hinj x y (by omega) (by omega) e
      · simp only [upN]
        split
        · exact h1
        · exact (hr j (by omega)).2.1
      · simp only [upN]
        split
        · omega
        · have := (hr j (by omega)).2.2.1; omega
      · simp only [upN]
        split
        · omega
        · have := (hr j (by omega)).2.2.1; omega
  · rcases a.what with ⟨w1, _⟩ | ⟨id', w1, w2, w3, w4⟩
    · omega
    · have : id' = h.next := by cases w1; rfl
      omega
end
end Go.Proofs.Ytonhijbeddcmpaa

/- Layer 4: the reference's Inv. -/
namespace Go.Proofs.Ytonhijbeddcmpaa
open Go Go.Ay
set_option maxRecDepth 100000
end Go.Proofs.Ytonhijbeddcmpaa

/- Layer 4: the reference's Pow. -/
namespace Go.Proofs.Ytonhijbeddcmpaa
open Go Go.Ay
set_option maxRecDepth 100000
structure PQ (p : Int) (n A2 A3 O : Nat) (base : H) (out x : Mat) (uo ux : V) (hh : H) : Prop where
  gO : hh.get O = some (.cells false [.int .i64 p, uo])
  gX : hh.get A2 = some (.cells false [.int .i64 p, ux])
  gA : hh.get A3 = some (.cells false [.int .i64 0, .nils])
  so : SRa hh uo out.2 [A2, A3, O]
  sx : SRa hh ux x.2 [A2, A3, O]
  o1 : out.1 = p
  x1 : x.1 = p
  vo : Vd out n
  vx : Vd x n
  lo : out.2.length = n
  lx : x.2.length = n
  lt : O < hh.next
  fr : Fr base hh
section
variable {p : Int} {n A2 A3 O : Nat} {base : H} {out x out' x' : Mat} {uo ux uo' ux' : V} {hh h' : H}
theorem PQ.setX (k : PQ p n A2 A3 O base out x uo ux hh) (hs : base.next ≤ A2 ∧ A2 < A3 ∧ A3 < O) (sx : SRa hh ux' x'.2 [A2, A3, O]) (x1 : x'.1 = p) (vx : Vd x' n) (lx : x'.2.length = n) : PQ p n A2 A3 O base out x' uo ux' (hh.set A2 (some (.cells false [.int .i64 p, ux']))) :=
  ⟨by rw [H.get_set_ne _ (by omega)]; exact k.gO, H.get_set_same .., by rw [H.get_set_ne _ (by omega)]; exact k.gA, k.so.set (by simp) _, sx.set (by simp) _, k.o1, x1, k.vo, vx, k.lo, lx, k.lt, k.fr.set (by omega) _⟩
end
end Go.Proofs.Ytonhijbeddcmpaa

/- Layer 4: the reference's Order. -/
namespace Go.Proofs.Ytonhijbeddcmpaa
open Go Go.Ay
set_option maxRecDepth 100000
end Go.Proofs.Ytonhijbeddcmpaa

/- Layer 4: the permutation of the vectors. -/
namespace Go.Proofs.Ytonhijbeddcmpaa
open Go Go.Ay
set_option maxRecDepth 100000
/-- Horner's way with the first entries. -/
def hor (p : Int) (w : Nat → Int) : Nat → Int
  | 0 => 0
  | i + 1 => hor p w i * p + w i
theorem pw_pos {p : Int} (hp : 1 ≤ p) (i : Nat) : 1 ≤ p ^ i := by
  induction i with
  | zero => rw [Int.pow_zero]; exact Int.le_refl 1
  | succ i ih =>
    rw [Int.pow_succ]
    have := Int.mul_le_mul ih hp (by omega) (by omega)
    omega
theorem pw_mono {p : Int} (hp : 1 ≤ p) {i n : Nat} (h : i ≤ n) : p ^ i ≤ p ^ n := by
  obtain ⟨d, rfl⟩ := Nat.le.dest h
  induction d with
  | zero => exact Int.le_refl _
  | succ d ih =>
    rw [show i + (d + 1) = (i + d) + 1 by omega, Int.pow_succ]
    have a := ih (by omega)
    have b := pw_pos hp (i + d)
    have := Int.mul_le_mul (Int.le_refl (p ^ (i + d))) hp (by omega) (by omega)
    omega
theorem hor_bound {p : Int} (hp : 1 ≤ p) {w : Nat → Int} : ∀ {i : Nat}, (∀ j, j < i → 0 ≤ w j ∧ w j < p) → 0 ≤ hor p w i ∧ hor p w i < p ^ i
  | 0, _ => by simp [hor]
  | i + 1, h => by
    have a := hor_bound hp (i := i) fun j hj => h j (by omega)
    have b := h i (by omega)
    rw [hor, Int.pow_succ]
    have c := Int.mul_nonneg a.1 (show 0 ≤ p by omega)
    have d := Int.mul_le_mul (show hor p w i + 1 ≤ p ^ i by omega) (Int.le_refl p) (by omega) (by omega)
    rw [Int.add_mul] at d
    omega
/-- The digits of a number. -/
def dig (p : Int) (n k : Nat) : Nat → Int := fun i => (k : Int) / p ^ (n - 1 - i) % p
def permE (a : Mat) (n k : Nat) : Int := hor a.1 (fun i => (applyF (mkV n (dig a.1 n k)) a n).getD i 0) n
def PermF (a : Mat) : List Int × Int :=
  if sqF a ≠ 0 then ([], sqF a) else if 64 < a.1 ^ a.2.length then ([], 5) else if det a.2.length (ent a.2) % a.1 = 0 then ([], 15) else (mkV (a.1 ^ a.2.length).toNat (permE a a.2.length), 0)
theorem mks_ints (hh : H) (c : Nat) (hc : c ≤ 1000) : mksV hh 1 8 [.int .i64 0] (.int .i64 (c : Int)) (.int .i64 (c : Int)) = some (.sl hh.next 0 c (.kn c), hh.new (.cells false (ints (mkV c fun _ => 0)))) := by
  rw [mksV_int (by omega) (Int.le_refl _) (by omega) (by omega), Int.toNat_natCast, Nat.mul_one, zeros_int, show List.replicate c (0 : Int) = mkV c (fun _ => 0) from mkV_eq (List.length_replicate ..) fun j hj => by rw [List.getD_eq_getElem?_getD, List.getElem?_replicate, if_pos hj]; rfl]
/-- A block of numbers. -/
def Bk (h : H) (id n : Nat) (f : Nat → Int) : Prop := h.get id = some (.cells false (ints (mkV n f)))
section
variable {h h' : H} {id n : Nat} {f : Nat → Int}
theorem Bk.cell (b : Bk h id n f) {i : Nat} (hi : i < n) : h.cell id i = some (.int .i64 (f i)) := by
  rw [H.cell_of b, ints_getD (by rw [mkV_len]; exact hi), mkV_get _ hi]
theorem Bk.put (b : Bk h id n f) {i : Nat} (hi : i < n) (hh : H) (x : Int) : putO (h.get id) hh id i [.int .i64 x] = some (hh.set id (some (.cells false (ints (mkV n fun j => if j = i then x else f j))))) := by
  rw [b, putO_one (by rw [ints_length, mkV_len]; exact hi), ints_set, mkV_set]
theorem Bk.si (b : Bk h id n f) (hl : id < h.next) (cap : Cap) : SI h (.sl id 0 n cap) (mkV n f) :=
  SV.all (by rw [ints_length, mkV_len]; omega) hl b cap
theorem Bk.set (h : H) (id n : Nat) (f : Nat → Int) : Bk (h.set id (some (.cells false (ints (mkV n f))))) id n f := H.get_set_same ..
theorem Bk.ne (b : Bk h id n f) {x : Nat} (hx : id ≠ x) (o : Option Ob) : Bk (h.set x o) id n f := by
  rw [Bk, H.get_set_ne _ hx]; exact b
theorem Bk.fr (b : Bk h id n f) (F : Fr h h') (hl : id < h.next) : Bk h' id n f := (F.get id hl).trans b
theorem Bk.congr (b : Bk h id n f) {g : Nat → Int} (e : ∀ i, i < n → f i = g i) : Bk h id n g := by
  rw [Bk, ← mkV_congr e]; exact b
end
theorem dig_zero {p : Int} {n k : Nat} : (k : Int) / p ^ (n - n) = k := by
  rw [Nat.sub_self, Int.pow_zero, Int.ediv_one]
theorem dig_step {p : Int} (hp : 1 ≤ p) {n k r : Nat} (hr : r < n) : (k : Int) / p ^ (n - (r + 1)) / p = (k : Int) / p ^ (n - r) := by
  rw [show n - r = (n - (r + 1)) + 1 by omega, Int.pow_succ, Int.ediv_ediv_of_nonneg (by have := pw_pos hp (n - (r + 1)); omega)]
theorem dig_range {p : Int} (hp : 1 ≤ p) {m k : Nat} : 0 ≤ (k : Int) / p ^ m ∧ (k : Int) / p ^ m ≤ k := by
  have a := pw_pos hp m
  exact ⟨Int.ediv_nonneg (by omega) (by omega), Int.ediv_le_self _ (by omega)⟩
theorem applyF_range {v : List Int} {a : Mat} {c i : Nat} (hp : 0 < a.1) (hi : i < c) : 0 ≤ (applyF v a c).getD i 0 ∧ (applyF v a c).getD i 0 < a.1 := by
  rw [applyF, mkV_get _ hi]
  exact tmod_range _ hp
set_option maxHeartbeats 16000000 in
theorem Perm_kn (va : V) (a : Mat) (h : H) (ha : MatV h va a) (la : (a.2.length : Int) ≤ 2 ^ 63 - 1) : Ev T n_matrix_Perm [va] h (fun v h' => ∃ w, v = .tup [w, .int .i64 (PermF a).2] ∧ SI h' w (PermF a).1 ∧ Fr h h' ∧ Kn w) := by
  obtain ⟨ua, rfl, hua⟩ := ha
  refine Ev_of t_matrix_Perm rfl ?_
  have wa := SV.what hua.choose_spec.1
  simp (disch := first | omega | (simp only [Qn] <;> omega)) only [go_sem, c_matrix_Perm, initV_eq, boxV_agg2 h (v := .int .i64 a.1) rfl wa.2.1]
  have hfx : Fr h (h.new (.cells false [.int .i64 a.1, ua])) := (Fr.refl h).new _
  have hgx : (h.new (.cells false [.int .i64 a.1, ua])).get h.next = some (.cells false [.int .i64 a.1, ua]) := H.get_new_same ..
  have hnx : (h.new (.cells false [.int .i64 a.1, ua])).next = h.next + 1 := H.next_new ..
  generalize h.new (.cells false [.int .i64 a.1, ua]) = hx at *
  simp (disch := first | omega | (simp only [Qn] <;> omega)) only [go_sem, row_two hgx]
  refine (square_ok _ a hx ⟨ua, rfl, hua.mono hfx⟩ la).mono ?_
  rintro v h5 ⟨rfl, f5⟩
  have F5 := hfx.trans f5
  have gx5 := (f5.get h.next (by omega)).trans hgx
  simp (disch := first | omega | (simp only [Qn] <;> omega)) only [go_sem]
  refine iteW_dec (fun he => ?_) (fun he => ?_)
  · simp (disch := first | omega | (simp only [Qn] <;> omega)) only [go_sem]
    rw [show PermF a = ([], sqF a) from if_pos he]
    exact ⟨_, rfl, SI.nils _, F5, fun _ _ _ _ e => by cases e⟩
  have hz : sqF a = 0 := Classical.byContradiction he
  have da := sq_vd hz
  have hp := fieldF_range da.p
  obtain ⟨n, hn⟩ : ∃ n, a.2.length = n := ⟨_, rfl⟩
  obtain ⟨p, hpe⟩ : ∃ p, a.1 = p := ⟨_, rfl⟩
  rw [hpe] at hp
  have hr1 := da.r1
  have hr2 := da.r2
  rw [hn] at hr1 hr2 da
  have hx5 : h.next < h5.next := by have := f5.next; omega
  have x0 : h5.cell h.next 0 = some (.int .i64 p) := by rw [H.cell_of gx5, ← hpe]; rfl
  have x1 : h5.cell h.next 1 = some ua := by rw [H.cell_of gx5]; rfl
  have lA : lensV ua = some (.int .i64 (n : Int)) := by rw [← hn]; exact hua.lens
  simp (disch := first | omega | (simp only [Qn] <;> omega)) only [go_sem, x1, lA]
  refine Wp_loop (fun k' vars hh => hh = h5 ∧ ∃ (i : Nat) (q : Int), (∃ g : Nat → V, vars = [g 0, .ptr h.next 0, g 2, g 3, g 4, .int .i64 q, g 6, g 7, g 8, g 9, g 10, g 11, g 12, g 13, .int .i64 (n : Int), .int .i64 (i : Int), g 16, g 17, g 18, g 19, g 20, g 21, g 22, g 23, g 24, g 25, g 26]) ∧ q = p ^ i ∧ i ≤ n ∧ q ≤ 64 ∧ k' = n - i) n
    ⟨rfl, 0, 1, ex_junk rfl, (Int.pow_zero _).symm, Nat.zero_le _, by omega, rfl⟩ ?_
  rintro k' vars hh ⟨rfl, i, q, ⟨g, rfl⟩, hq, hi, hq64, rfl⟩
  simp (disch := first | omega | (simp only [Qn] <;> omega)) only [go_sem]
  have q1 := pw_pos (p := p) (by omega) i
  rw [← hq] at q1
  by_cases hlt : (i : Int) < (n : Int)
  · rw [decide_eq_true hlt]
    have b1 := Int.mul_nonneg (show 0 ≤ q by omega) (show 0 ≤ p by omega)
    have b2 := Int.mul_le_mul (show q ≤ 64 by omega) (show p ≤ 10000 by omega) (by omega) (by omega)
    have hq2 : q * p = p ^ (i + 1) := by rw [Int.pow_succ, hq]
    simp (disch := first | omega | (simp only [Qn] <;> omega)) only [go_sem, x0]
    by_cases h64 : 64 < q * p
    · rw [decide_eq_true h64]
      simp (disch := first | omega | (simp only [Qn] <;> omega)) only [go_sem]
      have := pw_mono (p := p) (by omega) (show i + 1 ≤ n by omega)
      rw [show PermF a = ([], 5) by rw [PermF, if_neg (by simp [hz]), hpe, hn, if_pos (by omega)]]
      exact ⟨_, rfl, SI.nils _, F5, fun _ _ _ _ e => by cases e⟩
    · rw [decide_eq_false h64]
      simp (disch := first | omega | (simp only [Qn] <;> omega)) only [go_sem]
      rw [show (i : Int) + 1 = ((i + 1 : Nat) : Int) from by omega]
      exact ⟨n - (i + 1), by omega, i + 1, _, ex_junk rfl, hq2, by omega, by omega, rfl⟩
  rw [decide_eq_false hlt]
  obtain rfl : n = i := by omega
  obtain ⟨m, hm⟩ : ∃ m : Nat, q = (m : Int) := ⟨q.toNat, by omega⟩
  subst hm
  simp (disch := first | omega | (simp only [Qn] <;> omega)) only [go_sem, row_two gx5]
  rw [hpe]
  refine (invert_ok _ a n hh ⟨ua, by rw [hpe], hua.mono F5⟩ da hn).mono ?_
  rintro v h6 ⟨w, dd, rfl, f6, hdd, hd0, hd1⟩
  obtain ⟨q, u, ws, rfl, R⟩ : ∃ q u ws, w = V.agg [.int .i64 q, u] ∧ SV h6 u 1 ws := by
    by_cases hd : dd = 0
    · obtain ⟨u, ws, rfl, R⟩ := hd0 hd
      exact ⟨_, _, _, rfl, R.own.sv⟩
    · obtain ⟨X, hX, u, ws, rfl, R⟩ := hd1 hd
      exact ⟨_, _, _, rfl, R.own.sv⟩
  have vu := SV.what R
  have hst5 := fun hh id => stV_agg2 hh id 0 (v := .int .i64 q) (u := u) rfl vu.2.1
  simp (disch := first | omega | (simp only [Qn] <;> omega)) only [go_sem, hst5, bxH_eq]
  have fB := bxH_fr h6 q u
  generalize bxH h6 q u = hB at *
  have F6 := F5.trans (f6.trans fB)
  have gx6 := ((f6.trans fB).get _ hx5).trans gx5
  clear hd0 hd1 hst5 vu R
  by_cases hd : dd = 0
  · rw [decide_eq_true hd]
    simp (disch := first | omega | (simp only [Qn] <;> omega)) only [go_sem]
    rw [show PermF a = ([], 15) by rw [PermF, if_neg (by simp [hz]), hpe, hn, if_neg (by omega), if_pos (by rw [← hpe, ← hdd]; exact hd)]]
    exact ⟨_, rfl, SI.nils _, F6, fun _ _ _ _ e => by cases e⟩
  rw [decide_eq_false hd]
  have hP : PermF a = (mkV m (permE a n), 0) := by
    rw [PermF, if_neg (by simp [hz]), hpe, hn, if_neg (by omega), if_neg (by rw [← hpe, ← hdd]; exact hd), ← hq, Int.toNat_natCast]
  rw [hP]
  have lB : h.next < hB.next := by have := (f6.trans fB).next; omega
  have x1B : hB.cell h.next 1 = some ua := by rw [H.cell_of gx6]; rfl
  simp (disch := first | omega | (simp only [Qn] <;> omega)) only [go_sem, mks_ints _ m (by omega), x1B, lA, mks_ints _ n (by omega)]
  have hf7 : Fr hB (hB.new (.cells false (ints (mkV m fun _ => 0)))) := (Fr.refl hB).new _
  have hg7 : (hB.new (.cells false (ints (mkV m fun _ => 0)))).get hB.next = some (.cells false (ints (mkV m fun _ => 0))) := H.get_new_same ..
  have hn7 : (hB.new (.cells false (ints (mkV m fun _ => 0)))).next = hB.next + 1 := H.next_new ..
  generalize hB.new (.cells false (ints (mkV m fun _ => 0))) = h7 at *
  have hf8 : Fr h7 (h7.new (.cells false (ints (mkV n fun _ => 0)))) := (Fr.refl h7).new _
  have hg8 : (h7.new (.cells false (ints (mkV n fun _ => 0)))).get h7.next = some (.cells false (ints (mkV n fun _ => 0))) := H.get_new_same ..
  have hn8 : (h7.new (.cells false (ints (mkV n fun _ => 0)))).next = h7.next + 1 := H.next_new ..
  generalize h7.new (.cells false (ints (mkV n fun _ => 0))) = h8 at *
  obtain ⟨Oo, hOo⟩ : ∃ Oo, hB.next = Oo := ⟨_, rfl⟩
  obtain ⟨Vv, hVv⟩ : ∃ Vv, h7.next = Vv := ⟨_, rfl⟩
  have gO : Bk h8 Oo m (fun j => if j < 0 then permE a n j else 0) := by
    rw [← hOo]
    exact ((hf8.get hB.next (by omega)).trans hg7).trans (by congr 4)
  have gV : Bk h8 Vv n (fun _ => 0) := by rw [← hVv]; exact hg8
  have F8 := hf7.trans hf8
  have hs : h.next < Oo ∧ Oo < Vv ∧ Vv < h8.next := ⟨by omega, by omega, by omega⟩
  rw [← hn7, hVv, hOo]
  refine Wp_loop (fun k' vars hh => ∃ (k : Nat) (f : Nat → Int), (∃ g : Nat → V, vars = [g 0, .ptr h.next 0, g 2, g 3, g 4, .int .i64 (m : Int), g 6, .sl Oo 0 m (.kn m), .sl Vv 0 n (.kn n), g 9, g 10, g 11, g 12, g 13, g 14, g 15, g 16, g 17, g 18, .int .i64 (m : Int), .int .i64 (k : Int), g 21, g 22, g 23, g 24, g 25, g 26]) ∧ k ≤ m ∧ Bk hh Oo m (fun j => if j < k then permE a n j else 0) ∧ Bk hh Vv n f ∧ Vv < hh.next ∧ Fr hB hh ∧ k' = m - k) m
    ⟨0, _, ex_junk rfl, Nat.zero_le _, gO, gV, by omega, F8, rfl⟩ ?_
  clear gO gV F8 hg7 hg8 hf7 hf8
  rintro k' vars h9 ⟨k, f, ⟨g, rfl⟩, hk, gO, gV, lV, F9, rfl⟩
  simp (disch := first | omega | (simp only [Qn] <;> omega)) only [go_sem]
  by_cases hkm : (k : Int) < (m : Int)
  · rw [decide_eq_true hkm]
    simp (disch := first | omega | (simp only [Qn] <;> omega)) only [go_sem]
    have hkm' : k < m := by omega
    obtain ⟨W, hW⟩ : ∃ W : Nat → Int, W = fun j => (applyF (mkV n (dig p n k)) a n).getD j 0 := ⟨_, rfl⟩
    have hPE : permE a n k = hor p W n := by rw [hW, permE, hpe]
    have hWr : ∀ j, j < n → 0 ≤ W j ∧ W j < p := fun j hj => by
      rw [hW, ← hpe]; exact applyF_range (by omega) hj
    refine Wp_loop (fun k' vars hh => ∃ (r : Nat) (i x : Int), (∃ g : Nat → V, vars = [g 0, .ptr h.next 0, g 2, g 3, g 4, .int .i64 (m : Int), g 6, .sl Oo 0 m (.kn m), .sl Vv 0 n (.kn n), .int .i64 (k : Int), .int .i64 i, .int .i64 x, g 12, g 13, g 14, g 15, g 16, g 17, g 18, .int .i64 (m : Int), .int .i64 (k : Int), g 21, g 22, g 23, g 24, g 25, g 26]) ∧ i = (r : Int) - 1 ∧ x = (k : Int) / p ^ (n - r) ∧ r ≤ n ∧ Bk hh Oo m (fun j => if j < k then permE a n j else 0) ∧ Bk hh Vv n (fun j => if j < r then f j else dig p n k j) ∧ Vv < hh.next ∧ Fr hB hh ∧ k' = r) n
      ⟨n, _, _, ex_junk rfl, rfl, dig_zero.symm, Nat.le_refl _, gO, gV.congr fun i hi => (if_pos hi).symm, lV, F9, rfl⟩ ?_
    clear gO gV lV F9
    rintro k' vars h10 ⟨r, i, x, ⟨g, rfl⟩, hir, hxr, hr, gO, gV, lV, F10, rfl⟩
    have c0 : h10.cell h.next 0 = some (.int .i64 p) := by rw [F10.cell (by omega), H.cell_of gx6, ← hpe]; rfl
    simp (disch := first | omega | (simp only [Qn] <;> omega)) only [go_sem]
    by_cases h0 : 0 ≤ i
    · rw [decide_eq_true h0]
      obtain ⟨t, rfl⟩ : ∃ t : Nat, i = (t : Int) := ⟨i.toNat, by omega⟩
      obtain rfl : k' = t + 1 := by omega
      have xr := dig_range (p := p) (by omega) (m := n - (t + 1)) (k := k)
      rw [← hxr] at xr
      have e1 := nonneg_tmod (a := x) (p := p) xr.1
      have e2 : x.tdiv p = x / p := Int.tdiv_eq_ediv_of_nonneg xr.1
      have hd := dig_step (p := p) (k := k) (by omega) (show t < n by omega)
      rw [← hxr] at hd
      have q1 := Int.ediv_nonneg xr.1 (show 0 ≤ p by omega)
      have q2 := Int.ediv_le_self p xr.1
      obtain ⟨y, hy⟩ : ∃ y, x / p = y := ⟨_, rfl⟩
      rw [hy] at q1 q2 e2 hd
      have hpt := fun hh => gV.put (i := t) (by omega) hh (x % p)
      have c0' : (h10.set Vv (some (.cells false (ints (mkV n fun j => if j = t then x % p else if j < t + 1 then f j else dig p n k j))))).cell h.next 0 = some (.int .i64 p) := by rw [H.cell_set_ne _ (by omega)]; exact c0
      simp (disch := first | omega | (simp only [Qn] <;> omega)) only [go_sem, c0, e1, e2, hpt, c0']
      refine ⟨t, by omega, t, _, _, ex_junk rfl, rfl, hd, by omega, gO.ne (by omega) _, (Bk.set ..).congr fun j hj => ?_, lV, F10.set (by omega) _, rfl⟩
      by_cases e : j = t
      · rw [if_pos e, if_neg (by omega), e, dig, show n - 1 - t = n - (t + 1) by omega, ← hxr]
      · rw [if_neg e]
        by_cases e3 : j < t
        · rw [if_pos e3, if_pos (by omega)]
        · rw [if_neg e3, if_neg (by omega)]
    rw [decide_eq_false h0]
    obtain rfl : k' = 0 := by omega
    have gV2 := gV.congr (g := dig p n k) fun j _ => if_neg (Nat.not_lt_zero j)
    have gxr := (F10.get _ (by omega)).trans gx6
    rw [hpe] at gxr
    simp (disch := first | omega | (simp only [Qn] <;> omega)) only [go_sem, row_two gxr]
    refine (apply_ok (.sl Vv 0 n (.kn n)) _ (mkV n (dig p n k)) a n h10 (gV2.si lV _) ⟨ua, by rw [hpe], hua.mono (F6.trans F10)⟩ da (by rw [mkV_len]; omega) (fun i hi => by
      rw [mkV_len] at hi
      rw [mkV_get _ hi, dig, hpe]; exact tmod_range _ (by omega))).mono ?_
    rintro w h11 ⟨o, f11⟩
    have la : (applyF (mkV n (dig p n k)) a n).length = n := by rw [applyF, mkV_len]
    obtain ⟨idw, capw, restw, rfl, i1, i2, i3⟩ := own_open o (by omega)
    rw [la]
    have n11 := f11.next
    have cW : ∀ j, j < n → (ints (applyF (mkV n (dig p n k)) a n) ++ restw)[j]? = some (.int .i64 (W j)) := fun j hj => by
      rw [List.getElem?_append_left (by rw [ints_length]; omega), ints_getD (by omega), hW]
    have F11 := F10.trans f11
    have gO1 := gO.fr f11 (by omega)
    have gV1 := gV2.fr f11 lV
    simp (disch := first | omega | (simp only [Qn] <;> omega)) only [go_sem]
    refine Wp_loop (fun k' vars hh => ∃ (i : Nat), (∃ g : Nat → V, vars = [g 0, .ptr h.next 0, g 2, g 3, g 4, .int .i64 (m : Int), g 6, .sl Oo 0 m (.kn m), .sl Vv 0 n (.kn n), .int .i64 (k : Int), g 10, g 11, g 12, g 13, g 14, g 15, g 16, g 17, g 18, .int .i64 (m : Int), .int .i64 (k : Int), g 21, g 22, .sl idw 0 n capw, .int .i64 (n : Int), .int .i64 (i : Int), g 26]) ∧ i ≤ n ∧ Bk hh Oo m (fun j => if j < k then permE a n j else if j = k then hor p W i else 0) ∧ Bk hh Vv n (dig p n k) ∧ hh.get idw = some (.cells false (ints (applyF (mkV n (dig p n k)) a n) ++ restw)) ∧ idw < hh.next ∧ Fr hB hh ∧ k' = n - i) n
      ⟨0, ex_junk rfl, Nat.zero_le _, gO1.congr fun j hj => by
        by_cases e : j = k
        · rw [e, if_neg (Nat.lt_irrefl k), if_neg (Nat.lt_irrefl k), if_pos rfl]; rfl
        · rw [if_neg e], gV1, i3, i2, F11, rfl⟩ ?_
    clear gO1 gV1 i3 i2 gV gV2 gO c0 o
    rintro k' vars h12 ⟨i, ⟨g, rfl⟩, hi, gO, gV, gw, lw, F12, rfl⟩
    simp (disch := first | omega | (simp only [Qn] <;> omega)) only [go_sem]
    by_cases hin : (i : Int) < (n : Int)
    · rw [decide_eq_true hin]
      have hi' : i < n := by omega
      have cw : h12.cell idw i = some (.int .i64 (W i)) := by rw [H.cell_of gw]; exact cW i hi'
      have c0 : h12.cell h.next 0 = some (.int .i64 p) := by rw [F12.cell (by omega), H.cell_of gx6, ← hpe]; rfl
      have y1 := gO.cell hkm'
      rw [if_neg (Nat.lt_irrefl k), if_pos rfl] at y1
      have hb := hor_bound (p := p) (by omega) (w := W) (i := i) fun j hj => hWr j (by omega)
      have hm1 := pw_mono (p := p) (by omega) (show i ≤ n by omega)
      have b1 := Int.mul_nonneg hb.1 (show 0 ≤ p by omega)
      have b2 := Int.mul_le_mul (show hor p W i ≤ 64 by omega) (show p ≤ 10000 by omega) (by omega) (by omega)
      have b3 := hWr i hi'
      have hpt := gO.put hkm' (H.mk h12.tr (h12.next + 13)) (hor p W i * p + W i)
      simp (disch := first | omega | (simp only [Qn] <;> omega)) only [go_sem, cw, c0, y1, hpt]
      rw [show (i : Int) + 1 = ((i + 1 : Nat) : Int) from by omega]
      refine ⟨n - (i + 1), by omega, i + 1, ex_junk rfl, by omega, (Bk.set ..).congr fun j hj => ?_, gV.ne (by omega) _, ?_, by show idw < h12.next + 13; omega, (F12.bump (by omega)).set (by omega) _, rfl⟩
      · by_cases e : j = k
        · rw [if_pos e, if_neg (by omega), if_pos e, hor]
        · simp only [if_neg e]
      · first | exact gw | (rw [H.get_set_ne _ (by omega)]; exact gw)
    rw [decide_eq_false hin]
    obtain rfl : n = i := by omega
    simp (disch := first | omega | (simp only [Qn] <;> omega)) only [go_sem]
    rw [show (k : Int) + 1 = ((k + 1 : Nat) : Int) from by omega]
    refine ⟨m - (k + 1), by omega, k + 1, _, ex_junk rfl, by omega, gO.congr fun j hj => ?_, gV, by have := F12.next; omega, F12, rfl⟩
    by_cases e : j = k
    · rw [e, if_neg (Nat.lt_irrefl k), if_pos rfl, if_pos (Nat.lt_succ_self k), hPE]
    · by_cases e2 : j < k
      · rw [if_pos e2, if_pos (by omega)]
      · rw [if_neg e2, if_neg e, if_neg (by omega)]
  rw [decide_eq_false hkm]
  obtain rfl : m = k := by omega
  simp (disch := first | omega | (simp only [Qn] <;> omega)) only [go_sem]
  have gO' := gO.congr (g := permE a n) fun i hi => if_pos hi
  exact ⟨_, rfl, gO'.si (by omega) _, F6.trans F9, fun _ _ _ _ e => by cases e; exact ⟨m, rfl, Nat.le_refl _⟩⟩
theorem Perm_ok (va : V) (a : Mat) (h : H) (ha : MatV h va a) (la : (a.2.length : Int) ≤ 2 ^ 63 - 1) : Ev T n_matrix_Perm [va] h (fun v h' => ∃ w, v = .tup [w, .int .i64 (PermF a).2] ∧ SI h' w (PermF a).1 ∧ Fr h h') :=
  (Perm_kn va a h ha la).mono fun v h' ⟨w, e, s, f, _⟩ => ⟨w, e, s, f⟩
end Go.Proofs.Ytonhijbeddcmpaa

/- Layer 4: the permutation of the vectors and the order of a matrix, in plain Lean. -/
namespace Go.Proofs.Ytonhijbeddcmpaa
open Go Go.Ay
set_option maxRecDepth 100000
theorem hor_congr {p : Int} {w w' : Nat → Int} : ∀ {i : Nat}, (∀ j, j < i → w j = w' j) → hor p w i = hor p w' i
  | 0, _ => rfl
  | i + 1, h => by rw [hor, hor, hor_congr fun j hj => h j (by omega), h i (by omega)]
theorem hor_shift {p : Int} (hp : 1 ≤ p) {w : Nat → Int} {i : Nat} : ∀ {j : Nat}, (∀ k, k < i + j → 0 ≤ w k ∧ w k < p) → hor p w (i + j) / p ^ j = hor p w i
  | 0, _ => by rw [Nat.add_zero, Int.pow_zero, Int.ediv_one]
  | j + 1, h => by
    have pp := pw_pos hp j
    have b := h (i + j) (by omega)
    rw [show i + (j + 1) = (i + j) + 1 by omega, hor, Int.pow_succ, Int.mul_comm (p ^ j) p, ← Int.ediv_ediv_of_nonneg (by omega), Int.add_comm, Int.add_mul_ediv_right _ _ (by omega), Int.ediv_eq_zero_of_lt b.1 b.2, Int.zero_add]
    exact hor_shift hp fun k hk => h k (by omega)
theorem dig_hor {p : Int} (hp : 1 ≤ p) {n k : Nat} {w : Nat → Int} (hw : ∀ j, j < n → 0 ≤ w j ∧ w j < p) (hk : (k : Int) = hor p w n) {i : Nat} (hi : i < n) : dig p n k i = w i := by
  have e := hor_shift hp (w := w) (i := i + 1) (j := n - 1 - i) fun k hk => hw k (by omega)
  rw [show i + 1 + (n - 1 - i) = n by omega] at e
  rw [dig, hk, e, hor, Int.add_comm, Int.add_mul_emod_self_right]
  exact Int.emod_eq_of_lt (hw i hi).1 (hw i hi).2
theorem hor_dig {p : Int} (hp : 1 ≤ p) {n k : Nat} (hk : (k : Int) < p ^ n) : ∀ {i : Nat}, i ≤ n → hor p (dig p n k) i = (k : Int) / p ^ (n - i)
  | 0, _ => by rw [Nat.sub_zero, Int.ediv_eq_zero_of_lt (by omega) hk]; rfl
  | i + 1, h => by
    have pp := pw_pos hp (n - (i + 1))
    rw [hor, hor_dig hp hk (by omega), dig, show n - 1 - i = n - (i + 1) by omega, show n - i = (n - (i + 1)) + 1 by omega, Int.pow_succ, ← Int.ediv_ediv_of_nonneg (by omega), Int.mul_comm]
    exact Int.mul_ediv_add_emod _ _
theorem hor_inj {p : Int} (hp : 1 ≤ p) {n : Nat} {w w' : Nat → Int} (hw : ∀ j, j < n → 0 ≤ w j ∧ w j < p) (hw' : ∀ j, j < n → 0 ≤ w' j ∧ w' j < p) (h : hor p w n = hor p w' n) {i : Nat} (hi : i < n) : w i = w' i := by
  have b := hor_bound hp (i := n) hw
  rw [← dig_hor hp (k := (hor p w n).toNat) hw (by omega) hi, ← dig_hor hp (k := (hor p w n).toNat) hw' (by omega) hi]
/-- A row times a matrix. -/
def app (p : Int) (n : Nat) (A : Mx) (v : Nat → Int) : Nat → Int := fun j => sm n (fun i => v i * A i j) % p
def pe (p : Int) (n : Nat) (A : Mx) (k : Nat) : Int := hor p (app p n A (dig p n k)) n
section
variable {p : Int} {n : Nat} {A B : Mx} {k k' : Nat}
theorem app_range (hp : 0 < p) (A : Mx) (v : Nat → Int) (j : Nat) : 0 ≤ app p n A v j ∧ app p n A v j < p := tmod_range _ hp
theorem permE_pe (p : Int) (n : Nat) (A : Mx) (k : Nat) : permE (p, mkR n n A) n k = pe p n A k := by
  refine hor_congr fun j hj => ?_
  simp only [applyF, app]
  rw [mkV_get _ hj, mkV_len]
  refine congrArg (· % p) (sm_congr fun i hi => ?_)
  rw [mkV_get _ hi, mkR_ent _ hi hj]
theorem pe_range (hp : 1 ≤ p) : 0 ≤ pe p n A k ∧ pe p n A k < p ^ n := hor_bound hp fun j _ => app_range (by omega) A _ j
theorem pe_dig (hp : 1 ≤ p) (h : (k' : Int) = pe p n A k) {j : Nat} (hj : j < n) : dig p n k' j = app p n A (dig p n k) j :=
  dig_hor hp (fun j _ => app_range (by omega) A _ j) h hj
theorem app_congr {v v' : Nat → Int} (h : ∀ i, i < n → v i % p = v' i % p) (e : Em p n A B) {j : Nat} (hj : j < n) : app p n A v j = app p n B v' j :=
  sm_mod fun i hi => mul_mod (h i hi) (e i j hi hj)
theorem app_mul (v : Nat → Int) {j : Nat} (hj : j < n) : app p n B (app p n A v) j = app p n (mmP p n A B) v j := by
  have e1 : app p n B (app p n A v) j = app p n B (fun i => sm n (fun l => v l * A l i)) j := app_congr (fun i _ => emm p _) (Em.refl p n B) hj
  have e2 : app p n (mmP p n A B) v j = app p n (mulM n A B) v j := app_congr (fun _ _ => rfl) (Em.mm p n A B) hj
  rw [e1, e2]
  simp only [app, mulM]
  congr 1
  have : ∀ i, sm n (fun l => v l * A l i) * B i j = sm n (fun l => v l * (A l i * B i j)) := fun i => by
    rw [← sm_mulr]; exact sm_congr fun l _ => Int.mul_assoc ..
  rw [sm_congr fun i _ => this i, sm_swap]
  exact sm_congr fun l _ => sm_mul ..
theorem pe_congr (e : Em p n A B) : pe p n A k = pe p n B k := hor_congr fun _ hj => app_congr (fun _ _ => rfl) e hj
theorem pe_mul (hp : 1 ≤ p) (h : (k' : Int) = pe p n A k) : pe p n B k' = pe p n (mmP p n A B) k := by
  refine hor_congr fun j hj => ?_
  rw [← app_mul _ hj]
  exact app_congr (fun i hi => by rw [pe_dig hp h hi]) (Em.refl p n B) hj
theorem dig_range2 (hp : 0 < p) (i : Nat) : 0 ≤ dig p n k i ∧ dig p n k i < p := tmod_range _ hp
theorem pe_id (hp : 1 ≤ p) (e : Em p n A idM) (hk : (k : Int) < p ^ n) : pe p n A k = k := by
  rw [pe_congr e, pe]
  have : hor p (app p n idM (dig p n k)) n = hor p (dig p n k) n := hor_congr fun j hj => by
    simp only [app, idM]
    rw [sm_one (t := j) hj fun i _ hne => by rw [if_neg hne, Int.mul_zero], if_pos rfl, Int.mul_one]
    exact Int.emod_eq_of_lt (dig_range2 (by omega) j).1 (dig_range2 (by omega) j).2
  rw [this, hor_dig hp hk (Nat.le_refl n), Nat.sub_self, Int.pow_zero, Int.ediv_one]
theorem pe_zero (hp : 1 ≤ p) : pe p n A 0 = 0 := by
  have z : ∀ i, hor p (fun _ => 0) i = 0 := fun i => by
    induction i with
    | zero => rfl
    | succ i ih => rw [hor, ih, Int.zero_mul]; rfl
  rw [pe, hor_congr (w' := fun _ => 0) fun j _ => ?_, z]
  simp only [app]
  rw [sm_zeros fun i _ => by rw [dig, Int.natCast_zero, Int.zero_ediv, Int.zero_emod, Int.zero_mul], Int.zero_emod]
theorem pe_unit (hp : 2 ≤ p) (h : ∀ k : Nat, (k : Int) < p ^ n → pe p n A k = k) : Em p n A idM := fun i j hi hj => by
  obtain ⟨w, hw⟩ : ∃ w : Nat → Int, w = fun l => if l = i then 1 else 0 := ⟨_, rfl⟩
  have wr : ∀ l, l < n → 0 ≤ w l ∧ w l < p := fun l _ => by rw [hw]; simp only; split <;> omega
  have b := hor_bound (p := p) (by omega) (i := n) wr
  have hk : (((hor p w n).toNat : Nat) : Int) = hor p w n := by omega
  have e := h (hor p w n).toNat (by omega)
  have d1 := pe_dig (p := p) (n := n) (A := A) (k := (hor p w n).toNat) (k' := (hor p w n).toNat) (by omega) e.symm hj
  rw [dig_hor (by omega) wr hk hj] at d1
  have d2 : app p n A (dig p n (hor p w n).toNat) j = A i j % p := by
    rw [app_congr (v' := w) (fun l hl => by rw [dig_hor (by omega) wr hk hl]) (Em.refl p n A) hj, app, sm_one (t := i) hi fun l _ hne => by rw [hw]; simp only [if_neg hne, Int.zero_mul], hw]
    simp only [if_true, Int.one_mul]
  rw [d2, hw] at d1
  rw [← d1]
  simp only [idM]
  by_cases e2 : i = j
  · rw [if_pos e2, if_pos e2.symm, one_mod (by omega)]
  · rw [if_neg e2, if_neg (Ne.symm e2), Int.zero_emod]
theorem pe_inj (hp : 1 ≤ p) {R : Mx} (hR : IsInv p n A R) (h1 : (k : Int) < p ^ n) (h2 : (k' : Int) < p ^ n) (h : pe p n A k = pe p n A k') : k = k' := by
  have r := pe_range (p := p) (n := n) (A := A) (k := k) hp
  have e : Em p n (mmP p n A R) idM := (Em.mm p n A R).trans fun i j hi hj => right_of_left hR.left hi hj
  have a1 := pe_mul (B := R) (k' := (pe p n A k).toNat) hp (by omega : (((pe p n A k).toNat : Nat) : Int) = pe p n A k)
  have a2 := pe_mul (B := R) (k' := (pe p n A k).toNat) hp (by omega : (((pe p n A k).toNat : Nat) : Int) = pe p n A k')
  rw [pe_id hp e h1] at a1
  rw [pe_id hp e h2] at a2
  omega
end
theorem pigeon : ∀ (N : Nat) (f : Nat → Nat), (∀ j, j ≤ N → f j < N) → ∃ i j, i < j ∧ j ≤ N ∧ f i = f j
  | 0, f, h => absurd (h 0 (Nat.le_refl 0)) (Nat.not_lt_zero _)
  | N + 1, f, h => by
    by_cases hx : ∃ i, i ≤ N ∧ f i = f (N + 1)
    · obtain ⟨i, hi, he⟩ := hx
      exact ⟨i, N + 1, by omega, Nat.le_refl _, he⟩
    · obtain ⟨i, j, h1, h2, h3⟩ := pigeon N (fun j => if f j = N then f (N + 1) else f j) fun j hj => by
        have a := h j (by omega)
        have b := h (N + 1) (Nat.le_refl _)
        try simp only
        split
        · rename_i e
          have : f (N + 1) ≠ N := fun e2 => hx ⟨j, hj, by rw [e, e2]⟩
          omega
        · omega
      refine ⟨i, j, h1, by omega, ?_⟩
      try simp only at h3
      by_cases e1 : f i = N
      · by_cases e2 : f j = N
        · rw [e1, e2]
        · rw [if_pos e1, if_neg e2] at h3
          exact absurd ⟨j, h2, h3.symm⟩ hx
      · by_cases e2 : f j = N
        · rw [if_neg e1, if_pos e2] at h3
          exact absurd ⟨i, by omega, h3⟩ hx
        · rw [if_neg e1, if_neg e2] at h3
          exact h3
/-- The power j as a combination of those before n. -/
def cf (p : Int) (m : Nat) (A : Mx) : Nat → Nat → Int
  | 0 => fun i => if i = 0 then 1 % p else 0
  | j + 1 => fun i => (shf (cf p m A j) i - cf p m A j m * chp (m + 1) A i) % p
theorem cf_range {p : Int} (hp : 0 < p) (m : Nat) (A : Mx) : ∀ j i, 0 ≤ cf p m A j i ∧ cf p m A j i < p
  | 0, i => by
    simp only [cf]
    split
    · exact tmod_range _ hp
    · omega
  | j + 1, i => tmod_range _ hp
theorem cf_sum {p : Int} {m : Nat} {A : Mx} : ∀ j, ∀ a b, a < m + 1 → b < m + 1 → pwM (m + 1) A j a b % p = sm (m + 1) (fun i => cf p m A j i * pwM (m + 1) A i a b) % p
  | 0, a, b, ha, hb => by
    rw [sm_one (t := 0) (by omega) fun i _ hne => by simp only [cf, if_neg hne, Int.zero_mul]]
    simp only [cf, if_true]
    rw [mul_mod (emm p 1) (rfl : pwM (m + 1) A 0 a b % p = _), Int.one_mul]
  | j + 1, a, b, ha, hb => by
    have e1 : pwM (m + 1) A (j + 1) a b % p = sm (m + 1) (fun l => A a l * sm (m + 1) (fun i => cf p m A j i * pwM (m + 1) A i l b)) % p :=
      sm_mod fun l hl => mul_mod rfl (cf_sum j l b hl hb)
    have e2 : sm (m + 1) (fun l => A a l * sm (m + 1) (fun i => cf p m A j i * pwM (m + 1) A i l b)) = sm (m + 1) (fun i => cf p m A j i * pwM (m + 1) A (i + 1) a b) := by
      rw [sm_congr fun l _ => (sm_mul ..).symm, sm_swap]
      refine sm_congr fun i _ => ?_
      show _ = cf p m A j i * mulM (m + 1) A (pwM (m + 1) A i) a b
      rw [mulM, ← sm_mul]
      exact sm_congr fun l _ => by grind
    have c := cayley m A ha hb
    rw [sm_succ, chp_lead, Int.one_mul] at c
    rw [e1, e2]
    have e3 : sm (m + 1) (fun i => cf p m A (j + 1) i * pwM (m + 1) A i a b) % p = sm (m + 1) (fun i => (shf (cf p m A j) i - cf p m A j m * chp (m + 1) A i) * pwM (m + 1) A i a b) % p :=
      sm_mod fun i _ => mul_mod (emm p _) rfl
    rw [e3]
    have e4 : sm (m + 1) (fun i => (shf (cf p m A j) i - cf p m A j m * chp (m + 1) A i) * pwM (m + 1) A i a b) = sm (m + 1) (fun i => shf (cf p m A j) i * pwM (m + 1) A i a b) - cf p m A j m * sm (m + 1) (fun i => chp (m + 1) A i * pwM (m + 1) A i a b) := by
      rw [← sm_mul, ← sm_sub]
      exact sm_congr fun i _ => by grind
    have e5 : sm (m + 1) (fun i => shf (cf p m A j) i * pwM (m + 1) A i a b) = sm m (fun i => cf p m A j i * pwM (m + 1) A (i + 1) a b) := by
      rw [sm_first]
      simp only [shf, if_true, Int.zero_mul, Int.zero_add]
      exact sm_congr fun i _ => by rw [if_neg (by omega)]; rfl
    rw [e4, e5, sm_succ]
    congr 1
    generalize sm (m + 1) (fun i => chp (m + 1) A i * pwM (m + 1) A i a b) = S at *
    grind
/-- Some power is the identity. -/
theorem ord_ex {p : Int} (hp : 2 ≤ p) {m : Nat} {A X : Mx} (h64 : p ^ (m + 1) ≤ 64) (hX : IsInv p (m + 1) A X) : ∃ e, 1 ≤ e ∧ e ≤ 64 ∧ Em p (m + 1) (pwM (m + 1) A e) idM := by
  have hb : ∀ j, 0 ≤ hor p (cf p m A j) (m + 1) ∧ hor p (cf p m A j) (m + 1) < p ^ (m + 1) := fun j => hor_bound (by omega) fun i _ => cf_range (by omega) m A j i
  obtain ⟨i, j, h1, h2, h3⟩ := pigeon 64 (fun j => (hor p (cf p m A j) (m + 1)).toNat) fun j _ => by
    have := hb j
    try simp only
    omega
  have e : hor p (cf p m A i) (m + 1) = hor p (cf p m A j) (m + 1) := by
    have := hb i
    have := hb j
    try simp only at h3
    omega
  have eq : Em p (m + 1) (pwM (m + 1) A j) (pwM (m + 1) A i) := fun a b ha hb2 => by
    rw [cf_sum j a b ha hb2, cf_sum i a b ha hb2]
    exact congrArg (· % p) (sm_congr fun l hl => by rw [hor_inj (by omega) (fun q _ => cf_range (by omega) m A i q) (fun q _ => cf_range (by omega) m A j q) e hl])
  have hr : Em p (m + 1) (mulM (m + 1) A X) idM := fun a b ha hb2 => right_of_left hX.left ha hb2
  refine ⟨j - i, by omega, by omega, ?_⟩
  have c1 := pw_cancel hr (j - i) i
  rw [show j - i + i = j by omega] at c1
  have c2 := pw_cancel hr 0 i
  rw [Nat.zero_add] at c2
  exact c1.symm.trans ((eq.mul (Em.refl p _ _)).trans c2)
theorem least_ex {P : Nat → Prop} {N : Nat} (h : ∃ e, 1 ≤ e ∧ e ≤ N ∧ P e) : ∃ e, 1 ≤ e ∧ e ≤ N ∧ P e ∧ ∀ j, 1 ≤ j → j < e → ¬ P j := by
  obtain ⟨e, h1, h2, h3⟩ := h
  induction e using Nat.strongRecOn with
  | _ e ih =>
    by_cases hx : ∃ j, 1 ≤ j ∧ j < e ∧ P j
    · obtain ⟨j, a, b, c⟩ := hx
      exact ih j b a (by omega) c
    · exact ⟨e, h1, h2, h3, fun j a b c => hx ⟨j, a, b, c⟩⟩
theorem Sq.ordG {p : Int} {n : Nat} (s : Sq p n) {A : Mx} (hA : InP p n A) {e : Nat} (he : Em p n (pwM n A e) idM) (hm : ∀ j, 1 ≤ j → j < e → ¬ Em p n (pwM n A j) idM) : ∀ f k (B : Mx), InP p n B → Em p n B (pwM n A k) → 1 ≤ k → k ≤ e → e < k + f → ordG (p, mkR n n A) n f k (p, mkR n n B) = ((e : Int), 0)
  | 0, k, B, _, _, _, h2, h3 => by omega
  | f + 1, k, B, hB, eB, h1, h2, h3 => by
    rw [Proofs.Ytonhijbeddcmpaa.ordG]
    simp only
    rw [s.inI]
    by_cases hk : k = e
    · subst hk
      rw [if_pos (Em.rows (eB.trans he) hB s.on)]
    · rw [if_neg fun q => hm k h1 (by omega) (eB.symm.trans fun i j hi hj => by
        have := congrArg (fun l => ent l i j) q
        simp only at this
        rw [mkR_ent _ hi hj, mkR_ent _ hi hj] at this
        rw [this]), s.mulF]
      exact Sq.ordG s hA he hm f (k + 1) _ (s.mm _ _) ((Em.mm p n B A).trans ((eB.mul (Em.refl p n A)).trans (pw_last p n A k))) (by omega) (by omega) (by omega)
theorem Sq.order {p : Int} {n : Nat} (s : Sq p n) {A X : Mx} (hA : InP p n A) (eX : InvF (p, mkR n n A) = ((p, mkR n n X), 0)) (h64 : p ^ n ≤ 64) (hX : IsInv p n A X) : ∃ e : Nat, 1 ≤ e ∧ e ≤ 64 ∧ OrderF (p, mkR n n A) = ((e : Int), 0) ∧ Em p n (pwM n A e) idM ∧ ∀ j, 1 ≤ j → j < e → ¬ Em p n (pwM n A j) idM := by
  obtain ⟨m, rfl⟩ : ∃ m, n = m + 1 := ⟨n - 1, by have := s.n1; omega⟩
  obtain ⟨e, h1, h2, h3, h4⟩ := least_ex (ord_ex s.p.1 h64 hX)
  refine ⟨e, h1, h2, ?_, h3, h4⟩
  rw [OrderF, eX, if_neg (by simp)]
  simp only [mkR_len]
  exact s.ordG hA h3 h4 10000 1 A hA (pw_one p _ A).symm (Nat.le_refl 1) h1 (by omega)
theorem Sq.perm {p : Int} {n : Nat} (s : Sq p n) {A : Mx} (hA : InP p n A) (h64 : p ^ n ≤ 64) : (Ay.det n A % p = 0 ∧ PermF (p, mkR n n A) = ([], 15)) ∨ (Ay.det n A % p ≠ 0 ∧ PermF (p, mkR n n A) = (mkV (p ^ n).toNat (pe p n A), 0)) := by
  have e : ∀ k, permE (p, mkR n n A) n k = pe p n A k := permE_pe p n A
  by_cases hd : Ay.det n A % p = 0
  · refine .inl ⟨hd, ?_⟩
    rw [PermF, s.sqF hA, if_neg (by simp)]
    simp only [mkR_len, det_ent]
    rw [if_neg (by omega), if_pos hd]
  · refine .inr ⟨hd, ?_⟩
    rw [PermF, s.sqF hA, if_neg (by simp)]
    simp only [mkR_len, det_ent]
    rw [if_neg (by omega), if_neg hd]
    congr 1
    exact mkV_congr fun k _ => e k
end Go.Proofs.Ytonhijbeddcmpaa

/- Layer 4: the kit's Fine, Mul, One. -/
namespace Go.Proofs.Ytonhijbeddcmpaa
open Go Go.Ay
set_option maxRecDepth 100000
theorem mks_bools (hh : H) (c : Nat) (hc : c ≤ 1000) : mksV hh 1 1 [.bool false] (.int .i64 (c : Int)) (.int .i64 (c : Int)) = some (.sl hh.next 0 c (.kn c), hh.new (.cells false ((List.range c).map fun _ => V.bool false))) := by
  rw [mksV_int (by omega) (Int.le_refl _) (by omega) (by omega), Int.toNat_natCast, Nat.mul_one]
  congr 4
  refine List.ext_getElem (by simp [zerosV]) fun i _ _ => ?_
  simp [zerosV, Nat.mod_one]
theorem range_cell {h : H} {S n : Nat} {g : Nat → V} (hg : h.get S = some (.cells false ((List.range n).map g))) {i : Nat} (hi : i < n) : h.cell S i = some (g i) := by
  rw [H.cell_of hg, List.getElem?_map, List.getElem?_range hi]; rfl
theorem range_set (n : Nat) (g : Nat → V) (k : Nat) (x : V) : ((List.range n).map g).set k x = (List.range n).map fun j => if j = k then x else g j := by
  refine List.ext_getElem (by simp) fun i _ _ => ?_
  rw [List.getElem_set, List.getElem_map, List.getElem_map, List.getElem_range]
  by_cases e : k = i
  · rw [if_pos e, if_pos e.symm]
  · rw [if_neg e, if_neg (Ne.symm e)]
set_option maxHeartbeats 8000000 in
theorem fine_ok (v : V) (N : Nat) (f : Nat → Int) (h : H) (hN : N ≤ 1000) (hv : SI h v (mkV N f)) (hr : ∀ i, i < N → 0 ≤ f i ∧ f i < N) (hinj : ∀ i j, i < N → j < N → f i = f j → i = j) :
    Ev T n_kit_Fine [v, .int .i64 (N : Int)] h (fun w h' => w = .bool true ∧ Fr h h') := by
  refine Ev_of t_kit_Fine rfl ?_
  have lv := hv.lens
  rw [mkV_len] at lv
  obtain ⟨id, off, sh, hid, hc⟩ := hv.open
  rw [mkV_len] at sh hid hc
  simp (disch := first | omega | (simp only [Qn] <;> omega)) only [go_sem, c_kit_Fine, initV_eq, lv]
  rw [decide_eq_false (show ¬ ((N : Int) ≠ (N : Int)) by omega)]
  simp (disch := first | omega | (simp only [Qn] <;> omega)) only [go_sem, mks_bools _ N hN]
  have hf1 : Fr h (h.new (.cells false ((List.range N).map fun _ => V.bool false))) := (Fr.refl h).new _
  have hg1 : (h.new (.cells false ((List.range N).map fun _ => V.bool false))).get h.next = some (.cells false ((List.range N).map fun _ => V.bool false)) := H.get_new_same ..
  have hn1 : (h.new (.cells false ((List.range N).map fun _ => V.bool false))).next = h.next + 1 := H.next_new ..
  generalize h.new (.cells false ((List.range N).map fun _ => V.bool false)) = h1 at *
  obtain ⟨S, hS⟩ : ∃ S, h.next = S := ⟨_, rfl⟩
  rw [hS] at hg1
  rw [hS]
  refine Wp_loop (fun k' vars hh => ∃ (i : Nat) (g : Nat → Bool), (∃ j : Nat → V, vars = [v, .int .i64 (N : Int), j 2, .sl S 0 N (.kn N), .int .i64 (i : Int), j 5, j 6, j 7]) ∧ i ≤ N ∧ hh.get S = some (.cells false ((List.range N).map fun j => V.bool (g j))) ∧ (∀ j, g j = true → ∃ l, l < i ∧ f l = j) ∧ S < hh.next ∧ Fr h hh ∧ k' = N - i) N
    ⟨0, fun _ => false, ex_junk rfl, Nat.zero_le _, hg1, fun j (hj : false = true) => Bool.noConfusion hj, by omega, hf1, rfl⟩ ?_
  clear hg1 hf1
  rintro k' vars h2 ⟨i, g, ⟨jk, rfl⟩, hi, gS, hg, lS, F, rfl⟩
  simp (disch := first | omega | (simp only [Qn] <;> omega)) only [go_sem]
  by_cases hlt : (i : Int) < (N : Int)
  · rw [decide_eq_true hlt]
    have hi' : i < N := by omega
    have ci := hc i hi'
    rw [mkV_get _ hi'] at ci
    have ci2 : h2.cell id (off + i) = some (.int .i64 (f i)) := by rw [F.cell (hid (by omega))]; exact ci
    have r := hr i hi'
    obtain ⟨k, hk⟩ : ∃ k : Nat, f i = (k : Int) := ⟨(f i).toNat, by omega⟩
    rw [hk] at ci2 r
    have hkN : k < N := by omega
    have cS := range_cell gS hkN
    have gk : g k = false := by
      cases e : g k with
      | false => rfl
      | true =>
        obtain ⟨l, h1, h2⟩ := hg k e
        have := hinj l i (by omega) hi' (by rw [h2, hk])
        omega
    rw [gk] at cS
    have e1 : decide ((k : Int) < 0) = false := decide_eq_false (by omega)
    have e2 : decide ((N : Int) ≤ (k : Int)) = false := decide_eq_false (by omega)
    have pt := putO_one (vs := (List.range N).map fun j => V.bool (g j)) (off := k) (by simpa using hkN) h2 S (.bool true)
    rw [range_set] at pt
    simp (disch := first | omega | (simp only [Qn] <;> omega)) only [go_sem, sh.ixa, ci2, e1, e2, cS, gS, pt]
    rw [show (i : Int) + 1 = ((i + 1 : Nat) : Int) from by omega]
    refine ⟨N - (i + 1), by omega, i + 1, fun j => if j = k then true else g j, ex_junk rfl, by omega, ?_, fun j hj => ?_, lS, F.set (by omega) _, rfl⟩
    · try rw [H.get_set_same]
      congr 3
      funext j
      by_cases e : j = k <;> simp [e]
    · by_cases e : j = k
      · exact ⟨i, by omega, by rw [hk, e]⟩
      · simp only [if_neg e] at hj
        obtain ⟨l, h1, h2⟩ := hg j hj
        exact ⟨l, by omega, h2⟩
  rw [decide_eq_false hlt]
  simp (disch := first | omega | (simp only [Qn] <;> omega)) only [go_sem]
  exact F
set_option maxHeartbeats 8000000 in
theorem kmul_ok (u w : V) (N M : Nat) (f g : Nat → Int) (h : H) (hN : N ≤ 1000) (hu : SI h u (mkV N f)) (hw : SI h w (mkV M g)) (hr : ∀ i, i < N → 0 ≤ f i ∧ f i < M) :
    Ev T n_kit_Mul [u, w] h (fun v h' => SI h' v (mkV N fun i => g (f i).toNat) ∧ Fr h h') := by
  refine Ev_of t_kit_Mul rfl ?_
  have lu := hu.lens
  rw [mkV_len] at lu
  obtain ⟨id, off, sh, hid, hc⟩ := hu.open
  rw [mkV_len] at sh hid hc
  obtain ⟨id2, off2, sh2, hid2, hc2⟩ := hw.open
  rw [mkV_len] at sh2 hid2 hc2
  simp (disch := first | omega | (simp only [Qn] <;> omega)) only [go_sem, c_kit_Mul, initV_eq]
  refine Wp_loop (fun k' vars hh => ∃ (i : Nat) (o : V), (∃ j : Nat → V, vars = [u, w, j 2, o, .int .i64 (i : Int), j 5]) ∧ i ≤ N ∧ Own hh o 1 (ints (mkV i fun i => g (f i).toNat)) h.next ∧ Fr h hh ∧ k' = N - i) N
    ⟨0, .nils, ex_junk rfl, Nat.zero_le _, Own.nils _ _ _, Fr.refl h, rfl⟩ ?_
  rintro k' vars h2 ⟨i, o, ⟨jk, rfl⟩, hi, oO, F, rfl⟩
  simp (disch := first | omega | (simp only [Qn] <;> omega)) only [go_sem, lu]
  by_cases hlt : (i : Int) < (N : Int)
  · rw [decide_eq_true hlt]
    have hi' : i < N := by omega
    have ci := hc i hi'
    rw [mkV_get _ hi'] at ci
    have ci2 : h2.cell id (off + i) = some (.int .i64 (f i)) := by rw [F.cell (hid (by omega))]; exact ci
    have r := hr i hi'
    obtain ⟨k, hk⟩ : ∃ k : Nat, f i = (k : Int) := ⟨(f i).toNat, by omega⟩
    rw [hk] at ci2 r
    have hkM : k < M := by omega
    have ck : h2.cell id2 (off2 + k) = some (.int .i64 (g k)) := by rw [F.cell (hid2 (by omega)), hc2 k hkM, mkV_get _ hkM]
    simp (disch := first | omega | (simp only [Qn] <;> omega)) only [go_sem, sh.ixa, ci2, sh2.ixa, ck, bls_i1]
    have hf31 : Fr h2 (h2.new (.cells false (ints [g k]))) := (Fr.refl h2).new _
    have hg31 : (h2.new (.cells false (ints [g k]))).get h2.next = some (.cells false (ints [g k])) := H.get_new_same ..
    have hn31 : (h2.new (.cells false (ints [g k]))).next = h2.next + 1 := H.next_new ..
    generalize h2.new (.cells false (ints [g k])) = h31 at *
    have sx : SV h31 (.sl h2.next 0 1 (.kn 1)) 1 (ints [g k]) := SV.all rfl (by omega) hg31 _
    have nF := F.next
    obtain ⟨v2, h32, e32, a32⟩ := (oO.fr hf31).app (bytes := 8) (n := i) (m := 1) (by omega) sx (by rw [ints_length, mkV_len, Nat.mul_one]) rfl (by omega) (by omega)
    simp (disch := first | omega | (simp only [Qn] <;> omega)) only [go_sem, e32]
    have t32 := a32.own
    rw [show ([g k] : List Int) = [(fun i => g (f i).toNat) i] by simp only [hk, Int.toNat_natCast], ← ints_append, ← mkV_succ] at t32
    rw [show (i : Int) + 1 = ((i + 1 : Nat) : Int) from by omega]
    exact ⟨N - (i + 1), by omega, i + 1, v2, ex_junk rfl, by omega, t32, a32.fr h (F.trans hf31) (Nat.le_refl _), rfl⟩
  rw [decide_eq_false hlt]
  obtain rfl : N = i := by omega
  simp (disch := first | omega | (simp only [Qn] <;> omega)) only [go_sem]
  exact ⟨oO.sv, F⟩
set_option maxHeartbeats 8000000 in
theorem kone_ok (N : Nat) (h : H) (hN : N ≤ 1000) :
    Ev T n_kit_One [.int .i64 (N : Int)] h (fun v h' => SI h' v (mkV N fun i => (i : Int)) ∧ Fr h h') := by
  refine Ev_of t_kit_One rfl ?_
  simp (disch := first | omega | (simp only [Qn] <;> omega)) only [go_sem, c_kit_One, initV_eq]
  refine Wp_loop (fun k' vars hh => ∃ (i : Nat) (o : V), (∃ j : Nat → V, vars = [.int .i64 (N : Int), j 1, o, .int .i64 (i : Int), j 4]) ∧ i ≤ N ∧ Own hh o 1 (ints (mkV i fun i => (i : Int))) h.next ∧ Fr h hh ∧ k' = N - i) N
    ⟨0, .nils, ex_junk rfl, Nat.zero_le _, Own.nils _ _ _, Fr.refl h, rfl⟩ ?_
  rintro k' vars h2 ⟨i, o, ⟨jk, rfl⟩, hi, oO, F, rfl⟩
  simp (disch := first | omega | (simp only [Qn] <;> omega)) only [go_sem]
  by_cases hlt : (i : Int) < (N : Int)
  · rw [decide_eq_true hlt]
    simp (disch := first | omega | (simp only [Qn] <;> omega)) only [go_sem, bls_i1]
    have hf31 : Fr h2 (h2.new (.cells false (ints [(i : Int)]))) := (Fr.refl h2).new _
    have hg31 : (h2.new (.cells false (ints [(i : Int)]))).get h2.next = some (.cells false (ints [(i : Int)])) := H.get_new_same ..
    have hn31 : (h2.new (.cells false (ints [(i : Int)]))).next = h2.next + 1 := H.next_new ..
    generalize h2.new (.cells false (ints [(i : Int)])) = h31 at *
    have sx : SV h31 (.sl h2.next 0 1 (.kn 1)) 1 (ints [(i : Int)]) := SV.all rfl (by omega) hg31 _
    have nF := F.next
    obtain ⟨v2, h32, e32, a32⟩ := (oO.fr hf31).app (bytes := 8) (n := i) (m := 1) (by omega) sx (by rw [ints_length, mkV_len, Nat.mul_one]) rfl (by omega) (by omega)
    simp (disch := first | omega | (simp only [Qn] <;> omega)) only [go_sem, e32]
    have t32 := a32.own
    rw [← ints_append, show (mkV i (fun i => (i : Int))) ++ [(i : Int)] = mkV (i + 1) (fun i => (i : Int)) from (mkV_succ ..).symm] at t32
    rw [show (i : Int) + 1 = ((i + 1 : Nat) : Int) from by omega]
    exact ⟨N - (i + 1), by omega, i + 1, v2, ex_junk rfl, by omega, t32, a32.fr h (F.trans hf31) (Nat.le_refl _), rfl⟩
  rw [decide_eq_false hlt]
  obtain rfl : N = i := by omega
  simp (disch := first | omega | (simp only [Qn] <;> omega)) only [go_sem]
  exact ⟨oO.sv, F⟩
end Go.Proofs.Ytonhijbeddcmpaa

/- Layer 4: what is too large. -/
namespace Go.Proofs.Ytonhijbeddcmpaa
open Go Go.Ay
set_option maxRecDepth 100000
end Go.Proofs.Ytonhijbeddcmpaa

/- The law MatrixCalls, walked. -/
namespace Go.Proofs.Ytonhijbeddcmpaa
open Go Go.Ay
set_option maxRecDepth 100000
/-- A box whose content is named. -/
structure Mu (h : H) (id : Nat) (a : Mat) (u : V) : Prop where
  g : h.get id = some (.cells false [.int .i64 a.1, u])
  s : SR h u a.2
  lt : id < h.next
theorem Mu.mono {h h' : H} {id : Nat} {a : Mat} {u : V} (b : Mu h id a u) (f : Fr h h') : Mu h' id a u := ⟨(f.get id b.lt).trans b.g, b.s.mono f, Nat.lt_of_lt_of_le b.lt f.next⟩
theorem Mu.row {h : H} {id : Nat} {a : Mat} {u : V} (b : Mu h id a u) : h.row id 0 2 = some [.int .i64 a.1, u] := row_two b.g
end Go.Proofs.Ytonhijbeddcmpaa

/- The law MatrixActs, walked. -/
namespace Go.Proofs.Ytonhijbeddcmpaa
open Go Go.Ay
set_option maxRecDepth 100000
def shL : List Int := [2, 1, 2, 2, 2, 3, 2, 4, 2, 5, 2, 6, 3, 1, 3, 2, 3, 3, 5, 2, 7, 2, 61, 1]
theorem bld_pair (a b : Int) : bldV [.int .i64 0, .int .i64 0] [(0, 1, .int .i64 a), (1, 1, .int .i64 b)] = some (.agg [.int .i64 a, .int .i64 b]) := bldV_two rfl rfl rfl rfl
theorem bls_shapes (h : H) : blsV h 2 [.int .i64 0, .int .i64 0] 12 [(0, 2, .agg [.int .i64 2, .int .i64 1]), (2, 2, .agg [.int .i64 2, .int .i64 2]), (4, 2, .agg [.int .i64 2, .int .i64 3]), (6, 2, .agg [.int .i64 2, .int .i64 4]), (8, 2, .agg [.int .i64 2, .int .i64 5]), (10, 2, .agg [.int .i64 2, .int .i64 6]), (12, 2, .agg [.int .i64 3, .int .i64 1]), (14, 2, .agg [.int .i64 3, .int .i64 2]), (16, 2, .agg [.int .i64 3, .int .i64 3]), (18, 2, .agg [.int .i64 5, .int .i64 2]), (20, 2, .agg [.int .i64 7, .int .i64 2]), (22, 2, .agg [.int .i64 61, .int .i64 1])] = some (.sl h.next 0 12 (.kn 12), h.new (.cells false (ints shL))) := by
  have e : (fillV (zerosV [V.int .i64 0, .int .i64 0] (12 * 2)) [(0, 2, .agg [.int .i64 2, .int .i64 1]), (2, 2, .agg [.int .i64 2, .int .i64 2]), (4, 2, .agg [.int .i64 2, .int .i64 3]), (6, 2, .agg [.int .i64 2, .int .i64 4]), (8, 2, .agg [.int .i64 2, .int .i64 5]), (10, 2, .agg [.int .i64 2, .int .i64 6]), (12, 2, .agg [.int .i64 3, .int .i64 1]), (14, 2, .agg [.int .i64 3, .int .i64 2]), (16, 2, .agg [.int .i64 3, .int .i64 3]), (18, 2, .agg [.int .i64 5, .int .i64 2]), (20, 2, .agg [.int .i64 7, .int .i64 2]), (22, 2, .agg [.int .i64 61, .int .i64 1])]) = some (ints shL) := by rfl
  simp only [blsV, e]
  rfl
theorem shape_ok {h : H} {id : Nat} (g : h.get id = some (.cells false (ints shL))) (j : Nat) (hj : j < 12) : ∃ (p : Int) (n : Nat), h.row id (j * 2) 2 = some [.int .i64 p, .int .i64 (n : Int)] ∧ fieldF p = true ∧ 1 ≤ n ∧ n ≤ 6 ∧ p ^ n ≤ 64 := by
  have r : ∀ a b : Int, ((ints shL).drop (j * 2)).take 2 = [.int .i64 a, .int .i64 b] → h.row id (j * 2) 2 = some [.int .i64 a, .int .i64 b] := fun a b e => by
    unfold H.row
    rw [g]
    have : j * 2 + 2 ≤ (ints shL).length := by rw [ints_length]; show j * 2 + 2 ≤ 24; omega
    show sub (ints shL) (j * 2) 2 = _
    rw [sub, if_pos this, e]
  rcases (show j = 0 ∨ j = 1 ∨ j = 2 ∨ j = 3 ∨ j = 4 ∨ j = 5 ∨ j = 6 ∨ j = 7 ∨ j = 8 ∨ j = 9 ∨ j = 10 ∨ j = 11 by omega) with rfl | rfl | rfl | rfl | rfl | rfl | rfl | rfl | rfl | rfl | rfl | rfl
  · exact ⟨2, 1, r 2 1 rfl, by decide +kernel, by omega, by omega, by decide⟩
  · exact ⟨2, 2, r 2 2 rfl, by decide +kernel, by omega, by omega, by decide⟩
  · exact ⟨2, 3, r 2 3 rfl, by decide +kernel, by omega, by omega, by decide⟩
  · exact ⟨2, 4, r 2 4 rfl, by decide +kernel, by omega, by omega, by decide⟩
  · exact ⟨2, 5, r 2 5 rfl, by decide +kernel, by omega, by omega, by decide⟩
  · exact ⟨2, 6, r 2 6 rfl, by decide +kernel, by omega, by omega, by decide⟩
  · exact ⟨3, 1, r 3 1 rfl, by decide +kernel, by omega, by omega, by decide⟩
  · exact ⟨3, 2, r 3 2 rfl, by decide +kernel, by omega, by omega, by decide⟩
  · exact ⟨3, 3, r 3 3 rfl, by decide +kernel, by omega, by omega, by decide⟩
  · exact ⟨5, 2, r 5 2 rfl, by decide +kernel, by omega, by omega, by decide⟩
  · exact ⟨7, 2, r 7 2 rfl, by decide +kernel, by omega, by omega, by decide⟩
  · exact ⟨61, 1, r 61 1 rfl, by decide +kernel, by omega, by omega, by decide⟩
set_option maxHeartbeats 64000000 in
theorem acts_ok (vl : V) (l : List Int) (kk : Int) (h : H) (hc : SI h vl l) (hcl : (l.length : Int) ≤ 2 ^ 63 - 1) : Ev T n_law04_MatrixActs [vl, .int .i64 kk] h (fun v _ => v = .bool true) := by
  refine Ev_of t_law04_MatrixActs rfl ?_
  simp (disch := first | omega | (simp only [Qn] <;> omega)) only [go_sem, c_law04_MatrixActs, initV_eq]
  refine (lives_ok h).mono ?_
  rintro v h0 ⟨rfl, g⟩
  replace hc := hc.mono g
  clear g
  simp (disch := first | omega | (simp only [Qn] <;> omega)) only [go_sem, hc.lens]
  refine iteW_dec (fun hlong => ?_) (fun hlong => ?_)
  · simp (disch := first | omega | (simp only [Qn] <;> omega)) only [go_sem]
  have hl : l.length < 1000000 := by omega
  simp (disch := first | omega | (simp only [Qn] <;> omega)) only [go_sem, bld_pair, bls_shapes]
  have hfs : Fr h0 (h0.new (.cells false (ints shL))) := (Fr.refl h0).new _
  have hgs : (h0.new (.cells false (ints shL))).get h0.next = some (.cells false (ints shL)) := H.get_new_same ..
  have hns : (h0.new (.cells false (ints shL))).next = h0.next + 1 := H.next_new ..
  generalize h0.new (.cells false (ints shL)) = hs at *
  replace hc := hc.mono hfs
  refine (pick_ok kk 12 hs (by omega) (by omega)).mono ?_
  rintro v h1 ⟨rfl, rfl⟩
  obtain ⟨j, hj⟩ : ∃ j : Nat, kk % 12 = (j : Int) := ⟨(kk % 12).toNat, by omega⟩
  have hj12 : j < 12 := by omega
  obtain ⟨p, n, rS, hf, hn1, hn6, h64⟩ := shape_ok hgs j hj12
  have s : Sq p n := ⟨hf, hn1, by omega⟩
  have hp := s.p
  have st := fun hh id => stV_agg2 hh id 0 (v := .int .i64 p) (u := .int .i64 (n : Int)) rfl rfl
  rw [hj]
  simp (disch := first | omega | (simp only [Qn] <;> omega)) only [go_sem, rS, st]
  have fB0 : Fr h1 ((h1.new (.cells false [.int .i64 0, .int .i64 0])).set h1.next (some (.cells false [.int .i64 p, .int .i64 (n : Int)]))) := ((Fr.refl h1).new _).set (Nat.le_refl _) _
  have gB0 : ((h1.new (.cells false [.int .i64 0, .int .i64 0])).set h1.next (some (.cells false [.int .i64 p, .int .i64 (n : Int)]))).get h1.next = some (.cells false [.int .i64 p, .int .i64 (n : Int)]) := H.get_set_same ..
  have nB0 : ((h1.new (.cells false [.int .i64 0, .int .i64 0])).set h1.next (some (.cells false [.int .i64 p, .int .i64 (n : Int)]))).next = h1.next + 1 := by rw [H.next_set, H.next_new]
  replace hc := hc.mono fB0
  generalize (h1.new (.cells false [.int .i64 0, .int .i64 0])).set h1.next (some (.cells false [.int .i64 p, .int .i64 (n : Int)])) = h2 at *
  obtain ⟨bS, hbS⟩ : ∃ bS, h1.next = bS := ⟨_, rfl⟩
  rw [hbS] at gB0 nB0
  rw [hbS]
  clear fB0 st rS hgs hfs hns
  have vc := SV.what hc
  have hbl : bldV [.nils, .int .i64 0] [(0, 1, vl)] = some (.agg [vl, .int .i64 0]) := bldV_fst (z1 := .nils) (z2 := .int .i64 0) (v := vl) vc.1 vc.2.1
  have hbo := fun hh => boxV_agg2 hh (v := vl) (u := .int .i64 0) vc.2.1 rfl
  have eh2 : h2.next = bS + 1 := nB0
  have s0 : h2.cell bS 0 = some (.int .i64 p) := by rw [H.cell_of gB0]; rfl
  have s1 : h2.cell bS 1 = some (.int .i64 (n : Int)) := by rw [H.cell_of gB0]; rfl
  simp (disch := first | omega | (simp only [Qn] <;> omega)) only [go_sem, hbl, hbo, s0, s1, eqV_int]
  have hfx : Fr h2 (h2.new (.cells false [vl, .int .i64 0])) := (Fr.refl h2).new _
  have hgx : (h2.new (.cells false [vl, .int .i64 0])).get h2.next = some (.cells false [vl, .int .i64 0]) := H.get_new_same ..
  have hnx : (h2.new (.cells false [vl, .int .i64 0])).next = h2.next + 1 := H.next_new ..
  generalize h2.new (.cells false [vl, .int .i64 0]) = hx at *
  have ht : Tk hx h2.next l := ⟨vl, 0, hgx, hc.mono hfx, fun id off len c e => by
    rcases hc with ⟨h0 | ⟨_, h0⟩, _⟩ | ⟨_, _, _, _, _, _, h0, _, h3, _⟩
    · rw [h0] at e; cases e
    · rw [h0] at e; cases e
    · rw [h0] at e; cases e; exact h3, Nat.zero_le _, by omega⟩
  have htid : h2.next < hx.next := by omega
  have gS : hx.get bS = some (.cells false [.int .i64 p, .int .i64 (n : Int)]) := (hfx.get bS (by omega)).trans gB0
  have lS : bS < h2.next := by omega
  clear hfx hgx hbl hbo hc vc gB0 nB0 eh2 s0 s1
  generalize h2.next = tid at *
  -- the two matrices are drawn
  have fb : Fr hx (H.mk hx.tr (tid + 1 + 16)) := (Fr.refl hx).bump (by omega)
  have nb : (H.mk hx.tr (tid + 1 + 16)).next = tid + 1 + 16 := rfl
  refine (drawn_ok tid l n p _ (ht.mono fb) hl (by omega) (by omega)).mono ?_
  rintro v k0 ⟨A, iA, ⟨uA, wsA, rfl, RA⟩, ht0, f0⟩
  have n0 := f0.next
  have gS0 : k0.get bS = some (.cells false [.int .i64 p, .int .i64 (n : Int)]) := (f0.get bS (by omega) (by omega)).trans gS
  have s0c : k0.cell bS 0 = some (.int .i64 p) := by rw [H.cell_of gS0]; rfl
  have s1c : k0.cell bS 1 = some (.int .i64 (n : Int)) := by rw [H.cell_of gS0]; rfl
  simp (disch := first | omega | (simp only [Qn] <;> omega)) only [go_sem, s0c, s1c, eqV_int]
  refine (drawn_ok tid l n p _ ht0 hl (by omega) (by omega)).mono ?_
  rintro v k1 ⟨B, iB, ⟨uB, wsB, rfl, RB⟩, ht1, f1⟩
  have n1 := f1.next
  have gS1 : k1.get bS = some (.cells false [.int .i64 p, .int .i64 (n : Int)]) := (f1.get bS (by omega) (by omega)).trans gS0
  obtain ⟨bA, hbA⟩ : ∃ b, tid + 1 + 12 = b := ⟨_, rfl⟩
  obtain ⟨bB, hbB⟩ : ∃ b, tid + 1 + 13 = b := ⟨_, rfl⟩
  have RA1 := Rws.fx RA (by omega : tid < _) f1
  have vA := SV.what RA.own.sv
  have vB := SV.what RB.own.sv
  have stA := fun hh id => stV_agg2 hh id 0 (v := .int .i64 p) (u := uA) rfl vA.2.1
  have stB := fun hh id => stV_agg2 hh id 0 (v := .int .i64 p) (u := uB) rfl vB.2.1
  have neAB : bA ≠ bB := by omega
  have neBA : bB ≠ bA := by omega
  simp (disch := first | omega | (simp only [Qn] <;> omega)) only [go_sem, litV_eq]
  rw [hbA, hbB]
  have qa := litV_get k1 bA [.int .i64 0, .nils] k1.next
  obtain ⟨kA, hkA⟩ : ∃ kA, litV k1 bA [.int .i64 0, .nils] k1.next = kA := ⟨_, rfl⟩
  rw [hkA] at qa
  rw [hkA]
  have FA : Fx bA k1 kA := by rw [← hkA]; exact ⟨Nat.le_refl _, fun id hid hne => litV_ne k1 _ _ hne⟩
  have qb := litV_get kA bB [.int .i64 0, .nils] k1.next
  obtain ⟨kB, hkB⟩ : ∃ kB, litV kA bB [.int .i64 0, .nils] k1.next = kB := ⟨_, rfl⟩
  rw [hkB] at qb
  rw [hkB]
  have nkA : kA.next = k1.next := by rw [← hkA]; rfl
  have nkB : kB.next = k1.next := by rw [← hkB]; rfl
  have FB : Fx bB kA kB := by rw [← hkB]; exact ⟨by rw [nkA]; exact Nat.le_refl _, fun id hid hne => litV_ne kA _ _ hne⟩
  have qa' : kB.get bA = some (.cells false [.int .i64 0, .nils]) := (FB.get bA (by omega) neAB).trans qa
  have SA := Rws.fx (Rws.fx RA1 (by omega : bA < _) FA) (by omega : bB < _) FB
  have SB := Rws.fx (Rws.fx RB (by omega : bA < _) FA) (by omega : bB < _) FB
  have gS2 : kB.get bS = some (.cells false [.int .i64 p, .int .i64 (n : Int)]) := (FB.get bS (by omega) (by omega)).trans ((FA.get bS (by omega) (by omega)).trans gS1)
  simp (disch := first | omega | (simp only [Qn] <;> omega)) only [go_sem, stA, stB, qa', qb]
  have b_A : MB ((kB.set bA (some (.cells false [.int .i64 p, uA]))).set bB (some (.cells false [.int .i64 p, uB]))) bA (p, mkR n n A) := ⟨uA, by rw [H.get_set_ne _ neAB]; exact H.get_set_same .., ((SA.set (by omega) _).set (by omega) _).sr, by show bA < kB.next; omega⟩
  have b_B : MB ((kB.set bA (some (.cells false [.int .i64 p, uA]))).set bB (some (.cells false [.int .i64 p, uB]))) bB (p, mkR n n B) := ⟨uB, H.get_set_same .., ((SB.set (by omega) _).set (by omega) _).sr, by show bB < kB.next; omega⟩
  have b_S : Bk ((kB.set bA (some (.cells false [.int .i64 p, uA]))).set bB (some (.cells false [.int .i64 p, uB]))) bS 2 (fun i => if i = 0 then p else (n : Int)) := by
    rw [Bk, H.get_set_ne _ (by omega), H.get_set_ne _ (by omega), gS2]; rfl
  have lS2 : bS < ((kB.set bA (some (.cells false [.int .i64 p, uA]))).set bB (some (.cells false [.int .i64 p, uB]))).next := by show bS < kB.next; omega
  clear qa qa' qb hkA hkB FA FB SA SB gS2 gS1 gS0 gS stA stB vA vB RA RA1 RB ht ht0 ht1 f0 f1 n0 n1 s0c s1c nkA nkB fb nb hnx
  generalize (kB.set bA (some (.cells false [.int .i64 p, uA]))).set bB (some (.cells false [.int .i64 p, uB])) = kz at *
  clear htid lS hbA hbB neAB neBA

  obtain ⟨a0, r0, q0⟩ := b_A.row
  obtain ⟨a1, r1, q1⟩ := b_B.row
  simp (disch := first | omega | (simp only [Qn] <;> omega)) only [go_sem, r0, r1]
  refine (Mul_ok _ _ (p, mkR n n A) (p, mkR n n B) _ q0 q1 (s.la _) (s.la _)).mono ?_
  rintro v h20 ⟨w, rfl, ⟨u0, ws0, rfl, R0⟩, f0⟩
  have eq := s.mul iA iB
  rw [eq] at R0
  rw [eq]
  have st := fun hh id => stV_agg2 hh id 0 (v := .int .i64 p) (u := u0) rfl (SV.what R0.own.sv).2.1
  simp (disch := first | omega | (simp only [Qn] <;> omega)) only [go_sem, st, bxH_eq, List.getElem?_cons_zero, List.getElem?_cons_succ]
  have fx := f0.trans (bxH_fr h20 p u0)
  replace b_A := b_A.mono fx
  replace b_B := b_B.mono fx
  replace b_S := b_S.fr fx lS2
  replace lS2 := Nat.lt_of_lt_of_le lS2 (fx).next
  have b_ab := MB.new (h := h20) (p := p) R0.sr
  have iab : InP p n (mmP p n A B) := s.mm A B
  clear fx st eq f0 R0
  generalize bxH h20 p u0 = k10 at *
  generalize h20.next = j0 at *
  obtain ⟨a0, r0, q0⟩ := b_A.row
  simp (disch := first | omega | (simp only [Qn] <;> omega)) only [go_sem, r0]
  refine (Perm_ok _ (p, mkR n n A) _ q0 (s.la _)).mono ?_
  rintro v h21 ⟨zp, rfl, sp, f0⟩
  replace b_A := b_A.mono f0
  replace b_B := b_B.mono f0
  replace b_ab := b_ab.mono f0
  replace b_S := b_S.fr f0 lS2
  replace lS2 := Nat.lt_of_lt_of_le lS2 (f0).next
  clear f0
  simp (disch := first | omega | (simp only [Qn] <;> omega)) only [go_sem, List.getElem?_cons_zero, List.getElem?_cons_succ]
  obtain ⟨a0, r0, q0⟩ := b_B.row
  simp (disch := first | omega | (simp only [Qn] <;> omega)) only [go_sem, r0]
  refine (Perm_ok _ (p, mkR n n B) _ q0 (s.la _)).mono ?_
  rintro v h22 ⟨zq, rfl, sq, f0⟩
  replace b_A := b_A.mono f0
  replace b_B := b_B.mono f0
  replace b_ab := b_ab.mono f0
  replace sp := sp.mono f0
  replace b_S := b_S.fr f0 lS2
  replace lS2 := Nat.lt_of_lt_of_le lS2 (f0).next
  clear f0
  simp (disch := first | omega | (simp only [Qn] <;> omega)) only [go_sem, List.getElem?_cons_zero, List.getElem?_cons_succ]
  obtain ⟨a0, r0, q0⟩ := b_ab.row
  simp (disch := first | omega | (simp only [Qn] <;> omega)) only [go_sem, r0]
  refine (Perm_ok _ (p, mkR n n (mmP p n A B)) _ q0 (s.la _)).mono ?_
  rintro v h23 ⟨zw, rfl, sw, f0⟩
  replace b_A := b_A.mono f0
  replace b_B := b_B.mono f0
  replace b_ab := b_ab.mono f0
  replace sp := sp.mono f0
  replace sq := sq.mono f0
  replace b_S := b_S.fr f0 lS2
  replace lS2 := Nat.lt_of_lt_of_le lS2 (f0).next
  clear f0
  simp (disch := first | omega | (simp only [Qn] <;> omega)) only [go_sem, List.getElem?_cons_zero, List.getElem?_cons_succ]
  obtain ⟨a0, r0, q0⟩ := b_A.row
  simp (disch := first | omega | (simp only [Qn] <;> omega)) only [go_sem, r0]
  refine (Det_ok _ (p, mkR n n A) _ q0 (s.la _)).mono ?_
  rintro v h24 ⟨rfl, f0⟩
  rw [s.det iA]
  replace b_A := b_A.mono f0
  replace b_B := b_B.mono f0
  replace b_ab := b_ab.mono f0
  replace sp := sp.mono f0
  replace sq := sq.mono f0
  replace sw := sw.mono f0
  replace b_S := b_S.fr f0 lS2
  replace lS2 := Nat.lt_of_lt_of_le lS2 (f0).next
  clear f0
  simp (disch := first | omega | (simp only [Qn] <;> omega)) only [go_sem, List.getElem?_cons_zero, List.getElem?_cons_succ]
  have dm : Ay.det n (mmP p n A B) % p = (Ay.det n A % p) * (Ay.det n B % p) % p := by
    rw [det_mod (Em.mm p n A B), det_mul, Int.mul_emod]
  have z1 : decide ((0 : Int) ≠ 0) = false := by decide
  have z2 : decide ((0 : Int) = 0) = true := by decide
  have z3 : decide ((15 : Int) = 0) = false := by decide
  have z4 : decide ((15 : Int) ≠ 0) = true := by decide
  have z5 : decide ((15 : Int) = 15) = true := by decide
  have z7 : (true == true) = true := rfl
  have z8 : (false == false) = true := rfl
  have z9 : (true == false) = false := rfl
  have z6 : decide ((0 : Int) = 15) = false := by decide
  rcases s.perm iA h64 with ⟨dA, eA⟩ | ⟨dA, eA⟩
  · rcases s.perm (s.mm A B) h64 with ⟨dW, eW⟩ | ⟨dW, eW⟩
    · rw [eA, eW, dA]
      simp (disch := first | omega | (simp only [Qn] <;> omega)) only [go_sem, z1, z2, z3, z4, z5, z6, decide_true, z7, z8, z9, Bool.not_true, Bool.not_false]
    · exact absurd (by rw [dm, dA, Int.zero_mul, Int.zero_emod]) dW
  rcases s.perm iB h64 with ⟨dB, eB⟩ | ⟨dB, eB⟩
  · rcases s.perm (s.mm A B) h64 with ⟨dW, eW⟩ | ⟨dW, eW⟩
    · rw [eA, eW, eB]
      simp (disch := first | omega | (simp only [Qn] <;> omega)) only [go_sem, z1, z2, z3, z4, z5, z6, decide_true, z7, z8, z9, Bool.not_true, Bool.not_false, decide_eq_false dA]
    · exact absurd (by rw [dm, dB, Int.mul_zero, Int.zero_emod]) dW
  rcases s.perm (s.mm A B) h64 with ⟨dW, eW⟩ | ⟨dW, eW⟩
  · exfalso
    obtain ⟨m, rfl⟩ : ∃ m, n = m + 1 := ⟨n - 1, by omega⟩
    obtain ⟨X, hX⟩ := inv_ex s.isP dA
    obtain ⟨Y, hY⟩ := inv_ex s.isP dB
    have d1 := hX.det
    have d2 := hY.det
    have : (1 : Int) % p = 0 := by
      have e : (Ay.det (m + 1) X * Ay.det (m + 1) A) * (Ay.det (m + 1) Y * Ay.det (m + 1) B) % p = 1 % p := by rw [Int.mul_emod, d1, d2, ← Int.mul_emod, Int.one_mul]
      rw [← e, show (Ay.det (m + 1) X * Ay.det (m + 1) A) * (Ay.det (m + 1) Y * Ay.det (m + 1) B) = (Ay.det (m + 1) X * Ay.det (m + 1) Y) * (Ay.det (m + 1) A * Ay.det (m + 1) B) by grind, Int.mul_emod, Int.mul_emod (Ay.det (m + 1) A), ← dm, dW, Int.mul_zero, Int.zero_emod]
    rw [one_mod (by omega)] at this
    omega
  rw [eA] at sp
  rw [eB] at sq
  rw [eW] at sw
  rw [eA, eB, eW]
  simp (disch := first | omega | (simp only [Qn] <;> omega)) only [go_sem, z1, z2, z3, z4, z5, z6, decide_true, z7, z8, z9, Bool.not_true, Bool.not_false, decide_eq_false dA]
  have s0 : h24.cell bS 0 = some (.int .i64 p) := b_S.cell (i := 0) (by omega)
  have s1 : h24.cell bS 1 = some (.int .i64 (n : Int)) := b_S.cell (i := 1) (by omega)
  refine Wp_loop (fun k' vars hh => hh = h24 ∧ ∃ (i : Nat) (q : Int), (∃ g : Nat → V, vars = [g 0, g 1, .bool false, .ptr bS 0, g 4, .ptr bA 0, g 6, g 7, g 8, zp, g 10, zq, g 12, zw, g 14, g 15, g 16, .int .i64 q, .int .i64 (i : Int), g 19, g 20, g 21, g 22, g 23, g 24, g 25, g 26, g 27, g 28, g 29, g 30]) ∧ q = p ^ i ∧ i ≤ n ∧ q ≤ 64 ∧ k' = n - i) n
    ⟨rfl, 0, 1, ex_junk rfl, (Int.pow_zero _).symm, Nat.zero_le _, by omega, rfl⟩ ?_
  rintro k' vars hh ⟨rfl, i, q, ⟨g, rfl⟩, hq, hi, hq64, rfl⟩
  have q1 := pw_pos (p := p) (by omega) i
  rw [← hq] at q1
  simp (disch := first | omega | (simp only [Qn] <;> omega)) only [go_sem, s1]
  by_cases hlt : (i : Int) < (n : Int)
  · rw [decide_eq_true hlt]
    have b1 := Int.mul_nonneg (show 0 ≤ q by omega) (show 0 ≤ p by omega)
    have b2 := Int.mul_le_mul (show q ≤ 64 by omega) (show p ≤ 10000 by omega) (by omega) (by omega)
    have hq2 : q * p = p ^ (i + 1) := by rw [Int.pow_succ, hq]
    have hm := pw_mono (p := p) (by omega) (show i + 1 ≤ n by omega)
    simp (disch := first | omega | (simp only [Qn] <;> omega)) only [go_sem, s0]
    rw [show (i : Int) + 1 = ((i + 1 : Nat) : Int) from by omega]
    exact ⟨n - (i + 1), by omega, i + 1, _, ex_junk rfl, hq2, by omega, by omega, rfl⟩
  rw [decide_eq_false hlt]
  obtain rfl : n = i := by omega
  obtain ⟨N, hN⟩ : ∃ N : Nat, q = (N : Int) := ⟨q.toNat, by omega⟩
  subst hN
  have eN : (p ^ n).toNat = N := by omega
  simp only [eN] at sp sq sw
  clear s0 s1 hlt hi
  obtain ⟨X, hX, iX, eX⟩ : ∃ X, IsInv p n A X ∧ InP p n X ∧ InvF (p, mkR n n A) = ((p, mkR n n X), 0) := by
    rcases s.inv iA with ⟨d, _⟩ | ⟨_, X, hX, iX, eX⟩
    · exact absurd d dA
    · exact ⟨X, hX, iX, eX⟩
  obtain ⟨Y, hY⟩ : ∃ Y, IsInv p n B Y := by
    rcases s.inv iB with ⟨d, _⟩ | ⟨_, Y, hY, _⟩
    · exact absurd d dB
    · exact ⟨Y, hY⟩
  have rg : ∀ C : Mx, ∀ i, i < N → 0 ≤ pe p n C i ∧ pe p n C i < N := fun C i _ => by
    have := pe_range (p := p) (n := n) (A := C) (k := i) (by omega)
    omega
  have hN64 : N ≤ 64 := by omega
  simp (disch := first | omega | (simp only [Qn] <;> omega)) only [go_sem]
  refine (fine_ok zp N (pe p n A) hh (by omega) sp (rg A) (fun i j hi hj e => pe_inj (by omega) hX (by omega) (by omega) e)).mono ?_
  rintro v h25 ⟨rfl, f0⟩
  replace b_A := b_A.mono f0
  replace b_B := b_B.mono f0
  replace b_ab := b_ab.mono f0
  replace sp := sp.mono f0
  replace sq := sq.mono f0
  replace sw := sw.mono f0
  replace b_S := b_S.fr f0 lS2
  replace lS2 := Nat.lt_of_lt_of_le lS2 (f0).next
  clear f0
  simp (disch := first | omega | (simp only [Qn] <;> omega)) only [go_sem, Bool.not_true]
  refine (fine_ok zq N (pe p n B) h25 (by omega) sq (rg B) (fun i j hi hj e => pe_inj (by omega) hY (by omega) (by omega) e)).mono ?_
  rintro v h26 ⟨rfl, f0⟩
  replace b_A := b_A.mono f0
  replace b_B := b_B.mono f0
  replace b_ab := b_ab.mono f0
  replace sp := sp.mono f0
  replace sq := sq.mono f0
  replace sw := sw.mono f0
  replace b_S := b_S.fr f0 lS2
  replace lS2 := Nat.lt_of_lt_of_le lS2 (f0).next
  clear f0
  simp (disch := first | omega | (simp only [Qn] <;> omega)) only [go_sem, Bool.not_true]
  refine (kmul_ok zp zq N N (pe p n A) (pe p n B) h26 (by omega) sp sq (rg A)).mono ?_
  rintro v h27 ⟨sm, f0⟩
  rw [mkV_congr (g := pe p n (mmP p n A B)) fun i hi => pe_mul (by omega) (by have := rg A i hi; omega)] at sm
  replace b_A := b_A.mono f0
  replace b_B := b_B.mono f0
  replace b_ab := b_ab.mono f0
  replace sp := sp.mono f0
  replace sq := sq.mono f0
  replace sw := sw.mono f0
  replace b_S := b_S.fr f0 lS2
  replace lS2 := Nat.lt_of_lt_of_le lS2 (f0).next
  clear f0
  simp (disch := first | omega | (simp only [Qn] <;> omega)) only [go_sem]
  refine (same_ok _ _ (mkV N (pe p n (mmP p n A B))) (mkV N (pe p n (mmP p n A B))) h27 sm sw (by rw [mkV_len]; omega) (by rw [mkV_len]; omega)).mono ?_
  rintro v h28 ⟨rfl, f0⟩
  clear sm
  replace b_A := b_A.mono f0
  replace b_B := b_B.mono f0
  replace b_ab := b_ab.mono f0
  replace sp := sp.mono f0
  replace sq := sq.mono f0
  replace sw := sw.mono f0
  replace b_S := b_S.fr f0 lS2
  replace lS2 := Nat.lt_of_lt_of_le lS2 (f0).next
  clear f0
  have hN1 : 0 < N := by omega
  obtain ⟨idp, offp, shp, hidp, hcp⟩ := sp.open
  rw [mkV_len] at shp hidp hcp
  have c0 : h28.cell idp offp = some (.int .i64 0) := by
    have := hcp 0 hN1
    rw [mkV_get _ hN1, pe_zero (by omega)] at this
    exact this
  have ix0 : ∀ k : IntKind, ixaV 1 zp (.int k 0) = some (.ptr idp offp) := fun k => shp.ixa (k := k) (i := 0) (by omega) (by omega)
  simp (disch := first | omega | (simp only [Qn] <;> omega)) only [go_sem, decide_true, Bool.not_true, ix0, c0, z1]
  clear c0 ix0 shp hidp hcp
  obtain ⟨e, e1, e2, eO, eI, eM⟩ := s.order iA eX h64 hX
  obtain ⟨a0, r0, q0⟩ := b_A.row
  simp (disch := first | omega | (simp only [Qn] <;> omega)) only [go_sem, r0]
  refine (Order_ok _ (p, mkR n n A) _ q0 (s.la _)).mono ?_
  rintro v h29 ⟨rfl, f0⟩
  rw [eO]
  replace b_A := b_A.mono f0
  replace b_B := b_B.mono f0
  replace b_ab := b_ab.mono f0
  replace sp := sp.mono f0
  replace sq := sq.mono f0
  replace sw := sw.mono f0
  replace b_S := b_S.fr f0 lS2
  replace lS2 := Nat.lt_of_lt_of_le lS2 (f0).next
  clear f0
  simp (disch := first | omega | (simp only [Qn] <;> omega)) only [go_sem, List.getElem?_cons_zero, List.getElem?_cons_succ]
  refine (kone_ok N h29 (by omega)).mono ?_
  rintro v h30 ⟨s1, f0⟩
  replace b_A := b_A.mono f0
  replace b_B := b_B.mono f0
  replace b_ab := b_ab.mono f0
  replace sp := sp.mono f0
  replace sq := sq.mono f0
  replace sw := sw.mono f0
  replace b_S := b_S.fr f0 lS2
  replace lS2 := Nat.lt_of_lt_of_le lS2 (f0).next
  clear f0
  have s1' : SI h30 v (mkV N (pe p n (pwM n A 0))) := by
    have e0 : (mkV N fun i => (i : Int)) = mkV N (pe p n (pwM n A 0)) := mkV_congr fun i hi => (pe_id (by omega) (Em.refl p n idM) (by omega)).symm
    rw [← e0]
    exact s1
  clear s1 sq sw
  simp (disch := first | omega | (simp only [Qn] <;> omega)) only [go_sem]
  refine Wp_loop (fun k' vars hh => ∃ (j : Nat) (x : V), (∃ g : Nat → V, vars = [g 0, g 1, .bool false, g 3, g 4, g 5, g 6, g 7, g 8, zp, g 10, g 11, g 12, g 13, g 14, g 15, g 16, .int .i64 (N : Int), g 18, .int .i64 (e : Int), .int .i64 0, x, .int .i64 ((j + 1 : Nat) : Int), g 23, g 24, g 25, g 26, g 27, g 28, g 29, g 30]) ∧ j ≤ e ∧ SI hh zp (mkV N (pe p n A)) ∧ SI hh x (mkV N (pe p n (pwM n A j))) ∧ k' = e - j) e
    ⟨0, _, ex_junk rfl, Nat.zero_le _, sp, s1', rfl⟩ ?_
  clear sp s1'
  rintro k' vars h31 ⟨j, x, ⟨g, rfl⟩, hj, sp, sx, rfl⟩
  simp (disch := first | omega | (simp only [Qn] <;> omega)) only [go_sem, decide_true, z2]
  by_cases hje : ((j + 1 : Nat) : Int) ≤ (e : Int)
  · rw [decide_eq_true hje]
    simp (disch := first | omega | (simp only [Qn] <;> omega)) only [go_sem]
    refine (kmul_ok x zp N N (pe p n (pwM n A j)) (pe p n A) h31 (by omega) sx sp (rg _)).mono ?_
    rintro w h32 ⟨sm, f0⟩
    rw [mkV_congr (g := pe p n (pwM n A (j + 1))) fun i hi => (pe_mul (by omega) (by have := rg (pwM n A j) i hi; omega)).trans (pe_congr ((Em.mm p n _ _).trans (pw_last p n A j)))] at sm
    replace sp := sp.mono f0
    clear f0
    simp (disch := first | omega | (simp only [Qn] <;> omega)) only [go_sem]
    refine (kone_ok N h32 (by omega)).mono ?_
    rintro w1 h33 ⟨so, f0⟩
    replace sp := sp.mono f0
    replace sm := sm.mono f0
    clear f0
    simp (disch := first | omega | (simp only [Qn] <;> omega)) only [go_sem]
    refine (same_ok _ _ (mkV N (pe p n (pwM n A (j + 1)))) (mkV N fun i => (i : Int)) h33 sm so (by rw [mkV_len]; omega) (by rw [mkV_len]; omega)).mono ?_
    rintro w2 h34 ⟨rfl, f0⟩
    replace sp := sp.mono f0
    replace sm := sm.mono f0
    clear f0 so
    have key : decide (mkV N (pe p n (pwM n A (j + 1))) = mkV N fun i => (i : Int)) = decide (((j + 1 : Nat) : Int) = (e : Int)) := by
      rw [decide_eq_decide]
      constructor
      · intro q
        have u : Em p n (pwM n A (j + 1)) idM := pe_unit (by omega) fun k hk => by
          have := congrArg (fun l => l.getD k 0) q
          rwa [mkV_get _ (by omega), mkV_get _ (by omega)] at this
        have : ¬ j + 1 < e := fun h => eM (j + 1) (by omega) h u
        omega
      · intro q
        have : j + 1 = e := by omega
        rw [this]
        exact mkV_congr fun i hi => pe_id (by omega) eI (by omega)
    rw [key]
    have bb : ∀ b : Bool, (b == b) = true := fun b => by cases b <;> rfl
    simp (disch := first | omega | (simp only [Qn] <;> omega)) only [go_sem, bb, Bool.not_true]
    rw [show ((j + 1 : Nat) : Int) + 1 = ((j + 1 + 1 : Nat) : Int) from by omega]
    exact ⟨e - (j + 1), by omega, j + 1, _, ex_junk rfl, by omega, sp, sm, rfl⟩
  rw [decide_eq_false hje]
  simp (disch := first | omega | (simp only [Qn] <;> omega)) only [go_sem, z2, decide_true]
end Go.Proofs.Ytonhijbeddcmpaa

