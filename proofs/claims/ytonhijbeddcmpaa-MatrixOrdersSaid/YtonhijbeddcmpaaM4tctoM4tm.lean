/- Layer 4: the reference's Poly. Layer 4: powers. Layer 4: determinants, inverses and powers of valid square matrices. Layer 4: what MatrixPoly needs. Layer 4: the reference's Det. Layer 4: the reference's size. Layer 4: rows in places, appended one by one. Layer 4: the reference's Inv. Layer 4: the reference's Pow. Layer 4: the reference's Order. Layer 4: the permutation of the vectors. Layer 4: the reference's permutation of the vectors. Layer 4: what is too large. The law MatrixCalls, walked. The law MatrixValues, walked. The law MatrixOrders, walked. -/
import Derived.Test.YtonhijbeddcmpaaM4rftoDt9
import Derived.Test.YtonhijbeddcmpaaAy34
/- Layer 4: the reference's Poly.
-/
namespace Go.Proofs.Ytonhijbeddcmpaa
open Go Go.Ay
set_option maxRecDepth 100000
/-- A matrix that came in. -/
def MatK (h : H) (v : V) (a : Mat) : Prop := ∃ u, v = .agg [.int .i64 a.1, u] ∧ SRk h u a.2
end Go.Proofs.Ytonhijbeddcmpaa

/- Layer 4: powers. -/
namespace Go.Proofs.Ytonhijbeddcmpaa
open Go Go.Ay
set_option maxRecDepth 100000
def pwG (n : Nat) : Nat → Mat → Mat → Nat → Mat
  | 0, out, _, _ => out
  | f + 1, out, x, left => if left = 0 then out else pwG n f (if left % 2 = 1 then mulF out x n n else out) (mulF x x n n) (left / 2)
/-- A slice in no block of the list. -/
def Away (bad : List Nat) (v : V) : Prop := ∀ id off n c, v = .sl id off n c → id ∉ bad
/-- Rows in no block of the list. -/
def SRa (h : H) (u : V) (ll : List (List Int)) (bad : List Nat) : Prop := ∃ ws, SV h u 1 ws ∧ All2 (SI h) ws ll ∧ Away bad u ∧ ∀ w ∈ ws, Away bad w
theorem SRa.sr {h : H} {u : V} {ll : List (List Int)} {bad : List Nat} (s : SRa h u ll bad) : SR h u ll := by
  obtain ⟨ws, h1, h2, _⟩ := s; exact ⟨ws, h1, h2⟩
theorem SRa.fr {h h' : H} {u : V} {ll : List (List Int)} {bad : List Nat} (s : SRa h u ll bad) (f : Fr h h') : SRa h' u ll bad := by
  obtain ⟨ws, h1, h2, h3, h4⟩ := s
  exact ⟨ws, h1.mono f, h2.mono fun _ _ x => x.mono f, h3, h4⟩
theorem SRa.set {h : H} {u : V} {ll : List (List Int)} {bad : List Nat} (s : SRa h u ll bad) {x : Nat} (hx : x ∈ bad) (o : Option Ob) : SRa (h.set x o) u ll bad := by
  obtain ⟨ws, h1, h2, h3, h4⟩ := s
  refine ⟨ws, ?_, All2.keep h2 fun w hw _ q => SI.keep q (Nat.le_refl _) fun id off n c e => H.get_set_ne h (fun e2 => h4 w hw _ _ _ _ e (by rw [e2]; exact hx)) o, h3, h4⟩
  rcases h1 with h1 | ⟨id, off, len, cap, ro, vs, q1, q2, q3, q4, q5, q6⟩
  · exact .inl h1
  · exact .inr ⟨id, off, len, cap, ro, vs, q1, q2, q3, by rw [H.get_set_ne h (fun e2 => h3 _ _ _ _ q1 (by rw [e2]; exact hx))]; exact q4, q5, q6⟩
theorem SV.lt {h : H} {v : V} {sz : Nat} {ws : List V} (s : SV h v sz ws) {id off n : Nat} {c : Cap} (e : v = .sl id off n c) : id < h.next := by
  rcases s with ⟨h1 | ⟨_, h1⟩, _⟩ | ⟨id', o', l', c', _, _, h1, _, h3, _⟩
  · rw [h1] at e; cases e
  · rw [h1] at e; cases e
  · rw [h1] at e; cases e; exact h3
theorem all2_lt {h : H} {ws : List V} {ll : List (List Int)} (a : All2 (SI h) ws ll) {w : V} (hw : w ∈ ws) {id off n : Nat} {c : Cap} (e : w = .sl id off n c) : id < h.next := by
  obtain ⟨i, hi, rfl⟩ := List.mem_iff_getElem.1 hw
  exact SI.lt (a.get i hi (by rw [← a.length]; exact hi)) e
/-- From of old. -/
theorem SRa.old {h : H} {u : V} {ll : List (List Int)} {bad : List Nat} (s : SR h u ll) (hb : ∀ b ∈ bad, h.next ≤ b) : SRa h u ll bad := by
  obtain ⟨ws, h1, h2⟩ := s
  exact ⟨ws, h1, h2, fun id off n c e hm => by have := SV.lt h1 e; have := hb id hm; omega, fun w hw id off n c e hm => by have := all2_lt h2 hw e; have := hb id hm; omega⟩
/-- New. -/
theorem SRa.new {h : H} {u : V} {ws : List V} {ll : List (List Int)} {lo : Nat} {bad : List Nat} (r : Rws h u ws ll lo) (hb : ∀ b ∈ bad, b < lo ∨ h.next ≤ b) : SRa h u ll bad :=
  ⟨ws, r.own.sv, r.row, fun id off n c e hm => by
    have := SV.lt r.own.sv e
    have := Frs.own r.own _ _ _ _ e
    have := hb id hm; omega, fun w hw id off n c e hm => by
    have := all2_lt r.row hw e
    have := r.frs w hw _ _ _ _ e
    have := hb id hm; omega⟩
structure PI0 (p : Int) (n : Nat) (rc : LRec) (L6 O9 XB LID A3 : Nat) (base : H) (left : Nat) (out x : Mat) (uo ux : V) (hh : H) : Prop where
  gL : hh.get LID = some (.loop rc)
  g6 : hh.get L6 = some (.cells false [.int .u64 (left : Int)])
  g9 : hh.get O9 = some (.cells false [.int .i64 p, uo])
  gX : hh.get XB = some (.cells false [.int .i64 p, ux])
  so : SRa hh uo out.2 [L6, O9, XB, LID, A3]
  sx : SRa hh ux x.2 [L6, O9, XB, LID, A3]
  o1 : out.1 = p
  x1 : x.1 = p
  vo : Vd out n
  vx : Vd x n
  lo : out.2.length = n
  lx : x.2.length = n
  lt : LID < hh.next
  fr : Fr base hh
theorem PI0.set {p : Int} {n : Nat} {rc : LRec} {L6 O9 XB LID A3 : Nat} {base : H} {left : Nat} {out x : Mat} {uo ux : V} {hh : H} (k : PI0 p n rc L6 O9 XB LID A3 base left out x uo ux hh) (hs : base.next ≤ L6 ∧ L6 < O9 ∧ O9 < XB ∧ XB < LID) (rc' : LRec) : PI0 p n rc' L6 O9 XB LID A3 base left out x uo ux (hh.set LID (some (.loop rc'))) :=
  ⟨H.get_set_same .., by rw [H.get_set_ne _ (by omega)]; exact k.g6, by rw [H.get_set_ne _ (by omega)]; exact k.g9, by rw [H.get_set_ne _ (by omega)]; exact k.gX, k.so.set (by simp) _, k.sx.set (by simp) _, k.o1, k.x1, k.vo, k.vx, k.lo, k.lx, k.lt, k.fr.set (by omega) _⟩
theorem SRa.ext {h : H} {u : V} {ll : List (List Int)} {bad bad' : List Nat} (s : SRa h u ll bad) (hb : ∀ b ∈ bad', b ∈ bad ∨ h.next ≤ b) : SRa h u ll bad' := by
  obtain ⟨ws, h1, h2, h3, h4⟩ := s
  refine ⟨ws, h1, h2, fun id off n c e hm => ?_, fun w hw id off n c e hm => ?_⟩
  · rcases hb id hm with q | q
    · exact h3 _ _ _ _ e q
    · have := SV.lt h1 e; omega
  · rcases hb id hm with q | q
    · exact h4 w hw _ _ _ _ e q
    · have := all2_lt h2 hw e; omega
theorem PI0.setX {p : Int} {n : Nat} {rc : LRec} {L6 O9 XB LID A3 : Nat} {base : H} {left : Nat} {out x x' : Mat} {uo ux ux' : V} {hh : H} (k : PI0 p n rc L6 O9 XB LID A3 base left out x uo ux hh) (hs : base.next ≤ L6 ∧ L6 < O9 ∧ O9 < XB ∧ XB < LID) (sx : SRa hh ux' x'.2 [L6, O9, XB, LID, A3]) (x1 : x'.1 = p) (vx : Vd x' n) (lx : x'.2.length = n) : PI0 p n rc L6 O9 XB LID A3 base left out x' uo ux' (hh.set XB (some (.cells false [.int .i64 p, ux']))) :=
  ⟨by rw [H.get_set_ne _ (by omega)]; exact k.gL, by rw [H.get_set_ne _ (by omega)]; exact k.g6, by rw [H.get_set_ne _ (by omega)]; exact k.g9, H.get_set_same .., k.so.set (by simp) _, sx.set (by simp) _, k.o1, x1, k.vo, vx, k.lo, lx, k.lt, k.fr.set (by omega) _⟩
theorem PI0.setL {p : Int} {n : Nat} {rc : LRec} {L6 O9 XB LID A3 : Nat} {base : H} {left : Nat} {out x : Mat} {uo ux : V} {hh : H} (k : PI0 p n rc L6 O9 XB LID A3 base left out x uo ux hh) (hs : base.next ≤ L6 ∧ L6 < O9 ∧ O9 < XB ∧ XB < LID) (left' : Nat) : PI0 p n rc L6 O9 XB LID A3 base left' out x uo ux (hh.set L6 (some (.cells false [.int .u64 (left' : Int)]))) :=
  ⟨by rw [H.get_set_ne _ (by omega)]; exact k.gL, H.get_set_same .., by rw [H.get_set_ne _ (by omega)]; exact k.g9, by rw [H.get_set_ne _ (by omega)]; exact k.gX, k.so.set (by simp) _, k.sx.set (by simp) _, k.o1, k.x1, k.vo, k.vx, k.lo, k.lx, k.lt, k.fr.set (by omega) _⟩
end Go.Proofs.Ytonhijbeddcmpaa

/- Layer 4: determinants, inverses and powers of valid square matrices. -/
namespace Go.Proofs.Ytonhijbeddcmpaa
open Go Go.Ay
set_option maxRecDepth 100000
theorem emm (p a : Int) : a % p % p = a % p := Int.emod_emod_of_dvd _ (Int.dvd_refl p)
/-- Congruent. -/
def Em (p : Int) (n : Nat) (A B : Mx) : Prop := ∀ i j, i < n → j < n → A i j % p = B i j % p
theorem Em.refl (p : Int) (n : Nat) (A : Mx) : Em p n A A := fun _ _ _ _ => rfl
theorem Em.symm {p : Int} {n : Nat} {A B : Mx} (h : Em p n A B) : Em p n B A := fun i j hi hj => (h i j hi hj).symm
theorem Em.trans {p : Int} {n : Nat} {A B C : Mx} (h : Em p n A B) (k : Em p n B C) : Em p n A C := fun i j hi hj => (h i j hi hj).trans (k i j hi hj)
theorem Em.mul {p : Int} {n : Nat} {A A' B B' : Mx} (h : Em p n A A') (k : Em p n B B') : Em p n (mulM n A B) (mulM n A' B') := fun i j hi hj => mulM_mod (fun l hl => h i l hi hl) (fun l hl => k l j hl hj)
theorem Em.of {p : Int} {n : Nat} {A B : Mx} (h : ∀ i j, i < n → j < n → A i j = B i j) : Em p n A B := fun i j hi hj => by rw [h i j hi hj]
theorem Em.assoc (p : Int) (n : Nat) (A B C : Mx) : Em p n (mulM n (mulM n A B) C) (mulM n A (mulM n B C)) := fun i j _ _ => by rw [mulM_assoc]
theorem Em.mm (p : Int) (n : Nat) (A B : Mx) : Em p n (mmP p n A B) (mulM n A B) := fun i j _ _ => emm p _
theorem Em.rows {p : Int} {n : Nat} {A B : Mx} (h : Em p n A B) (hA : InP p n A) (hB : InP p n B) : mkR n n A = mkR n n B := mkR_congr fun i k hi hk => by
  have := h i k hi hk
  rwa [Int.emod_eq_of_lt (hA i k hi hk).1 (hA i k hi hk).2, Int.emod_eq_of_lt (hB i k hi hk).1 (hB i k hi hk).2] at this
theorem Em.idl (p : Int) (n : Nat) (A : Mx) : Em p n (mulM n idM A) A := fun i j hi _ => by rw [id_mulM n A hi]
theorem Em.idr (p : Int) (n : Nat) (A : Mx) : Em p n (mulM n A idM) A := fun i j _ hj => by rw [mulM_id n A hj]
theorem pw_add (p : Int) (n : Nat) (A : Mx) (a b : Nat) : Em p n (mulM n (pwM n A a) (pwM n A b)) (pwM n A (a + b)) := by
  induction a with
  | zero => rw [Nat.zero_add]; exact Em.idl p n _
  | succ a ih =>
    rw [show a + 1 + b = (a + b) + 1 by omega]
    exact (Em.assoc p n A (pwM n A a) (pwM n A b)).trans ((Em.refl p n A).mul ih)
theorem Sq.mulF {p : Int} {n : Nat} (s : Sq p n) (A B : Mx) : mulF (p, mkR n n A) (p, mkR n n B) n n = (p, mkR n n (mmP p n A B)) := by
  simp only [Proofs.Ytonhijbeddcmpaa.mulF, mkR_len]
  rw [mkR_congr fun i k hi hk => ?_]
  refine congrArg (· % p) (sm_congr fun j hj => ?_)
  rw [mkR_ent _ hi hj, mkR_ent _ hj hk]
theorem Sq.pw {p : Int} {n : Nat} (s : Sq p n) (A : Mx) : ∀ f e t m (O B : Mx), InP p n O → InP p n B → Em p n O (pwM n A e) → Em p n B (pwM n A t) → m < 2 ^ f → pwG n f (p, mkR n n O) (p, mkR n n B) m = (p, mkR n n (fun i j => pwM n A (e + t * m) i j % p))
  | 0, e, t, m, O, B, hO, hB, eO, eB, hm => by
    have : m = 0 := by simp at hm; exact hm
    subst this
    rw [pwG, Nat.mul_zero, Nat.add_zero]
    congr 1
    exact Em.rows (eO.trans fun i j _ _ => (emm p _).symm) hO fun i j _ _ => tmod_range _ (by have := s.p; omega)
  | f + 1, e, t, m, O, B, hO, hB, eO, eB, hm => by
    have hp := s.p
    rw [pwG]
    by_cases h0 : m = 0
    · subst h0
      rw [if_pos rfl, Nat.mul_zero, Nat.add_zero]
      congr 1
      exact Em.rows (eO.trans fun i j _ _ => (emm p _).symm) hO fun i j _ _ => tmod_range _ (by omega)
    · rw [if_neg h0, s.mulF, s.mulF]
      have e2 : Em p n (mmP p n B B) (pwM n A (t + t)) := (Em.mm p n B B).trans ((eB.mul eB).trans (pw_add p n A t t))
      have hf : m / 2 < 2 ^ f := by rw [Nat.pow_succ] at hm; omega
      by_cases ho : m % 2 = 1
      · rw [if_pos ho]
        have e1 : Em p n (mmP p n O B) (pwM n A (e + t)) := (Em.mm p n O B).trans ((eO.mul eB).trans (pw_add p n A e t))
        rw [Sq.pw s A f (e + t) (t + t) (m / 2) _ _ (s.mm _ _) (s.mm _ _) e1 e2 hf]
        have : e + t + (t + t) * (m / 2) = e + t * m := by
          obtain ⟨q, hq⟩ : ∃ q, m = 2 * q + 1 := ⟨m / 2, by omega⟩
          subst hq
          rw [show (2 * q + 1) / 2 = q by omega]
          grind
        rw [this]
      · rw [if_neg ho]
        rw [Sq.pw s A f e (t + t) (m / 2) _ _ hO (s.mm _ _) eO e2 hf]
        have : e + (t + t) * (m / 2) = e + t * m := by
          obtain ⟨q, hq⟩ : ∃ q, m = 2 * q := ⟨m / 2, by omega⟩
          subst hq
          rw [show (2 * q) / 2 = q by omega]
          grind
        rw [this]
theorem Sq.sqF {p : Int} {n : Nat} (s : Sq p n) {A : Mx} (hA : InP p n A) : sqF (p, mkR n n A) = 0 := by
  rw [Proofs.Ytonhijbeddcmpaa.sqF, vd_check (s.vd hA), if_neg (by simp), if_neg (by simp only [mkR_len, len0 s.n1, ne_eq, not_true_eq_false, not_false_eq_true])]
theorem det_ent (n : Nat) (A : Mx) : det n (ent (mkR n n A)) = det n A := det_congr fun i j hi hj => mkR_ent _ hi hj
theorem Sq.det {p : Int} {n : Nat} (s : Sq p n) {A : Mx} (hA : InP p n A) : DetF (p, mkR n n A) = (Ay.det n A % p, 0) := by
  rw [DetF, s.sqF hA, if_neg (by simp)]
  simp only [mkR_len, det_ent]
theorem Sq.isP {p : Int} {n : Nat} (s : Sq p n) : isP p = true := by
  have := s.f
  simp only [fieldF, Bool.and_eq_true] at this; exact this.2
end Go.Proofs.Ytonhijbeddcmpaa

/- Layer 4: what MatrixPoly needs. -/
namespace Go.Proofs.Ytonhijbeddcmpaa
open Go Go.Ay
set_option maxRecDepth 100000
end Go.Proofs.Ytonhijbeddcmpaa

/- Layer 4: the reference's Det. -/
namespace Go.Proofs.Ytonhijbeddcmpaa
open Go Go.Ay
set_option maxRecDepth 100000
end Go.Proofs.Ytonhijbeddcmpaa

/- Layer 4: the reference's size. -/
namespace Go.Proofs.Ytonhijbeddcmpaa
open Go Go.Ay
set_option maxRecDepth 100000
end Go.Proofs.Ytonhijbeddcmpaa

/- Layer 4: rows in places, appended one by one. -/
namespace Go.Proofs.Ytonhijbeddcmpaa
open Go Go.Ay
set_option maxRecDepth 100000
def Gu (h : H) (u : V) (i c : Nat) (ρ : Nat → Nat) (κ : Nat → Cap) (τ : Nat → List V) (f : Nat → Nat → Int) (lo : Nat) : Prop :=
  (i = 0 ∧ u = .nils) ∨ ∃ R, u = .sl R 0 i (.un 1) ∧ Gc h R i c ρ κ τ f lo
section
variable {h h' : H} {u : V} {i c : Nat} {ρ : Nat → Nat} {κ : Nat → Cap} {τ : Nat → List V} {f : Nat → Nat → Int} {lo : Nat}
theorem Gu.own (g : Gu h u i c ρ κ τ f lo) : Own h u 1 ((List.range i).map fun j => V.sl (ρ j) 0 c (κ j)) lo := by
  rcases g with ⟨rfl, rfl⟩ | ⟨R, rfl, g⟩
  · exact .inl ⟨rfl, rfl⟩
  · exact .inr ⟨R, i, _, [], rfl, by simp, .inl rfl, g.hR, g.ltR, by rw [List.append_nil]; exact g.gR⟩
theorem Gu.fr (g : Gu h u i c ρ κ τ f lo) (F : Fr h h') : Gu h' u i c ρ κ τ f lo := by
  rcases g with g | ⟨R, e, g⟩
  · exact .inl g
  · exact .inr ⟨R, e, g.fr F⟩
theorem Gu.app (g : Gu h u i c ρ κ τ f lo) (hlo : lo ≤ h.next) (hi : i < 1000000) {y : V} {id : Nat} {cap : Cap} {rest : List V} (hy : SV h y 1 [.sl id 0 c cap]) (h1 : lo ≤ id) (h2 : id < h.next) (h3 : ∀ j, j < i → ρ j ≠ id) (h4 : Apart u id) (h5 : h.get id = some (.cells false (ints (mkV c (f i)) ++ rest))) :
    ∃ h', appP h 1 24 u y = some (.sl h.next 0 (i + 1) (.un 1), h') ∧ Gu h' (.sl h.next 0 (i + 1) (.un 1)) (i + 1) c (upN ρ i id) (upN κ i cap) (upN τ i rest) f lo ∧ h.next < h'.next ∧ (∀ k, k < h.next → Apart u k → h'.get k = h.get k) ∧ ∀ a, Fr a h → a.next ≤ lo → Fr a h' := by
  have o := g.own
  have hr : ∀ j, j < i → h.get (ρ j) = some (.cells false (ints (mkV c (f j)) ++ τ j)) ∧ lo ≤ ρ j ∧ ρ j < h.next ∧ Apart u (ρ j) := fun j hj => by
    rcases g with ⟨rfl, _⟩ | ⟨R, rfl, g⟩
    · omega
    · exact ⟨g.row j hj, g.hρ j hj, g.ltρ j hj, Apart.sl (g.ne j hj)⟩
  have hinj : ∀ x y, x < i → y < i → ρ x = ρ y → x = y := fun x y hx hy e => by
    rcases g with ⟨rfl, _⟩ | ⟨R, rfl, g⟩
    · omega
    · exact g.inj x y hx hy e
  obtain ⟨v, h', e, a⟩ := o.app (bytes := 24) (n := i) (m := 1) hlo hy (by simp) rfl (by omega) (by omega)
  have ev := app_at o (n := i) (by simp) (m := 1) (by omega) (by omega) hy rfl e
  subst ev
  refine ⟨h', e, .inr ⟨h.next, rfl, ?_⟩, ?_, a.get, a.fr⟩
  · rcases a.what with ⟨w1, _⟩ | ⟨id', w1, w2, w3, w4⟩
    · omega
    · have : id' = h.next := by cases w1; rfl
      subst this
      refine ⟨?_, fun j hj => ?_, fun x y hx hy e => ?_, hlo, w3, fun j hj => ?_, fun j hj => ?_, fun j hj => ?_⟩
      · rw [w4, List.range_succ, List.map_append]
        congr 3
        · exact List.map_congr_left fun j hj => by
            have := List.mem_range.1 hj
            simp only [upN]
            rw [if_neg (by omega), if_neg (by omega)]
        · simp [upN]
      · simp only [upN]
        by_cases e : j = i
        · subst e
          simp only [if_true]
          rw [a.get id h2 h4]; exact h5
        · obtain ⟨r1, r2, r3, r4⟩ := hr j (by omega)
          simp only [if_neg e]
          rw [a.get _ r3 r4]; exact r1
      · simp only [upN] at e
        by_cases e1 : x = i
        · by_cases e2 : y = i
          · omega
          · rw [if_pos e1, if_neg e2] at e
            exact absurd e.symm (h3 y (by omega))
        · by_cases e2 : y = i
          · rw [if_neg e1, if_pos e2] at e
            exact absurd e (h3 x (by omega))
          · rw [if_neg e1, if_neg e2] at e
            exact hinj x y (by omega) (by omega) e
      · simp only [upN]
        split
        · exact h1
        · exact (hr j (by omega)).2.1
      · simp only [upN]
        split
        · omega
        · have := (hr j (by omega)).2.2.1; omega
      · simp only [upN]
        split
        · omega
        · have := (hr j (by omega)).2.2.1; omega
  · rcases a.what with ⟨w1, _⟩ | ⟨id', w1, w2, w3, w4⟩
    · omega
    · have : id' = h.next := by cases w1; rfl
      omega
end
end Go.Proofs.Ytonhijbeddcmpaa

/- Layer 4: the reference's Inv. -/
namespace Go.Proofs.Ytonhijbeddcmpaa
open Go Go.Ay
set_option maxRecDepth 100000
theorem up_un (i : Nat) : upN (fun _ => Cap.un 1) i (Cap.un 1) = fun _ => .un 1 := funext fun j => by simp [upN]
set_option maxHeartbeats 16000000 in
theorem ref_Inv_ok (va : V) (a : Mat) (h : H) (ha : MatV h va a) (la : (a.2.length : Int) ≤ 2 ^ 63 - 1) : Ev T n_ref04_Inv [va] h (fun v h' => ∃ w, v = .tup [w, .int .i64 (InvF a).2] ∧ MatO h' w (InvF a).1 h.next ∧ Fr h h') := by
  obtain ⟨ua, rfl, hua⟩ := ha
  refine Ev_of t_ref04_Inv rfl ?_
  have wa := SV.what hua.choose_spec.1
  simp (disch := first | omega | (simp only [Qn] <;> omega)) only [go_sem, c_ref04_Inv, initV_eq, boxV_agg2 h (v := .int .i64 a.1) rfl wa.2.1]
  have hfx : Fr h (h.new (.cells false [.int .i64 a.1, ua])) := (Fr.refl h).new _
  have hgx : (h.new (.cells false [.int .i64 a.1, ua])).get h.next = some (.cells false [.int .i64 a.1, ua]) := H.get_new_same ..
  have hnx : (h.new (.cells false [.int .i64 a.1, ua])).next = h.next + 1 := H.next_new ..
  generalize h.new (.cells false [.int .i64 a.1, ua]) = hx at *
  have hfy : Fr hx (hx.new (.cells false [.int .i64 0, .nils])) := (Fr.refl hx).new _
  have hgy : (hx.new (.cells false [.int .i64 0, .nils])).get hx.next = some (.cells false [.int .i64 0, .nils]) := H.get_new_same ..
  have hny : (hx.new (.cells false [.int .i64 0, .nils])).next = hx.next + 1 := H.next_new ..
  generalize hx.new (.cells false [.int .i64 0, .nils]) = hy at *
  have F := hfx.trans hfy
  have gx := (hfy.get h.next (by omega)).trans hgx
  simp (disch := first | omega | (simp only [Qn] <;> omega)) only [go_sem, row_two gx]
  refine (ref_square_ok _ a hy ⟨ua, rfl, hua.mono F⟩ la).mono ?_
  rintro v h5 ⟨rfl, f5⟩
  have F5 := F.trans f5
  have gx5 := (f5.get h.next (by omega)).trans gx
  have gy5 := (f5.get hx.next (by omega)).trans hgy
  have n5 := f5.next
  rw [← hnx]
  have hst := fun hh => stV_agg2 hh hx.next 0 (v := .int .i64 0) (u := .nils) rfl rfl
  simp (disch := first | omega | (simp only [Qn] <;> omega)) only [go_sem]
  refine iteW_dec (fun he => ?_) (fun he => ?_)
  · have hrow := row_two (h := h5.set hx.next (some (.cells false [.int .i64 0, .nils]))) (H.get_set_same ..)
    simp (disch := first | omega | (simp only [Qn] <;> omega)) only [go_sem, bldV_nil, hst, gy5, hrow]
    have e : InvF a = ((0, []), sqF a) := by rw [InvF, if_pos he]
    rw [e]
    exact ⟨_, rfl, ⟨.nils, [], rfl, Rws.nils _ _⟩, F5.set (by omega) _⟩
  have hz : sqF a = 0 := Classical.byContradiction he
  have da := sq_vd hz
  obtain ⟨p, hpe⟩ : ∃ p, a.1 = p := ⟨_, rfl⟩
  obtain ⟨n, hn⟩ : ∃ n, a.2.length = n := ⟨_, rfl⟩
  have hfp := da.p
  have hp := fieldF_range hfp
  have hn1 := da.r1
  have hn2 := da.r2
  rw [hn] at hn1 hn2
  rw [hpe] at hp hfp
  have hP : isP p = true := by simp only [fieldF, Bool.and_eq_true] at hfp; exact hfp.2
  have x0 : h5.cell h.next 0 = some (.int .i64 p) := by rw [H.cell_of gx5, ← hpe]; rfl
  have x1 : h5.cell h.next 1 = some ua := by rw [H.cell_of gx5]; rfl
  have lu := hua.lens
  rw [hn] at lu
  have fb : Fr h5 (H.mk h5.tr (h5.next + 7)) := (Fr.refl h5).bump (by omega)
  have nb : (H.mk h5.tr (h5.next + 7)).next = h5.next + 7 := rfl
  simp (disch := first | omega | (simp only [Qn] <;> omega)) only [go_sem, x0, x1, lu]
  generalize H.mk h5.tr (h5.next + 7) = h6 at *
  refine (ref_one_ok n p h6 hn1 hn2 hp.1).mono ?_
  rintro w h7 ⟨⟨uI, wsI, rfl, RI⟩, f7⟩
  have e1 : (oneF n p).1 = p := rfl
  rw [e1]
  have st := fun hh id => stV_agg2 hh id 0 (v := .int .i64 p) (u := uI) rfl (SV.what RI.own.sv).2.1
  simp (disch := first | omega | (simp only [Qn] <;> omega)) only [go_sem, st, bxH_eq]
  have fB := bxH_fr h7 p uI
  have gI := bxH_get h7 p uI
  have F7 := (fb.trans f7).trans fB
  have RI7 := RI.fr fB
  have n7 := f7.next
  have nB := bxH_next h7 p uI
  obtain ⟨O, hO⟩ : ∃ O, h7.next = O := ⟨_, rfl⟩
  rw [hO] at gI nB
  try rw [hO]
  generalize bxH h7 p uI = h8 at *
  obtain ⟨ida, offa, wsa, sua, hida, hwla, hca, halla⟩ := (hua.mono (F5.trans F7)).open
  have lO : O < h8.next := by omega
  have ltx : h.next < h5.next := by have := f5.next; omega
  have hra : ∀ i, i < n → a.2.getD i [] = mkV n (ent a.2 i) := fun i hi => mkV_eq (by rw [da.row i (by omega), hn]) fun k _ => rfl
  obtain ⟨idI, offI, wsI', sI, hidI, hwlI, hcI, hallI⟩ := RI7.sr.open
  have lI : (oneF n p).2.length = n := mkR_len ..
  rw [lI] at sI hidI hwlI hcI
  obtain ⟨F0, hF0⟩ : ∃ F0 : Nat → Nat → Int, F0 = fun i j => if j < n then ent a.2 i j else (if i = j - n then 1 else 0) := ⟨_, rfl⟩
  rw [hn] at sua hida hwla hca
  refine Wp_loop (fun k' vars hh => ∃ (i : Nat) (u : V) (ρ : Nat → Nat) (τ : Nat → List V), (∃ g : Nat → V, vars = [g 0, .ptr h.next 0, .ptr hx.next 0, g 3, g 4, .int .i64 (n : Int), .int .i64 p, .ptr O 0, u, .int .i64 (i : Int), g 10, g 11, g 12, g 13, g 14, g 15, g 16, g 17, g 18, g 19, g 20, g 21, g 22, g 23, g 24, g 25, g 26, g 27]) ∧ i ≤ n ∧ Gu hh u i (n + n) ρ (fun _ => .un 1) τ F0 h8.next ∧ Fr h8 hh ∧ k' = n - i) n
    ⟨0, _, fun _ => 0, fun _ => [], ex_junk rfl, Nat.zero_le _, .inl ⟨rfl, rfl⟩, Fr.refl h8, rfl⟩ ?_
  rintro k' vars h9 ⟨i, u, ρ, τ, ⟨g, rfl⟩, hi, G9, f9, rfl⟩
  simp (disch := first | omega | (simp only [Qn] <;> omega)) only [go_sem]
  by_cases hlt : (i : Int) < (n : Int)
  · rw [decide_eq_true hlt]
    have y1 : h9.cell h.next 1 = some ua := by rw [(F7.trans f9).cell ltx]; exact x1
    have yO : h9.cell O 1 = some uI := by rw [f9.cell lO, H.cell_of gI]; rfl
    have ca : h9.cell ida (offa + i) = some (wsa.getD i .undef) := by rw [f9.cell (hida (by omega))]; exact hca i (by omega)
    have cI : h9.cell idI (offI + i) = some (wsI'.getD i .undef) := by rw [f9.cell (hidI (by omega))]; exact hcI i (by omega)
    simp (disch := first | omega | (simp only [Qn] <;> omega)) only [go_sem, y1, yO, sua.ixa, ca, sI.ixa, cI]
    have fb : Fr h9 (H.mk h9.tr (h9.next + 16)) := (Fr.refl h9).bump (by omega)
    have nb : (H.mk h9.tr (h9.next + 16)).next = h9.next + 16 := rfl
    generalize H.mk h9.tr (h9.next + 16) = h10 at *
    have ri := (row_at halla (i := i) (by omega)).mono (f9.trans fb)
    rw [hra i (by omega)] at ri
    have rI := (row_at hallI (i := i) (by omega)).mono (f9.trans fb)
    refine (own_ok _ _ h10 ri (by rw [mkV_len]; omega)).mono ?_
    rintro v h11 ⟨ov, f11, _⟩
    have f91 := fb.trans f11
    have yO1 : h11.cell O 1 = some uI := by rw [(f9.trans f91).cell lO, H.cell_of gI]; rfl
    have cI1 : h11.cell idI (offI + i) = some (wsI'.getD i .undef) := by rw [(f9.trans f91).cell (hidI (by omega))]; exact hcI i (by omega)
    have eI := SV.eqV rI
    have eU := SV.eqV RI7.own.sv
    have rI1 := rI.mono f11
    have lIr : ((oneF n p).2.getD i []) = mkV n (fun j => if i = j then 1 else 0) := mkR_row _ (by omega)
    rw [lIr] at rI1
    obtain ⟨v12, h12, e12, a12⟩ := ov.app (bytes := 8) (n := n) (m := n) f11.next rI1 (by rw [ints_length, mkV_len, Nat.mul_one]) (by rw [ints_length, mkV_len, Nat.mul_one]) (by omega) (by omega)
    have ev := app_at ov (n := n) (m := n) (by rw [ints_length, mkV_len, Nat.mul_one]) (by omega) (by omega) rI1 (by rw [ints_length, mkV_len, Nat.mul_one]) e12
    subst ev
    have br := bls_row (H.mk h12.tr (h9.next + 13)) (v := .sl h11.next 0 (n + n) (.un 1)) rfl rfl
    simp (disch := first | omega | (simp only [Qn] <;> omega)) only [go_sem, yO1, cI1, eI, eU, e12, br, evAtO_some, litAt_eq]
    have f912 : Fr h9 h12 := a12.fr h9 f91 (by omega)
    have n10 := f11.next
    have n12 := a12.next
    have fL := litAt_fr f912 (a := h9.next + 13) (by omega) (.sl h11.next 0 (n + n) (.un 1))
    have eR : mkV n (ent a.2 i) ++ mkV n (fun j => if i = j then 1 else 0) = mkV (n + n) (F0 i) := by
      refine mkV_eq (by rw [List.length_append, mkV_len, mkV_len]) fun j hj => ?_
      rw [hF0]
      by_cases e : j < n
      · simp only [if_pos e]
        rw [List.getD_eq_getElem?_getD, List.getElem?_append_left (by rw [mkV_len]; exact e), ← List.getD_eq_getElem?_getD, mkV_get _ e]
      · simp only [if_neg e]
        rw [List.getD_eq_getElem?_getD, List.getElem?_append_right (by rw [mkV_len]; omega), ← List.getD_eq_getElem?_getD, mkV_len, mkV_get _ (by omega)]
    have gN : (litAt h12 (h9.next + 13) (.sl h11.next 0 (n + n) (.un 1))).get h11.next = some (.cells false (ints (mkV (n + n) (F0 i)) ++ [])) := by
      rw [litAt_ne h12 _ (by omega), List.append_nil, ← eR, ints_append]
      rcases a12.what with ⟨w1, _⟩ | ⟨id', w1, w2, w3, w4⟩
      · omega
      · have : id' = h11.next := by cases w1; rfl
        subst this; exact w4
    have hAp : Apart u h11.next := by
      rcases G9 with ⟨_, rfl⟩ | ⟨R, rfl, g⟩
      · exact Apart.nils _
      · exact Apart.sl (by have := g.ltR; omega)
    have hρ : ∀ j, j < i → ρ j ≠ h11.next := fun j hj => by
      rcases G9 with ⟨h0, _⟩ | ⟨R, _, g⟩
      · omega
      · have := g.ltρ j hj; omega
    have nL : (litAt h12 (h9.next + 13) (.sl h11.next 0 (n + n) (.un 1))).next = h12.next := rfl
    have n9 := f9.next
    have h11lt : h11.next < h12.next := by
      rcases a12.what with ⟨w1, _⟩ | ⟨id', w1, w2, w3, w4⟩
      · omega
      · have : id' = h11.next := by cases w1; rfl
        omega
    obtain ⟨h13, e13, G13, _, _, q13⟩ := (G9.fr fL).app (by omega) (by omega) (litAt_sv h12 _ (by omega)) (by omega) (by omega) hρ hAp gN
    simp (disch := first | omega | (simp only [Qn] <;> omega)) only [go_sem, e13]
    rw [show (i : Int) + 1 = ((i + 1 : Nat) : Int) from by omega]
    rw [up_un] at G13
    exact ⟨n - (i + 1), by omega, i + 1, _, _, _, ex_junk rfl, by omega, G13, q13 h8 (f9.trans fL) (Nat.le_refl _), rfl⟩
  rw [decide_eq_false hlt]
  obtain rfl : n = i := by omega
  obtain ⟨R, eu, G⟩ : ∃ R, u = .sl R 0 n (.un 1) ∧ Gc h9 R n (n + n) ρ (fun _ => .un 1) τ F0 h8.next := by
    rcases G9 with ⟨h0, _⟩ | g
    · omega
    · exact g
  subst eu
  have hlR := G.hR
  simp (disch := first | omega | (simp only [Qn] <;> omega)) only [go_sem]
  have hA : ∀ i j, i < n → j < n → 0 ≤ ent a.2 i j ∧ ent a.2 i j < p := fun i j hi hj => ⟨da.lo i j (by omega) (by omega), by rw [← hpe]; exact da.hi i j (by omega) (by omega)⟩
  have E0 : Elim p n (ent a.2) 0 1 F0 := Elim.start hA (by omega) (fun i j _ hj => by rw [hF0]; exact if_pos hj) (fun i k hi hk => by rw [hF0]; simp only; rw [if_neg (by omega), show n + k - n = k by omega])
  refine Wp_loop (fun k' vars hh => ∃ (c : Nat) (ρ : Nat → Nat) (τ : Nat → List V) (d : Int) (B : Mx), (∃ g : Nat → V, vars = [g 0, g 1, .ptr hx.next 0, g 3, g 4, .int .i64 (n : Int), .int .i64 p, g 7, .sl R 0 n (.un 1), g 9, .int .i64 (c : Int), g 11, g 12, g 13, g 14, g 15, g 16, g 17, g 18, g 19, g 20, g 21, g 22, g 23, g 24, g 25, g 26, g 27]) ∧ c ≤ n ∧ Gc hh R n (n + n) ρ (fun _ => .un 1) τ B h8.next ∧ Elim p n (ent a.2) c d B ∧ Fr h8 hh ∧ k' = n - c) n
    ⟨0, ρ, τ, 1, F0, ex_junk rfl, Nat.zero_le _, G, E0, f9, rfl⟩ ?_
  clear G E0 G9 f9 hlt
  rintro k' vars h20 ⟨c, ρ, τ, d, B, ⟨g, rfl⟩, hc, G, E, F, rfl⟩
  have F20 := F5.trans (F7.trans F)
  have gyH : h20.get hx.next = some (.cells false [.int .i64 0, .nils]) := ((F7.trans F).get hx.next (by omega)).trans gy5
  simp (disch := first | omega | (simp only [Qn] <;> omega)) only [go_sem]
  by_cases hlt : (c : Int) < (n : Int)
  · rw [decide_eq_true hlt]
    have hc' : c < n := by omega
    simp (disch := first | omega | (simp only [Qn] <;> omega)) only [go_sem]
    refine Wp_loop (fun k' vars h21 => h21 = h20 ∧ ∃ r : Nat, (∃ g : Nat → V, vars = [g 0, g 1, .ptr hx.next 0, g 3, g 4, .int .i64 (n : Int), .int .i64 p, g 7, .sl R 0 n (.un 1), g 9, .int .i64 (c : Int), .int .i64 (r : Int), g 12, g 13, g 14, g 15, g 16, g 17, g 18, g 19, g 20, g 21, g 22, g 23, g 24, g 25, g 26, g 27]) ∧ c ≤ r ∧ r ≤ n ∧ (∀ i, c ≤ i → i < r → B i c = 0) ∧ k' = n - r) (n - c)
      ⟨rfl, c, ex_junk rfl, Nat.le_refl _, by omega, fun i h1 h2 => by omega, rfl⟩ ?_
    rintro k' vars h21 ⟨rfl, r, ⟨g, rfl⟩, hr1, hr2, hz0, rfl⟩
    simp (disch := first | omega | (simp only [Qn] <;> omega)) only [go_sem]
    by_cases hrn : (r : Int) < (n : Int)
    · rw [decide_eq_true hrn]
      have hr : r < n := by omega
      simp (disch := first | omega | (simp only [Qn] <;> omega)) only [go_sem, G.cR r hr, G.cρ r c hr (by omega)]
      by_cases hB : B r c = 0
      · rw [decide_eq_true hB]
        simp (disch := first | omega | (simp only [Qn] <;> omega)) only [go_sem]
        rw [show (r : Int) + 1 = ((r + 1 : Nat) : Int) from by omega]
        refine ⟨n - (r + 1), by omega, r + 1, ex_junk rfl, by omega, by omega, fun i h1 h2 => ?_, rfl⟩
        by_cases e : i = r
        · rw [e]; exact hB
        · exact hz0 i h1 (by omega)
      rw [decide_eq_false hB]
      simp (disch := first | omega | (simp only [Qn] <;> omega)) only [go_sem]
      rw [decide_eq_false (show ¬ (r : Int) = (n : Int) by omega)]
      have fb : Fr h21 (H.mk h21.tr (h21.next + 16)) := (Fr.refl h21).bump (by omega)
      have G5 := G.fr fb
      have FF := F.trans fb
      have hs1 := fun hh => stV_one (y := V.sl (ρ r) 0 (n + n) (.un 1)) rfl rfl hh R c
      have hs2 := fun hh => stV_one (y := V.sl (ρ c) 0 (n + n) (.un 1)) rfl rfl hh R r
      have pt1 := fun hh => putO_one (vs := (List.range n).map fun i => V.sl (ρ i) 0 (n + n) (.un 1)) (off := c) (by simpa using hc') hh R (V.sl (ρ r) 0 (n + n) (.un 1))
      obtain ⟨h22, e22⟩ : ∃ h22, h22 = (((H.mk h21.tr (h21.next + 16)).set R (some (.cells false (((List.range n).map fun i => V.sl (ρ i) 0 (n + n) (.un 1)).set c (.sl (ρ r) 0 (n + n) (.un 1)))))).set R (some (.cells false ((((List.range n).map fun i => V.sl (ρ i) 0 (n + n) (.un 1)).set c (.sl (ρ r) 0 (n + n) (.un 1))).set r (.sl (ρ c) 0 (n + n) (.un 1)))))) := ⟨_, rfl⟩
      have pt2 := putO_one (vs := ((List.range n).map fun i => V.sl (ρ i) 0 (n + n) (.un 1)).set c (V.sl (ρ r) 0 (n + n) (.un 1))) (off := r) (by simpa using hr) ((H.mk h21.tr (h21.next + 16)).set R (some (.cells false (((List.range n).map fun i => V.sl (ρ i) 0 (n + n) (.un 1)).set c (.sl (ρ r) 0 (n + n) (.un 1)))))) R (V.sl (ρ c) 0 (n + n) (.un 1))
      rw [← e22] at pt2
      have G6 := (G5.swap hc' hr).same (h' := h22) (by rw [e22]; exact set_twice _ _ _ _) (by rw [e22]; rfl)
      have F6 := (FF.set hlR (some (.cells false (((List.range n).map fun i => V.sl (ρ i) 0 (n + n) (.un 1)).set c (.sl (ρ r) 0 (n + n) (.un 1)))))).set hlR (some (.cells false ((((List.range n).map fun i => V.sl (ρ i) 0 (n + n) (.un 1)).set c (.sl (ρ r) 0 (n + n) (.un 1))).set r (.sl (ρ c) 0 (n + n) (.un 1)))))
      rw [← e22] at F6
      clear e22
      obtain ⟨d2, E2⟩ : ∃ d2, Elim p n (ent a.2) c d2 (fun i k => B (sw c r i) k) := by
        by_cases e : r = c
        · subst e
          refine ⟨d, ?_⟩
          simp only [sw_self]
          exact E
        · exact ⟨_, E.swap hr (by omega) fun i j _ _ => (swp_sw B (by omega) i j).symm⟩
      have hp0 : (fun i k => B (sw c r i) k) c c ≠ 0 := by
        simp only [sw_left]; exact hB
      generalize (fun i => ρ (sw c r i)) = ρ2 at G6
      generalize (fun i => τ (sw c r i)) = τ at G6
      generalize (fun i k => B (sw c r i) k) = B2 at G6 E2 hp0
      have pv1 := E2.lo c c hc' (by omega)
      have pv2 := E2.hi c c hc' (by omega)
      simp (disch := first | omega | (simp only [Qn] <;> omega)) only [go_sem, G.cR c hc', G.cR r hr, G5.gR, hs1, hs2, pt1, pt2, G6.cR c hc', G6.cρ c c hc' (by omega)]
      clear G5 G FF F fb hs1 hs2 pt1 pt2 E hz0 hB F20 gyH B ρ
      rename Mx => B
      rename Nat → Nat => ρ
      refine (ref_inv_ok (B c c) p _ hP hp.2 (by omega)).mono ?_
      rintro v h' ⟨x, rfl, x1, x2, x3, rfl⟩
      simp (disch := first | omega | (simp only [Qn] <;> omega)) only [go_sem, List.getElem?_cons_zero, List.getElem?_cons_succ]
      refine Wp_loop (fun k' vars hh => ∃ (i : Nat), (∃ g : Nat → V, vars = [g 0, g 1, .ptr hx.next 0, g 3, g 4, .int .i64 (n : Int), .int .i64 p, g 7, .sl R 0 n (.un 1), g 9, .int .i64 (c : Int), g 11, .int .i64 x, .int .i64 (i : Int), g 14, g 15, g 16, g 17, g 18, g 19, g 20, g 21, g 22, g 23, g 24, g 25, g 26, g 27]) ∧ i ≤ n + n ∧ Gc hh R n (n + n) ρ (fun _ => .un 1) τ (fun a b => if a = c ∧ b < i then x * B c b % p else B a b) h8.next ∧ Fr h8 hh ∧ k' = n + n - i) (n + n)
        ⟨0, ex_junk rfl, Nat.zero_le _, G6.congr fun a b _ _ => by rw [if_neg (fun h => Nat.not_lt_zero _ h.2)], F6, rfl⟩ ?_
      clear G6 F6
      rintro k' vars h23 ⟨i, ⟨g, rfl⟩, hi, G, F, rfl⟩
      simp (disch := first | omega | (simp only [Qn] <;> omega)) only [go_sem]
      by_cases hin : (i : Int) < 2 * (n : Int)
      · rw [decide_eq_true hin]
        have hi' : i < n + n := by omega
        have fb : Fr h23 (H.mk h23.tr (h23.next + 18)) := (Fr.refl h23).bump (by omega)
        have G5 := G.fr fb
        have F5b := F.trans fb
        have y1 := G.cρ c i hc' hi'
        have hρl := G.hρ c hc'
        rw [if_neg (fun h => Nat.lt_irrefl i h.2)] at y1
        obtain ⟨p1, G7⟩ := G5.put hc' hi' (x * B c i % p)
        replace p1 : putO (h23.get (ρ c)) (H.mk h23.tr (h23.next + 18)) (ρ c) i [.int .i64 (x * B c i % p)] = _ := p1
        have b1 := mul_bound (E2.lo c i hc' hi') (E2.hi c i hc' hi') x1 x2 hp.2
        have em : (B c i * x).tmod p = x * B c i % p := by rw [nonneg_tmod b1.1, Int.mul_comm]
        simp (disch := first | omega | (simp only [Qn] <;> omega)) only [go_sem, G.cR c hc', y1, em, p1]
        rw [show (i : Int) + 1 = ((i + 1 : Nat) : Int) from by omega]
        refine ⟨n + n - (i + 1), by omega, i + 1, ex_junk rfl, by omega, G7.congr fun a b ha hb => ?_, F5b.set hρl _, rfl⟩
        simp only [upF]
        by_cases e : a = c ∧ b = i
        · rw [if_pos e, if_pos ⟨e.1, by omega⟩, e.2]
        · rw [if_neg e]
          by_cases e3 : a = c ∧ b < i
          · rw [if_pos e3, if_pos ⟨e3.1, by omega⟩]
          · rw [if_neg e3, if_neg (fun h => if hbi : b = i then e ⟨h.1, hbi⟩ else e3 ⟨h.1, by omega⟩)]
      rw [decide_eq_false hin]
      obtain rfl : i = n + n := by omega
      obtain ⟨E3, one3⟩ := E2.one (W' := fun a b => if a = c then x * B c b % p else B a b) (by omega) hc' x3 (fun j _ => if_pos rfl) (fun i j _ hne _ => if_neg hne)
      have G3 := G.congr (f' := fun a b => if a = c then x * B c b % p else B a b) fun a b _ hb => by
        by_cases e : a = c
        · rw [if_pos ⟨e, hb⟩, if_pos e]
        · rw [if_neg (fun h => e h.1), if_neg e]
      clear G
      obtain ⟨d3, hd3⟩ : ∃ d3, d2 * B c c % p = d3 := ⟨_, rfl⟩
      rw [hd3] at E3
      replace one3 : (fun a b => if a = c then x * B c b % p else B a b) c c = 1 := one3
      generalize (fun a b => if a = c then x * B c b % p else B a b) = B2 at *
      clear E2 hd3 hp0 pv1 pv2 x3
      simp (disch := first | omega | (simp only [Qn] <;> omega)) only [go_sem]
      refine Wp_loop (fun k' vars hh => ∃ (j : Nat) (B : Mx), (∃ g : Nat → V, vars = [g 0, g 1, .ptr hx.next 0, g 3, g 4, .int .i64 (n : Int), .int .i64 p, g 7, .sl R 0 n (.un 1), g 9, .int .i64 (c : Int), g 11, g 12, g 13, .int .i64 (j : Int), g 15, g 16, g 17, g 18, g 19, g 20, g 21, g 22, g 23, g 24, g 25, g 26, g 27]) ∧ j ≤ n ∧ Gc hh R n (n + n) ρ (fun _ => .un 1) τ B h8.next ∧ Elim p n (ent a.2) c d3 B ∧ B c c = 1 ∧ (∀ i, i < j → i ≠ c → B i c = 0) ∧ Fr h8 hh ∧ k' = n - j) n
        ⟨0, B2, ex_junk rfl, Nat.zero_le _, G3, E3, one3, fun i hi => absurd hi (Nat.not_lt_zero i), F, rfl⟩ ?_
      clear G3 E3 one3 F hi hin B B2
      rintro k' vars h24 ⟨j, B, ⟨g, rfl⟩, hj, G, E, one, zer, F, rfl⟩
      simp (disch := first | omega | (simp only [Qn] <;> omega)) only [go_sem]
      by_cases hjn : (j : Int) < (n : Int)
      · rw [decide_eq_true hjn]
        have hj' : j < n := by omega
        simp (disch := first | omega | (simp only [Qn] <;> omega)) only [go_sem, G.cR j hj', G.cρ j c hj' (by omega)]
        obtain ⟨y, hy⟩ : ∃ y, B j c = y := ⟨_, rfl⟩
        rw [hy]
        have ya := E.lo j c hj' (by omega)
        have yb := E.hi j c hj' (by omega)
        rw [hy] at ya yb
        by_cases hjc : j = c
        · refine Wp_loop (fun k' vars hh => hh = h24 ∧ (∃ g : Nat → V, vars = [g 0, g 1, .ptr hx.next 0, g 3, g 4, .int .i64 (n : Int), .int .i64 p, g 7, .sl R 0 n (.un 1), g 9, .int .i64 (c : Int), g 11, g 12, g 13, .int .i64 (j : Int), .int .i64 y, .int .i64 0, g 17, g 18, g 19, g 20, g 21, g 22, g 23, g 24, g 25, g 26, g 27])) 0 ⟨rfl, ex_junk rfl⟩ ?_
          rintro k' vars hh ⟨rfl, ⟨g, rfl⟩⟩
          simp (disch := first | omega | (simp only [Qn] <;> omega)) only [go_sem]
          rw [decide_eq_true (show (0 : Int) < 2 * (n : Int) by omega)]
          simp (disch := first | omega | (simp only [Qn] <;> omega)) only [go_sem]
          rw [decide_eq_false (show ¬ ((j : Int) ≠ (c : Int)) by omega)]
          simp (disch := first | omega | (simp only [Qn] <;> omega)) only [go_sem]
          rw [show (j : Int) + 1 = ((j + 1 : Nat) : Int) from by omega]
          exact ⟨n - (j + 1), by omega, j + 1, B, ex_junk rfl, by omega, G, E, one, fun i hi hne => zer i (by omega) hne, F, rfl⟩
        refine Wp_loop (fun k' vars hh => ∃ (i : Nat), (∃ g : Nat → V, vars = [g 0, g 1, .ptr hx.next 0, g 3, g 4, .int .i64 (n : Int), .int .i64 p, g 7, .sl R 0 n (.un 1), g 9, .int .i64 (c : Int), g 11, g 12, g 13, .int .i64 (j : Int), .int .i64 y, .int .i64 (i : Int), g 17, g 18, g 19, g 20, g 21, g 22, g 23, g 24, g 25, g 26, g 27]) ∧ i ≤ n + n ∧ Gc hh R n (n + n) ρ (fun _ => .un 1) τ (fun a b => if a = j ∧ b < i then (B j b + (p - y) * B c b) % p else B a b) h8.next ∧ Fr h8 hh ∧ k' = n + n - i) (n + n)
          ⟨0, ex_junk rfl, Nat.zero_le _, G.congr fun a b _ _ => by rw [if_neg (fun h => Nat.not_lt_zero _ h.2)], F, rfl⟩ ?_
        clear G F
        rintro k' vars h25 ⟨i, ⟨g, rfl⟩, hi, G, F, rfl⟩
        simp (disch := first | omega | (simp only [Qn] <;> omega)) only [go_sem]
        by_cases hin : (i : Int) < 2 * (n : Int)
        · rw [decide_eq_true hin]
          simp (disch := first | omega | (simp only [Qn] <;> omega)) only [go_sem]
          rw [decide_eq_true (show (j : Int) ≠ (c : Int) by omega)]
          have hi' : i < n + n := by omega
          have fb : Fr h25 (H.mk h25.tr (h25.next + 28)) := (Fr.refl h25).bump (by omega)
          have G5 := G.fr fb
          have F5b := F.trans fb
          have y1 := G.cρ j i hj' hi'
          have y2 := G.cρ c i hc' hi'
          have hρl := G.hρ j hj'
          rw [if_neg (fun h => Nat.lt_irrefl i h.2)] at y1
          rw [if_neg (fun h => hjc h.1.symm)] at y2
          obtain ⟨p1, G7⟩ := G5.put hj' hi' ((B j i + (p - y) * B c i) % p)
          replace p1 : putO (h25.get (ρ j)) (H.mk h25.tr (h25.next + 28)) (ρ j) i [.int .i64 ((B j i + (p - y) * B c i) % p)] = _ := p1
          have a1 := E.lo c i hc' hi'
          have a2 := E.hi c i hc' hi'
          have a3 := E.lo j i hj' hi'
          have a4 := E.hi j i hj' hi'
          have b1 := Int.mul_nonneg (show 0 ≤ p - y by omega) a1
          have b2 := Int.mul_le_mul (show p - y ≤ 20000 by omega) (Int.le_of_lt a2) a1 (by omega)
          have em := nonneg_tmod (a := B j i + (p - y) * B c i) (p := p) (by omega)
          simp (disch := first | omega | (simp only [Qn] <;> omega)) only [go_sem, G.cR j hj', G.cR c hc', y1, y2, em, p1]
          rw [show (i : Int) + 1 = ((i + 1 : Nat) : Int) from by omega]
          refine ⟨n + n - (i + 1), by omega, i + 1, ex_junk rfl, by omega, G7.congr fun a b ha hb => ?_, F5b.set hρl _, rfl⟩
          simp only [upF]
          by_cases e : a = j ∧ b = i
          · rw [if_pos e, if_pos ⟨e.1, by omega⟩, e.2]
          · rw [if_neg e]
            by_cases e3 : a = j ∧ b < i
            · rw [if_pos e3, if_pos ⟨e3.1, by omega⟩]
            · rw [if_neg e3, if_neg (fun h => if hbi : b = i then e ⟨h.1, hbi⟩ else e3 ⟨h.1, by omega⟩)]
        rw [decide_eq_false hin]
        simp (disch := first | omega | (simp only [Qn] <;> omega)) only [go_sem]
        obtain rfl : i = n + n := by omega
        rw [show (j : Int) + 1 = ((j + 1 : Nat) : Int) from by omega]
        obtain ⟨E3, z3⟩ := E.clear (W' := fun a b => if a = j then (B j b + (p - y) * B c b) % p else B a b) (by omega) hc' one hj' hjc (fun b _ => by rw [if_pos rfl, hy]) (fun i b _ hne _ => if_neg hne)
        have G3 := G.congr (f' := fun a b => if a = j then (B j b + (p - y) * B c b) % p else B a b) fun a b _ hb => by
          by_cases e : a = j
          · rw [if_pos ⟨e, hb⟩, if_pos e]
          · rw [if_neg (fun h => e h.1), if_neg e]
        refine ⟨n - (j + 1), by omega, j + 1, _, ex_junk rfl, by omega, G3, E3, ?_, fun i hi hne => ?_, F, rfl⟩
        · simp only [if_neg (Ne.symm hjc)]; exact one
        · by_cases e : i = j
          · rw [e]; exact z3
          · simp only [if_neg e]; exact zer i (by omega) hne
      rw [decide_eq_false hjn]
      obtain rfl : n = j := by omega
      simp (disch := first | omega | (simp only [Qn] <;> omega)) only [go_sem]
      rw [show (c : Int) + 1 = ((c + 1 : Nat) : Int) from by omega]
      refine ⟨n - (c + 1), by omega, c + 1, ρ, τ, d3, B, ex_junk rfl, by omega, G, ⟨E.lo, E.hi, E.rel, fun i j hi hj => ?_, E.dd⟩, F, rfl⟩
      by_cases e : j = c
      · subst e
        by_cases e2 : i = j
        · rw [if_pos e2, e2]; exact one
        · rw [if_neg e2]; exact zer i hi e2
      · exact E.unit i j hi (by omega)
    rw [decide_eq_false hrn]
    simp (disch := first | omega | (simp only [Qn] <;> omega)) only [go_sem]
    rw [decide_eq_true (show (r : Int) = (n : Int) by omega)]
    have hst := fun hh => stV_agg2 hh hx.next 0 (v := .int .i64 0) (u := .nils) rfl rfl
    have hrow := row_two (h := h21.set hx.next (some (.cells false [.int .i64 0, .nils]))) (H.get_set_same ..)
    simp (disch := first | omega | (simp only [Qn] <;> omega)) only [go_sem, bldV_nil, hst, gyH, hrow]
    have e : InvF a = ((0, []), 15) := by
      rw [InvF, if_neg (by simp [hz]), hn, hpe, if_pos (E.none hc' fun k h1 h2 => hz0 k h1 (by omega))]
    rw [e]
    exact ⟨_, rfl, ⟨.nils, [], rfl, Rws.nils _ _⟩, F20.set (by omega) _⟩
  rw [decide_eq_false hlt]
  obtain rfl : n = c := by omega
  obtain ⟨INV, _⟩ := E.done
  have hbl := bldV_fst (z1 := .int .i64 0) (z2 := .nils) (v := .int .i64 p) rfl rfl
  have hst1 := fun hh id => stV_agg2 hh id 0 (v := .int .i64 p) (u := .nils) rfl rfl
  simp (disch := first | omega | (simp only [Qn] <;> omega)) only [go_sem, hbl, hst1, bxH_eq]
  have fB := bxH_fr h20 p .nils
  have gB := bxH_get h20 p .nils
  have nB := bxH_next h20 p .nils
  generalize bxH h20 p .nils = hB at *
  obtain ⟨O2, hO2⟩ : ∃ O2, h20.next = O2 := ⟨_, rfl⟩
  rw [hO2] at gB nB
  rw [hO2]
  obtain ⟨X, hX⟩ : ∃ X : Mx, X = fun i k => B i (n + k) := ⟨_, rfl⟩
  rw [← hX] at INV
  refine Wp_loop (fun k' vars h6 => ∃ (i : Nat) (u : V) (wo : List V), (∃ g : Nat → V, vars = [g 0, g 1, .ptr hx.next 0, g 3, g 4, .int .i64 (n : Int), g 6, g 7, .sl R 0 n (.un 1), g 9, g 10, g 11, g 12, g 13, g 14, g 15, g 16, .ptr O2 0, .int .i64 (i : Int), g 19, g 20, g 21, g 22, g 23, g 24, g 25, g 26, g 27]) ∧ i ≤ n ∧ Rws h6 u wo (mkR i n X) hB.next ∧ h6.get O2 = some (.cells false [.int .i64 p, u]) ∧ Fx O2 hB h6 ∧ k' = n - i) n
    ⟨0, .nils, [], ex_junk rfl, Nat.zero_le _, Rws.nils _ _, gB, Fx.refl _ _, rfl⟩ ?_
  rintro k' vars h6 ⟨i, u, wo, ⟨g, rfl⟩, hi, R6, g6, FX6, rfl⟩
  have n6 := FX6.next
  have f6 : Fr h20 h6 := Fx.fr fB (by omega) FX6
  have Gf := G.fr f6
  simp (disch := first | omega | (simp only [Qn] <;> omega)) only [go_sem]
  by_cases hlt3 : (i : Int) < (n : Int)
  · rw [decide_eq_true hlt3]
    have hi' : i < n := by omega
    have cA6 : h6.cell O2 1 = some u := by rw [H.cell_of g6]; rfl
    have cap1 : Cap1 (V.sl (ρ i) 0 (n + n) (.un 1)) := fun id off m c e => by cases e; exact .inl rfl
    obtain ⟨vr, evr, svr⟩ := slc_lo (Gf.si hi') cap1 (k := n) (by rw [mkV_len]; omega)
    have edr : (mkV (n + n) (B i)).drop n = mkV n (X i) := mkV_eq (by rw [List.length_drop, mkV_len]; omega) fun k hk => by
      rw [List.getD_eq_getElem?_getD, List.getElem?_drop, hX, ← List.getD_eq_getElem?_getD, mkV_get _ (by omega)]
    rw [edr] at svr
    have fb : Fr h6 (H.mk h6.tr (h6.next + 13)) := (Fr.refl h6).bump (by omega)
    have svrb := svr.mono fb
    have nb : (H.mk h6.tr (h6.next + 13)).next = h6.next + 13 := rfl
    simp (disch := first | omega | (simp only [Qn] <;> omega)) only [go_sem, Gf.cR i hi', cA6, evr]
    generalize H.mk h6.tr (h6.next + 13) = hh at *
    refine (own_ok vr (mkV n (X i)) hh svrb (by rw [mkV_len]; omega)).mono ?_
    rintro w h7 ⟨o7, f7, _⟩
    have f67 := fb.trans f7
    have n7 := f7.next
    have cA7 : h7.cell O2 1 = some u := by rw [f67.cell (by omega)]; exact cA6
    have eu := SV.eqV R6.own.sv
    have vw := SV.what o7.sv
    have f35 := litAt_fr f67 (a := h6.next + 9) (by omega) w
    have R7 := R6.fr f35
    have o7b : Own (litAt h7 (h6.next + 9) w) w 1 (ints (mkV n (X i))) hh.next := o7.mono (Nat.le_refl _) fun id _ _ _ _ h1 _ => litAt_ne h7 w (by omega)
    have sy := litAt_sv h7 (a := h6.next + 9) w (by omega)
    have nl : (litAt h7 (h6.next + 9) w).next = h7.next := rfl
    have hlen := R6.row.length
    rw [mkR_len] at hlen
    obtain ⟨v, h8', e8, R8, n8, k8, q8⟩ := R7.app (by omega) sy o7b.sv (Own.dis (R6.own.fr fb) o7) (Frs.le (Frs.own o7) (by omega)) (by omega)
    have g8 := (k8 O2 (by omega) (own_apart R7.own (by omega))).trans ((f35.get O2 (by omega)).trans g6)
    have hv := SV.what R8.own.sv
    have hst1 := fun hh => stV_one hv.1 hv.2.1 hh O2 1
    simp (disch := first | omega | (simp only [Qn] <;> omega)) only [go_sem, cA7, eu, bls_v (H.mk h7.tr (h6.next + 9)) w vw.1 vw.2.1, litAt_eq, e8, hst1, g8, putO_snd]
    rw [show (i : Int) + 1 = ((i + 1 : Nat) : Int) from by omega]
    refine ⟨n - (i + 1), by omega, i + 1, v, wo ++ [w], ex_junk rfl, by omega, ?_, rfl, ?_, rfl⟩
    · rw [mkR_succ]
      exact R8.set (by omega) _
    · refine ⟨by show hB.next ≤ h8'.next; omega, fun id hid hne => ?_⟩
      rw [H.get_set_ne _ hne]
      exact (k8 id (by omega) (own_apart R7.own hid)).trans ((f35.get id (by omega)).trans (FX6.get id hid hne))
  rw [decide_eq_false hlt3]
  obtain rfl : n = i := by omega
  have rA := row_two g6
  have vu := SV.what R6.own.sv
  have hst2 := fun hh => stV_agg2 hh hx.next 0 (v := .int .i64 p) (u := u) rfl vu.2.1
  have n20 := F.next
  have gyF : h6.get hx.next = some (.cells false [.int .i64 0, .nils]) := (f6.get _ (by omega)).trans gyH
  have hrow := row_two (h := h6.set hx.next (some (.cells false [.int .i64 p, u]))) (H.get_set_same ..)
  simp (disch := first | omega | (simp only [Qn] <;> omega)) only [go_sem, rA, hst2, gyF, hrow]
  have e : InvF a = ((p, mkR n n X), 0) := by rw [InvF, if_neg (by simp [hz]), hn, hpe, if_neg (INV.unit (by omega)), invX_eq INV]
  rw [e]
  exact ⟨_, rfl, ⟨u, wo, rfl, (R6.set (by omega) _).le (by omega)⟩, (F20.trans f6).set (by omega) _⟩
end Go.Proofs.Ytonhijbeddcmpaa

/- Layer 4: the reference's Pow. -/
namespace Go.Proofs.Ytonhijbeddcmpaa
open Go Go.Ay
set_option maxRecDepth 100000
structure PQ (p : Int) (n A2 A3 O : Nat) (base : H) (out x : Mat) (uo ux : V) (hh : H) : Prop where
  gO : hh.get O = some (.cells false [.int .i64 p, uo])
  gX : hh.get A2 = some (.cells false [.int .i64 p, ux])
  gA : hh.get A3 = some (.cells false [.int .i64 0, .nils])
  so : SRa hh uo out.2 [A2, A3, O]
  sx : SRa hh ux x.2 [A2, A3, O]
  o1 : out.1 = p
  x1 : x.1 = p
  vo : Vd out n
  vx : Vd x n
  lo : out.2.length = n
  lx : x.2.length = n
  lt : O < hh.next
  fr : Fr base hh
section
variable {p : Int} {n A2 A3 O : Nat} {base : H} {out x out' x' : Mat} {uo ux uo' ux' : V} {hh h' : H}
theorem PQ.setX (k : PQ p n A2 A3 O base out x uo ux hh) (hs : base.next ≤ A2 ∧ A2 < A3 ∧ A3 < O) (sx : SRa hh ux' x'.2 [A2, A3, O]) (x1 : x'.1 = p) (vx : Vd x' n) (lx : x'.2.length = n) : PQ p n A2 A3 O base out x' uo ux' (hh.set A2 (some (.cells false [.int .i64 p, ux']))) :=
  ⟨by rw [H.get_set_ne _ (by omega)]; exact k.gO, H.get_set_same .., by rw [H.get_set_ne _ (by omega)]; exact k.gA, k.so.set (by simp) _, sx.set (by simp) _, k.o1, x1, k.vo, vx, k.lo, lx, k.lt, k.fr.set (by omega) _⟩
end
end Go.Proofs.Ytonhijbeddcmpaa

/- Layer 4: the reference's Order. -/
namespace Go.Proofs.Ytonhijbeddcmpaa
open Go Go.Ay
set_option maxRecDepth 100000
set_option maxHeartbeats 8000000 in
theorem ref_Order_ok (va : V) (a : Mat) (h : H) (ha : MatV h va a) (la : (a.2.length : Int) ≤ 2 ^ 63 - 1) : Ev T n_ref04_Order [va] h (fun v h' => v = .tup [.int .i64 (OrderF a).1, .int .i64 (OrderF a).2] ∧ Fr h h') := by
  obtain ⟨ua, rfl, hua⟩ := ha
  refine Ev_of t_ref04_Order rfl ?_
  have wa := SV.what hua.choose_spec.1
  simp (disch := first | omega | (simp only [Qn] <;> omega)) only [go_sem, c_ref04_Order, initV_eq, boxV_agg2 h (v := .int .i64 a.1) rfl wa.2.1]
  have hfx : Fr h (h.new (.cells false [.int .i64 a.1, ua])) := (Fr.refl h).new _
  have hgx : (h.new (.cells false [.int .i64 a.1, ua])).get h.next = some (.cells false [.int .i64 a.1, ua]) := H.get_new_same ..
  have hnx : (h.new (.cells false [.int .i64 a.1, ua])).next = h.next + 1 := H.next_new ..
  generalize h.new (.cells false [.int .i64 a.1, ua]) = hx at *
  simp (disch := first | omega | (simp only [Qn] <;> omega)) only [go_sem, row_two hgx]
  refine (ref_Inv_ok _ a hx ⟨ua, rfl, hua.mono hfx⟩ la).mono ?_
  rintro v h5 ⟨w, rfl, ⟨uw, ws, rfl, RW⟩, f5⟩
  have vw := SV.what RW.own.sv
  have hst5 := fun hh id => stV_agg2 hh id 0 (v := .int .i64 (InvF a).1.1) (u := uw) rfl vw.2.1
  simp (disch := first | omega | (simp only [Qn] <;> omega)) only [go_sem, hst5, bxH_eq]
  have f6 := f5.trans (bxH_fr h5 (InvF a).1.1 uw)
  generalize bxH h5 (InvF a).1.1 uw = h6 at *
  have F6 := hfx.trans f6
  refine iteW_dec (fun he => ?_) (fun he => ?_)
  · simp (disch := first | omega | (simp only [Qn] <;> omega)) only [go_sem]
    exact ⟨by rw [OrderF, if_pos he], F6⟩
  have hi0 : (InvF a).2 = 0 := Classical.byContradiction he
  have hz := inv_sq hi0
  have da := sq_vd hz
  obtain ⟨n, hn⟩ : ∃ n, a.2.length = n := ⟨_, rfl⟩
  rw [hn] at da
  have hr1 := da.r1
  have hr2 := da.r2
  rw [hn] at hr1 hr2
  have hp := fieldF_range da.p
  have gx6 := (f6.get h.next (by omega)).trans hgx
  have x0 : h6.cell h.next 0 = some (.int .i64 a.1) := by rw [H.cell_of gx6]; rfl
  have x1 : h6.cell h.next 1 = some ua := by rw [H.cell_of gx6]; rfl
  have lA : lensV ua = some (.int .i64 (n : Int)) := by rw [← hn]; exact hua.lens
  simp (disch := first | omega | (simp only [Qn] <;> omega)) only [go_sem, x0, x1, lA]
  refine (ref_one_ok n a.1 h6 hr1 hr2 (by omega)).mono ?_
  rintro w h7 ⟨⟨u1, ws1, rfl, R1⟩, f7⟩
  have v1 := SV.what R1.own.sv
  have hst7 := fun hh id => stV_agg2 hh id 0 (v := .int .i64 (oneF n a.1).1) (u := u1) rfl v1.2.1
  have s1 : SR h7 u1 (oneF n a.1).2 := R1.sr
  simp (disch := first | omega | (simp only [Qn] <;> omega)) only [go_sem, hst7, bxH_eq]
  have f8 := f7.trans (bxH_fr h7 (oneF n a.1).1 u1)
  have s8 := s1.mono (bxH_fr h7 (oneF n a.1).1 u1)
  have g8 := bxH_get h7 (oneF n a.1).1 u1
  have n8 := bxH_next h7 (oneF n a.1).1 u1
  generalize bxH h7 (oneF n a.1).1 u1 = h8 at *
  obtain ⟨U, hU⟩ : ∃ U, h7.next = U := ⟨_, rfl⟩
  rw [hU] at g8 n8
  rw [hU]
  have gx8 := (f8.get h.next (by have := f6.next; omega)).trans gx6
  have hstA := fun hh id => stV_agg2 hh id 0 (v := .int .i64 a.1) (u := ua) rfl wa.2.1
  simp (disch := first | omega | (simp only [Qn] <;> omega)) only [go_sem, row_two gx8, hstA, bxH_eq]
  have F8 := F6.trans f8
  have fB := bxH_fr h8 a.1 ua
  have gB := bxH_get h8 a.1 ua
  have nB := bxH_next h8 a.1 ua
  generalize bxH h8 a.1 ua = hB at *
  have hn8 := f8.next
  have hn6 := f6.next
  obtain ⟨B, hBe⟩ : ∃ B, h8.next = B := ⟨_, rfl⟩
  rw [hBe] at gB nB
  rw [hBe]
  refine Wp_loop (fun k' vars h3 => ∃ (k : Nat) (ub : V) (b : Mat), (∃ g : Nat → V, vars = [g 0, .ptr h.next 0, g 2, g 3, g 4, .ptr U 0, .ptr B 0, .int .i64 (k : Int), g 8, g 9, g 10]) ∧ k + k' = 10001 ∧ b.1 = a.1 ∧ Vd b n ∧ b.2.length = n ∧ SRa h3 ub b.2 [B] ∧ h3.get B = some (.cells false [.int .i64 a.1, ub]) ∧ B < h3.next ∧ Fr h8 h3 ∧ ordG a n k' k b = ordG a n 10000 1 a) 10000
    ⟨1, ua, a, ex_junk rfl, rfl, rfl, da, hn, (SRa.old (bad := [B]) hua fun b hb => by
      simp only [List.mem_cons, List.not_mem_nil, or_false] at hb
      have := F8.next
      omega).fr (F8.trans fB), gB, by omega, fB, rfl⟩ ?_
  clear gB nB fB
  rintro k' vars h3 ⟨k, ub, b, ⟨g, rfl⟩, hk, hb1, db, hbn, sb, gB, ltB, f3, hord⟩
  simp (disch := first | omega | (simp only [Qn] <;> omega)) only [go_sem]
  cases k' with
  | zero =>
    rw [decide_eq_false (show ¬ ((k : Int) ≤ 10000) by omega)]
    simp (disch := first | omega | (simp only [Qn] <;> omega)) only [go_sem]
    exact ⟨by rw [OrderF, if_neg (by simp [hi0]), hn, ← hord]; rfl, F8.trans f3⟩
  | succ f =>
    rw [decide_eq_true (show ((k : Int) ≤ 10000) by omega)]
    have gU := (f3.get U (by omega)).trans g8
    have e81 : (oneF n a.1).1 = a.1 := rfl
    rw [e81] at gU
    simp (disch := first | omega | (simp only [Qn] <;> omega)) only [go_sem, row_two gB, row_two gU]
    refine (Same_ok _ _ b (oneF n a.1) h3 ⟨ub, by rw [hb1], sb.sr⟩ ⟨u1, rfl, s8.mono f3⟩ ⟨by omega, fun i hi => by rw [db.row i hi]; omega⟩ ⟨by rw [oneF, mkR_len]; omega, fun i hi => by
      rw [oneF, mkR_len] at hi
      simp only [oneF]
      rw [mkR_row _ hi, mkV_len]; omega⟩).mono ?_
    rintro v h4 ⟨rfl, f4⟩
    rw [ordG] at hord
    by_cases e : b.2 = (oneF n a.1).2
    · rw [decide_eq_true (show b = oneF n a.1 from Prod.ext hb1 e)]
      rw [if_pos e] at hord
      simp (disch := first | omega | (simp only [Qn] <;> omega)) only [go_sem]
      exact ⟨by rw [OrderF, if_neg (by simp [hi0]), hn, ← hord], (F8.trans f3).trans f4⟩
    · rw [decide_eq_false (show ¬ b = oneF n a.1 from fun q => e (by rw [q]))]
      rw [if_neg e] at hord
      have gB4 := (f4.get B ltB).trans gB
      have F4 := F8.trans (f3.trans f4)
      have gx4 := ((f3.trans f4).get h.next (by omega)).trans gx8
      simp (disch := first | omega | (simp only [Qn] <;> omega)) only [go_sem, row_two gB4, row_two gx4]
      refine (ref_mul_ok _ _ b a n n h4 ⟨ub, by rw [hb1], (sb.fr f4).sr⟩ ⟨ua, rfl, hua.mono F4⟩ db da hb1 hn.symm).mono ?_
      rintro w h10 ⟨⟨um, wsm, rfl, RM⟩, f10⟩
      have vm := SV.what RM.own.sv
      have e1 : (mulF b a n n).1 = a.1 := hb1
      rw [e1]
      have hstm := fun hh id => stV_agg2 hh id 0 (v := .int .i64 a.1) (u := um) rfl vm.2.1
      have hle := f4.next
      have gC10 := (f10.get B (by omega)).trans gB4
      simp (disch := first | omega | (simp only [Qn] <;> omega)) only [go_sem, hstm, gC10]
      rw [show (k : Int) + 1 = ((k + 1 : Nat) : Int) from by omega]
      refine ⟨f, by omega, k + 1, um, mulF b a n n, ex_junk rfl, by omega, hb1, db.mul da, by rw [mulF, mkR_len]; exact hbn, (SRa.new (bad := [B]) RM fun b hb => by
        simp only [List.mem_cons, List.not_mem_nil, or_false] at hb
        omega).set (by simp) _, by first | rfl | exact H.get_set_same .., by show B < h10.next; have := f10.next; omega, ((f3.trans f4).trans f10).set (by omega) _, hord⟩
end Go.Proofs.Ytonhijbeddcmpaa

/- Layer 4: the permutation of the vectors. -/
namespace Go.Proofs.Ytonhijbeddcmpaa
open Go Go.Ay
set_option maxRecDepth 100000
/-- Horner's way with the first entries. -/
def hor (p : Int) (w : Nat → Int) : Nat → Int
  | 0 => 0
  | i + 1 => hor p w i * p + w i
theorem pw_pos {p : Int} (hp : 1 ≤ p) (i : Nat) : 1 ≤ p ^ i := by
  induction i with
  | zero => rw [Int.pow_zero]; exact Int.le_refl 1
  | succ i ih =>
    rw [Int.pow_succ]
    have := Int.mul_le_mul ih hp (by omega) (by omega)
    omega
theorem pw_mono {p : Int} (hp : 1 ≤ p) {i n : Nat} (h : i ≤ n) : p ^ i ≤ p ^ n := by
  obtain ⟨d, rfl⟩ := Nat.le.dest h
  induction d with
  | zero => exact Int.le_refl _
  | succ d ih =>
    rw [show i + (d + 1) = (i + d) + 1 by omega, Int.pow_succ]
    have a := ih (by omega)
    have b := pw_pos hp (i + d)
    have := Int.mul_le_mul (Int.le_refl (p ^ (i + d))) hp (by omega) (by omega)
    omega
theorem hor_bound {p : Int} (hp : 1 ≤ p) {w : Nat → Int} : ∀ {i : Nat}, (∀ j, j < i → 0 ≤ w j ∧ w j < p) → 0 ≤ hor p w i ∧ hor p w i < p ^ i
  | 0, _ => by simp [hor]
  | i + 1, h => by
    have a := hor_bound hp (i := i) fun j hj => h j (by omega)
    have b := h i (by omega)
    rw [hor, Int.pow_succ]
    have c := Int.mul_nonneg a.1 (show 0 ≤ p by omega)
    have d := Int.mul_le_mul (show hor p w i + 1 ≤ p ^ i by omega) (Int.le_refl p) (by omega) (by omega)
    rw [Int.add_mul] at d
    omega
/-- The digits of a number. -/
def dig (p : Int) (n k : Nat) : Nat → Int := fun i => (k : Int) / p ^ (n - 1 - i) % p
def permE (a : Mat) (n k : Nat) : Int := hor a.1 (fun i => (applyF (mkV n (dig a.1 n k)) a n).getD i 0) n
def PermF (a : Mat) : List Int × Int :=
  if sqF a ≠ 0 then ([], sqF a) else if 64 < a.1 ^ a.2.length then ([], 5) else if det a.2.length (ent a.2) % a.1 = 0 then ([], 15) else (mkV (a.1 ^ a.2.length).toNat (permE a a.2.length), 0)
theorem mks_ints (hh : H) (c : Nat) (hc : c ≤ 1000) : mksV hh 1 8 [.int .i64 0] (.int .i64 (c : Int)) (.int .i64 (c : Int)) = some (.sl hh.next 0 c (.kn c), hh.new (.cells false (ints (mkV c fun _ => 0)))) := by
  rw [mksV_int (by omega) (Int.le_refl _) (by omega) (by omega), Int.toNat_natCast, Nat.mul_one, zeros_int, show List.replicate c (0 : Int) = mkV c (fun _ => 0) from mkV_eq (List.length_replicate ..) fun j hj => by rw [List.getD_eq_getElem?_getD, List.getElem?_replicate, if_pos hj]; rfl]
/-- A block of numbers. -/
def Bk (h : H) (id n : Nat) (f : Nat → Int) : Prop := h.get id = some (.cells false (ints (mkV n f)))
section
variable {h h' : H} {id n : Nat} {f : Nat → Int}
theorem Bk.cell (b : Bk h id n f) {i : Nat} (hi : i < n) : h.cell id i = some (.int .i64 (f i)) := by
  rw [H.cell_of b, ints_getD (by rw [mkV_len]; exact hi), mkV_get _ hi]
theorem Bk.put (b : Bk h id n f) {i : Nat} (hi : i < n) (hh : H) (x : Int) : putO (h.get id) hh id i [.int .i64 x] = some (hh.set id (some (.cells false (ints (mkV n fun j => if j = i then x else f j))))) := by
  rw [b, putO_one (by rw [ints_length, mkV_len]; exact hi), ints_set, mkV_set]
theorem Bk.si (b : Bk h id n f) (hl : id < h.next) (cap : Cap) : SI h (.sl id 0 n cap) (mkV n f) :=
  SV.all (by rw [ints_length, mkV_len]; omega) hl b cap
theorem Bk.set (h : H) (id n : Nat) (f : Nat → Int) : Bk (h.set id (some (.cells false (ints (mkV n f))))) id n f := H.get_set_same ..
theorem Bk.ne (b : Bk h id n f) {x : Nat} (hx : id ≠ x) (o : Option Ob) : Bk (h.set x o) id n f := by
  rw [Bk, H.get_set_ne _ hx]; exact b
theorem Bk.fr (b : Bk h id n f) (F : Fr h h') (hl : id < h.next) : Bk h' id n f := (F.get id hl).trans b
theorem Bk.congr (b : Bk h id n f) {g : Nat → Int} (e : ∀ i, i < n → f i = g i) : Bk h id n g := by
  rw [Bk, ← mkV_congr e]; exact b
end
theorem dig_zero {p : Int} {n k : Nat} : (k : Int) / p ^ (n - n) = k := by
  rw [Nat.sub_self, Int.pow_zero, Int.ediv_one]
theorem dig_step {p : Int} (hp : 1 ≤ p) {n k r : Nat} (hr : r < n) : (k : Int) / p ^ (n - (r + 1)) / p = (k : Int) / p ^ (n - r) := by
  rw [show n - r = (n - (r + 1)) + 1 by omega, Int.pow_succ, Int.ediv_ediv_of_nonneg (by have := pw_pos hp (n - (r + 1)); omega)]
theorem dig_range {p : Int} (hp : 1 ≤ p) {m k : Nat} : 0 ≤ (k : Int) / p ^ m ∧ (k : Int) / p ^ m ≤ k := by
  have a := pw_pos hp m
  exact ⟨Int.ediv_nonneg (by omega) (by omega), Int.ediv_le_self _ (by omega)⟩
theorem applyF_range {v : List Int} {a : Mat} {c i : Nat} (hp : 0 < a.1) (hi : i < c) : 0 ≤ (applyF v a c).getD i 0 ∧ (applyF v a c).getD i 0 < a.1 := by
  rw [applyF, mkV_get _ hi]
  exact tmod_range _ hp
set_option maxHeartbeats 16000000 in
theorem Perm_ok (va : V) (a : Mat) (h : H) (ha : MatV h va a) (la : (a.2.length : Int) ≤ 2 ^ 63 - 1) : Ev T n_matrix_Perm [va] h (fun v h' => ∃ w, v = .tup [w, .int .i64 (PermF a).2] ∧ SI h' w (PermF a).1 ∧ Fr h h') := by
  obtain ⟨ua, rfl, hua⟩ := ha
  refine Ev_of t_matrix_Perm rfl ?_
  have wa := SV.what hua.choose_spec.1
  simp (disch := first | omega | (simp only [Qn] <;> omega)) only [go_sem, c_matrix_Perm, initV_eq, boxV_agg2 h (v := .int .i64 a.1) rfl wa.2.1]
  have hfx : Fr h (h.new (.cells false [.int .i64 a.1, ua])) := (Fr.refl h).new _
  have hgx : (h.new (.cells false [.int .i64 a.1, ua])).get h.next = some (.cells false [.int .i64 a.1, ua]) := H.get_new_same ..
  have hnx : (h.new (.cells false [.int .i64 a.1, ua])).next = h.next + 1 := H.next_new ..
  generalize h.new (.cells false [.int .i64 a.1, ua]) = hx at *
  simp (disch := first | omega | (simp only [Qn] <;> omega)) only [go_sem, row_two hgx]
  refine (square_ok _ a hx ⟨ua, rfl, hua.mono hfx⟩ la).mono ?_
  rintro v h5 ⟨rfl, f5⟩
  have F5 := hfx.trans f5
  have gx5 := (f5.get h.next (by omega)).trans hgx
  simp (disch := first | omega | (simp only [Qn] <;> omega)) only [go_sem]
  refine iteW_dec (fun he => ?_) (fun he => ?_)
  · simp (disch := first | omega | (simp only [Qn] <;> omega)) only [go_sem]
    rw [show PermF a = ([], sqF a) from if_pos he]
    exact ⟨_, rfl, SI.nils _, F5⟩
  have hz : sqF a = 0 := Classical.byContradiction he
  have da := sq_vd hz
  have hp := fieldF_range da.p
  obtain ⟨n, hn⟩ : ∃ n, a.2.length = n := ⟨_, rfl⟩
  obtain ⟨p, hpe⟩ : ∃ p, a.1 = p := ⟨_, rfl⟩
  rw [hpe] at hp
  have hr1 := da.r1
  have hr2 := da.r2
  rw [hn] at hr1 hr2 da
  have hx5 : h.next < h5.next := by have := f5.next; omega
  have x0 : h5.cell h.next 0 = some (.int .i64 p) := by rw [H.cell_of gx5, ← hpe]; rfl
  have x1 : h5.cell h.next 1 = some ua := by rw [H.cell_of gx5]; rfl
  have lA : lensV ua = some (.int .i64 (n : Int)) := by rw [← hn]; exact hua.lens
  simp (disch := first | omega | (simp only [Qn] <;> omega)) only [go_sem, x1, lA]
  refine Wp_loop (fun k' vars hh => hh = h5 ∧ ∃ (i : Nat) (q : Int), (∃ g : Nat → V, vars = [g 0, .ptr h.next 0, g 2, g 3, g 4, .int .i64 q, g 6, g 7, g 8, g 9, g 10, g 11, g 12, g 13, .int .i64 (n : Int), .int .i64 (i : Int), g 16, g 17, g 18, g 19, g 20, g 21, g 22, g 23, g 24, g 25, g 26]) ∧ q = p ^ i ∧ i ≤ n ∧ q ≤ 64 ∧ k' = n - i) n
    ⟨rfl, 0, 1, ex_junk rfl, (Int.pow_zero _).symm, Nat.zero_le _, by omega, rfl⟩ ?_
  rintro k' vars hh ⟨rfl, i, q, ⟨g, rfl⟩, hq, hi, hq64, rfl⟩
  simp (disch := first | omega | (simp only [Qn] <;> omega)) only [go_sem]
  have q1 := pw_pos (p := p) (by omega) i
  rw [← hq] at q1
  by_cases hlt : (i : Int) < (n : Int)
  · rw [decide_eq_true hlt]
    have b1 := Int.mul_nonneg (show 0 ≤ q by omega) (show 0 ≤ p by omega)
    have b2 := Int.mul_le_mul (show q ≤ 64 by omega) (show p ≤ 10000 by omega) (by omega) (by omega)
    have hq2 : q * p = p ^ (i + 1) := by rw [Int.pow_succ, hq]
    simp (disch := first | omega | (simp only [Qn] <;> omega)) only [go_sem, x0]
    by_cases h64 : 64 < q * p
    · rw [decide_eq_true h64]
      simp (disch := first | omega | (simp only [Qn] <;> omega)) only [go_sem]
      have := pw_mono (p := p) (by omega) (show i + 1 ≤ n by omega)
      rw [show PermF a = ([], 5) by rw [PermF, if_neg (by simp [hz]), hpe, hn, if_pos (by omega)]]
      exact ⟨_, rfl, SI.nils _, F5⟩
    · rw [decide_eq_false h64]
      simp (disch := first | omega | (simp only [Qn] <;> omega)) only [go_sem]
      rw [show (i : Int) + 1 = ((i + 1 : Nat) : Int) from by omega]
      exact ⟨n - (i + 1), by omega, i + 1, _, ex_junk rfl, hq2, by omega, by omega, rfl⟩
  rw [decide_eq_false hlt]
  obtain rfl : n = i := by omega
  obtain ⟨m, hm⟩ : ∃ m : Nat, q = (m : Int) := ⟨q.toNat, by omega⟩
  subst hm
  simp (disch := first | omega | (simp only [Qn] <;> omega)) only [go_sem, row_two gx5]
  rw [hpe]
  refine (invert_ok _ a n hh ⟨ua, by rw [hpe], hua.mono F5⟩ da hn).mono ?_
  rintro v h6 ⟨w, dd, rfl, f6, hdd, hd0, hd1⟩
  obtain ⟨q, u, ws, rfl, R⟩ : ∃ q u ws, w = V.agg [.int .i64 q, u] ∧ SV h6 u 1 ws := by
    by_cases hd : dd = 0
    · obtain ⟨u, ws, rfl, R⟩ := hd0 hd
      exact ⟨_, _, _, rfl, R.own.sv⟩
    · obtain ⟨X, hX, u, ws, rfl, R⟩ := hd1 hd
      exact ⟨_, _, _, rfl, R.own.sv⟩
  have vu := SV.what R
  have hst5 := fun hh id => stV_agg2 hh id 0 (v := .int .i64 q) (u := u) rfl vu.2.1
  simp (disch := first | omega | (simp only [Qn] <;> omega)) only [go_sem, hst5, bxH_eq]
  have fB := bxH_fr h6 q u
  generalize bxH h6 q u = hB at *
  have F6 := F5.trans (f6.trans fB)
  have gx6 := ((f6.trans fB).get _ hx5).trans gx5
  clear hd0 hd1 hst5 vu R
  by_cases hd : dd = 0
  · rw [decide_eq_true hd]
    simp (disch := first | omega | (simp only [Qn] <;> omega)) only [go_sem]
    rw [show PermF a = ([], 15) by rw [PermF, if_neg (by simp [hz]), hpe, hn, if_neg (by omega), if_pos (by rw [← hpe, ← hdd]; exact hd)]]
    exact ⟨_, rfl, SI.nils _, F6⟩
  rw [decide_eq_false hd]
  have hP : PermF a = (mkV m (permE a n), 0) := by
    rw [PermF, if_neg (by simp [hz]), hpe, hn, if_neg (by omega), if_neg (by rw [← hpe, ← hdd]; exact hd), ← hq, Int.toNat_natCast]
  rw [hP]
  have lB : h.next < hB.next := by have := (f6.trans fB).next; omega
  have x1B : hB.cell h.next 1 = some ua := by rw [H.cell_of gx6]; rfl
  simp (disch := first | omega | (simp only [Qn] <;> omega)) only [go_sem, mks_ints _ m (by omega), x1B, lA, mks_ints _ n (by omega)]
  have hf7 : Fr hB (hB.new (.cells false (ints (mkV m fun _ => 0)))) := (Fr.refl hB).new _
  have hg7 : (hB.new (.cells false (ints (mkV m fun _ => 0)))).get hB.next = some (.cells false (ints (mkV m fun _ => 0))) := H.get_new_same ..
  have hn7 : (hB.new (.cells false (ints (mkV m fun _ => 0)))).next = hB.next + 1 := H.next_new ..
  generalize hB.new (.cells false (ints (mkV m fun _ => 0))) = h7 at *
  have hf8 : Fr h7 (h7.new (.cells false (ints (mkV n fun _ => 0)))) := (Fr.refl h7).new _
  have hg8 : (h7.new (.cells false (ints (mkV n fun _ => 0)))).get h7.next = some (.cells false (ints (mkV n fun _ => 0))) := H.get_new_same ..
  have hn8 : (h7.new (.cells false (ints (mkV n fun _ => 0)))).next = h7.next + 1 := H.next_new ..
  generalize h7.new (.cells false (ints (mkV n fun _ => 0))) = h8 at *
  obtain ⟨Oo, hOo⟩ : ∃ Oo, hB.next = Oo := ⟨_, rfl⟩
  obtain ⟨Vv, hVv⟩ : ∃ Vv, h7.next = Vv := ⟨_, rfl⟩
  have gO : Bk h8 Oo m (fun j => if j < 0 then permE a n j else 0) := by
    rw [← hOo]
    exact ((hf8.get hB.next (by omega)).trans hg7).trans (by congr 4)
  have gV : Bk h8 Vv n (fun _ => 0) := by rw [← hVv]; exact hg8
  have F8 := hf7.trans hf8
  have hs : h.next < Oo ∧ Oo < Vv ∧ Vv < h8.next := ⟨by omega, by omega, by omega⟩
  rw [← hn7, hVv, hOo]
  refine Wp_loop (fun k' vars hh => ∃ (k : Nat) (f : Nat → Int), (∃ g : Nat → V, vars = [g 0, .ptr h.next 0, g 2, g 3, g 4, .int .i64 (m : Int), g 6, .sl Oo 0 m (.kn m), .sl Vv 0 n (.kn n), g 9, g 10, g 11, g 12, g 13, g 14, g 15, g 16, g 17, g 18, .int .i64 (m : Int), .int .i64 (k : Int), g 21, g 22, g 23, g 24, g 25, g 26]) ∧ k ≤ m ∧ Bk hh Oo m (fun j => if j < k then permE a n j else 0) ∧ Bk hh Vv n f ∧ Vv < hh.next ∧ Fr hB hh ∧ k' = m - k) m
    ⟨0, _, ex_junk rfl, Nat.zero_le _, gO, gV, by omega, F8, rfl⟩ ?_
  clear gO gV F8 hg7 hg8 hf7 hf8
  rintro k' vars h9 ⟨k, f, ⟨g, rfl⟩, hk, gO, gV, lV, F9, rfl⟩
  simp (disch := first | omega | (simp only [Qn] <;> omega)) only [go_sem]
  by_cases hkm : (k : Int) < (m : Int)
  · rw [decide_eq_true hkm]
    simp (disch := first | omega | (simp only [Qn] <;> omega)) only [go_sem]
    have hkm' : k < m := by omega
    obtain ⟨W, hW⟩ : ∃ W : Nat → Int, W = fun j => (applyF (mkV n (dig p n k)) a n).getD j 0 := ⟨_, rfl⟩
    have hPE : permE a n k = hor p W n := by rw [hW, permE, hpe]
    have hWr : ∀ j, j < n → 0 ≤ W j ∧ W j < p := fun j hj => by
      rw [hW, ← hpe]; exact applyF_range (by omega) hj
    refine Wp_loop (fun k' vars hh => ∃ (r : Nat) (i x : Int), (∃ g : Nat → V, vars = [g 0, .ptr h.next 0, g 2, g 3, g 4, .int .i64 (m : Int), g 6, .sl Oo 0 m (.kn m), .sl Vv 0 n (.kn n), .int .i64 (k : Int), .int .i64 i, .int .i64 x, g 12, g 13, g 14, g 15, g 16, g 17, g 18, .int .i64 (m : Int), .int .i64 (k : Int), g 21, g 22, g 23, g 24, g 25, g 26]) ∧ i = (r : Int) - 1 ∧ x = (k : Int) / p ^ (n - r) ∧ r ≤ n ∧ Bk hh Oo m (fun j => if j < k then permE a n j else 0) ∧ Bk hh Vv n (fun j => if j < r then f j else dig p n k j) ∧ Vv < hh.next ∧ Fr hB hh ∧ k' = r) n
      ⟨n, _, _, ex_junk rfl, rfl, dig_zero.symm, Nat.le_refl _, gO, gV.congr fun i hi => (if_pos hi).symm, lV, F9, rfl⟩ ?_
    clear gO gV lV F9
    rintro k' vars h10 ⟨r, i, x, ⟨g, rfl⟩, hir, hxr, hr, gO, gV, lV, F10, rfl⟩
    have c0 : h10.cell h.next 0 = some (.int .i64 p) := by rw [F10.cell (by omega), H.cell_of gx6, ← hpe]; rfl
    simp (disch := first | omega | (simp only [Qn] <;> omega)) only [go_sem]
    by_cases h0 : 0 ≤ i
    · rw [decide_eq_true h0]
      obtain ⟨t, rfl⟩ : ∃ t : Nat, i = (t : Int) := ⟨i.toNat, by omega⟩
      obtain rfl : k' = t + 1 := by omega
      have xr := dig_range (p := p) (by omega) (m := n - (t + 1)) (k := k)
      rw [← hxr] at xr
      have e1 := nonneg_tmod (a := x) (p := p) xr.1
      have e2 : x.tdiv p = x / p := Int.tdiv_eq_ediv_of_nonneg xr.1
      have hd := dig_step (p := p) (k := k) (by omega) (show t < n by omega)
      rw [← hxr] at hd
      have q1 := Int.ediv_nonneg xr.1 (show 0 ≤ p by omega)
      have q2 := Int.ediv_le_self p xr.1
      obtain ⟨y, hy⟩ : ∃ y, x / p = y := ⟨_, rfl⟩
      rw [hy] at q1 q2 e2 hd
      have hpt := fun hh => gV.put (i := t) (by omega) hh (x % p)
      have c0' : (h10.set Vv (some (.cells false (ints (mkV n fun j => if j = t then x % p else if j < t + 1 then f j else dig p n k j))))).cell h.next 0 = some (.int .i64 p) := by rw [H.cell_set_ne _ (by omega)]; exact c0
      simp (disch := first | omega | (simp only [Qn] <;> omega)) only [go_sem, c0, e1, e2, hpt, c0']
      refine ⟨t, by omega, t, _, _, ex_junk rfl, rfl, hd, by omega, gO.ne (by omega) _, (Bk.set ..).congr fun j hj => ?_, lV, F10.set (by omega) _, rfl⟩
      by_cases e : j = t
      · rw [if_pos e, if_neg (by omega), e, dig, show n - 1 - t = n - (t + 1) by omega, ← hxr]
      · rw [if_neg e]
        by_cases e3 : j < t
        · rw [if_pos e3, if_pos (by omega)]
        · rw [if_neg e3, if_neg (by omega)]
    rw [decide_eq_false h0]
    obtain rfl : k' = 0 := by omega
    have gV2 := gV.congr (g := dig p n k) fun j _ => if_neg (Nat.not_lt_zero j)
    have gxr := (F10.get _ (by omega)).trans gx6
    rw [hpe] at gxr
    simp (disch := first | omega | (simp only [Qn] <;> omega)) only [go_sem, row_two gxr]
    refine (apply_ok (.sl Vv 0 n (.kn n)) _ (mkV n (dig p n k)) a n h10 (gV2.si lV _) ⟨ua, by rw [hpe], hua.mono (F6.trans F10)⟩ da (by rw [mkV_len]; omega) (fun i hi => by
      rw [mkV_len] at hi
      rw [mkV_get _ hi, dig, hpe]; exact tmod_range _ (by omega))).mono ?_
    rintro w h11 ⟨o, f11⟩
    have la : (applyF (mkV n (dig p n k)) a n).length = n := by rw [applyF, mkV_len]
    obtain ⟨idw, capw, restw, rfl, i1, i2, i3⟩ := own_open o (by omega)
    rw [la]
    have n11 := f11.next
    have cW : ∀ j, j < n → (ints (applyF (mkV n (dig p n k)) a n) ++ restw)[j]? = some (.int .i64 (W j)) := fun j hj => by
      rw [List.getElem?_append_left (by rw [ints_length]; omega), ints_getD (by omega), hW]
    have F11 := F10.trans f11
    have gO1 := gO.fr f11 (by omega)
    have gV1 := gV2.fr f11 lV
    simp (disch := first | omega | (simp only [Qn] <;> omega)) only [go_sem]
    refine Wp_loop (fun k' vars hh => ∃ (i : Nat), (∃ g : Nat → V, vars = [g 0, .ptr h.next 0, g 2, g 3, g 4, .int .i64 (m : Int), g 6, .sl Oo 0 m (.kn m), .sl Vv 0 n (.kn n), .int .i64 (k : Int), g 10, g 11, g 12, g 13, g 14, g 15, g 16, g 17, g 18, .int .i64 (m : Int), .int .i64 (k : Int), g 21, g 22, .sl idw 0 n capw, .int .i64 (n : Int), .int .i64 (i : Int), g 26]) ∧ i ≤ n ∧ Bk hh Oo m (fun j => if j < k then permE a n j else if j = k then hor p W i else 0) ∧ Bk hh Vv n (dig p n k) ∧ hh.get idw = some (.cells false (ints (applyF (mkV n (dig p n k)) a n) ++ restw)) ∧ idw < hh.next ∧ Fr hB hh ∧ k' = n - i) n
      ⟨0, ex_junk rfl, Nat.zero_le _, gO1.congr fun j hj => by
        by_cases e : j = k
        · rw [e, if_neg (Nat.lt_irrefl k), if_neg (Nat.lt_irrefl k), if_pos rfl]; rfl
        · rw [if_neg e], gV1, i3, i2, F11, rfl⟩ ?_
    clear gO1 gV1 i3 i2 gV gV2 gO c0 o
    rintro k' vars h12 ⟨i, ⟨g, rfl⟩, hi, gO, gV, gw, lw, F12, rfl⟩
    simp (disch := first | omega | (simp only [Qn] <;> omega)) only [go_sem]
    by_cases hin : (i : Int) < (n : Int)
    · rw [decide_eq_true hin]
      have hi' : i < n := by omega
      have cw : h12.cell idw i = some (.int .i64 (W i)) := by rw [H.cell_of gw]; exact cW i hi'
      have c0 : h12.cell h.next 0 = some (.int .i64 p) := by rw [F12.cell (by omega), H.cell_of gx6, ← hpe]; rfl
      have y1 := gO.cell hkm'
      rw [if_neg (Nat.lt_irrefl k), if_pos rfl] at y1
      have hb := hor_bound (p := p) (by omega) (w := W) (i := i) fun j hj => hWr j (by omega)
      have hm1 := pw_mono (p := p) (by omega) (show i ≤ n by omega)
      have b1 := Int.mul_nonneg hb.1 (show 0 ≤ p by omega)
      have b2 := Int.mul_le_mul (show hor p W i ≤ 64 by omega) (show p ≤ 10000 by omega) (by omega) (by omega)
      have b3 := hWr i hi'
      have hpt := gO.put hkm' (H.mk h12.tr (h12.next + 13)) (hor p W i * p + W i)
      simp (disch := first | omega | (simp only [Qn] <;> omega)) only [go_sem, cw, c0, y1, hpt]
      rw [show (i : Int) + 1 = ((i + 1 : Nat) : Int) from by omega]
      refine ⟨n - (i + 1), by omega, i + 1, ex_junk rfl, by omega, (Bk.set ..).congr fun j hj => ?_, gV.ne (by omega) _, ?_, by show idw < h12.next + 13; omega, (F12.bump (by omega)).set (by omega) _, rfl⟩
      · by_cases e : j = k
        · rw [if_pos e, if_neg (by omega), if_pos e, hor]
        · simp only [if_neg e]
      · first | exact gw | (rw [H.get_set_ne _ (by omega)]; exact gw)
    rw [decide_eq_false hin]
    obtain rfl : n = i := by omega
    simp (disch := first | omega | (simp only [Qn] <;> omega)) only [go_sem]
    rw [show (k : Int) + 1 = ((k + 1 : Nat) : Int) from by omega]
    refine ⟨m - (k + 1), by omega, k + 1, _, ex_junk rfl, by omega, gO.congr fun j hj => ?_, gV, by have := F12.next; omega, F12, rfl⟩
    by_cases e : j = k
    · rw [e, if_neg (Nat.lt_irrefl k), if_pos rfl, if_pos (Nat.lt_succ_self k), hPE]
    · by_cases e2 : j < k
      · rw [if_pos e2, if_pos (by omega)]
      · rw [if_neg e2, if_neg e, if_neg (by omega)]
  rw [decide_eq_false hkm]
  obtain rfl : m = k := by omega
  simp (disch := first | omega | (simp only [Qn] <;> omega)) only [go_sem]
  have gO' := gO.congr (g := permE a n) fun i hi => if_pos hi
  exact ⟨_, rfl, gO'.si (by omega) _, F6.trans F9⟩
end Go.Proofs.Ytonhijbeddcmpaa

/- Layer 4: the reference's permutation of the vectors. -/
namespace Go.Proofs.Ytonhijbeddcmpaa
open Go Go.Ay
set_option maxRecDepth 100000
theorem ApplyF_dig {a : Mat} {n : Nat} (hz : sqF a = 0) (hn : a.2.length = n) (k : Nat) : ApplyF (mkV n (dig a.1 n k)) a = (applyF (mkV n (dig a.1 n k)) a n, 0) := by
  have hc : checkM a = 0 := by
    rw [sqF] at hz
    split at hz
    · contradiction
    · rename_i h; exact Classical.byContradiction h
  have hl : (a.2.getD 0 []).length = n := by
    rw [sqF, if_neg (by simp [hc])] at hz
    split at hz
    · cases hz
    · rename_i h
      rw [← hn]; exact (Classical.byContradiction h : a.2.length = (a.2.getD 0 []).length).symm
  rw [ApplyF, if_neg (by simp [hc]), if_neg (by rw [mkV_len, hn]; simp), mkV_len, hl]
  congr 2
  refine mkV_congr fun i hi => ?_
  rw [mkV_get _ hi, dig, Int.emod_emod_of_dvd _ (Int.dvd_refl _)]
set_option maxHeartbeats 16000000 in
theorem ref_Perm_ok (va : V) (a : Mat) (h : H) (ha : MatV h va a) (la : (a.2.length : Int) ≤ 2 ^ 63 - 1) : Ev T n_ref04_Perm [va] h (fun v h' => ∃ w, v = .tup [w, .int .i64 (PermF a).2] ∧ SI h' w (PermF a).1 ∧ Fr h h') := by
  obtain ⟨ua, rfl, hua⟩ := ha
  refine Ev_of t_ref04_Perm rfl ?_
  have wa := SV.what hua.choose_spec.1
  simp (disch := first | omega | (simp only [Qn] <;> omega)) only [go_sem, c_ref04_Perm, initV_eq, boxV_agg2 h (v := .int .i64 a.1) rfl wa.2.1]
  have hfx : Fr h (h.new (.cells false [.int .i64 a.1, ua])) := (Fr.refl h).new _
  have hgx : (h.new (.cells false [.int .i64 a.1, ua])).get h.next = some (.cells false [.int .i64 a.1, ua]) := H.get_new_same ..
  have hnx : (h.new (.cells false [.int .i64 a.1, ua])).next = h.next + 1 := H.next_new ..
  generalize h.new (.cells false [.int .i64 a.1, ua]) = hx at *
  simp (disch := first | omega | (simp only [Qn] <;> omega)) only [go_sem, row_two hgx]
  refine (ref_square_ok _ a hx ⟨ua, rfl, hua.mono hfx⟩ la).mono ?_
  rintro v h5 ⟨rfl, f5⟩
  have F5 := hfx.trans f5
  have gx5 := (f5.get h.next (by omega)).trans hgx
  simp (disch := first | omega | (simp only [Qn] <;> omega)) only [go_sem]
  refine iteW_dec (fun he => ?_) (fun he => ?_)
  · simp (disch := first | omega | (simp only [Qn] <;> omega)) only [go_sem]
    rw [show PermF a = ([], sqF a) from if_pos he]
    exact ⟨_, rfl, SI.nils _, F5⟩
  have hz : sqF a = 0 := Classical.byContradiction he
  have da := sq_vd hz
  have hp := fieldF_range da.p
  obtain ⟨n, hn⟩ : ∃ n, a.2.length = n := ⟨_, rfl⟩
  obtain ⟨p, hpe⟩ : ∃ p, a.1 = p := ⟨_, rfl⟩
  rw [hpe] at hp
  have hr1 := da.r1
  have hr2 := da.r2
  rw [hn] at hr1 hr2 da
  have hx5 : h.next < h5.next := by have := f5.next; omega
  have x0 : h5.cell h.next 0 = some (.int .i64 p) := by rw [H.cell_of gx5, ← hpe]; rfl
  have x1 : h5.cell h.next 1 = some ua := by rw [H.cell_of gx5]; rfl
  have lA : lensV ua = some (.int .i64 (n : Int)) := by rw [← hn]; exact hua.lens
  simp (disch := first | omega | (simp only [Qn] <;> omega)) only [go_sem, x1, lA]
  refine Wp_loop (fun k' vars hh => hh = h5 ∧ ∃ (i : Nat) (q : Int), (∃ g : Nat → V, vars = [g 0, .ptr h.next 0, g 2, g 3, g 4, .int .i64 (n : Int), .int .i64 q, .int .i64 (i : Int), g 8, g 9, g 10, g 11, g 12, g 13, g 14, g 15, g 16, g 17, g 18, g 19, g 20, g 21, g 22, g 23]) ∧ q = p ^ i ∧ i ≤ n ∧ q ≤ 64 ∧ k' = n - i) n
    ⟨rfl, 0, 1, ex_junk rfl, (Int.pow_zero _).symm, Nat.zero_le _, by omega, rfl⟩ ?_
  rintro k' vars hh ⟨rfl, i, q, ⟨g, rfl⟩, hq, hi, hq64, rfl⟩
  simp (disch := first | omega | (simp only [Qn] <;> omega)) only [go_sem]
  have q1 := pw_pos (p := p) (by omega) i
  rw [← hq] at q1
  by_cases hlt : (i : Int) < (n : Int)
  · rw [decide_eq_true hlt]
    have b1 := Int.mul_nonneg (show 0 ≤ q by omega) (show 0 ≤ p by omega)
    have b2 := Int.mul_le_mul (show q ≤ 64 by omega) (show p ≤ 10000 by omega) (by omega) (by omega)
    have hq2 : q * p = p ^ (i + 1) := by rw [Int.pow_succ, hq]
    simp (disch := first | omega | (simp only [Qn] <;> omega)) only [go_sem, x0]
    by_cases h64 : 64 < q * p
    · rw [decide_eq_true h64]
      simp (disch := first | omega | (simp only [Qn] <;> omega)) only [go_sem]
      have := pw_mono (p := p) (by omega) (show i + 1 ≤ n by omega)
      rw [show PermF a = ([], 5) by rw [PermF, if_neg (by simp [hz]), hpe, hn, if_pos (by omega)]]
      exact ⟨_, rfl, SI.nils _, F5⟩
    · rw [decide_eq_false h64]
      simp (disch := first | omega | (simp only [Qn] <;> omega)) only [go_sem]
      rw [show (i : Int) + 1 = ((i + 1 : Nat) : Int) from by omega]
      exact ⟨n - (i + 1), by omega, i + 1, _, ex_junk rfl, hq2, by omega, by omega, rfl⟩
  rw [decide_eq_false hlt]
  obtain rfl : n = i := by omega
  obtain ⟨m, hm⟩ : ∃ m : Nat, q = (m : Int) := ⟨q.toNat, by omega⟩
  subst hm
  simp (disch := first | omega | (simp only [Qn] <;> omega)) only [go_sem, row_two gx5]
  refine (ref_Inv_ok _ a hh ⟨ua, rfl, hua.mono F5⟩ (by omega)).mono ?_
  rintro v h6 ⟨w, rfl, ⟨u, ws, rfl, R⟩, f6⟩
  have vu := SV.what R.own.sv
  have hst5 := fun hh id => stV_agg2 hh id 0 (v := .int .i64 (InvF a).1.1) (u := u) rfl vu.2.1
  simp (disch := first | omega | (simp only [Qn] <;> omega)) only [go_sem, hst5, bxH_eq]
  have fB := bxH_fr h6 (InvF a).1.1 u
  generalize bxH h6 (InvF a).1.1 u = hB at *
  have F6 := F5.trans (f6.trans fB)
  have gx6 := ((f6.trans fB).get _ hx5).trans gx5
  clear hst5 vu R
  by_cases hd : det n (ent a.2) % p = 0
  · have eI : (InvF a).2 = 15 := by rw [InvF, if_neg (by simp [hz]), hn, hpe, if_pos hd]
    rw [eI, decide_eq_true (show (15 : Int) ≠ 0 by omega)]
    simp (disch := first | omega | (simp only [Qn] <;> omega)) only [go_sem]
    rw [show PermF a = ([], 15) by rw [PermF, if_neg (by simp [hz]), hpe, hn, if_neg (by omega), if_pos hd]]
    exact ⟨_, rfl, SI.nils _, F6⟩
  have eI : (InvF a).2 = 0 := by rw [InvF, if_neg (by simp [hz]), hn, hpe, if_neg hd]
  rw [eI, decide_eq_false (show ¬ (0 : Int) ≠ 0 by omega)]
  have hP : PermF a = (mkV m (permE a n), 0) := by
    rw [PermF, if_neg (by simp [hz]), hpe, hn, if_neg (by omega), if_neg hd, ← hq, Int.toNat_natCast]
  rw [hP]
  have lB : h.next < hB.next := by have := (f6.trans fB).next; omega
  simp (disch := first | omega | (simp only [Qn] <;> omega)) only [go_sem]
  refine Wp_loop (fun k' vars hh => ∃ (k : Nat) (u : V), (∃ g : Nat → V, vars = [g 0, .ptr h.next 0, g 2, g 3, g 4, .int .i64 (n : Int), .int .i64 (m : Int), g 7, g 8, u, .int .i64 (k : Int), g 11, g 12, g 13, g 14, g 15, g 16, g 17, g 18, g 19, g 20, g 21, g 22, g 23]) ∧ k ≤ m ∧ Own hh u 1 (ints (mkV k (permE a n))) hB.next ∧ Fr hB hh ∧ k' = m - k) m
    ⟨0, .nils, ex_junk rfl, Nat.zero_le _, Own.nils _ _ _, Fr.refl _, rfl⟩ ?_
  rintro k' vars h9 ⟨k, u, ⟨g, rfl⟩, hk, oU, F9, rfl⟩
  simp (disch := first | omega | (simp only [Qn] <;> omega)) only [go_sem]
  by_cases hkm : (k : Int) < (m : Int)
  · rw [decide_eq_true hkm]
    simp (disch := first | omega | (simp only [Qn] <;> omega)) only [go_sem, mks_ints _ n (by omega)]
    have hf8 : Fr h9 (h9.new (.cells false (ints (mkV n fun _ => 0)))) := (Fr.refl h9).new _
    have hg8 : (h9.new (.cells false (ints (mkV n fun _ => 0)))).get h9.next = some (.cells false (ints (mkV n fun _ => 0))) := H.get_new_same ..
    have hn8 : (h9.new (.cells false (ints (mkV n fun _ => 0)))).next = h9.next + 1 := H.next_new ..
    generalize h9.new (.cells false (ints (mkV n fun _ => 0))) = h8 at *
    obtain ⟨Vv, hVv⟩ : ∃ Vv, h9.next = Vv := ⟨_, rfl⟩
    have gV : Bk h8 Vv n (fun _ => 0) := by rw [← hVv]; exact hg8
    rw [hVv]
    have n9 := F9.next
    have hkm' : k < m := by omega
    obtain ⟨W, hW⟩ : ∃ W : Nat → Int, W = fun j => (applyF (mkV n (dig p n k)) a n).getD j 0 := ⟨_, rfl⟩
    have hPE : permE a n k = hor p W n := by rw [hW, permE, hpe]
    have hWr : ∀ j, j < n → 0 ≤ W j ∧ W j < p := fun j hj => by
      rw [hW, ← hpe]; exact applyF_range (by omega) hj
    refine Wp_loop (fun k' vars hh => ∃ (r : Nat) (i x : Int), (∃ g : Nat → V, vars = [g 0, .ptr h.next 0, g 2, g 3, g 4, .int .i64 (n : Int), .int .i64 (m : Int), g 7, g 8, u, .int .i64 (k : Int), .sl Vv 0 n (.kn n), .int .i64 i, .int .i64 x, g 14, g 15, g 16, g 17, g 18, g 19, g 20, g 21, g 22, g 23]) ∧ i = (r : Int) - 1 ∧ x = (k : Int) / p ^ (n - r) ∧ r ≤ n ∧ Bk hh Vv n (fun j => if j < r then 0 else dig p n k j) ∧ Vv < hh.next ∧ Fr h9 hh ∧ k' = r) n
      ⟨n, _, _, ex_junk rfl, rfl, dig_zero.symm, Nat.le_refl _, gV.congr fun i hi => (if_pos hi).symm, by omega, hf8, rfl⟩ ?_
    clear gV hg8 hf8
    rintro k' vars h10 ⟨r, i, x, ⟨g, rfl⟩, hir, hxr, hr, gV, lV, F10, rfl⟩
    have c0 : h10.cell h.next 0 = some (.int .i64 p) := by rw [(F9.trans F10).cell (by omega), H.cell_of gx6, ← hpe]; rfl
    simp (disch := first | omega | (simp only [Qn] <;> omega)) only [go_sem]
    by_cases h0 : 0 ≤ i
    · rw [decide_eq_true h0]
      obtain ⟨t, rfl⟩ : ∃ t : Nat, i = (t : Int) := ⟨i.toNat, by omega⟩
      obtain rfl : k' = t + 1 := by omega
      have xr := dig_range (p := p) (by omega) (m := n - (t + 1)) (k := k)
      rw [← hxr] at xr
      have e1 := nonneg_tmod (a := x) (p := p) xr.1
      have e2 : x.tdiv p = x / p := Int.tdiv_eq_ediv_of_nonneg xr.1
      have hd := dig_step (p := p) (k := k) (by omega) (show t < n by omega)
      rw [← hxr] at hd
      have q1 := Int.ediv_nonneg xr.1 (show 0 ≤ p by omega)
      have q2 := Int.ediv_le_self p xr.1
      obtain ⟨y, hy⟩ : ∃ y, x / p = y := ⟨_, rfl⟩
      rw [hy] at q1 q2 e2 hd
      have hpt := gV.put (i := t) (by omega) (H.mk h10.tr (h10.next + 13)) (x % p)
      have c0' : (H.mk h10.tr (h10.next + 13)).cell h.next 0 = some (.int .i64 p) := c0
      simp (disch := first | omega | (simp only [Qn] <;> omega)) only [go_sem, c0, e1, e2, hpt, c0', eqV_int]
      refine ⟨t, by omega, t, _, _, ex_junk rfl, rfl, hd, by omega, (Bk.set ..).congr fun j hj => ?_, by show Vv < h10.next + 13; omega, (F10.bump (by omega)).set (by omega) _, rfl⟩
      by_cases e : j = t
      · rw [if_pos e, if_neg (by omega), e, dig, show n - 1 - t = n - (t + 1) by omega, ← hxr]
      · rw [if_neg e]
        by_cases e3 : j < t
        · rw [if_pos e3, if_pos (by omega)]
        · rw [if_neg e3, if_neg (by omega)]
    rw [decide_eq_false h0]
    obtain rfl : k' = 0 := by omega
    have gV2 := gV.congr (g := dig p n k) fun j _ => if_neg (Nat.not_lt_zero j)
    have F910 := F9.trans F10
    have gxr := (F910.get _ (by omega)).trans gx6
    simp (disch := first | omega | (simp only [Qn] <;> omega)) only [go_sem, row_two gxr]
    refine (ref_Apply_ok (.sl Vv 0 n (.kn n)) _ (mkV n (dig p n k)) a h10 (gV2.si lV _) (by rw [mkV_len]; omega) ⟨ua, rfl, hua.mono (F6.trans F910)⟩ (by omega)).mono ?_
    rintro r h11 ⟨w, rfl, sw, f11⟩
    have eA := ApplyF_dig hz hn k
    rw [hpe] at eA
    rw [eA] at sw
    rw [eA]
    have la : (applyF (mkV n (dig p n k)) a n).length = n := by rw [applyF, mkV_len]
    obtain ⟨idw, offw, shw, hidw, hcw⟩ := sw.open
    simp only [la] at shw hidw hcw
    have n11 := f11.next
    have F11 := F910.trans f11
    simp (disch := first | omega | (simp only [Qn] <;> omega)) only [go_sem, List.getElem?_cons_zero, List.getElem?_cons_succ]
    refine Wp_loop (fun k' vars hh => ∃ (i : Nat), (∃ g : Nat → V, vars = [g 0, .ptr h.next 0, g 2, g 3, g 4, .int .i64 (n : Int), .int .i64 (m : Int), g 7, g 8, u, .int .i64 (k : Int), g 11, g 12, g 13, w, .int .i64 (hor p W i), .int .i64 (i : Int), g 17, g 18, g 19, g 20, g 21, g 22, g 23]) ∧ i ≤ n ∧ Fr h11 hh ∧ k' = n - i) n
      ⟨0, ex_junk rfl, Nat.zero_le _, Fr.refl _, rfl⟩ ?_
    clear gV gV2 c0
    rintro k' vars h12 ⟨i, ⟨g, rfl⟩, hi, F12, rfl⟩
    simp (disch := first | omega | (simp only [Qn] <;> omega)) only [go_sem]
    have hb := hor_bound (p := p) (by omega) (w := W) (i := i) fun j hj => hWr j (by omega)
    have hm1 := pw_mono (p := p) (by omega) (show i ≤ n by omega)
    by_cases hin : (i : Int) < (n : Int)
    · rw [decide_eq_true hin]
      have hi' : i < n := by omega
      have cw : h12.cell idw (offw + i) = some (.int .i64 (W i)) := by rw [F12.cell (hidw (by omega)), hcw i hi', hW]
      have c0 : h12.cell h.next 0 = some (.int .i64 p) := by rw [(F11.trans F12).cell (by omega), H.cell_of gx6, ← hpe]; rfl
      have b1 := Int.mul_nonneg hb.1 (show 0 ≤ p by omega)
      have b2 := Int.mul_le_mul (show hor p W i ≤ 64 by omega) (show p ≤ 10000 by omega) (by omega) (by omega)
      have b3 := hWr i hi'
      simp (disch := first | omega | (simp only [Qn] <;> omega)) only [go_sem, c0, shw.ixa, cw]
      rw [show (i : Int) + 1 = ((i + 1 : Nat) : Int) from by omega]
      exact ⟨n - (i + 1), by omega, i + 1, ex_junk rfl, by omega, F12.bump (by omega), rfl⟩
    rw [decide_eq_false hin]
    obtain rfl : n = i := by omega
    have F9b := (F10.trans f11).trans F12
    simp (disch := first | omega | (simp only [Qn] <;> omega)) only [go_sem, bls_i1]
    have hf31 : Fr h12 (h12.new (.cells false (ints [hor p W n]))) := (Fr.refl h12).new _
    have hg31 : (h12.new (.cells false (ints [hor p W n]))).get h12.next = some (.cells false (ints [hor p W n])) := H.get_new_same ..
    have hn31 : (h12.new (.cells false (ints [hor p W n]))).next = h12.next + 1 := H.next_new ..
    generalize h12.new (.cells false (ints [hor p W n])) = h31 at *
    have n12 := F9b.next
    have sx : SV h31 (.sl h12.next 0 1 (.kn 1)) 1 (ints [hor p W n]) := SV.all rfl (by omega) hg31 _
    obtain ⟨v2, h32, e32, a32⟩ := (oU.fr (F9b.trans hf31)).app (bytes := 8) (n := k) (m := 1) (by omega) sx (by rw [ints_length, mkV_len, Nat.mul_one]) rfl (by omega) (by omega)
    simp (disch := first | omega | (simp only [Qn] <;> omega)) only [go_sem, e32]
    have t32 := a32.own
    rw [← hPE, ← ints_append, ← mkV_succ] at t32
    rw [show (k : Int) + 1 = ((k + 1 : Nat) : Int) from by omega]
    exact ⟨m - (k + 1), by omega, k + 1, v2, ex_junk rfl, by omega, t32, a32.fr hB ((F9.trans F9b).trans hf31) (Nat.le_refl _), rfl⟩
  rw [decide_eq_false hkm]
  obtain rfl : m = k := by omega
  simp (disch := first | omega | (simp only [Qn] <;> omega)) only [go_sem]
  exact ⟨_, rfl, oU.sv, F6.trans F9⟩
end Go.Proofs.Ytonhijbeddcmpaa

/- Layer 4: what is too large. -/
namespace Go.Proofs.Ytonhijbeddcmpaa
open Go Go.Ay
set_option maxRecDepth 100000
/-- A matrix that is small enough. -/
def smallM (l : List (List Int)) : Prop := l.length ≤ 6 ∧ ∀ r ∈ l, r.length ≤ 6
set_option maxHeartbeats 8000000 in
theorem large_ok (v : V) (id off n : Nat) (us : Nat → V) (lls : Nat → List (List Int)) (h : H) (hsl : Sl v 2 n id off) (hcs : ∀ i, i < n → h.cell id (off + i * 2 + 1) = some (us i)) (hR : ∀ i, i < n → SR h (us i) (lls i)) (hl : ∀ i, i < n → ((lls i).length : Int) ≤ 2 ^ 63 - 1) (hn : n < 1000000) :
    Ev T n_law04_large [v] h (fun w h' => h' = h ∧ ∃ b, w = .bool b ∧ (b = false → ∀ i, i < n → smallM (lls i))) := by
  refine Ev_of t_law04_large rfl ?_
  simp (disch := first | omega | (simp only [Qn] <;> omega)) only [go_sem, c_law04_large, initV_eq]
  refine Wp_loop (fun k' vars h1 => h1 = h ∧ ∃ i : Nat, (∃ g : Nat → V, vars = [v, .bool false, .int .i64 (i : Int), g 3, g 4, g 5, g 6, g 7]) ∧ i ≤ n ∧ (∀ k, k < i → smallM (lls k)) ∧ k' = n - i) n
    ⟨rfl, 0, ex_junk rfl, Nat.zero_le _, fun k hk => by omega, rfl⟩ ?_
  rintro k' vars h1 ⟨rfl, i, ⟨g, rfl⟩, hi, hgood, rfl⟩
  simp (disch := first | omega | (simp only [Qn] <;> omega)) only [go_sem, hsl.lens]
  by_cases hlt : (i : Int) < (n : Int)
  · rw [decide_eq_true hlt]
    have ci := hcs i (by omega)
    have si := hR i (by omega)
    have li := hl i (by omega)
    obtain ⟨u, hu⟩ : ∃ u, us i = u := ⟨_, rfl⟩
    obtain ⟨ll, hll⟩ : ∃ ll, lls i = ll := ⟨_, rfl⟩
    rw [hu] at ci si
    rw [hll] at si li
    simp (disch := first | omega | (simp only [Qn] <;> omega)) only [go_sem, hsl.ixa, ci, si.lens]
    by_cases h6 : (6 : Int) < (ll.length : Int)
    · rw [decide_eq_true h6]
      simp (disch := first | omega | (simp only [Qn] <;> omega)) only [go_sem]
      exact ⟨true, rfl, fun e => by cases e⟩
    rw [decide_eq_false h6]
    obtain ⟨idu, offu, ws, su, hidu, hwl, hcu, hall⟩ := si.open
    simp (disch := first | omega | (simp only [Qn] <;> omega)) only [go_sem]
    refine Wp_loop (fun k' vars h2 => h2 = h1 ∧ ∃ j : Nat, (∃ g : Nat → V, vars = [v, .bool false, .int .i64 (i : Int), .int .i64 (j : Int), g 4, g 5, g 6, g 7]) ∧ j ≤ ll.length ∧ (∀ r ∈ ll.take j, r.length ≤ 6) ∧ k' = ll.length - j) ll.length
      ⟨rfl, 0, ex_junk rfl, Nat.zero_le _, fun r hr => by simp at hr, rfl⟩ ?_
    rintro k' vars h2 ⟨rfl, j, ⟨g, rfl⟩, hj, hrow, rfl⟩
    simp (disch := first | omega | (simp only [Qn] <;> omega)) only [go_sem, hsl.ixa, ci, si.lens]
    by_cases hjl : (j : Int) < (ll.length : Int)
    · rw [decide_eq_true hjl]
      have cj := hcu j (by omega)
      have rj := row_at hall (i := j) (by omega)
      have lj := rj.lens
      have ej : ll.getD j [] = ll[j]'(by omega) := by rw [List.getD_eq_getElem?_getD, List.getElem?_eq_getElem (by omega)]; rfl
      obtain ⟨r, hr⟩ : ∃ r, ll.getD j [] = r := ⟨_, rfl⟩
      rw [hr] at lj ej
      simp (disch := first | omega | (simp only [Qn] <;> omega)) only [go_sem, hsl.ixa, ci, su.ixa, cj, lj]
      by_cases hr6 : (6 : Int) < (r.length : Int)
      · rw [decide_eq_true hr6]
        simp (disch := first | omega | (simp only [Qn] <;> omega)) only [go_sem]
        exact ⟨true, rfl, fun e => by cases e⟩
      rw [decide_eq_false hr6]
      simp (disch := first | omega | (simp only [Qn] <;> omega)) only [go_sem]
      refine ⟨ll.length - (j + 1), by omega, j + 1, ex_junk rfl, by omega, fun x hx => ?_, rfl⟩
      rw [List.take_add_one, List.getElem?_eq_getElem (by omega), ← ej] at hx
      rcases List.mem_append.1 hx with hx | hx
      · exact hrow x hx
      · simp at hx; rw [hx]; omega
    · rw [decide_eq_false hjl]
      simp (disch := first | omega | (simp only [Qn] <;> omega)) only [go_sem]
      refine ⟨n - (i + 1), by omega, i + 1, ex_junk rfl, by omega, fun k hk => ?_, rfl⟩
      by_cases e : k = i
      · subst e
        rw [hll]
        refine ⟨by omega, fun r hr => hrow r ?_⟩
        rw [List.take_of_length_le (by omega)]; exact hr
      · exact hgood k (by omega)
  · rw [decide_eq_false hlt]
    simp (disch := first | omega | (simp only [Qn] <;> omega)) only [go_sem]
    refine ⟨false, rfl, fun _ k hk => hgood k (by omega)⟩
end Go.Proofs.Ytonhijbeddcmpaa

/- The law MatrixCalls, walked. -/
namespace Go.Proofs.Ytonhijbeddcmpaa
open Go Go.Ay
set_option maxRecDepth 100000
theorem one_i (k : IntKind) (n : Int) : (V.int k n).one = true := rfl
theorem blsV_1 (h : H) (p : Int) (u : V) (hu : u.one = true) : blsV h 2 [.int .i64 0, .nils] 1 [(0, 2, .agg [.int .i64 p, u])] = some (.sl h.next 0 1 (.kn 1), h.new (.cells false [.int .i64 p, u])) := by
  simp [blsV, fillV, zerosV, putAt, V.cells, one_i, hu, List.range_succ]
/-- A box whose content is named. -/
structure Mu (h : H) (id : Nat) (a : Mat) (u : V) : Prop where
  g : h.get id = some (.cells false [.int .i64 a.1, u])
  s : SR h u a.2
  lt : id < h.next
theorem Mu.mono {h h' : H} {id : Nat} {a : Mat} {u : V} (b : Mu h id a u) (f : Fr h h') : Mu h' id a u := ⟨(f.get id b.lt).trans b.g, b.s.mono f, Nat.lt_of_lt_of_le b.lt f.next⟩
theorem Mu.row {h : H} {id : Nat} {a : Mat} {u : V} (b : Mu h id a u) : h.row id 0 2 = some [.int .i64 a.1, u] := row_two b.g
theorem Mu.mv {h : H} {id : Nat} {a : Mat} {u : V} (b : Mu h id a u) : MatV h (.agg [.int .i64 a.1, u]) a := ⟨u, rfl, b.s⟩
end Go.Proofs.Ytonhijbeddcmpaa

/- The law MatrixValues, walked. -/
namespace Go.Proofs.Ytonhijbeddcmpaa
open Go Go.Ay
set_option maxRecDepth 100000
/-- A box whose content is named and came in. -/
structure Mk (h : H) (id : Nat) (a : Mat) (u : V) : Prop where
  g : h.get id = some (.cells false [.int .i64 a.1, u])
  s : SRk h u a.2
  lt : id < h.next
theorem Mk.mono {h h' : H} {id : Nat} {a : Mat} {u : V} (b : Mk h id a u) (f : Fr h h') : Mk h' id a u := ⟨(f.get id b.lt).trans b.g, b.s.mono f, Nat.lt_of_lt_of_le b.lt f.next⟩
theorem Mk.row {h : H} {id : Nat} {a : Mat} {u : V} (b : Mk h id a u) : h.row id 0 2 = some [.int .i64 a.1, u] := row_two b.g
theorem Mk.mv {h : H} {id : Nat} {a : Mat} {u : V} (b : Mk h id a u) : MatV h (.agg [.int .i64 a.1, u]) a := ⟨u, rfl, b.s.sr⟩
theorem Mk.kn {h : H} {id : Nat} {a : Mat} {u : V} (b : Mk h id a u) : MatK h (.agg [.int .i64 a.1, u]) a := ⟨u, rfl, b.s⟩
end Go.Proofs.Ytonhijbeddcmpaa

/- The law MatrixOrders, walked. -/
namespace Go.Proofs.Ytonhijbeddcmpaa
open Go Go.Ay
set_option maxRecDepth 100000
theorem len_Perm (a : Mat) : (PermF a).1.length < 1000000 := by
  rw [PermF]
  split
  · simp
  · split
    · simp
    · split
      · simp
      · simp only [mkV_len]; omega
set_option maxHeartbeats 32000000 in
theorem orders_ok (va : V) (A : Mat) (h : H) (ha : MatV h va A) (la : (A.2.length : Int) ≤ 2 ^ 63 - 1) :
    Ev T n_law04_MatrixOrders [va] h (fun v _ => v = .bool true) := by
  obtain ⟨u, rfl, hu⟩ := ha
  refine Ev_of t_law04_MatrixOrders rfl ?_
  have uw := SV.what hu.choose_spec.1
  simp (disch := first | omega | (simp only [Qn] <;> omega)) only [go_sem, c_law04_MatrixOrders, initV_eq, boxV_agg2 h (v := .int .i64 A.1) rfl uw.2.1]
  have hfx : Fr h (h.new (.cells false [.int .i64 A.1, u])) := (Fr.refl h).new _
  have hgx : (h.new (.cells false [.int .i64 A.1, u])).get h.next = some (.cells false [.int .i64 A.1, u]) := H.get_new_same ..
  have hnx : (h.new (.cells false [.int .i64 A.1, u])).next = h.next + 1 := H.next_new ..
  generalize h.new (.cells false [.int .i64 A.1, u]) = hx at *
  have ga : Mu hx h.next A u := ⟨hgx, hu.mono hfx, by show h.next < hx.next; omega⟩
  clear hfx hgx hu
  generalize h.next = ia at *
  refine (lives_ok hx).mono ?_
  rintro v h0 ⟨rfl, f0⟩
  replace ga := ga.mono f0
  clear f0
  simp (disch := first | omega | (simp only [Qn] <;> omega)) only [go_sem, ga.row, blsV_1 _ _ _ uw.2.1]
  have hfz : Fr h0 (h0.new (.cells false [.int .i64 A.1, u])) := (Fr.refl h0).new _
  have hgz : (h0.new (.cells false [.int .i64 A.1, u])).get h0.next = some (.cells false [.int .i64 A.1, u]) := H.get_new_same ..
  have hnz : (h0.new (.cells false [.int .i64 A.1, u])).next = h0.next + 1 := H.next_new ..
  generalize h0.new (.cells false [.int .i64 A.1, u]) = hz at *
  replace ga := ga.mono hfz
  have c1 : hz.cell h0.next 1 = some u := by rw [H.cell_of hgz]; rfl
  clear hfz hgz
  generalize h0.next = iz at *
  refine (large_ok (.sl iz 0 1 (.kn 1)) iz 0 1 (fun i => u) (fun i => A.2) hz ⟨rfl, fun k i h1 h2 => ixaV_sl h1 h2, rfl, rfl⟩ (fun i hi => ?_) (fun i hi => ?_) (fun i hi => ?_) (by omega)).mono ?_
  · obtain rfl : i = 0 := by omega
    exact c1
  · exact ga.s
  · exact la
  clear c1
  rintro v hq ⟨rfl, b, rfl, hb⟩
  cases b with
  | true =>
    simp (disch := first | omega | (simp only [Qn] <;> omega)) only [go_sem]
  | false =>
  have c1 : hq.cell ia 1 = some u := by rw [H.cell_of ga.g]; rfl
  simp (disch := first | omega | (simp only [Qn] <;> omega)) only [go_sem, c1, ga.s.lens]
  by_cases h4 : (4 : Int) < (A.2.length : Int)
  · rw [decide_eq_true h4]
    simp (disch := first | omega | (simp only [Qn] <;> omega)) only [go_sem]
  rw [decide_eq_false h4]
  simp (disch := first | omega | (simp only [Qn] <;> omega)) only [go_sem]
  clear hb c1
  obtain ⟨X0, hX0⟩ : ∃ X, OrderF A = X := ⟨_, rfl⟩
  obtain ⟨X9, hX9⟩ : ∃ X, PermF A = X := ⟨_, rfl⟩
  have l9 := len_Perm A
  rw [hX9] at l9
  simp (disch := first | omega | (simp only [Qn] <;> omega)) only [go_sem, ga.row]
  refine (Order_ok _ A _ ga.mv la).mono ?_
  rintro v h10 ⟨rfl, f0⟩
  rw [hX0]
  replace ga := ga.mono f0
  clear f0
  simp (disch := first | omega | (simp only [Qn] <;> omega)) only [go_sem, ga.row, List.getElem?_cons_zero, List.getElem?_cons_succ]
  refine (ref_Order_ok _ A _ ga.mv la).mono ?_
  rintro v h11 ⟨rfl, f0⟩
  rw [hX0]
  replace ga := ga.mono f0
  clear f0
  simp (disch := first | omega | (simp only [Qn] <;> omega)) only [go_sem, ga.row, List.getElem?_cons_zero, List.getElem?_cons_succ]
  refine (Perm_ok _ A _ ga.mv la).mono ?_
  rintro v h12 ⟨w, rfl, s1, f0⟩
  rw [hX9] at s1
  rw [hX9]
  replace ga := ga.mono f0
  clear f0
  simp (disch := first | omega | (simp only [Qn] <;> omega)) only [go_sem, ga.row, List.getElem?_cons_zero, List.getElem?_cons_succ]
  refine (ref_Perm_ok _ A _ ga.mv la).mono ?_
  rintro v h13 ⟨w2, rfl, s2, f0⟩
  rw [hX9] at s2
  rw [hX9]
  replace s1 := s1.mono f0
  clear f0
  simp (disch := first | omega | (simp only [Qn] <;> omega)) only [go_sem, List.getElem?_cons_zero, List.getElem?_cons_succ, decide_true]
  refine (same_ok _ _ X9.1 X9.1 _ s1 s2 l9 l9).mono ?_
  rintro v h14 ⟨rfl, f0⟩
  simp (disch := first | omega | (simp only [Qn] <;> omega)) only [go_sem, decide_true]
end Go.Proofs.Ytonhijbeddcmpaa

