/- Layer 4: matrices that are read, and matrices that are filled; the reference's blank, one, One. Layer 4: the reference's one, One. Layer 4: the reference's Check, both. Layer 4: the reference's mul, Mul. Layer 4: the reference's Mul, Add. Layer 4: the reference's Scale, Turn. Layer 4: the reference's Apply. Determinants of integer matrices: the rows. Determinants of integer matrices: products, columns, the adjugate. Polynomials with integer coefficients; the characteristic polynomial; Cayley and Hamilton. Powers modulo a prime. -/
import Derived.Test.YtonhijbeddcmpaaM4atoM4q
import Derived.Test.YtonhijbeddcmpaaSm
/- Layer 4: matrices that are read, and matrices that are filled; the reference's blank, one, One. -/
namespace Go.Proofs.Ytonhijbeddcmpaa
open Go Go.Ay
set_option maxRecDepth 100000
/-- What a walk wants to know of a matrix that it reads. -/
structure Rd (h : H) (u : V) (A : List (List Int)) (c id off : Nat) (ws : List V) (ρ o : Nat → Nat) : Prop where
  sl : Sl u 1 A.length id off
  lt : ∀ i, i < A.length → id < h.next
  at_ : ∀ i, i < A.length → h.cell id (off + i) = some (ws.getD i .undef)
  row : ∀ i, i < A.length → SI h (ws.getD i .undef) (A.getD i [])
  rsl : ∀ i, i < A.length → Sl (ws.getD i .undef) 1 c (ρ i) (o i)
  rlt : ∀ i k, i < A.length → k < c → ρ i < h.next
  ent : ∀ i k, i < A.length → k < c → h.cell (ρ i) (o i + k) = some (.int .i64 (ent A i k))
theorem SR.rd {h : H} {u : V} {A : List (List Int)} (s : SR h u A) {c : Nat} (hc : ∀ i, i < A.length → (A.getD i []).length = c) : ∃ id off ws ρ o, Rd h u A c id off ws ρ o := by
  obtain ⟨id, off, ws, sl, hid, hwl, hcA, hall⟩ := s.open
  have key : ∀ i, ∃ r : Nat × Nat, i < A.length → Sl (ws.getD i .undef) 1 c r.1 r.2 ∧ (0 < c → r.1 < h.next) ∧ ∀ k : Nat, k < c → h.cell r.1 (r.2 + k) = some (.int .i64 ((A.getD i []).getD k 0)) := fun i => by
    by_cases hi : i < A.length
    · obtain ⟨x, y, h1, h2, h3⟩ := (row_at hall hi).open
      rw [hc i hi] at h1 h2 h3
      exact ⟨(x, y), fun _ => ⟨h1, h2, h3⟩⟩
    · exact ⟨(0, 0), fun h => absurd h hi⟩
  exact ⟨id, off, ws, fun i => (key i).choose.1, fun i => (key i).choose.2, sl, fun i hi => hid (by omega), hcA, fun i hi => row_at hall hi, fun i hi => ((key i).choose_spec hi).1, fun i k hi hk => ((key i).choose_spec hi).2.1 (by omega), fun i k hi hk => ((key i).choose_spec hi).2.2 k hk⟩
theorem Rd.fr {h h' : H} {u : V} {A : List (List Int)} {c id off : Nat} {ws : List V} {ρ o : Nat → Nat} (r : Rd h u A c id off ws ρ o) (f : Fr h h') : Rd h' u A c id off ws ρ o :=
  ⟨r.sl, fun i hi => Nat.lt_of_lt_of_le (r.lt i hi) f.next, fun i hi => by rw [f.cell (r.lt i hi)]; exact r.at_ i hi, fun i hi => (r.row i hi).mono f, r.rsl, fun i k hi hk => Nat.lt_of_lt_of_le (r.rlt i k hi hk) f.next, fun i k hi hk => by rw [f.cell (r.rlt i k hi hk)]; exact r.ent i k hi hk⟩
theorem Rd.lens {h : H} {u : V} {A : List (List Int)} {c id off : Nat} {ws : List V} {ρ o : Nat → Nat} (r : Rd h u A c id off ws ρ o) {i : Nat} (hi : i < A.length) : lensV (ws.getD i .undef) = some (.int .i64 (c : Int)) := (r.rsl i hi).lens
/-- A matrix that the call fills. -/
structure Grd (h : H) (R n c : Nat) (ρ : Nat → Nat) (f : Nat → Nat → Int) (lo : Nat) : Prop where
  gR : h.get R = some (.cells false ((List.range n).map fun i => V.sl (ρ i) 0 c (.kn c)))
  row : ∀ i, i < n → h.get (ρ i) = some (.cells false (ints (mkV c (f i))))
  inj : ∀ i j, i < n → j < n → ρ i = ρ j → i = j
  hR : lo ≤ R
  ltR : R < h.next
  hρ : ∀ i, i < n → lo ≤ ρ i
  ltρ : ∀ i, i < n → ρ i < h.next
  ne : ∀ i, i < n → ρ i ≠ R
theorem Grd.fr {h h' : H} {R n c : Nat} {ρ : Nat → Nat} {f : Nat → Nat → Int} {lo : Nat} (g : Grd h R n c ρ f lo) (F : Fr h h') : Grd h' R n c ρ f lo :=
  ⟨(F.get R g.ltR).trans g.gR, fun i hi => (F.get _ (g.ltρ i hi)).trans (g.row i hi), g.inj, g.hR, Nat.lt_of_lt_of_le g.ltR F.next, g.hρ, fun i hi => Nat.lt_of_lt_of_le (g.ltρ i hi) F.next, g.ne⟩
theorem Grd.le {h : H} {R n c : Nat} {ρ : Nat → Nat} {f : Nat → Nat → Int} {lo lo' : Nat} (g : Grd h R n c ρ f lo) (hl : lo' ≤ lo) : Grd h R n c ρ f lo' :=
  ⟨g.gR, g.row, g.inj, Nat.le_trans hl g.hR, g.ltR, fun i hi => Nat.le_trans hl (g.hρ i hi), g.ltρ, g.ne⟩
/-- A cell that lies below. -/
theorem Grd.set {h : H} {R n c : Nat} {ρ : Nat → Nat} {f : Nat → Nat → Int} {lo x : Nat} (g : Grd h R n c ρ f lo) (hx : x < lo) (o : Option Ob) : Grd (h.set x o) R n c ρ f lo :=
  ⟨by rw [H.get_set_ne _ (by have := g.hR; omega)]; exact g.gR, fun i hi => by rw [H.get_set_ne _ (by have := g.hρ i hi; omega)]; exact g.row i hi, g.inj, g.hR, g.ltR, g.hρ, g.ltρ, g.ne⟩
theorem Grd.congr {h : H} {R n c : Nat} {ρ : Nat → Nat} {f f' : Nat → Nat → Int} {lo : Nat} (g : Grd h R n c ρ f lo) (e : ∀ i k, i < n → k < c → f i k = f' i k) : Grd h R n c ρ f' lo :=
  ⟨g.gR, fun i hi => by rw [g.row i hi, mkV_congr fun k hk => e i k hi hk], g.inj, g.hR, g.ltR, g.hρ, g.ltρ, g.ne⟩
theorem Grd.cR {h : H} {R n c : Nat} {ρ : Nat → Nat} {f : Nat → Nat → Int} {lo : Nat} (g : Grd h R n c ρ f lo) : ∀ i, i < n → h.cell R i = some (.sl (ρ i) 0 c (.kn c)) := fun i hi => by
  rw [H.cell_of g.gR, List.getElem?_map, List.getElem?_range hi]; rfl
theorem Grd.cρ {h : H} {R n c : Nat} {ρ : Nat → Nat} {f : Nat → Nat → Int} {lo : Nat} (g : Grd h R n c ρ f lo) : ∀ i k, i < n → k < c → h.cell (ρ i) k = some (.int .i64 (f i k)) := fun i k hi hk => by
  rw [H.cell_of (g.row i hi), ints_getD (by rw [mkV_len]; exact hk), mkV_get _ hk]
def upF (f : Nat → Nat → Int) (i k : Nat) (x : Int) : Nat → Nat → Int := fun a b => if a = i ∧ b = k then x else f a b
theorem mkV_set {n : Nat} {f : Nat → Int} {k : Nat} (x : Int) : (mkV n f).set k x = mkV n (fun j => if j = k then x else f j) := by
  refine mkV_eq (by rw [List.length_set, mkV_len]) fun j hj => ?_
  rw [getD_set, mkV_len]
  by_cases e : k = j
  · subst e; rw [if_pos rfl, if_pos hj, if_pos rfl]
  · rw [if_neg e, if_neg (by omega), mkV_get _ hj]
theorem Grd.put {h : H} {R n c : Nat} {ρ : Nat → Nat} {f : Nat → Nat → Int} {lo : Nat} (g : Grd h R n c ρ f lo) {i k : Nat} (hi : i < n) (hk : k < c) (x : Int) :
    putO (h.get (ρ i)) h (ρ i) k [.int .i64 x] = some (h.set (ρ i) (some (.cells false (ints (mkV c (upF f i k x i)))))) ∧ Grd (h.set (ρ i) (some (.cells false (ints (mkV c (upF f i k x i)))))) R n c ρ (upF f i k x) lo := by
  have e : (mkV c (f i)).set k x = mkV c (upF f i k x i) := by
    rw [mkV_set]
    exact mkV_congr fun j _ => by
      simp only [upF, true_and]
  refine ⟨by rw [g.row i hi, putO_ints (by rw [mkV_len]; exact hk), e], ⟨?_, fun j hj => ?_, g.inj, g.hR, g.ltR, g.hρ, g.ltρ, g.ne⟩⟩
  · rw [H.get_set_ne _ (fun e => g.ne i hi e.symm)]; exact g.gR
  · by_cases e : j = i
    · subst e; rw [H.get_set_same]
    · rw [H.get_set_ne _ fun h => e (g.inj j i hj hi h), g.row j hj, mkV_congr fun b _ => ?_]
      simp only [upF]
      rw [if_neg fun h => e h.1]
theorem Grd.rws {h : H} {R n c : Nat} {ρ : Nat → Nat} {f : Nat → Nat → Int} {lo : Nat} (g : Grd h R n c ρ f lo) {cap : Cap} (hcap : cap = .un 1 ∨ cap = .kn n) : Rws h (.sl R 0 n cap) ((List.range n).map fun i => V.sl (ρ i) 0 c (.kn c)) (mkR n c f) lo := by
  refine ⟨.inr ⟨R, n, cap, [], rfl, by simp, ?_, g.hR, g.ltR, by rw [List.append_nil]; exact g.gR⟩, All2.of_get (by simp [mkR]) fun i h1 h2 => ?_, fun w hw => ?_, fun w hw => ?_⟩
  · rcases hcap with h | h
    · exact .inl h
    · exact .inr ⟨h, rfl⟩
  · simp only [List.length_map, List.length_range] at h1
    simp only [List.getElem_map, List.getElem_range, mkR]
    have := SI.own (h := h) (g.ltρ i h1) (g.row i h1) (.kn c)
    rw [mkV_len] at this
    exact this
  · obtain ⟨i, hi, rfl⟩ := List.mem_map.1 hw
    intro _ _ _ _ e1 _ _ _ _ e2
    cases e1; cases e2
    exact fun e => g.ne i (List.mem_range.1 hi) e.symm
  · obtain ⟨i, hi, rfl⟩ := List.mem_map.1 hw
    intro _ _ _ _ e2
    cases e2
    exact g.hρ i (List.mem_range.1 hi)
set_option maxHeartbeats 4000000 in
theorem blank_ok (p : Int) (n c : Nat) (h : H) (hn : 1 ≤ n) (hn2 : n ≤ 1000) (hc : c ≤ 1000) : Ev T n_ref04_blank [.int .i64 p, .int .i64 (n : Int), .int .i64 (c : Int)] h (fun w h' => ∃ R ρ, w = .agg [.int .i64 p, .sl R 0 n (.un 1)] ∧ Grd h' R n c ρ (fun _ _ => 0) h.next ∧ Fr h h') := by
  refine Ev_of t_ref04_blank rfl ?_
  have hbl := bldV_fst (z1 := .int .i64 0) (z2 := .nils) (v := .int .i64 p) rfl rfl
  have hst := fun hh id => stV_agg2 hh id 0 (v := .int .i64 p) (u := .nils) rfl rfl
  simp (disch := first | omega | (simp only [Qn] <;> omega)) only [go_sem, c_ref04_blank, initV_eq, hbl]
  have hfa : Fr h (h.new (.cells false [.int .i64 0, .nils])) := (Fr.refl h).new _
  have hga : (h.new (.cells false [.int .i64 0, .nils])).get h.next = some (.cells false [.int .i64 0, .nils]) := H.get_new_same ..
  have hna : (h.new (.cells false [.int .i64 0, .nils])).next = h.next + 1 := H.next_new ..
  generalize h.new (.cells false [.int .i64 0, .nils]) = ha at *
  rw [← hna]
  simp (disch := first | omega | (simp only [Qn] <;> omega)) only [go_sem, hst, bxH_eq]
  have fB := hfa.trans (bxH_fr ha p .nils)
  have gB := bxH_get ha p .nils
  have nB := bxH_next ha p .nils
  have gA := ((bxH_fr ha p .nils).get h.next (by omega)).trans hga
  generalize bxH ha p .nils = hB at *
  obtain ⟨O, hO⟩ : ∃ O, ha.next = O := ⟨_, rfl⟩
  obtain ⟨lo, hlo⟩ : ∃ lo, O + 1 = lo := ⟨_, rfl⟩
  rw [hO] at gB nB
  rw [hO]
  have er : ∀ (i : Nat) (ρ ρ' : Nat → Nat), (∀ j, j < i → ρ j = ρ' j) → (List.range i).map (fun j => V.sl (ρ j) 0 c (.kn c)) = (List.range i).map (fun j => V.sl (ρ' j) 0 c (.kn c)) := fun i ρ ρ' e => List.map_congr_left fun j hj => by rw [e j (List.mem_range.1 hj)]
  refine Wp_loop (fun k' vars h3 => ∃ (i : Nat) (ρ : Nat → Nat) (u : V), (∃ g : Nat → V, vars = [.int .i64 p, .int .i64 (n : Int), .int .i64 (c : Int), .ptr h.next 0, .ptr O 0, .int .i64 (i : Int), g 6]) ∧ i ≤ n ∧ Own h3 u 1 ((List.range i).map fun j => V.sl (ρ j) 0 c (.kn c)) lo ∧ (∀ j, j < i → Apart u (ρ j) ∧ lo ≤ ρ j ∧ ρ j < h3.next ∧ h3.get (ρ j) = some (.cells false (ints (mkV c fun _ => 0)))) ∧ (∀ j k, j < i → k < i → ρ j = ρ k → j = k) ∧ (0 < i → ∃ R, u = .sl R 0 i (.un 1) ∧ lo ≤ R ∧ R < h3.next ∧ h3.get R = some (.cells false ((List.range i).map fun j => V.sl (ρ j) 0 c (.kn c)))) ∧ h3.get O = some (.cells false [.int .i64 p, u]) ∧ lo ≤ h3.next ∧ Fr hB (h3.set O (some (.cells false [.int .i64 p, .nils]))) ∧ k' = n - i) n
    ⟨0, fun _ => 0, .nils, ex_junk rfl, Nat.zero_le _, Own.nils _ _ _, fun j hj => absurd hj (Nat.not_lt_zero j), fun j k hj => absurd hj (Nat.not_lt_zero j), fun h0 => absurd h0 (Nat.not_lt_zero 0), gB, by omega, ⟨Nat.le_refl _, fun k hk => by
      by_cases e : k = O
      · subst e; rw [H.get_set_same, gB]
      · rw [H.get_set_ne _ e]⟩, rfl⟩ ?_
  rintro k' vars h3 ⟨i, ρ, u, ⟨g, rfl⟩, hi, o3, r3, i3, w3, g3, n3, f3, rfl⟩
  simp (disch := first | omega | (simp only [Qn] <;> omega)) only [go_sem]
  by_cases hlt : (i : Int) < (n : Int)
  · rw [decide_eq_true hlt]
    have cO : h3.cell O 1 = some u := by rw [H.cell_of g3]; rfl
    have emk : mksV (H.mk h3.tr (h3.next + 3)) 1 8 [.int .i64 0] (.int .i64 (c : Int)) (.int .i64 (c : Int)) = some (.sl (h3.next + 3) 0 c (.kn c), (H.mk h3.tr (h3.next + 3)).new (.cells false (ints (mkV c fun _ => 0)))) := by
      rw [mksV_int (by omega) (Int.le_refl _) (by omega) (by omega), Int.toNat_natCast, Nat.mul_one, zeros_int, show List.replicate c (0 : Int) = mkV c (fun _ => 0) from mkV_eq (List.length_replicate ..) fun j hj => by rw [List.getD_eq_getElem?_getD, List.getElem?_replicate, if_pos hj]; rfl]
    have hbls := fun hh => bls_v hh (.sl (h3.next + 3) 0 c (.kn c)) rfl rfl
    simp (disch := first | omega | (simp only [Qn] <;> omega)) only [go_sem, cO, emk, hbls, litV_eq]
    obtain ⟨hh, hhe⟩ : ∃ hh, hh = litV (litV h3 (h3.next + 3) (ints (mkV c fun _ => 0)) (h3.next + 8)) (h3.next + 4) [.sl (h3.next + 3) 0 c (.kn c)] (h3.next + 8) := ⟨_, rfl⟩
    have fh : Fr h3 hh := by rw [hhe]; exact litV_fr (litV_fr (Fr.refl h3) (by omega) (by omega) _) (by omega) (by omega) _
    have nh : hh.next = h3.next + 8 := by rw [hhe]; rfl
    have gr : hh.get (h3.next + 3) = some (.cells false (ints (mkV c fun _ => 0))) := by rw [hhe]; simp (disch := first | omega | (simp only [Qn] <;> omega)) only [go_sem]
    have gl : hh.get (h3.next + 4) = some (.cells false [.sl (h3.next + 3) 0 c (.kn c)]) := by rw [hhe]; simp (disch := first | omega | (simp only [Qn] <;> omega)) only [go_sem]
    rw [← hhe]
    clear hhe emk
    obtain ⟨v, h6, e6, a6⟩ := (o3.fr fh).app (bytes := 24) (n := i) (m := 1) (us := [.sl (h3.next + 3) 0 c (.kn c)]) (y := .sl (h3.next + 4) 0 1 (.kn 1)) (by omega) (SV.all rfl (by omega) gl _) (by simp) rfl (by omega) (by omega)
    have ev := app_at (o3.fr fh) (n := i) (by simp) (m := 1) (by omega) (by omega) (SV.all rfl (by omega) gl (.kn 1)) rfl e6
    rcases a6.what with ⟨h1, _⟩ | ⟨R, h1, h2, h4, h5⟩
    · omega
    have hv := SV.what a6.own.sv
    have hR : R = hh.next := by rw [ev] at h1; cases h1; rfl
    have apO : Apart u O := own_apart o3 (by omega)
    have gO6 := (a6.get O (by omega) apO).trans ((fh.get O (by omega)).trans g3)
    have hst1 := fun hh => stV_one hv.1 hv.2.1 hh O 1
    simp (disch := first | omega | (simp only [Qn] <;> omega)) only [go_sem, e6, hst1, gO6, putO_snd]
    rw [show (i : Int) + 1 = ((i + 1 : Nat) : Int) from by omega]
    have el : (List.range (i + 1)).map (fun j => V.sl (if j = i then h3.next + 3 else ρ j) 0 c (.kn c)) = (List.range i).map (fun j => V.sl (ρ j) 0 c (.kn c)) ++ [.sl (h3.next + 3) 0 c (.kn c)] := by
      rw [List.range_succ, List.map_append, er i (fun j => if j = i then h3.next + 3 else ρ j) ρ fun j hj => if_neg (by omega)]
      simp
    have apn : Apart u (h3.next + 3) := fun id off m cc e => by
      rcases o3 with ⟨h1, _⟩ | ⟨id', _, _, _, h1, _, _, _, h2, _⟩
      · rw [h1] at e; cases e
      · rw [h1] at e; cases e; omega
    have row6 : ∀ j, j < i + 1 → ∃ r, r = (if j = i then h3.next + 3 else ρ j) ∧ lo ≤ r ∧ r < hh.next ∧ h6.get r = some (.cells false (ints (mkV c fun _ => 0))) := fun j hj => by
      refine ⟨_, rfl, ?_⟩
      by_cases e : j = i
      · rw [if_pos e]
        exact ⟨by omega, by omega, (a6.get _ (by omega) apn).trans gr⟩
      · rw [if_neg e]
        obtain ⟨q1, q2, q3, q4⟩ := r3 j (by omega)
        exact ⟨q2, by omega, (a6.get _ (by omega) q1).trans ((fh.get _ q3).trans q4)⟩
    refine ⟨n - (i + 1), by omega, i + 1, fun j => if j = i then h3.next + 3 else ρ j, v, ex_junk rfl, by omega, ?_, fun j hj => ?_, fun j k hj hk e => ?_, fun _ => ⟨R, h1, h2, h4, ?_⟩, rfl, by have := a6.next; omega, ?_, rfl⟩
    · rw [el]
      exact a6.own.set (by omega) _
    · obtain ⟨r, q0, q1, q2, q3⟩ := row6 j hj
      simp only
      rw [← q0]
      refine ⟨?_, q1, by have := a6.next; show r < h6.next; omega, by rw [H.get_set_ne _ (by omega)]; exact q3⟩
      rw [h1]
      exact Apart.sl (by omega)
    · simp only at e
      by_cases e1 : j = i
      · by_cases e2 : k = i
        · omega
        · rw [if_pos e1, if_neg e2] at e
          have := (r3 k (by omega)).2.2.1
          omega
      · by_cases e2 : k = i
        · rw [if_neg e1, if_pos e2] at e
          have := (r3 j (by omega)).2.2.1
          omega
        · rw [if_neg e1, if_neg e2] at e
          exact i3 j k (by omega) (by omega) e
    · rw [H.get_set_ne _ (by omega), h5, el]
    · have n6 := a6.next
      refine ⟨by have := f3.next; rw [H.next_set] at *; rw [H.next_set]; omega, fun k hk => ?_⟩
      have := f3.get k hk
      by_cases e : k = O
      · subst e; rw [H.get_set_same] at *; exact this
      · rw [H.get_set_ne _ e, H.get_set_ne _ e]
        rw [H.get_set_ne _ e] at this
        have ak : Apart u k := own_apart o3 (by omega)
        exact (a6.get k (by omega) ak).trans ((fh.get k (by omega)).trans this)
  · rw [decide_eq_false hlt]
    obtain rfl : i = n := by omega
    obtain ⟨R, rfl, q1, q2, q3⟩ := w3 (by omega)
    have rr := row_two g3
    have fA : h3.get h.next = some (.cells false [.int .i64 0, .nils]) := by
      have := f3.get h.next (by omega)
      rw [H.get_set_ne _ (by omega)] at this
      exact this.trans gA
    have hst2 := fun hh => stV_agg2 hh h.next 0 (v := .int .i64 p) (u := .sl R 0 i (.un 1)) rfl rfl
    have hrow := row_two (h := h3.set h.next (some (.cells false [.int .i64 p, .sl R 0 i (.un 1)]))) (H.get_set_same ..)
    simp (disch := first | omega | (simp only [Qn] <;> omega)) only [go_sem, rr, hst2, fA, hrow]
    refine ⟨R, ρ, rfl, ?_, ?_⟩
    · have : Grd h3 R i c ρ (fun _ _ => 0) lo := ⟨q3, fun j hj => (r3 j hj).2.2.2, i3, q1, q2, fun j hj => (r3 j hj).2.1, fun j hj => (r3 j hj).2.2.1, fun j hj => (r3 j hj).1 _ _ _ _ rfl⟩
      exact (this.set (by omega) _).le (by omega)
    · have := fB.trans f3
      refine ⟨this.next, fun k hk => ?_⟩
      have q := this.get k hk
      rw [H.get_set_ne _ (by omega)] at q ⊢
      exact q
end Go.Proofs.Ytonhijbeddcmpaa

/- Layer 4: the reference's one, One. -/
namespace Go.Proofs.Ytonhijbeddcmpaa
open Go Go.Ay
set_option maxRecDepth 100000
theorem Grd.mato {h : H} {R n c : Nat} {ρ : Nat → Nat} {f : Nat → Nat → Int} {lo : Nat} (g : Grd h R n c ρ f lo) (p : Int) : MatO h (.agg [.int .i64 p, .sl R 0 n (.un 1)]) (p, mkR n c f) lo := ⟨_, _, rfl, g.rws (.inl rfl)⟩
set_option maxHeartbeats 4000000 in
theorem ref_one_ok (n : Nat) (p : Int) (h : H) (h1 : 1 ≤ n) (h2 : n ≤ 64) (hp : 2 ≤ p) : Ev T n_ref04_one [.int .i64 (n : Int), .int .i64 p] h (fun w h' => MatO h' w (oneF n p) h.next ∧ Fr h h') := by
  refine Ev_of t_ref04_one rfl ?_
  simp (disch := first | omega | (simp only [Qn] <;> omega)) only [go_sem, c_ref04_one, initV_eq]
  have hfa : Fr h (h.new (.cells false [.int .i64 0, .nils])) := (Fr.refl h).new _
  have hga : (h.new (.cells false [.int .i64 0, .nils])).get h.next = some (.cells false [.int .i64 0, .nils]) := H.get_new_same ..
  have hna : (h.new (.cells false [.int .i64 0, .nils])).next = h.next + 1 := H.next_new ..
  generalize h.new (.cells false [.int .i64 0, .nils]) = ha at *
  refine (blank_ok p n n ha h1 (by omega) (by omega)).mono ?_
  rintro w hb ⟨R, ρ, rfl, G, fb⟩
  have hst := fun hh id => stV_agg2 hh id 0 (v := .int .i64 p) (u := .sl R 0 n (.un 1)) rfl rfl
  simp (disch := first | omega | (simp only [Qn] <;> omega)) only [go_sem, hst, bxH_eq]
  have FB := bxH_fr hb p (.sl R 0 n (.un 1))
  have gB := bxH_get hb p (.sl R 0 n (.un 1))
  have nB := bxH_next hb p (.sl R 0 n (.un 1))
  have gA := (FB.get h.next (by have := fb.next; omega)).trans ((fb.get h.next (by omega)).trans hga)
  have G2 := G.fr FB
  have fB := (hfa.trans fb).trans FB
  generalize bxH hb p (.sl R 0 n (.un 1)) = hB at *
  obtain ⟨O, hO⟩ : ∃ O, hb.next = O := ⟨_, rfl⟩
  rw [hO] at gB nB
  rw [hO]
  have hlR : R < O := by rw [← hO]; exact G.ltR
  have hlρ : ∀ i, i < n → ρ i < O := fun i hi => by rw [← hO]; exact G.ltρ i hi
  have nb := fb.next
  have em : (1 : Int).tmod p = 1 := by rw [nonneg_tmod (by omega)]; exact Int.emod_eq_of_lt (by omega) (by omega)
  refine Wp_loop (fun k' vars h3 => ∃ (i : Nat) (f : Nat → Nat → Int), (∃ g : Nat → V, vars = [.int .i64 (n : Int), .int .i64 p, .ptr h.next 0, .ptr O 0, .int .i64 (i : Int), g 5]) ∧ i ≤ n ∧ Grd h3 R n n ρ f (h.next + 1) ∧ (∀ a b, a < n → b < n → f a b = if a = b ∧ a < i then 1 else 0) ∧ h3.get O = some (.cells false [.int .i64 p, .sl R 0 n (.un 1)]) ∧ h3.get h.next = some (.cells false [.int .i64 0, .nils]) ∧ O < h3.next ∧ Fr h h3 ∧ k' = n - i) n
    ⟨0, _, ex_junk rfl, Nat.zero_le _, G2.le (by omega), fun a b _ _ => by rw [if_neg (by omega)], gB, gA, by omega, fB, rfl⟩ ?_
  clear gB gA G G2
  rintro k' vars h3 ⟨i, f, ⟨g, rfl⟩, hi, G3, f3, g3, a3, o3, F3, rfl⟩
  simp (disch := first | omega | (simp only [Qn] <;> omega)) only [go_sem]
  by_cases hlt : (i : Int) < (n : Int)
  · rw [decide_eq_true hlt]
    have cO : h3.cell O 1 = some (.sl R 0 n (.un 1)) := by rw [H.cell_of g3]; rfl
    have hp := (G3.fr ((Fr.refl h3).bump (n := h3.next + 10) (by omega))).put (i := i) (k := i) (by omega) (by omega) 1
    have hput : putO (h3.get (ρ i)) (H.mk h3.tr (h3.next + 10)) (ρ i) i [.int .i64 1] = _ := hp.1
    have Gp := hp.2
    simp (disch := first | omega | (simp only [Qn] <;> omega)) only [go_sem, cO, G3.cR, em, hput]
    rw [show (i : Int) + 1 = ((i + 1 : Nat) : Int) from by omega]
    have q1 := hlρ i (by omega)
    have q2 := G3.hρ i (by omega)
    refine ⟨n - (i + 1), by omega, i + 1, upF f i i 1, ex_junk rfl, by omega, Gp, fun a b ha hb => ?_, ?_, ?_, ?_, ?_, rfl⟩
    · simp only [upF]
      by_cases e : a = i ∧ b = i
      · rw [if_pos e, if_pos (by omega)]
      · rw [if_neg e, f3 a b ha hb]
        by_cases e2 : a = b ∧ a < i
        · rw [if_pos e2, if_pos (by omega)]
        · rw [if_neg e2, if_neg (by omega)]
    · rw [H.get_set_ne _ (by omega)]; exact g3
    · rw [H.get_set_ne _ (by omega)]; exact a3
    · show O < h3.next + 10; omega
    · exact (F3.bump (by omega)).set (by omega) _
  · rw [decide_eq_false hlt]
    obtain rfl : i = n := by omega
    have rr := row_two g3
    have hst2 := fun hh => stV_agg2 hh h.next 0 (v := .int .i64 p) (u := .sl R 0 i (.un 1)) rfl rfl
    have hrow := row_two (h := h3.set h.next (some (.cells false [.int .i64 p, .sl R 0 i (.un 1)]))) (H.get_set_same ..)
    simp (disch := first | omega | (simp only [Qn] <;> omega)) only [go_sem, rr, hst2, a3, hrow]
    have e : oneF i p = (p, mkR i i f) := by
      rw [oneF]
      congr 1
      exact mkR_congr fun a b ha hb => by
        rw [f3 a b ha hb]
        by_cases e : a = b
        · rw [if_pos e, if_pos ⟨e, ha⟩]
        · rw [if_neg e, if_neg fun h => e h.1]
    rw [e]
    obtain ⟨u, ws, e1, R1⟩ := ((G3.set (Nat.lt_succ_self _) _).mato p : MatO (h3.set h.next (some (.cells false [.int .i64 p, .sl R 0 i (.un 1)]))) _ _ _)
    exact ⟨⟨u, ws, e1, R1.le (by omega)⟩, F3.set (Nat.le_refl _) _⟩
end Go.Proofs.Ytonhijbeddcmpaa

/- Layer 4: the reference's Check, both. -/
namespace Go.Proofs.Ytonhijbeddcmpaa
open Go Go.Ay
set_option maxRecDepth 100000
set_option maxHeartbeats 8000000 in
theorem ref_check_ok (v : V) (a : Mat) (h : H) (ha : MatV h v a) (hlen : (a.2.length : Int) ≤ 2 ^ 63 - 1) : Ev T n_ref04_Check [v] h (fun v h' => v = .int .i64 (checkM a) ∧ Fr h h') := by
  obtain ⟨u, rfl, hu⟩ := ha
  obtain ⟨p, rows⟩ := a
  simp only at hu hlen
  refine Ev_of t_ref04_Check rfl ?_
  have hw := SV.what hu.choose_spec.1
  simp (disch := first | omega | (simp only [Qn] <;> omega)) only [go_sem, c_ref04_Check, initV_eq, boxV_agg2 h (v := .int .i64 p) rfl hw.2.1]
  have hfx : Fr h (h.new (.cells false [.int .i64 p, u])) := (Fr.refl h).new _
  have hgx : (h.new (.cells false [.int .i64 p, u])).get h.next = some (.cells false [.int .i64 p, u]) := H.get_new_same ..
  have hnx : (h.new (.cells false [.int .i64 p, u])).next = h.next + 1 := H.next_new ..
  generalize h.new (.cells false [.int .i64 p, u]) = hx at *
  have x0 : hx.cell h.next 0 = some (.int .i64 p) := by rw [H.cell_of hgx]; rfl
  have x1 : hx.cell h.next 1 = some u := by rw [H.cell_of hgx]; rfl
  refine (ref_field_ok p hx).mono ?_
  rintro v h' ⟨rfl, rfl⟩
  cases hf : fieldF p with
  | false =>
    simp (disch := first | omega | (simp only [Qn] <;> omega)) only [go_sem]
    exact ⟨by rw [checkM, if_pos hf], hfx⟩
  | true =>
    have hF : ∀ w : Int, (if rows.length < 1 ∨ 64 < rows.length ∨ (rows.getD 0 []).length < 1 ∨ 64 < (rows.getD 0 []).length then (2 : Int) else if rows.all (goodRow p (rows.getD 0 []).length) then 0 else 3) = w → checkM (p, rows) = w := fun w e => by
      rw [checkM, if_neg (by simp [hf])]; exact e
    simp (disch := first | omega | (simp only [Qn] <;> omega)) only [go_sem, x1, hu.lens]
    by_cases a1 : (rows.length : Int) < 1
    · rw [decide_eq_true a1]
      simp (disch := first | omega | (simp only [Qn] <;> omega)) only [go_sem, undef_eq]
      exact ⟨by rw [hF 2 (if_pos (.inl (by omega)))], hfx⟩
    rw [decide_eq_false a1]
    simp (disch := first | omega | (simp only [Qn] <;> omega)) only [go_sem, x1, hu.lens]
    by_cases a2 : (64 : Int) < (rows.length : Int)
    · rw [decide_eq_true a2]
      simp (disch := first | omega | (simp only [Qn] <;> omega)) only [go_sem, undef_eq]
      exact ⟨by rw [hF 2 (if_pos (.inr (.inl (by omega))))], hfx⟩
    rw [decide_eq_false a2]
    obtain ⟨id, off, ws, su, hid, hwl, hc, hall⟩ := (hu.mono hfx).open
    have c0 : h'.cell id off = some (ws.getD 0 .undef) := hc 0 (by omega)
    have r0 := row_at hall (i := 0) (by omega)
    obtain ⟨n0, hn0⟩ : ∃ n, (rows.getD 0 []).length = n := ⟨_, rfl⟩
    have l0 := r0.lens
    rw [hn0] at hF l0
    simp (disch := first | omega | (simp only [Qn] <;> omega)) only [go_sem, x1, su.ixa, c0, l0]
    by_cases a3 : (n0 : Int) < 1
    · rw [decide_eq_true a3]
      simp (disch := first | omega | (simp only [Qn] <;> omega)) only [go_sem, undef_eq]
      exact ⟨by rw [hF 2 (if_pos (.inr (.inr (.inl (by omega)))))], hfx⟩
    rw [decide_eq_false a3]
    simp (disch := first | omega | (simp only [Qn] <;> omega)) only [go_sem, x1, su.ixa, c0, l0]
    by_cases a4 : (64 : Int) < (n0 : Int)
    · rw [decide_eq_true a4]
      simp (disch := first | omega | (simp only [Qn] <;> omega)) only [go_sem, undef_eq]
      exact ⟨by rw [hF 2 (if_pos (.inr (.inr (.inr (by omega)))))], hfx⟩
    rw [decide_eq_false a4]
    rw [if_neg (by omega)] at hF
    simp (disch := first | omega | (simp only [Qn] <;> omega)) only [go_sem]
    refine Wp_loop (fun k' vars h1 => ∃ i : Nat, (∃ g : Nat → V, vars = [g 0, .ptr h.next 0, g 2, .int .i64 (i : Int), g 4, g 5, g 6, g 7, g 8, g 9, g 10]) ∧ i ≤ rows.length ∧ (rows.take i).all (goodRow p n0) = true ∧ Fr h' h1 ∧ k' = rows.length - i) rows.length
      ⟨0, ex_junk rfl, Nat.zero_le _, rfl, Fr.refl h', rfl⟩ ?_
    rintro k' vars h1 ⟨i, ⟨g, rfl⟩, hi, ht, f1, rfl⟩
    have y1 : h1.cell h.next 1 = some u := by rw [f1.cell (by omega)]; exact x1
    simp (disch := first | omega | (simp only [Qn] <;> omega)) only [go_sem, y1, hu.lens]
    by_cases hlt : (i : Int) < (rows.length : Int)
    · rw [decide_eq_true hlt]
      have ci : h1.cell id (off + i) = some (ws.getD i .undef) := by rw [f1.cell (hid (by omega))]; exact hc i (by omega)
      have c01 : h1.cell id off = some (ws.getD 0 .undef) := by rw [f1.cell (hid (by omega))]; exact c0
      have ri0 := row_at hall (i := i) (by omega)
      have lr := ri0.lens
      obtain ⟨idr, offr, sr, hidr, hcr⟩ := ri0.open
      obtain ⟨r, hr⟩ : ∃ r, rows.getD i [] = r := ⟨_, rfl⟩
      rw [hr] at lr ri0 sr hidr hcr
      have hm := all_take (P := goodRow p n0) (l := rows) (i := i) [] (by omega)
      have hbad := all_bad (P := goodRow p n0) (l := rows) (i := i) [] (by omega)
      rw [hr] at hm hbad
      have h3 : goodRow p n0 r = false → checkM (p, rows) = 3 := fun hg => hF 3 (if_neg (by rw [hbad hg]; simp))
      have h0' : goodRow p n0 r = true → (rows.take (i + 1)).all (goodRow p n0) = true := fun hg => by rw [hm, ht, hg]; rfl
      simp (disch := first | omega | (simp only [Qn] <;> omega)) only [go_sem, y1, su.ixa, ci, c01, lr, l0]
      by_cases hrn : r.length = n0
      · have d1 : decide ((r.length : Int) ≠ (n0 : Int)) = false := decide_eq_false (by omega)
        rw [d1]
        simp (disch := first | omega | (simp only [Qn] <;> omega)) only [go_sem]
        rw [hrn] at sr hidr hcr lr
        have fb := f1.bump (n := h1.next + 12) (by omega)
        generalize H.mk h1.tr (h1.next + 12) = h2 at *
        refine Wp_loop (fun k' vars h1 => ∃ k : Nat, (∃ g : Nat → V, vars = [g 0, .ptr h.next 0, g 2, .int .i64 (i : Int), .int .i64 (k : Int), g 5, g 6, g 7, g 8, g 9, g 10]) ∧ k ≤ n0 ∧ (∀ j, j < k → 0 ≤ r.getD j 0 ∧ r.getD j 0 < p) ∧ Fr h' h1 ∧ k' = n0 - k) n0
          ⟨0, ex_junk rfl, Nat.zero_le _, fun j hj => absurd hj (Nat.not_lt_zero j), fb, rfl⟩ ?_
        clear fb f1 y1 ci c01 g
        rintro k' vars h1 ⟨k, ⟨g, rfl⟩, hk, hj, f1, rfl⟩
        have y0 : h1.cell h.next 0 = some (.int .i64 p) := by rw [f1.cell (by omega)]; exact x0
        have y1 : h1.cell h.next 1 = some u := by rw [f1.cell (by omega)]; exact x1
        have ci : h1.cell id (off + i) = some (ws.getD i .undef) := by rw [f1.cell (hid (by omega))]; exact hc i (by omega)
        simp (disch := first | omega | (simp only [Qn] <;> omega)) only [go_sem, y1, su.ixa, ci, lr]
        by_cases hlt2 : (k : Int) < (n0 : Int)
        · rw [decide_eq_true hlt2]
          have ck : h1.cell idr (offr + k) = some (.int .i64 (r.getD k 0)) := by rw [f1.cell (hidr (by omega))]; exact hcr k (by omega)
          simp (disch := first | omega | (simp only [Qn] <;> omega)) only [go_sem, y1, su.ixa, ci, sr.ixa, ck]
          have badk : (r.getD k 0 < 0 ∨ p ≤ r.getD k 0) → goodRow p n0 r = false := fun hb => by
            rw [goodRow, decide_eq_true hrn, Bool.true_and]
            rcases hb with hb | hb
            · rw [any_index.2 ⟨k, by omega, decide_eq_true hb⟩]; rfl
            · rw [(any_index (P := fun x => decide (p ≤ x))).2 ⟨k, by omega, decide_eq_true hb⟩]; simp
          by_cases n1 : r.getD k 0 < 0
          · rw [decide_eq_true n1]
            simp (disch := first | omega | (simp only [Qn] <;> omega)) only [go_sem, undef_eq]
            exact ⟨by rw [h3 (badk (.inl n1))], hfx.trans (f1.bump (by omega))⟩
          · rw [decide_eq_false n1]
            simp (disch := first | omega | (simp only [Qn] <;> omega)) only [go_sem, y1, y0, su.ixa, ci, sr.ixa, ck]
            by_cases n2 : p ≤ r.getD k 0
            · rw [decide_eq_true n2]
              simp (disch := first | omega | (simp only [Qn] <;> omega)) only [go_sem]
              exact ⟨by rw [h3 (badk (.inr n2))], hfx.trans (f1.bump (by omega))⟩
            · rw [decide_eq_false n2]
              simp (disch := first | omega | (simp only [Qn] <;> omega)) only [go_sem]
              rw [show (k : Int) + 1 = ((k + 1 : Nat) : Int) from by omega]
              refine ⟨n0 - (k + 1), by omega, k + 1, ex_junk rfl, by omega, fun j hj2 => ?_, f1.bump (by omega), rfl⟩
              by_cases e : j = k
              · subst e; omega
              · exact hj j (by omega)
        · rw [decide_eq_false hlt2]
          obtain rfl : k = n0 := by omega
          simp (disch := first | omega | (simp only [Qn] <;> omega)) only [go_sem]
          rw [show (i : Int) + 1 = ((i + 1 : Nat) : Int) from by omega]
          refine ⟨rows.length - (i + 1), by omega, i + 1, ex_junk rfl, by omega, h0' ?_, f1, rfl⟩
          rw [goodRow, decide_eq_true hrn, Bool.true_and, Bool.and_eq_true, Bool.not_eq_true', Bool.not_eq_true']
          constructor
          · rw [← Bool.not_eq_true, any_index]
            rintro ⟨j, hj1, hd⟩
            have := hj j (by omega)
            have := of_decide_eq_true hd
            omega
          · rw [← Bool.not_eq_true, any_index]
            rintro ⟨j, hj1, hd⟩
            have := hj j (by omega)
            have := of_decide_eq_true hd
            omega
      · have d1 : decide ((r.length : Int) ≠ (n0 : Int)) = true := decide_eq_true (by omega)
        rw [d1]
        simp (disch := first | omega | (simp only [Qn] <;> omega)) only [go_sem]
        exact ⟨by rw [h3 (by rw [goodRow, decide_eq_false hrn]; rfl)], hfx.trans (f1.bump (by omega))⟩
    · rw [decide_eq_false hlt]
      obtain rfl : i = rows.length := by omega
      rw [List.take_length] at ht
      simp (disch := first | omega | (simp only [Qn] <;> omega)) only [go_sem]
      exact ⟨by rw [hF 0 (if_pos ht)], hfx.trans f1⟩
end Go.Proofs.Ytonhijbeddcmpaa

/- Layer 4: the reference's mul, Mul. -/
namespace Go.Proofs.Ytonhijbeddcmpaa
open Go Go.Ay
set_option maxRecDepth 100000
theorem mul_bound {x y p : Int} (h0 : 0 ≤ x) (h1 : x < p) (h2 : 0 ≤ y) (h3 : y < p) (hp : p < 10000) : 0 ≤ x * y ∧ x * y < 100000000 := by
  have a := Int.mul_nonneg h0 h2
  have b := Int.mul_le_mul (show x ≤ 9999 by omega) (show y ≤ 9999 by omega) h2 (by omega)
  omega
/-- A matrix that is filled entry by entry, each in m steps. -/
def prg (S : Nat → Nat → Nat → Int) (m i k j : Nat) : Nat → Nat → Int := fun x y => if x < i ∨ x = i ∧ y < k then S m x y else if x = i ∧ y = k then S j x y else 0
theorem prg_at (S : Nat → Nat → Nat → Int) (m i k j : Nat) : prg S m i k j i k = S j i k := by
  rw [prg, if_neg (by omega), if_pos ⟨rfl, rfl⟩]
theorem prg_up {S : Nat → Nat → Nat → Int} {m i k j : Nat} {x : Int} (hx : x = S (j + 1) i k) (a b : Nat) : upF (prg S m i k j) i k x a b = prg S m i k (j + 1) a b := by
  simp only [upF]
  by_cases e : a = i ∧ b = k
  · rw [if_pos e, e.1, e.2, prg_at, hx]
  · rw [if_neg e, prg, prg]
    by_cases e2 : a < i ∨ a = i ∧ b < k
    · rw [if_pos e2, if_pos e2]
    · rw [if_neg e2, if_neg e2, if_neg e, if_neg e]
theorem prg_next {S : Nat → Nat → Nat → Int} (h0 : ∀ a b, S 0 a b = 0) (m i k a b : Nat) : prg S m i k m a b = prg S m i (k + 1) 0 a b := by
  rw [prg, prg, h0]
  by_cases e : a < i ∨ a = i ∧ b < k
  · rw [if_pos e, if_pos (by omega)]
  · rw [if_neg e]
    by_cases e2 : a = i ∧ b = k
    · rw [if_pos e2, if_pos (by omega)]
    · rw [if_neg e2, if_neg (by omega)]; split <;> rfl
theorem prg_row {S : Nat → Nat → Nat → Int} (h0 : ∀ a b, S 0 a b = 0) {m i c a b : Nat} (hb : b < c) : prg S m i c 0 a b = prg S m (i + 1) 0 0 a b := by
  rw [prg, prg, h0]
  by_cases e : a < i ∨ a = i ∧ b < c
  · rw [if_pos e, if_pos (by omega)]
  · have e2 : ¬(a < i + 1 ∨ a = i + 1 ∧ b < 0) := by omega
    rw [if_neg e, if_neg e2]; split <;> split <;> rfl
theorem prg_zero {S : Nat → Nat → Nat → Int} (h0 : ∀ a b, S 0 a b = 0) (m a b : Nat) : prg S m 0 0 0 a b = 0 := by
  rw [prg, if_neg (by omega), h0]; split <;> rfl
theorem prg_end {S : Nat → Nat → Nat → Int} {m n a b : Nat} (ha : a < n) : prg S m n 0 0 a b = S m a b := by
  rw [prg, if_pos (.inl ha)]
set_option maxHeartbeats 8000000 in
theorem ref_mul_ok (va vb : V) (a b : Mat) (ca cb : Nat) (h : H) (ha : MatV h va a) (hb : MatV h vb b) (da : Vd a ca) (db : Vd b cb) (hp : a.1 = b.1) (hc : ca = b.2.length) :
    Ev T n_ref04_mul [va, vb] h (fun w h' => MatO h' w (mulF a b ca cb) h.next ∧ Fr h h') := by
  obtain ⟨ua, rfl, hua⟩ := ha
  obtain ⟨ub, rfl, hub⟩ := hb
  obtain ⟨p, A⟩ := a
  obtain ⟨p', B⟩ := b
  simp only at hp hc hua hub
  subst hp
  refine Ev_of t_ref04_mul rfl ?_
  have wa := SV.what hua.choose_spec.1
  have wb := SV.what hub.choose_spec.1
  simp (disch := first | omega | (simp only [Qn] <;> omega)) only [go_sem, c_ref04_mul, initV_eq, boxV_agg2 h (v := .int .i64 p) rfl wa.2.1]
  have hfx : Fr h (h.new (.cells false [.int .i64 p, ua])) := (Fr.refl h).new _
  have hgx : (h.new (.cells false [.int .i64 p, ua])).get h.next = some (.cells false [.int .i64 p, ua]) := H.get_new_same ..
  have hnx : (h.new (.cells false [.int .i64 p, ua])).next = h.next + 1 := H.next_new ..
  generalize h.new (.cells false [.int .i64 p, ua]) = hx at *
  simp (disch := first | omega | (simp only [Qn] <;> omega)) only [go_sem, boxV_agg2 hx (v := .int .i64 p) rfl wb.2.1]
  have hfy : Fr hx (hx.new (.cells false [.int .i64 p, ub])) := (Fr.refl hx).new _
  have hgy : (hx.new (.cells false [.int .i64 p, ub])).get hx.next = some (.cells false [.int .i64 p, ub]) := H.get_new_same ..
  have hny : (hx.new (.cells false [.int .i64 p, ub])).next = hx.next + 1 := H.next_new ..
  generalize hx.new (.cells false [.int .i64 p, ub]) = hy at *
  rw [← hny]
  have hfz : Fr hy (hy.new (.cells false [.int .i64 0, .nils])) := (Fr.refl hy).new _
  have hgz : (hy.new (.cells false [.int .i64 0, .nils])).get hy.next = some (.cells false [.int .i64 0, .nils]) := H.get_new_same ..
  have hnz : (hy.new (.cells false [.int .i64 0, .nils])).next = hy.next + 1 := H.next_new ..
  generalize hy.new (.cells false [.int .i64 0, .nils]) = hz at *
  have F := (hfx.trans hfy).trans hfz
  have gx := (hfz.get h.next (by omega)).trans ((hfy.get h.next (by omega)).trans hgx)
  have gy := (hfz.get hx.next (by omega)).trans hgy
  have hp := fieldF_range da.p
  have hr1 := da.r1
  have hr2 := da.r2
  have hc1 := da.c1
  have hrb1 := db.r1
  have hrb2 := db.r2
  have hcb1 := db.c1
  have hcb2 := db.c2
  simp only at hp hr1 hr2 hrb1 hrb2
  obtain ⟨ida, offa, wsa, ρa, oa, RA⟩ := SR.rd (hua.mono F) fun i hi => da.row i hi
  obtain ⟨idb, offb, wsb, ρb, ob, RB⟩ := SR.rd (hub.mono F) fun i hi => db.row i hi
  rw [← hnz]
  have x0 : hz.cell h.next 0 = some (.int .i64 p) := by rw [H.cell_of gx]; rfl
  have x1 : hz.cell h.next 1 = some ua := by rw [H.cell_of gx]; rfl
  have y1 : hz.cell hx.next 1 = some ub := by rw [H.cell_of gy]; rfl
  have cb0 : hz.cell idb offb = some (wsb.getD 0 .undef) := RB.at_ 0 hrb1
  have lb0 := RB.lens hrb1
  simp (disch := first | omega | (simp only [Qn] <;> omega)) only [go_sem, x0, x1, y1, hua.lens, RB.sl.ixa, cb0, lb0]
  have fb : Fr hz (H.mk hz.tr (hz.next + 13)) := (Fr.refl hz).bump (by omega)
  have nb : (H.mk hz.tr (hz.next + 13)).next = hz.next + 13 := rfl
  generalize H.mk hz.tr (hz.next + 13) = hh at *
  refine (blank_ok p A.length cb hh hr1 (by omega) (by omega)).mono ?_
  rintro w h4 ⟨R, ρ, rfl, G, f4⟩
  have n4 := f4.next
  have hst := fun hh id => stV_agg2 hh id 0 (v := .int .i64 p) (u := .sl R 0 A.length (.un 1)) rfl rfl
  simp (disch := first | omega | (simp only [Qn] <;> omega)) only [go_sem, litV_eq, hst]
  obtain ⟨O, hO⟩ : ∃ O, hz.next + 11 = O := ⟨_, rfl⟩
  rw [hO]
  have fl := litV_fr (Fr.refl h4) (a := h4.next) (m := h4.next) (by omega) (by omega) []
  have gO : ((litV h4 O [.int .i64 0, .nils] h4.next).set O (some (.cells false [.int .i64 p, .sl R 0 A.length (.un 1)]))).get O = some (.cells false [.int .i64 p, .sl R 0 A.length (.un 1)]) := H.get_set_same ..
  have gn : ∀ k, k ≠ O → ((litV h4 O [.int .i64 0, .nils] h4.next).set O (some (.cells false [.int .i64 p, .sl R 0 A.length (.un 1)]))).get k = h4.get k := fun k hk => by simp (disch := first | omega | (simp only [Qn] <;> omega)) only [go_sem]
  have nB : ((litV h4 O [.int .i64 0, .nils] h4.next).set O (some (.cells false [.int .i64 p, .sl R 0 A.length (.un 1)]))).next = h4.next := rfl
  generalize (litV h4 O [.int .i64 0, .nils] h4.next).set O (some (.cells false [.int .i64 p, .sl R 0 A.length (.un 1)])) = hB at *
  have hlR := G.hR
  have hlρ := G.hρ
  have GB : Grd hB R A.length cb ρ (fun _ _ => 0) hh.next := ⟨by rw [gn _ (by omega)]; exact G.gR, fun i hi => by rw [gn _ (by have := hlρ i hi; omega)]; exact G.row i hi, G.inj, G.hR, by rw [nB]; exact G.ltR, G.hρ, fun i hi => by rw [nB]; exact G.ltρ i hi, G.ne⟩
  have fB : Fr hz hB := ⟨by omega, fun k hk => by rw [gn k (by omega)]; exact (f4.get k (by omega)).trans (fb.get k hk)⟩
  obtain ⟨S, hS⟩ : ∃ S : Nat → Nat → Nat → Int, S = fun j x y => sm j (fun j => ent A x j * ent B j y) % p := ⟨_, rfl⟩
  have S0 : ∀ a b, S 0 a b = 0 := fun a b => by rw [hS]; rfl
  have Sr : ∀ j a b, 0 ≤ S j a b ∧ S j a b < p := fun j a b => by rw [hS]; exact tmod_range _ (by omega)
  have GB := GB.congr (f' := prg S ca 0 0 0) fun a b _ _ => (prg_zero S0 ca a b).symm
  refine Wp_loop (fun k' vars h3 => ∃ (i : Nat), (∃ g : Nat → V, vars = [g 0, g 1, .ptr h.next 0, .ptr hx.next 0, .ptr hy.next 0, .ptr O 0, .int .i64 (i : Int), g 7, g 8, g 9, g 10, g 11]) ∧ i ≤ A.length ∧ Grd h3 R A.length cb ρ (prg S ca i 0 0) hh.next ∧ h3.get O = some (.cells false [.int .i64 p, .sl R 0 A.length (.un 1)]) ∧ Fr hz h3 ∧ k' = A.length - i) A.length
    ⟨0, ex_junk rfl, Nat.zero_le _, GB, gO, fB, rfl⟩ ?_
  clear GB gO fB gn nB fl G cb0 lb0
  rintro k' vars h3 ⟨i, ⟨g, rfl⟩, hi, G3, g3, f3, rfl⟩
  have x1' : h3.cell h.next 1 = some ua := by rw [f3.cell (by omega)]; exact x1
  simp (disch := first | omega | (simp only [Qn] <;> omega)) only [go_sem, x1', hua.lens]
  by_cases hlt : (i : Int) < (A.length : Int)
  · rw [decide_eq_true hlt]
    simp (disch := first | omega | (simp only [Qn] <;> omega)) only [go_sem]
    refine Wp_loop (fun k' vars h3 => ∃ (k : Nat), (∃ g : Nat → V, vars = [g 0, g 1, .ptr h.next 0, .ptr hx.next 0, .ptr hy.next 0, .ptr O 0, .int .i64 (i : Int), .int .i64 (k : Int), g 8, g 9, g 10, g 11]) ∧ k ≤ cb ∧ Grd h3 R A.length cb ρ (prg S ca i k 0) hh.next ∧ h3.get O = some (.cells false [.int .i64 p, .sl R 0 A.length (.un 1)]) ∧ Fr hz h3 ∧ k' = cb - k) cb
      ⟨0, ex_junk rfl, Nat.zero_le _, G3, g3, f3, rfl⟩ ?_
    clear G3 g3 f3 x1' g
    rintro k' vars h3 ⟨k, ⟨g, rfl⟩, hk, G3, g3, f3, rfl⟩
    have y1' : h3.cell hx.next 1 = some ub := by rw [f3.cell (by omega)]; exact y1
    have cb0 : h3.cell idb offb = some (wsb.getD 0 .undef) := (RB.fr f3).at_ 0 hrb1
    have lb0 := RB.lens hrb1
    simp (disch := first | omega | (simp only [Qn] <;> omega)) only [go_sem, y1', RB.sl.ixa, cb0, lb0]
    by_cases hlt2 : (k : Int) < (cb : Int)
    · rw [decide_eq_true hlt2]
      simp (disch := first | omega | (simp only [Qn] <;> omega)) only [go_sem]
      refine Wp_loop (fun k' vars h3 => ∃ (j : Nat), (∃ g : Nat → V, vars = [g 0, g 1, .ptr h.next 0, .ptr hx.next 0, .ptr hy.next 0, .ptr O 0, .int .i64 (i : Int), .int .i64 (k : Int), .int .i64 (j : Int), g 9, g 10, g 11]) ∧ j ≤ ca ∧ Grd h3 R A.length cb ρ (prg S ca i k j) hh.next ∧ h3.get O = some (.cells false [.int .i64 p, .sl R 0 A.length (.un 1)]) ∧ Fr hz h3 ∧ k' = ca - j) ca
        ⟨0, ex_junk rfl, Nat.zero_le _, G3, g3, f3, rfl⟩ ?_
      clear G3 g3 f3 y1' cb0 lb0 g
      rintro k' vars h3 ⟨j, ⟨g, rfl⟩, hj, G3, g3, f3, rfl⟩
      have y1' : h3.cell hx.next 1 = some ub := by rw [f3.cell (by omega)]; exact y1
      have lB : lensV ub = some (.int .i64 (ca : Int)) := by rw [hc]; exact hub.lens
      simp (disch := first | omega | (simp only [Qn] <;> omega)) only [go_sem, y1', lB]
      by_cases hlt3 : (j : Int) < (ca : Int)
      · rw [decide_eq_true hlt3]
        have hi' : i < A.length := by omega
        have hk' : k < cb := by omega
        have hj' : j < ca := by omega
        have hj2 : j < B.length := by omega
        have x0' : h3.cell h.next 0 = some (.int .i64 p) := by rw [f3.cell (by omega)]; exact x0
        have x1' : h3.cell h.next 1 = some ua := by rw [f3.cell (by omega)]; exact x1
        have cO : h3.cell O 1 = some (.sl R 0 A.length (.un 1)) := by rw [H.cell_of g3]; rfl
        have cv : h3.cell (ρ i) k = some (.int .i64 (S j i k)) := by rw [G3.cρ i k hi' hk', prg_at]
        have RA3 := RA.fr f3
        have RB3 := RB.fr f3
        have b1 := mul_bound (da.lo i j hi' hj') (da.hi i j hi' hj') (db.lo j k hj2 hk') (db.hi j k hj2 hk') hp.2
        simp only at b1
        have b2 := Sr j i k
        have em : (S j i k + ent A i j * ent B j k).tmod p = S (j + 1) i k := by
          rw [nonneg_tmod (by omega), hS]
          simp only
          rw [sm_succ, Int.emod_add_emod]
        have hp1 := (G3.fr ((Fr.refl h3).bump (n := h3.next + 37) (by omega))).put hi' hk' (S (j + 1) i k)
        have hput : putO (h3.get (ρ i)) (H.mk h3.tr (h3.next + 37)) (ρ i) k [.int .i64 (S (j + 1) i k)] = _ := hp1.1
        simp (disch := first | omega | (simp only [Qn] <;> omega)) only [go_sem, cO, G3.cR, cv, x1', RA.sl.ixa, RA3.at_ i hi', (RA.rsl i hi').ixa, RA3.ent i j hi' hj', y1', RB.sl.ixa, RB3.at_ j hj2, (RB.rsl j hj2).ixa, RB3.ent j k hj2 hk', x0', em, hput]
        rw [show (j : Int) + 1 = ((j + 1 : Nat) : Int) from by omega]
        have q := hlρ i hi'
        exact ⟨ca - (j + 1), by omega, j + 1, ex_junk rfl, by omega, hp1.2.congr fun a b _ _ => prg_up rfl a b, by rw [H.get_set_ne _ (by omega)]; exact g3, (f3.bump (by omega)).set (by omega) _, rfl⟩
      · rw [decide_eq_false hlt3]
        obtain rfl : j = ca := by omega
        simp (disch := first | omega | (simp only [Qn] <;> omega)) only [go_sem]
        rw [show (k : Int) + 1 = ((k + 1 : Nat) : Int) from by omega]
        exact ⟨cb - (k + 1), by omega, k + 1, ex_junk rfl, by omega, G3.congr fun a b _ _ => prg_next S0 j i k a b, g3, f3, rfl⟩
    · rw [decide_eq_false hlt2]
      obtain rfl : k = cb := by omega
      simp (disch := first | omega | (simp only [Qn] <;> omega)) only [go_sem]
      rw [show (i : Int) + 1 = ((i + 1 : Nat) : Int) from by omega]
      exact ⟨A.length - (i + 1), by omega, i + 1, ex_junk rfl, by omega, G3.congr fun a b _ hb => prg_row S0 hb, g3, f3, rfl⟩
  · rw [decide_eq_false hlt]
    obtain rfl : i = A.length := by omega
    have rr := row_two g3
    have gr := (f3.get hy.next (by omega)).trans hgz
    have hst2 := fun hh => stV_agg2 hh hy.next 0 (v := .int .i64 p) (u := .sl R 0 A.length (.un 1)) rfl rfl
    have hrow := row_two (h := h3.set hy.next (some (.cells false [.int .i64 p, .sl R 0 A.length (.un 1)]))) (H.get_set_same ..)
    simp (disch := first | omega | (simp only [Qn] <;> omega)) only [go_sem, rr, hst2, gr, hrow]
    have G5 := (G3.congr (f' := S ca) fun a b ha _ => prg_end ha).set (x := hy.next) (by omega) (some (.cells false [.int .i64 p, .sl R 0 A.length (.un 1)]))
    have e : mulF (p, A) (p, B) ca cb = (p, mkR A.length cb (S ca)) := by rw [mulF, hS]
    rw [e]
    obtain ⟨u, ws, e1, R1⟩ := G5.mato p
    exact ⟨⟨u, ws, e1, R1.le (by omega)⟩, (F.trans f3).set (by omega) _⟩
end Go.Proofs.Ytonhijbeddcmpaa

/- Layer 4: the reference's Mul, Add. -/
namespace Go.Proofs.Ytonhijbeddcmpaa
open Go Go.Ay
set_option maxRecDepth 100000
end Go.Proofs.Ytonhijbeddcmpaa

/- Layer 4: the reference's Scale, Turn. -/
namespace Go.Proofs.Ytonhijbeddcmpaa
open Go Go.Ay
set_option maxRecDepth 100000
end Go.Proofs.Ytonhijbeddcmpaa

/- Layer 4: the reference's Apply. -/
namespace Go.Proofs.Ytonhijbeddcmpaa
open Go Go.Ay
set_option maxRecDepth 100000
set_option maxHeartbeats 8000000 in
theorem ref_Apply_ok (vv va : V) (v : List Int) (a : Mat) (h : H) (hv : SI h vv v) (lv : (v.length : Int) ≤ 2 ^ 63 - 1) (ha : MatV h va a) (la : (a.2.length : Int) ≤ 2 ^ 63 - 1) :
    Ev T n_ref04_Apply [vv, va] h (fun r h' => ∃ w, r = .tup [w, .int .i64 (ApplyF v a).2] ∧ SI h' w (ApplyF v a).1 ∧ Fr h h') := by
  obtain ⟨ua, rfl, hua⟩ := ha
  obtain ⟨p, A⟩ := a
  simp only at hua la
  refine Ev_of t_ref04_Apply rfl ?_
  have wa := SV.what hua.choose_spec.1
  simp (disch := first | omega | (simp only [Qn] <;> omega)) only [go_sem, c_ref04_Apply, initV_eq, boxV_agg2 h (v := .int .i64 p) rfl wa.2.1]
  have hfx : Fr h (h.new (.cells false [.int .i64 p, ua])) := (Fr.refl h).new _
  have hgx : (h.new (.cells false [.int .i64 p, ua])).get h.next = some (.cells false [.int .i64 p, ua]) := H.get_new_same ..
  have hnx : (h.new (.cells false [.int .i64 p, ua])).next = h.next + 1 := H.next_new ..
  generalize h.new (.cells false [.int .i64 p, ua]) = hx at *
  have rx := row_two hgx
  simp (disch := first | omega | (simp only [Qn] <;> omega)) only [go_sem, rx]
  refine (ref_check_ok _ (p, A) hx ⟨ua, rfl, hua.mono hfx⟩ la).mono ?_
  rintro r h5 ⟨rfl, f5⟩
  have F5 := hfx.trans f5
  have gx5 := (f5.get h.next (by omega)).trans hgx
  have n5 := f5.next
  simp (disch := first | omega | (simp only [Qn] <;> omega)) only [go_sem]
  refine iteW_dec (fun he => ?_) (fun he => ?_)
  · simp (disch := first | omega | (simp only [Qn] <;> omega)) only [go_sem]
    have e : ApplyF v (p, A) = ([], checkM (p, A)) := by rw [ApplyF, if_pos he]
    rw [e]
    exact ⟨_, rfl, SV.nils _ _, F5⟩
  have hz : checkM (p, A) = 0 := Classical.byContradiction he
  have da := check_vd hz
  have hp := fieldF_range da.p
  have hra1 := da.r1
  have hra2 := da.r2
  have hca1 := da.c1
  have hca2 := da.c2
  simp only at hp hra1 hra2
  obtain ⟨c, hc⟩ : ∃ c, (A.getD 0 []).length = c := ⟨_, rfl⟩
  simp only [hc] at da hca1 hca2
  have x0 : h5.cell h.next 0 = some (.int .i64 p) := by rw [H.cell_of gx5]; rfl
  have x1 : h5.cell h.next 1 = some ua := by rw [H.cell_of gx5]; rfl
  simp (disch := first | omega | (simp only [Qn] <;> omega)) only [go_sem, hv.lens, x1, hua.lens]
  refine iteW_dec (fun hl => ?_) (fun hl => ?_)
  · simp (disch := first | omega | (simp only [Qn] <;> omega)) only [go_sem]
    have e : ApplyF v (p, A) = ([], 10) := by rw [ApplyF, if_neg (by simp [hz]), if_pos (by show v.length ≠ A.length; omega)]
    rw [e]
    exact ⟨_, rfl, SV.nils _ _, F5⟩
  have hlen : v.length = A.length := by omega
  obtain ⟨ida, offa, wsa, ρa, oa, RA⟩ := SR.rd (hua.mono F5) fun i hi => da.row i hi
  obtain ⟨idv, offv, sv, hidv, cv⟩ := (hv.mono F5).open
  have ca0 : h5.cell ida offa = some (wsa.getD 0 .undef) := RA.at_ 0 hra1
  have emk : mksV h5 1 8 [.int .i64 0] (.int .i64 (c : Int)) (.int .i64 (c : Int)) = some (.sl h5.next 0 c (.kn c), h5.new (.cells false (ints (List.replicate c 0)))) := by
    rw [mksV_int (by omega) (Int.le_refl _) (by omega) (by omega), Int.toNat_natCast, Nat.mul_one, zeros_int]
  simp (disch := first | omega | (simp only [Qn] <;> omega)) only [go_sem, x1, RA.sl.ixa, ca0, RA.lens hra1, emk]
  have hfz : Fr h5 (h5.new (.cells false (ints (List.replicate c 0)))) := (Fr.refl h5).new _
  have hgz : (h5.new (.cells false (ints (List.replicate c 0)))).get h5.next = some (.cells false (ints (List.replicate c 0))) := H.get_new_same ..
  have hnz : (h5.new (.cells false (ints (List.replicate c 0)))).next = h5.next + 1 := H.next_new ..
  generalize h5.new (.cells false (ints (List.replicate c 0))) = hz5 at *
  obtain ⟨S, hS⟩ : ∃ S : Nat → Nat → Int, S = fun i k => sm i (fun i => v.getD i 0 % p * ent A i k) % p := ⟨_, rfl⟩
  have Sr : ∀ i k, 0 ≤ S i k ∧ S i k < p := fun i k => by rw [hS]; exact tmod_range _ (by omega)
  have S0 : ∀ k, S 0 k = 0 := fun k => by rw [hS]; rfl
  have er : List.replicate c (0 : Int) = mkV c (fun x => if x < 0 then S v.length x else if x = 0 then S 0 x else 0) := mkV_eq (List.length_replicate ..) fun j hj => by
    rw [List.getD_eq_getElem?_getD, List.getElem?_replicate, if_pos hj, if_neg (by omega), S0]; simp
  rw [er] at hgz
  have lsl : lensV (.sl h5.next 0 c (.kn c)) = some (.int .i64 (c : Int)) := rfl
  refine Wp_loop (fun k' vars h3 => ∃ (k : Nat), (∃ g : Nat → V, vars = [vv, g 1, .ptr h.next 0, g 3, g 4, g 5, .sl h5.next 0 c (.kn c), .int .i64 (k : Int), g 8, g 9, g 10, g 11, g 12]) ∧ k ≤ c ∧ h3.get h5.next = some (.cells false (ints (mkV c (fun x => if x < k then S v.length x else if x = k then S 0 x else 0)))) ∧ h5.next < h3.next ∧ Fr h5 h3 ∧ k' = c - k) c
    ⟨0, ex_junk rfl, Nat.zero_le _, hgz, by omega, hfz, rfl⟩ ?_
  clear hgz hfz er emk ca0
  rintro k' vars h3 ⟨k, ⟨g, rfl⟩, hk, g3, n3, f3, rfl⟩
  simp (disch := first | omega | (simp only [Qn] <;> omega)) only [go_sem, lsl]
  by_cases hlt : (k : Int) < (c : Int)
  · rw [decide_eq_true hlt]
    simp (disch := first | omega | (simp only [Qn] <;> omega)) only [go_sem]
    refine Wp_loop (fun k' vars h3 => ∃ (i : Nat), (∃ g : Nat → V, vars = [vv, g 1, .ptr h.next 0, g 3, g 4, g 5, .sl h5.next 0 c (.kn c), .int .i64 (k : Int), .int .i64 (i : Int), g 9, g 10, g 11, g 12]) ∧ i ≤ v.length ∧ h3.get h5.next = some (.cells false (ints (mkV c (fun x => if x < k then S v.length x else if x = k then S i x else 0)))) ∧ h5.next < h3.next ∧ Fr h5 h3 ∧ k' = v.length - i) v.length
      ⟨0, ex_junk rfl, Nat.zero_le _, g3, n3, f3, rfl⟩ ?_
    clear g3 n3 f3 g
    rintro k' vars h3 ⟨i, ⟨g, rfl⟩, hi, g3, n3, f3, rfl⟩
    simp (disch := first | omega | (simp only [Qn] <;> omega)) only [go_sem, hv.lens]
    by_cases hlt2 : (i : Int) < (v.length : Int)
    · rw [decide_eq_true hlt2]
      have hi' : i < A.length := by omega
      have hk' : k < c := by omega
      have x0' : h3.cell h.next 0 = some (.int .i64 p) := by rw [f3.cell (by omega)]; exact x0
      have x1' : h3.cell h.next 1 = some ua := by rw [f3.cell (by omega)]; exact x1
      have cvi : h3.cell idv (offv + i) = some (.int .i64 (v.getD i 0)) := by rw [f3.cell (hidv (by omega))]; exact cv i (by omega)
      have RA3 := RA.fr f3
      have co : h3.cell h5.next k = some (.int .i64 (S i k)) := by
        rw [H.cell_of g3, ints_getD (by rw [mkV_len]; exact hk'), mkV_get _ hk', if_neg (by omega), if_pos rfl]
      have b1 := da.lo i k hi' hk'
      have b2 := da.hi i k hi' hk'
      have b3 := tmod_range (v.getD i 0) (show 0 < p by omega)
      have b4 := mul_bound b3.1 b3.2 b1 b2 hp.2
      simp only at b4
      have b5 := Sr i k
      have ev : eqV ua ua = true := SV.eqV hua.choose_spec.1
      have ew : eqV (wsa.getD i .undef) (wsa.getD i .undef) = true := SV.eqV (RA.row i hi')
      have em : (S i k + v.getD i 0 % p * ent A i k).tmod p = S (i + 1) k := by
        rw [nonneg_tmod (by omega), hS]
        simp only
        rw [sm_succ, Int.emod_add_emod]
      simp (disch := first | omega | (simp only [Qn] <;> omega)) only [go_sem, co, sv.ixa, cvi, x0', x1', RA.sl.ixa, RA3.at_ i hi', (RA.rsl i hi').ixa, RA3.ent i k hi' hk']
      refine (pick_ok (v.getD i 0) p (H.mk h3.tr (h3.next + 28)) (by omega) (by omega)).mono ?_
      rintro r h4 ⟨rfl, rfl⟩
      have hput : putO (some (.cells false (ints (mkV c (fun x => if x < k then S v.length x else if x = k then S i x else 0))))) (H.mk h3.tr (h3.next + 28)) h5.next k [.int .i64 (S (i + 1) k)] = some ((H.mk h3.tr (h3.next + 28)).set h5.next (some (.cells false (ints (mkV c (fun x => if x < k then S v.length x else if x = k then S (i + 1) x else 0)))))) := by
        rw [putO_ints (by rw [mkV_len]; exact hk'), mkV_set]
        congr 5
        refine mkV_congr fun x _ => ?_
        by_cases e : x = k
        · subst e; rw [if_pos rfl, if_neg (by omega), if_pos rfl]
        · rw [if_neg e, if_neg e, if_neg e]
      simp (disch := first | omega | (simp only [Qn] <;> omega)) only [go_sem, co, sv.ixa, cvi, x0', x1', RA.sl.ixa, RA3.at_ i hi', (RA.rsl i hi').ixa, RA3.ent i k hi' hk', ev, ew, em, g3, hput]
      rw [show (i : Int) + 1 = ((i + 1 : Nat) : Int) from by omega]
      exact ⟨v.length - (i + 1), by omega, i + 1, ex_junk rfl, by omega, rfl, by show h5.next < h3.next + 28; omega, (f3.bump (by omega)).set (Nat.le_refl _) _, rfl⟩
    · rw [decide_eq_false hlt2]
      obtain rfl : i = v.length := by omega
      simp (disch := first | omega | (simp only [Qn] <;> omega)) only [go_sem]
      rw [show (k : Int) + 1 = ((k + 1 : Nat) : Int) from by omega]
      refine ⟨c - (k + 1), by omega, k + 1, ex_junk rfl, by omega, ?_, n3, f3, rfl⟩
      rw [g3]
      congr 4
      funext x
      by_cases e : x < k
      · rw [if_pos e, if_pos (by omega)]
      · rw [if_neg e]
        by_cases e2 : x = k
        · rw [if_pos e2, if_pos (by omega)]
        · rw [if_neg e2, if_neg (by omega), S0]; split <;> rfl
  · rw [decide_eq_false hlt]
    obtain rfl : k = c := by omega
    simp (disch := first | omega | (simp only [Qn] <;> omega)) only [go_sem]
    have e : ApplyF v (p, A) = (mkV k (S v.length), 0) := by
      rw [ApplyF, if_neg (by simp [hz]), if_neg (by simp [hlen]), applyF, mkV_len, hS, ← hc]
      congr 1
      refine mkV_congr fun x _ => ?_
      simp only
      refine congrArg (· % p) (sm_congr fun j hj => ?_)
      rw [mkV_get _ hj]
    rw [e]
    have so := SI.own (h := h3) (id := h5.next) (by omega) g3 (.kn k)
    rw [mkV_len, mkV_congr (g := S v.length) fun x hx => if_pos hx] at so
    exact ⟨_, rfl, so, F5.trans f3⟩
end Go.Proofs.Ytonhijbeddcmpaa

/- Determinants of integer matrices: the rows. -/
namespace Go.Ay
abbrev Mx := Nat → Nat → Int
/-- Past a row that is left out. -/
def skp (i r : Nat) : Nat := if r < i then r else r + 1
/-- Where a row stands when another one is left out. -/
def low (i k : Nat) : Nat := if i < k then k - 1 else k
theorem skp_ne (i r : Nat) : skp i r ≠ i := by unfold skp; split <;> omega
theorem skp_lt {n i r : Nat} (h : r < n) : skp i r < n + 1 := by unfold skp; split <;> omega
theorem skp_low {i k r : Nat} (h : i ≠ k) : skp i r = k ↔ r = low i k := by unfold skp low; split <;> split <;> omega
theorem skp_low' {i k : Nat} (h : i ≠ k) : skp i (low i k) = k := (skp_low h).2 rfl
theorem low_lt {n i k : Nat} (h : k < n + 1) (hi : i < n + 1) (hne : i ≠ k) : low i k < n := by unfold low; split <;> omega
theorem low_ne {i k k' : Nat} (h : i ≠ k) (h' : i ≠ k') (hne : k ≠ k') : low i k ≠ low i k' := by unfold low; split <;> split <;> omega
theorem skp_inj {i r r' : Nat} (h : skp i r = skp i r') : r = r' := by unfold skp at h; split at h <;> split at h <;> omega
/-- A sign. -/
def sgn : Nat → Int
  | 0 => 1
  | n + 1 => - sgn n
theorem sgn_succ (n : Nat) : sgn (n + 1) = - sgn n := rfl
theorem sgn_add (n m : Nat) : sgn (n + m) = sgn n * sgn m := by
  induction m with
  | zero => rw [Nat.add_zero]; show sgn n = sgn n * 1; rw [Int.mul_one]
  | succ m ih => rw [← Nat.add_assoc, sgn_succ, sgn_succ, ih, Int.mul_neg]
theorem sgn_sq (n : Nat) : sgn n * sgn n = 1 := by
  induction n with
  | zero => rfl
  | succ n ih => rw [sgn_succ, Int.neg_mul_neg, ih]
theorem sgn_two (n : Nat) : sgn (n + n) = 1 := by rw [sgn_add, sgn_sq]
def del (A : Mx) (i j : Nat) : Mx := fun r c => A (skp i r) (skp j c)
def setR (A : Mx) (k : Nat) (u : Nat → Int) : Mx := fun i j => if i = k then u j else A i j
theorem setR_same (A : Mx) (k : Nat) (u : Nat → Int) (j : Nat) : setR A k u k j = u j := if_pos rfl
theorem setR_ne (A : Mx) {i k : Nat} (u : Nat → Int) (j : Nat) (h : i ≠ k) : setR A k u i j = A i j := if_neg h
theorem setR_comm (A : Mx) {k l : Nat} (u v : Nat → Int) (h : k ≠ l) : setR (setR A k u) l v = setR (setR A l v) k u := by
  funext i j
  simp only [setR]
  by_cases h1 : i = l
  · rw [if_pos h1, if_neg (by omega), if_pos h1]
  · rw [if_neg h1, if_neg h1]
theorem setR_self (A : Mx) (k : Nat) : setR A k (A k) = A := by
  funext i j
  simp only [setR]
  split
  · rename_i h; rw [h]
  · rfl
theorem del_set_same (A : Mx) (k j : Nat) (u : Nat → Int) : del (setR A k u) k j = del A k j := by
  funext r c
  simp only [del]
  rw [setR_ne _ _ _ (skp_ne k r)]
theorem del_set_ne (A : Mx) {i k : Nat} (j : Nat) (u : Nat → Int) (h : i ≠ k) : del (setR A k u) i j = setR (del A i j) (low i k) (fun c => u (skp j c)) := by
  funext r c
  simp only [del, setR]
  by_cases e : r = low i k
  · rw [if_pos e, if_pos ((skp_low h).2 e)]
  · rw [if_neg e, if_neg fun e2 => e ((skp_low h).1 e2)]
/-- Alternating, and linear in each row. -/
structure Alt (n : Nat) (F : Mx → Int) : Prop where
  congr : ∀ A B, (∀ i j, i < n → j < n → A i j = B i j) → F A = F B
  lin : ∀ A k (x : Int) (u v : Nat → Int), k < n → F (setR A k (fun j => x * u j + v j)) = x * F (setR A k u) + F (setR A k v)
  alt : ∀ A i j, i < n → j < n → i ≠ j → (∀ c, c < n → A i c = A j c) → F A = 0
/-- The same, with neighbours alone. -/
structure Adj (n : Nat) (F : Mx → Int) : Prop where
  congr : ∀ A B, (∀ i j, i < n → j < n → A i j = B i j) → F A = F B
  lin : ∀ A k (x : Int) (u v : Nat → Int), k < n → F (setR A k (fun j => x * u j + v j)) = x * F (setR A k u) + F (setR A k v)
  adj : ∀ A k, k + 1 < n → (∀ c, c < n → A k c = A (k + 1) c) → F A = 0
def swp (A : Mx) (i j : Nat) : Mx := setR (setR A i (A j)) j (A i)
theorem swp_left (A : Mx) {i j : Nat} (h : i ≠ j) (c : Nat) : swp A i j i c = A j c := by rw [swp, setR_ne _ _ _ h, setR_same]
theorem swp_right (A : Mx) (i j : Nat) (c : Nat) : swp A i j j c = A i c := by rw [swp, setR_same]
theorem swp_other (A : Mx) {i j k : Nat} (h1 : k ≠ i) (h2 : k ≠ j) (c : Nat) : swp A i j k c = A k c := by rw [swp, setR_ne _ _ _ h2, setR_ne _ _ _ h1]
theorem swap_of {n : Nat} {F : Mx → Int} (lin : ∀ A k (x : Int) (u v : Nat → Int), k < n → F (setR A k (fun j => x * u j + v j)) = x * F (setR A k u) + F (setR A k v)) {i j : Nat} (hi : i < n) (hj : j < n) (hne : i ≠ j)
    (alt : ∀ A, (∀ c, c < n → A i c = A j c) → F A = 0) (A : Mx) : F (swp A i j) = - F A := by
  have z : ∀ w : Nat → Int, F (setR (setR A i w) j w) = 0 := fun w => alt _ fun c _ => by rw [setR_same, setR_ne _ _ _ hne, setR_same]
  have l2 : ∀ w (x : Int) (u v : Nat → Int), F (setR (setR A i w) j (fun c => x * u c + v c)) = x * F (setR (setR A i w) j u) + F (setR (setR A i w) j v) := fun w x u v => lin _ _ _ _ _ hj
  have l1 : ∀ w (x : Int) (u v : Nat → Int), F (setR (setR A i (fun c => x * u c + v c)) j w) = x * F (setR (setR A i u) j w) + F (setR (setR A i v) j w) := fun w x u v => by
    rw [setR_comm _ _ _ hne, setR_comm _ _ _ hne, setR_comm _ _ _ hne]
    exact lin _ _ _ _ _ hi
  have e := z (fun c => 1 * A i c + A j c)
  rw [l1, l2, l2, z, z] at e
  have e2 : setR (setR A i (A i)) j (A j) = A := by rw [setR_self, setR_self]
  rw [e2] at e
  rw [swp]
  omega
theorem Adj.full {n : Nat} {F : Mx → Int} (a : Adj n F) : Alt n F := by
  have key : ∀ d A i, i + d + 1 < n → (∀ c, c < n → A i c = A (i + d + 1) c) → F A = 0 := by
    intro d
    induction d with
    | zero => intro A i h e; exact a.adj A i h e
    | succ d ih =>
      intro A i h e
      have s := swap_of a.lin (i := i + d + 1) (j := i + (d + 1) + 1) (by omega) h (by omega) (fun B hB => a.adj B (i + d + 1) (by omega) hB) A
      rw [ih (swp A (i + d + 1) (i + (d + 1) + 1)) i (by omega) fun c hc => by rw [swp_left _ (by omega), swp_other _ (by omega) (by omega)]; exact e c hc] at s
      omega
  refine ⟨a.congr, a.lin, fun A i j hi hj hne e => ?_⟩
  rcases Nat.lt_or_gt_of_ne hne with h | h
  · obtain ⟨d, rfl⟩ : ∃ d, j = i + d + 1 := ⟨j - i - 1, by omega⟩
    exact key d A i hj e
  · obtain ⟨d, rfl⟩ : ∃ d, i = j + d + 1 := ⟨i - j - 1, by omega⟩
    exact key d A j hi fun c hc => (e c hc).symm
theorem Alt.swap {n : Nat} {F : Mx → Int} (a : Alt n F) {i j : Nat} (hi : i < n) (hj : j < n) (hne : i ≠ j) (A : Mx) : F (swp A i j) = - F A :=
  swap_of a.lin hi hj hne (fun B hB => a.alt B i j hi hj hne hB) A
theorem Alt.zero_row {n : Nat} {F : Mx → Int} (a : Alt n F) (A : Mx) {k : Nat} (hk : k < n) : F (setR A k (fun _ => 0)) = 0 := by
  have := a.lin A k 1 (fun _ => 0) (fun _ => 0) hk
  simp only [Int.mul_zero, Int.add_zero] at this
  omega
theorem Alt.sum {n : Nat} {F : Mx → Int} (a : Alt n F) (A : Mx) {k : Nat} (hk : k < n) (m : Nat) (x : Nat → Int) (u : Nat → Nat → Int) : F (setR A k (fun c => sm m (fun j => x j * u j c))) = sm m (fun j => x j * F (setR A k (u j))) := by
  induction m with
  | zero => exact a.zero_row A hk
  | succ m ih =>
    have := a.lin A k (x m) (u m) (fun c => sm m (fun j => x j * u j c)) hk
    rw [sm_succ, ← ih]
    have e : (fun c => sm (m + 1) (fun j => x j * u j c)) = fun c => x m * u m c + sm m (fun j => x j * u j c) := by
      funext c; rw [sm_succ, Int.add_comm]
    rw [e, this, Int.add_comm]
/-- A multiple of another row. -/
theorem Alt.add_row {n : Nat} {F : Mx → Int} (a : Alt n F) (A : Mx) {i k : Nat} (hi : i < n) (hk : k < n) (hne : i ≠ k) (x : Int) : F (setR A k (fun c => x * A i c + A k c)) = F A := by
  rw [a.lin _ _ _ _ _ hk, setR_self, a.alt (setR A k (A i)) i k hi hk hne fun c _ => by rw [setR_same, setR_ne _ _ _ hne], Int.mul_zero, Int.zero_add]
theorem Alt.mul_row {n : Nat} {F : Mx → Int} (a : Alt n F) (A : Mx) {k : Nat} (hk : k < n) (x : Int) (u : Nat → Int) : F (setR A k (fun c => x * u c)) = x * F (setR A k u) := by
  have := a.lin A k x u (fun _ => 0) hk
  simp only [Int.add_zero] at this
  rw [this, a.zero_row A hk, Int.add_zero]
/-! expansion along a column -/
def det : Nat → Mx → Int
  | 0, _ => 1
  | n + 1, A => sm (n + 1) (fun i => sgn i * A i 0 * det n (del A i 0))
def exc (j n : Nat) (A : Mx) : Int := sm (n + 1) (fun i => sgn (i + j) * A i j * det n (del A i j))
theorem det_succ (n : Nat) (A : Mx) : det (n + 1) A = exc 0 n A := rfl
theorem sm_pair {n a b : Nat} (ha : a < n) (hb : b < n) (hne : a ≠ b) {f : Nat → Int} (h : ∀ k, k < n → k ≠ a → k ≠ b → f k = 0) : sm n f = f a + f b := by
  have e : sm n f = sm n (fun k => (if k = a then f k else 0) + (if k = b then f k else 0)) := sm_congr fun k hk => by
    by_cases h1 : k = a
    · rw [if_pos h1, if_neg (by omega), Int.add_zero]
    · by_cases h2 : k = b
      · rw [if_neg h1, if_pos h2, Int.zero_add]
      · rw [if_neg h1, if_neg h2, h k hk h1 h2]; rfl
  rw [e, sm_add, sm_pick ha, sm_pick hb]
theorem exc_adj {n j : Nat} (hj : j < n + 1) (a : Alt n (det n)) : Adj (n + 1) (exc j n) := by
  refine ⟨fun A B h => sm_congr fun i hi => ?_, fun A k x u v hk => ?_, fun A k hk h => ?_⟩
  · rw [h i j hi hj, a.congr (del A i j) (del B i j) fun r c hr hc => h _ _ (skp_lt hr) (skp_lt hc)]
  · simp only [exc]
    rw [← sm_mul, ← sm_add]
    refine sm_congr fun i hi => ?_
    by_cases e : i = k
    · subst e
      rw [setR_same, setR_same, setR_same, del_set_same, del_set_same, del_set_same]
      grind
    · rw [setR_ne _ _ _ e, setR_ne _ _ _ e, setR_ne _ _ _ e, del_set_ne _ _ _ e, del_set_ne _ _ _ e, del_set_ne _ _ _ e, a.lin _ _ _ _ _ (low_lt hk hi e)]
      grind
  · simp only [exc]
    rw [sm_pair (a := k) (b := k + 1) (by omega) (by omega) (by omega) fun i hi h1 h2 => ?_]
    · have e : det n (del A k j) = det n (del A (k + 1) j) := a.congr _ _ fun r c hr hc => by
        simp only [del]
        by_cases hr2 : r = k
        · subst hr2
          rw [show skp r r = r + 1 by unfold skp; rw [if_neg (by omega)], show skp (r + 1) r = r by unfold skp; rw [if_pos (by omega)]]
          exact (h _ (skp_lt hc)).symm
        · rw [show skp k r = skp (k + 1) r by unfold skp; split <;> split <;> omega]
      rw [e, ← h j hj, show k + 1 + j = k + j + 1 by omega, sgn_succ]
      grind
    · rw [a.alt (del A i j) (low i k) (low i (k + 1)) (low_lt (by omega) hi h1) (low_lt hk hi h2) (low_ne h1 h2 (by omega)) fun c hc => ?_, Int.mul_zero]
      simp only [del]
      rw [skp_low' h1, skp_low' h2]
      exact h _ (skp_lt hc)
theorem det_alt : ∀ n, Alt n (det n)
  | 0 => ⟨fun _ _ _ => rfl, fun _ _ _ _ _ h => absurd h (Nat.not_lt_zero _), fun _ _ _ h => absurd h (Nat.not_lt_zero _)⟩
  | n + 1 => (exc_adj (j := 0) (by omega) (det_alt n)).full
theorem exc_alt {n j : Nat} (hj : j < n + 1) : Alt (n + 1) (exc j n) := (exc_adj hj (det_alt n)).full
def idM : Mx := fun i j => if i = j then 1 else 0
theorem del_id (j : Nat) : del idM j j = idM := by
  funext r c
  simp only [del, idM]
  by_cases e : r = c
  · rw [if_pos e, if_pos (by rw [e])]
  · rw [if_neg e, if_neg fun h => e (skp_inj h)]
theorem det_id : ∀ n, det n idM = 1
  | 0 => rfl
  | n + 1 => by
    rw [det_succ, exc, sm_one (t := 0) (by omega) fun k _ hne => by simp only [idM]; rw [if_neg hne]; simp, del_id, det_id n]
    rfl
theorem exc_id {n j : Nat} (hj : j < n + 1) : exc j n idM = 1 := by
  rw [exc, sm_one (t := j) hj fun k _ hne => by simp only [idM]; rw [if_neg hne]; simp, del_id, det_id n, sgn_two]
  simp [idM]
/-! there is no other -/
theorem onto_of_inj {n : Nat} {s : Nat → Nat} (hs : ∀ i, i < n → s i < n) (hi : ∀ i j, i < n → j < n → s i = s j → i = j) {m : Nat} (hm : m < n) : ∃ i, i < n ∧ s i = m := by
  refine Classical.byContradiction fun hno => ?_
  have one : ∀ v k, k ≤ n → sm k (fun i => if s i = v then (1 : Int) else 0) ≤ 1 := by
    intro v k
    induction k with
    | zero => intro _; rw [sm_zero]; omega
    | succ k ih =>
      intro hk
      rw [sm_succ]
      by_cases e : s k = v
      · rw [if_pos e, sm_zeros fun i hik => if_neg fun e2 => by have := hi i k (by omega) (by omega) (by rw [e2, e]); omega]
        omega
      · rw [if_neg e]; have := ih (by omega); omega
  have tot : sm n (fun v => sm n (fun i => if s i = v then (1 : Int) else 0)) = sm n (fun _ => 1) := by
    rw [sm_swap]
    exact sm_congr fun i hi => sm_pick' (hs i hi) (fun _ => 1)
  have le : sm n (fun v => sm n (fun i => if s i = v then (1 : Int) else 0)) ≤ sm n (fun v => 1 - if v = m then 1 else 0) := sm_le fun v _ => by
    by_cases e : v = m
    · subst e
      rw [if_pos rfl, sm_zeros fun i hik => if_neg fun e2 => hno ⟨i, hik, e2⟩]
      omega
    · rw [if_neg e]; have := one v n (Nat.le_refl _); omega
  rw [tot, sm_sub, sm_pick hm (fun _ => 1)] at le
  omega
theorem Alt.perm {n : Nat} {F : Mx → Int} (a : Alt n F) (hI : F idM = 0) : ∀ d m, m + d = n → ∀ A (s : Nat → Nat), (∀ i, i < n → s i < n) → (∀ i c, i < n → c < n → A i c = if c = s i then 1 else 0) → (∀ i, i < m → s i = i) → F A = 0 := by
  intro d
  induction d with
  | zero =>
    intro m hm A s hs hA hfix
    rw [← hI]
    refine a.congr _ _ fun i j hi hj => ?_
    rw [hA i j hi hj, hfix i (by omega)]
    simp only [idM]
    by_cases e : i = j
    · rw [if_pos e, if_pos e.symm]
    · rw [if_neg e, if_neg fun h => e h.symm]
  | succ d ih =>
    intro m hm A s hs hA hfix
    by_cases hj : ∃ j, m ≤ j ∧ j < n ∧ s j = m
    · obtain ⟨j, h1, h2, h3⟩ := hj
      by_cases e : j = m
      · subst e
        exact ih (j + 1) (by omega) A s hs hA fun i hi => by
          by_cases e : i = j
          · rw [e, h3]
          · exact hfix i (by omega)
      · have sw := a.swap (i := m) (j := j) (by omega) h2 (by omega) A
        rw [ih (m + 1) (by omega) (swp A m j) (fun i => if i = m then m else if i = j then s m else s i) (fun i hi => by
          split
          · omega
          · split
            · exact hs m (by omega)
            · exact hs i hi) (fun i c hi hc => by
          by_cases e1 : i = m
          · subst e1
            rw [swp_left _ (by omega), if_pos rfl, hA j c h2 hc, h3]
          · rw [if_neg e1]
            by_cases e2 : i = j
            · subst e2
              rw [swp_right, if_pos rfl, hA m c (by omega) hc]
            · rw [swp_other _ e1 e2, if_neg e2, hA i c hi hc]) (fun i hi => by
          by_cases e1 : i = m
          · rw [if_pos e1, e1]
          · rw [if_neg e1, if_neg (by omega)]; exact hfix i (by omega))] at sw
        omega
    · refine Classical.byContradiction fun hF => hj ?_
      obtain ⟨i, h1, h2⟩ := onto_of_inj hs (fun i j hi hj e => Classical.byContradiction fun hne => hF (a.alt A i j hi hj hne fun c hc => by rw [hA i c hi hc, hA j c hj hc, e])) (show m < n by omega)
      exact ⟨i, Nat.le_of_not_lt fun hlt => by have := hfix i hlt; omega, h1, h2⟩
theorem Alt.units {n : Nat} {F : Mx → Int} (a : Alt n F) (hI : F idM = 0) : ∀ k, k ≤ n → ∀ A, (∀ i, k ≤ i → i < n → ∃ s, s < n ∧ ∀ c, c < n → A i c = if c = s then 1 else 0) → F A = 0 := by
  intro k
  induction k with
  | zero =>
    intro _ A h
    exact a.perm hI n 0 (by omega) A (fun i => if hi : i < n then (h i (Nat.zero_le _) hi).choose else 0) (fun i hi => by rw [dif_pos hi]; exact (h i (Nat.zero_le _) hi).choose_spec.1) (fun i c hi hc => by rw [dif_pos hi]; exact (h i (Nat.zero_le _) hi).choose_spec.2 c hc) fun i hi => absurd hi (Nat.not_lt_zero i)
  | succ k ih =>
    intro hk A h
    have e : F A = F (setR A k (fun c => sm n (fun j => A k j * (if c = j then 1 else 0)))) := a.congr _ _ fun i c hi hc => by
      by_cases e : i = k
      · subst e
        rw [setR_same, sm_one hc fun j _ hne => by rw [if_neg (Ne.symm hne), Int.mul_zero], if_pos rfl, Int.mul_one]
      · rw [setR_ne _ _ _ e]
    rw [e, a.sum A (by omega) n (A k) (fun j c => if c = j then 1 else 0)]
    refine sm_zeros fun j hj => ?_
    rw [ih (by omega) _ fun i h1 h2 => ?_, Int.mul_zero]
    by_cases e : i = k
    · subst e
      exact ⟨j, hj, fun c _ => by rw [setR_same]⟩
    · obtain ⟨s, hs, hc⟩ := h i (by omega) h2
      exact ⟨s, hs, fun c hc' => by rw [setR_ne _ _ _ e]; exact hc c hc'⟩
theorem Alt.uniq {n : Nat} {F : Mx → Int} (a : Alt n F) (A : Mx) : F A = det n A * F idM := by
  have d := det_alt n
  have z : Alt n (fun A => F A - det n A * F idM) := by
    refine ⟨fun A B h => by rw [a.congr A B h, d.congr A B h], fun A k x u v hk => ?_, fun A i j hi hj hne h => ?_⟩
    · rw [a.lin _ _ _ _ _ hk, d.lin _ _ _ _ _ hk]
      grind
    · rw [a.alt A i j hi hj hne h, d.alt A i j hi hj hne h]; simp
  have := z.units (by rw [det_id]; omega) n (Nat.le_refl _) A fun i h1 h2 => by omega
  omega
theorem det_col {n j : Nat} (hj : j < n + 1) (A : Mx) : det (n + 1) A = exc j n A := by
  rw [(exc_alt hj).uniq A, exc_id hj, Int.mul_one]
end Go.Ay

/- Determinants of integer matrices: products, columns, the adjugate. -/
namespace Go.Ay
def mulM (n : Nat) (A B : Mx) : Mx := fun i j => sm n (fun k => A i k * B k j)
def trM (A : Mx) : Mx := fun i j => A j i
theorem det_congr {n : Nat} {A B : Mx} (h : ∀ i j, i < n → j < n → A i j = B i j) : det n A = det n B := (det_alt n).congr A B h
theorem mul_setR (n : Nat) (A B : Mx) (k : Nat) (u : Nat → Int) : mulM n (setR A k u) B = setR (mulM n A B) k (fun j => sm n (fun t => u t * B t j)) := by
  funext i j
  simp only [mulM, setR]
  by_cases e : i = k
  · simp only [if_pos e]
  · simp only [if_neg e]
theorem det_mul (n : Nat) (A B : Mx) : det n (mulM n A B) = det n A * det n B := by
  have d := det_alt n
  have a : Alt n (fun A => det n (mulM n A B)) := by
    refine ⟨fun A C h => d.congr _ _ fun i j hi hj => sm_congr fun k hk => by rw [h i k hi hk], fun A k x u v hk => ?_, fun A i j hi hj hne h => d.alt _ i j hi hj hne fun c _ => sm_congr fun k hk => by rw [h k hk]⟩
    rw [mul_setR, mul_setR, mul_setR, ← d.lin _ _ _ _ _ hk]
    congr 2
    funext j
    rw [← sm_mul, ← sm_add]
    exact sm_congr fun t _ => by grind
  have e := a.uniq A
  rw [e]
  congr 1
  exact det_congr fun i j hi hj => by
    simp only [mulM, idM]
    rw [sm_one (t := i) hi fun k _ hne => by rw [if_neg fun h => hne h.symm, Int.zero_mul], if_pos rfl, Int.one_mul]
/-! columns -/
theorem det_two (A : Mx) : det 2 A = A 0 0 * A 1 1 - A 1 0 * A 0 1 := by
  simp [det, sm, sgn, del, skp]
  grind
theorem col_alt : ∀ n (A : Mx) a b, a < n → b < n → a ≠ b → (∀ i, i < n → A i a = A i b) → det n A = 0
  | 0, _, _, _, h, _, _, _ => absurd h (Nat.not_lt_zero _)
  | 1, _, a, b, ha, hb, hne, _ => by omega
  | 2, A, a, b, ha, hb, hne, h => by
    have h0 := h 0 (by omega)
    have h1 := h 1 (by omega)
    rw [det_two]
    have : a = 0 ∧ b = 1 ∨ a = 1 ∧ b = 0 := by omega
    rcases this with ⟨rfl, rfl⟩ | ⟨rfl, rfl⟩
    · rw [h0, h1]; grind
    · rw [h0, h1]; grind
  | n + 3, A, a, b, ha, hb, hne, h => by
    obtain ⟨j, hj, h1, h2⟩ : ∃ j, j < n + 3 ∧ j ≠ a ∧ j ≠ b := by
      by_cases e0 : a ≠ 0 ∧ b ≠ 0
      · exact ⟨0, by omega, by omega, by omega⟩
      · by_cases e1 : a ≠ 1 ∧ b ≠ 1
        · exact ⟨1, by omega, by omega, by omega⟩
        · exact ⟨2, by omega, by omega, by omega⟩
    rw [det_col hj A, exc]
    refine sm_zeros fun i hi => ?_
    rw [col_alt (n + 2) (del A i j) (low j a) (low j b) (low_lt ha hj h1) (low_lt hb hj h2) (low_ne h1 h2 hne) fun r hr => ?_, Int.mul_zero]
    simp only [del]
    rw [skp_low' h1, skp_low' h2]
    exact h _ (skp_lt hr)
theorem tr_alt : ∀ n, Alt n (fun A => det n (trM A))
  | 0 => ⟨fun _ _ _ => rfl, fun _ _ _ _ _ h => absurd h (Nat.not_lt_zero _), fun _ _ _ h => absurd h (Nat.not_lt_zero _)⟩
  | n + 1 => by
    refine ⟨fun A B h => det_congr fun i j hi hj => h j i hj hi, fun A k x u v hk => ?_, fun A i j hi hj hne h => col_alt (n + 1) _ i j hi hj hne fun r hr => h r hr⟩
    rw [det_col hk, det_col hk, det_col hk, exc, exc, exc, ← sm_mul, ← sm_add]
    refine sm_congr fun i hi => ?_
    have e : ∀ w : Nat → Int, del (trM (setR A k w)) i k = del (trM A) i k := fun w => by
      funext r c
      simp only [del, trM]
      rw [setR_ne _ _ _ (skp_ne k c)]
    rw [e, e, e]
    simp only [trM, setR_same]
    grind
theorem det_tr (n : Nat) (A : Mx) : det n (trM A) = det n A := by
  have := (tr_alt n).uniq A
  rw [this]
  have e : trM idM = idM := by
    funext i j
    simp only [trM, idM]
    by_cases h : i = j
    · rw [if_pos h, if_pos h.symm]
    · rw [if_neg h, if_neg fun e => h e.symm]
  rw [e, det_id, Int.mul_one]
theorem det_row {n i : Nat} (hi : i < n + 1) (A : Mx) : det (n + 1) A = sm (n + 1) (fun j => sgn (i + j) * A i j * det n (del A i j)) := by
  rw [← det_tr, det_col hi, exc]
  refine sm_congr fun j _ => ?_
  rw [Nat.add_comm j i, ← det_tr n (del A i j)]
  rfl
/-- The adjugate (of n + 1 rows). -/
def adjM (n : Nat) (A : Mx) : Mx := fun i j => sgn (i + j) * det n (del A j i)
theorem mul_adj {n : Nat} (A : Mx) {i k : Nat} (hi : i < n + 1) (hk : k < n + 1) : mulM (n + 1) A (adjM n A) i k = if i = k then det (n + 1) A else 0 := by
  by_cases e : i = k
  · subst e
    rw [if_pos rfl, det_row hi]
    exact sm_congr fun j _ => by
      simp only [adjM]
      rw [Nat.add_comm j i]
      grind
  · rw [if_neg e, ← (det_alt (n + 1)).alt (setR A k (A i)) i k hi hk e fun c _ => by rw [setR_same, setR_ne _ _ _ e], det_row hk]
    exact sm_congr fun j _ => by
      simp only [adjM]
      rw [Nat.add_comm j k, setR_same, del_set_same]
      grind
/-- Congruent entries. -/
theorem sm_mod {p : Int} : ∀ {n : Nat} {f g : Nat → Int}, (∀ k, k < n → f k % p = g k % p) → sm n f % p = sm n g % p
  | 0, _, _, _ => rfl
  | n + 1, f, g, h => by
    rw [sm_succ, sm_succ, Int.add_emod, sm_mod fun k hk => h k (by omega), h n (by omega), ← Int.add_emod]
theorem mul_mod {p a b c d : Int} (h : a % p = b % p) (k : c % p = d % p) : a * c % p = b * d % p := by
  rw [Int.mul_emod, h, k, ← Int.mul_emod]
theorem det_mod {p : Int} : ∀ {n : Nat} {A B : Mx}, (∀ i j, i < n → j < n → A i j % p = B i j % p) → det n A % p = det n B % p
  | 0, _, _, _ => rfl
  | n + 1, A, B, h => by
    rw [det_succ, det_succ]
    exact sm_mod fun i hi => mul_mod (mul_mod rfl (h i 0 hi (by omega))) (det_mod fun r c hr hc => h _ _ (skp_lt hr) (skp_lt hc))
theorem mulM_assoc (n : Nat) (A B C : Mx) (i j : Nat) : mulM n (mulM n A B) C i j = mulM n A (mulM n B C) i j := by
  simp only [mulM]
  have e1 : ∀ k, k < n → sm n (fun t => A i t * B t k) * C k j = sm n (fun t => A i t * B t k * C k j) := fun k _ => (sm_mulr ..).symm
  have e2 : ∀ t, t < n → A i t * sm n (fun k => B t k * C k j) = sm n (fun k => A i t * B t k * C k j) := fun t _ => by
    rw [← sm_mul]
    exact sm_congr fun k _ => by grind
  rw [sm_congr e1, sm_congr e2, sm_swap]
end Go.Ay

/- Polynomials with integer coefficients; the characteristic polynomial; Cayley and Hamilton. -/
namespace Go.Ay
def pev (n : Nat) (c : Nat → Int) (t : Int) : Int := sm n (fun k => c k * t ^ k)
theorem pev_first (n : Nat) (c : Nat → Int) (t : Int) : pev (n + 1) c t = c 0 + t * pev n (fun k => c (k + 1)) t := by
  rw [pev, sm_first, pev, ← sm_mul, Int.pow_zero, Int.mul_one]
  congr 1
  exact sm_congr fun k _ => by rw [Int.pow_succ]; grind
theorem pev_zero : ∀ {n : Nat} {c : Nat → Int}, (∀ t : Int, 1 ≤ t → pev n c t = 0) → ∀ k, k < n → c k = 0
  | 0, _, _, k, hk => absurd hk (Nat.not_lt_zero k)
  | n + 1, c, h, k, hk => by
    have h0 : c 0 = 0 := by
      have e := h (ab (c 0) + 1) (by have := ab_nonneg (c 0); omega)
      rw [pev_first] at e
      generalize pev n (fun k => c (k + 1)) (ab (c 0) + 1) = q at e
      have b := ab_nonneg (c 0)
      have b1 := (ab_le (x := c 0) (b := ab (c 0))).1 (Int.le_refl _)
      generalize ab (c 0) = a at *
      by_cases hq : 1 ≤ q
      · have := Int.mul_le_mul_of_nonneg_left hq (show 0 ≤ a + 1 by omega); omega
      · by_cases hq2 : q ≤ -1
        · have := Int.mul_le_mul_of_nonneg_left hq2 (show 0 ≤ a + 1 by omega); omega
        · have : q = 0 := by omega
          subst this; omega
    have hr : ∀ t : Int, 1 ≤ t → pev n (fun k => c (k + 1)) t = 0 := fun t ht => by
      have e := h t ht
      rw [pev_first, h0, Int.zero_add] at e
      rcases Int.mul_eq_zero.1 e with e | e
      · omega
      · exact e
    cases k with
    | zero => exact h0
    | succ k => exact pev_zero hr k (by omega)
theorem pev_inj {n : Nat} {c d : Nat → Int} (h : ∀ t : Int, 1 ≤ t → pev n c t = pev n d t) (k : Nat) (hk : k < n) : c k = d k := by
  have := pev_zero (n := n) (c := fun k => c k - d k) (fun t ht => by
    have e := h t ht
    simp only [pev] at e ⊢
    have e2 : sm n (fun k => (c k - d k) * t ^ k) = sm n (fun k => c k * t ^ k - d k * t ^ k) := sm_congr fun k _ => by grind
    rw [e2, sm_sub]; omega) k hk
  omega
theorem pev_congr {n : Nat} {c d : Nat → Int} (h : ∀ k, k < n → c k = d k) (t : Int) : pev n c t = pev n d t := sm_congr fun k hk => by rw [h k hk]
theorem pev_add (n : Nat) (c d : Nat → Int) (t : Int) : pev n (fun k => c k + d k) t = pev n c t + pev n d t := by
  simp only [pev]; rw [← sm_add]; exact sm_congr fun k _ => by grind
theorem pev_mul (n : Nat) (x : Int) (c : Nat → Int) (t : Int) : pev n (fun k => x * c k) t = x * pev n c t := by
  simp only [pev]; rw [← sm_mul]; exact sm_congr fun k _ => by grind
theorem pev_sum (n m : Nat) (c : Nat → Nat → Int) (t : Int) : pev n (fun k => sm m (fun i => c i k)) t = sm m (fun i => pev n (c i) t) := by
  simp only [pev]
  rw [sm_swap]
  exact sm_congr fun k _ => by rw [sm_mulr]
/-- One degree up. -/
def shf (c : Nat → Int) : Nat → Int := fun k => if k = 0 then 0 else c (k - 1)
theorem pev_shf (n : Nat) (c : Nat → Int) (t : Int) : pev (n + 1) (shf c) t = t * pev n c t := by
  rw [pev_first]
  simp only [shf, if_true]
  rw [Int.zero_add]
  congr 1
theorem pev_more {n m : Nat} (h : n ≤ m) {c : Nat → Int} (hz : ∀ k, n ≤ k → k < m → c k = 0) (t : Int) : pev m c t = pev n c t :=
  sm_more h fun k h1 h2 => by rw [hz k h1 h2, Int.zero_mul]
/-! the determinant of t X + Y -/
def dpl : Nat → Mx → Mx → Nat → Int
  | 0, _, _, k => if k = 0 then 1 else 0
  | n + 1, X, Y, k => sm (n + 1) (fun i => sgn i * (Y i 0 * dpl n (del X i 0) (del Y i 0) k + X i 0 * shf (dpl n (del X i 0) (del Y i 0)) k))
theorem dpl_high : ∀ (n : Nat) (X Y : Mx) (k : Nat), n < k → dpl n X Y k = 0
  | 0, _, _, k, h => by rw [dpl, if_neg (by omega)]
  | n + 1, X, Y, k, h => by
    rw [dpl]
    refine sm_zeros fun i _ => ?_
    rw [shf, if_neg (by omega), dpl_high n _ _ k (by omega), dpl_high n _ _ (k - 1) (by omega)]
    simp
theorem det_dpl : ∀ (n : Nat) (X Y : Mx) (t : Int), det n (fun i j => t * X i j + Y i j) = pev (n + 1) (dpl n X Y) t
  | 0, X, Y, t => by simp [det, pev, sm, dpl]
  | n + 1, X, Y, t => by
    rw [det_succ, exc]
    have e : ∀ i, i < n + 1 → sgn (i + 0) * (t * X i 0 + Y i 0) * det n (del (fun i j => t * X i j + Y i j) i 0) = pev (n + 2) (fun k => sgn i * (Y i 0 * dpl n (del X i 0) (del Y i 0) k + X i 0 * shf (dpl n (del X i 0) (del Y i 0)) k)) t := fun i hi => by
      have d : det n (del (fun i j => t * X i j + Y i j) i 0) = _ := det_dpl n (del X i 0) (del Y i 0) t
      rw [d, pev_mul, pev_add, pev_mul, pev_mul, pev_shf, pev_more (n := n + 1) (m := n + 2) (by omega) fun k h1 h2 => dpl_high n _ _ k (by omega), Nat.add_zero]
      grind
    rw [sm_congr e]
    exact (pev_sum (n + 2) (n + 1) (fun i k => sgn i * (Y i 0 * dpl n (del X i 0) (del Y i 0) k + X i 0 * shf (dpl n (del X i 0) (del Y i 0)) k)) t).symm
/-! t - A -/
def chM (A : Mx) (t : Int) : Mx := fun i j => (if i = j then t else 0) - A i j
/-- The characteristic polynomial's coefficients. -/
def chp (n : Nat) (A : Mx) : Nat → Int := dpl n idM (fun i j => - A i j)
theorem chM_lin (A : Mx) (t : Int) : chM A t = fun i j => t * idM i j + - A i j := by
  funext i j
  simp only [chM, idM]
  split
  · rw [Int.mul_one]; omega
  · rw [Int.mul_zero]; omega
theorem det_chp (n : Nat) (A : Mx) (t : Int) : det n (chM A t) = pev (n + 1) (chp n A) t := by
  rw [chM_lin, det_dpl]; rfl
theorem chp_congr {n : Nat} {A B : Mx} (h : ∀ i j, i < n → j < n → A i j = B i j) (k : Nat) (hk : k < n + 1) : chp n A k = chp n B k :=
  pev_inj (n := n + 1) (fun t _ => by rw [← det_chp, ← det_chp]; exact det_congr fun i j hi hj => by simp only [chM]; rw [h i j hi hj]) k hk
/-- A polynomial that has the determinant's values is the characteristic polynomial. -/
theorem chp_uniq {n : Nat} {A : Mx} {c : Nat → Int} (h : ∀ t : Int, 1 ≤ t → det n (chM A t) = pev (n + 1) c t) (k : Nat) (hk : k < n + 1) : chp n A k = c k :=
  pev_inj (n := n + 1) (fun t ht => by rw [← det_chp, h t ht]) k hk
/-! the adjugate of t - A, by the powers of t -/
/-! powers -/
def pwM (n : Nat) (A : Mx) : Nat → Mx
  | 0 => idM
  | k + 1 => mulM n A (pwM n A k)
/-! a border -/
end Go.Ay

/- Powers modulo a prime. -/
namespace Go.Ay
def bnm : Nat → Nat → Nat
  | _, 0 => 1
  | 0, _ + 1 => 0
  | n + 1, k + 1 => bnm n k + bnm n (k + 1)
theorem bnm_zero (n : Nat) : bnm n 0 = 1 := by cases n <;> rfl
theorem bnm_succ (n k : Nat) : bnm (n + 1) (k + 1) = bnm n k + bnm n (k + 1) := rfl
theorem bnm_high : ∀ n k, n < k → bnm n k = 0
  | 0, 0, h => by omega
  | 0, _ + 1, _ => rfl
  | n + 1, 0, h => by omega
  | n + 1, k + 1, h => by rw [bnm_succ, bnm_high n k (by omega), bnm_high n (k + 1) (by omega)]
theorem bnm_mul : ∀ n k, (k + 1) * bnm (n + 1) (k + 1) = (n + 1) * bnm n k
  | 0, 0 => rfl
  | 0, k + 1 => by rw [bnm_high 1 (k + 2) (by omega), bnm_high 0 (k + 1) (by omega)]; omega
  | n + 1, 0 => by
    have h := bnm_mul n 0
    rw [bnm_succ, bnm_zero, Nat.mul_add, h, bnm_zero]; omega
  | n + 1, k + 1 => by
    have h1 := bnm_mul n k
    have h2 := bnm_mul n (k + 1)
    rw [bnm_succ (n + 1) (k + 1), Nat.mul_add, h2, bnm_succ n k]
    rw [bnm_succ n k] at h1
    generalize bnm n k = x at *
    generalize bnm n (k + 1) = y at *
    grind
theorem binom (n : Nat) (a : Int) : (1 + a) ^ n = pev (n + 1) (fun k => (bnm n k : Int)) a := by
  induction n with
  | zero => simp [pev, sm, bnm]
  | succ n ih =>
    rw [Int.pow_succ, ih, show pev (n + 1) (fun k => (bnm n k : Int)) a * (1 + a) = pev (n + 1) (fun k => (bnm n k : Int)) a + a * pev (n + 1) (fun k => (bnm n k : Int)) a by grind, ← pev_shf, ← pev_more (n := n + 1) (m := n + 1 + 1) (c := fun k => (bnm n k : Int)) (by omega) fun k h1 h2 => by rw [bnm_high n k (by omega)]; rfl, ← pev_add]
    refine pev_congr (fun k _ => ?_) a
    cases k with
    | zero => simp [shf, bnm_zero]
    | succ k =>
      simp only [shf, if_neg (Nat.succ_ne_zero k), Nat.add_sub_cancel]
      rw [bnm_succ]; omega
structure Pr (p : Nat) : Prop where
  two : 2 ≤ p
  div : ∀ d, d ∣ p → d = 1 ∨ d = p
theorem Pr.cop {p : Nat} (P : Pr p) {a : Nat} (h0 : 0 < a) (h1 : a < p) : Nat.Coprime p a := by
  rcases P.div (Nat.gcd p a) (Nat.gcd_dvd_left p a) with h | h
  · exact h
  · have := Nat.le_of_dvd h0 (Nat.gcd_dvd_right p a)
    omega
theorem Pr.bnm {p : Nat} (P : Pr p) {k : Nat} (h0 : 0 < k) (h1 : k < p) : p ∣ Ay.bnm p k := by
  obtain ⟨q, rfl⟩ : ∃ q, p = q + 1 := ⟨p - 1, by omega⟩
  obtain ⟨j, rfl⟩ : ∃ j, k = j + 1 := ⟨k - 1, by omega⟩
  have h := bnm_mul q j
  exact (P.cop h0 h1).dvd_of_dvd_mul_left (h ▸ Nat.dvd_mul_right (q + 1) _)
theorem fermat0 {p : Nat} (P : Pr p) : ∀ a : Nat, ((a : Int)) ^ p % p = (a : Int) % p
  | 0 => by
    have := P.two
    rw [show ((0 : Nat) : Int) = 0 from rfl, Int.zero_pow (by omega)]
  | a + 1 => by
    have h2 := P.two
    have e : ((a + 1 : Nat) : Int) = 1 + (a : Int) := by omega
    rw [e, binom]
    obtain ⟨q, rfl⟩ : ∃ q, p = q + 1 := ⟨p - 1, by omega⟩
    have e2 : pev (q + 1 + 1) (fun k => (Ay.bnm (q + 1) k : Int)) (a : Int) % ((q + 1 : Nat) : Int) = (1 + (a : Int) ^ (q + 1)) % ((q + 1 : Nat) : Int) := by
      rw [pev, sm_succ]
      have e3 : sm (q + 1) (fun k => (Ay.bnm (q + 1) k : Int) * (a : Int) ^ k) % ((q + 1 : Nat) : Int) = sm (q + 1) (fun k => if k = 0 then 1 else 0) % ((q + 1 : Nat) : Int) := sm_mod fun k hk => by
        by_cases h : k = 0
        · subst h; rw [if_pos rfl, bnm_zero]; simp
        · rw [if_neg h]
          obtain ⟨t, ht⟩ := P.bnm (k := k) (by omega) hk
          rw [ht, Int.natCast_mul, Int.mul_assoc, Int.mul_emod_right]; rfl
      have e4 : Ay.bnm (q + 1) (q + 1) = 1 := by
        have : ∀ n, Ay.bnm n n = 1 := fun n => by
          induction n with
          | zero => rfl
          | succ n ih => rw [bnm_succ, ih, bnm_high n (n + 1) (by omega)]
        exact this _
      rw [Int.add_emod, e3, e4, ← Int.add_emod, sm_pick (t := 0) (by omega) (fun _ => 1)]
      simp
    rw [e2, Int.add_emod, fermat0 P a, ← Int.add_emod]
theorem fermat {p : Nat} (P : Pr p) {a : Int} (h0 : 0 < a) (h1 : a < p) : a * a ^ (p - 2) % p = 1 := by
  have h2 := P.two
  obtain ⟨n, rfl⟩ : ∃ n : Nat, a = n := ⟨a.toNat, by omega⟩
  have h := fermat0 P n
  obtain ⟨q, rfl⟩ : ∃ q, p = q + 2 := ⟨p - 2, by omega⟩
  rw [Nat.add_sub_cancel]
  have e : (n : Int) ^ (q + 2) - n = n * (n * (n : Int) ^ q - 1) := by rw [Int.pow_succ, Int.pow_succ]; grind
  have hd : ((q + 2 : Nat) : Int) ∣ (n : Int) ^ (q + 2) - n := Int.dvd_of_emod_eq_zero (Int.emod_eq_emod_iff_emod_sub_eq_zero.1 h)
  rw [e] at hd
  have c : Nat.Coprime (q + 2) n := P.cop (by omega) (by omega)
  have hd2 : ((q + 2 : Nat) : Int) ∣ (n : Int) * (n : Int) ^ q - 1 := by
    have := Int.natAbs_dvd_natAbs.2 hd
    rw [Int.natAbs_mul, Int.natAbs_natCast, Int.natAbs_natCast] at this
    have := c.dvd_of_dvd_mul_left this
    exact Int.natAbs_dvd_natAbs.1 (by rw [Int.natAbs_natCast]; exact this)
  have := Int.emod_eq_emod_iff_emod_sub_eq_zero.2 (Int.emod_eq_zero_of_dvd hd2)
  rw [this]
  exact Int.emod_eq_of_lt (by omega) (by omega)
end Go.Ay

