/- Layer 4: Apply. Layer 4: zip of rows. Layer 4: Add. Layer 4: rows that grow in their places. Layer 4: Turn. Layer 4: Same, the laws' helpers; the reference's primes. Layer 4: matrices that are read, and matrices that are filled; the reference's blank, one, One. Layer 4: the reference's one, One. Layer 4: the reference's Check, both. Layer 4: the reference's mul, Mul. -/
import Derived.Test.YtonhijbeddcmpaaM4atoM4k
/- Layer 4: Apply. -/
namespace Go.Proofs.Ytonhijbeddcmpaa
open Go Go.Ay
set_option maxRecDepth 100000
def ApplyF (v : List Int) (a : Mat) : List Int × Int :=
  if checkM a ≠ 0 then ([], checkM a) else if v.length ≠ a.2.length then ([], 10) else (applyF (mkV v.length (fun i => v.getD i 0 % a.1)) a (a.2.getD 0 []).length, 0)
set_option maxHeartbeats 8000000 in
theorem Apply_ok (vv va : V) (v : List Int) (a : Mat) (h : H) (hv : SI h vv v) (lv : (v.length : Int) ≤ 2 ^ 63 - 1) (ha : MatV h va a) (la : (a.2.length : Int) ≤ 2 ^ 63 - 1) :
    Ev T n_matrix_Apply [vv, va] h (fun r h' => ∃ w, r = .tup [w, .int .i64 (ApplyF v a).2] ∧ SI h' w (ApplyF v a).1 ∧ Fr h h') := by
  obtain ⟨ua, rfl, hua⟩ := ha
  obtain ⟨p, A⟩ := a
  simp only at hua la
  refine Ev_of t_matrix_Apply rfl ?_
  have wa := SV.what hua.choose_spec.1
  simp (disch := first | omega | (simp only [Qn] <;> omega)) only [go_sem, c_matrix_Apply, initV_eq, boxV_agg2 h (v := .int .i64 p) rfl wa.2.1]
  have hfx : Fr h (h.new (.cells false [.int .i64 p, ua])) := (Fr.refl h).new _
  have hgx : (h.new (.cells false [.int .i64 p, ua])).get h.next = some (.cells false [.int .i64 p, ua]) := H.get_new_same ..
  have hnx : (h.new (.cells false [.int .i64 p, ua])).next = h.next + 1 := H.next_new ..
  generalize h.new (.cells false [.int .i64 p, ua]) = hx at *
  simp (disch := first | omega | (simp only [Qn] <;> omega)) only [go_sem, row_two hgx]
  refine (check_ok _ (p, A) hx ⟨ua, rfl, hua.mono hfx⟩ la).mono ?_
  rintro r h5 ⟨rfl, f5⟩
  have F5 := hfx.trans f5
  have gx5 := (f5.get h.next (by omega)).trans hgx
  have n5 := f5.next
  simp (disch := first | omega | (simp only [Qn] <;> omega)) only [go_sem]
  refine iteW_dec (fun he => ?_) (fun he => ?_)
  · simp (disch := first | omega | (simp only [Qn] <;> omega)) only [go_sem]
    have e : ApplyF v (p, A) = ([], checkM (p, A)) := by rw [ApplyF, if_pos he]
    rw [e]
    exact ⟨_, rfl, SV.nils _ _, F5⟩
  · have hz : checkM (p, A) = 0 := Classical.byContradiction he
    have da := check_vd hz
    have hp := fieldF_range da.p
    have hr2 := da.r2
    simp only at hp hr2
    have x0 : h5.cell h.next 0 = some (.int .i64 p) := by rw [H.cell_of gx5]; rfl
    have x1 : h5.cell h.next 1 = some ua := by rw [H.cell_of gx5]; rfl
    simp (disch := first | omega | (simp only [Qn] <;> omega)) only [go_sem, hv.lens, x1, hua.lens]
    refine iteW_dec (fun hl => ?_) (fun hl => ?_)
    · simp (disch := first | omega | (simp only [Qn] <;> omega)) only [go_sem]
      have e : ApplyF v (p, A) = ([], 10) := by rw [ApplyF, if_neg (by simp [hz]), if_pos (by show v.length ≠ A.length; omega)]
      rw [e]
      exact ⟨_, rfl, SV.nils _ _, F5⟩
    · have hlen : v.length = A.length := by omega
      have emk : mksV h5 1 8 [.int .i64 0] (.int .i64 (v.length : Int)) (.int .i64 (v.length : Int)) = some (.sl h5.next 0 v.length (.kn v.length), h5.new (.cells false (ints (List.replicate v.length 0)))) := by
        rw [mksV_int (by omega) (Int.le_refl _) (by omega) (by omega), Int.toNat_natCast, Nat.mul_one, zeros_int]
      simp (disch := first | omega | (simp only [Qn] <;> omega)) only [go_sem, hv.lens, emk]
      have hfz : Fr h5 (h5.new (.cells false (ints (List.replicate v.length 0)))) := (Fr.refl h5).new _
      have hgz : (h5.new (.cells false (ints (List.replicate v.length 0)))).get h5.next = some (.cells false (ints (List.replicate v.length 0))) := H.get_new_same ..
      have hnz : (h5.new (.cells false (ints (List.replicate v.length 0)))).next = h5.next + 1 := H.next_new ..
      generalize h5.new (.cells false (ints (List.replicate v.length 0))) = hz5 at *
      obtain ⟨idv, offv, sv, hidv, cv⟩ := (hv.mono F5).open
      refine Wp_loop (fun k' vars h3 => ∃ (i : Nat) (o : List Int), (∃ g : Nat → V, vars = [g 0, g 1, .ptr h.next 0, g 3, g 4, g 5, .sl h5.next 0 v.length (.kn v.length), g 7, g 8, g 9, g 10, vv, .int .i64 (v.length : Int), .int .i64 (i : Int), g 14]) ∧ i ≤ v.length ∧ o.length = v.length ∧ (∀ k, k < i → o.getD k 0 = v.getD k 0 % p) ∧ h3.get h5.next = some (.cells false (ints o)) ∧ h3.next = h5.next + 1 ∧ Fr h5 h3 ∧ k' = v.length - i) v.length
        ⟨0, _, ex_junk rfl, Nat.zero_le _, List.length_replicate .., fun k hk => absurd hk (Nat.not_lt_zero k), hgz, hnz, hfz, rfl⟩ ?_
      rintro k' vars h3 ⟨i, o, ⟨g, rfl⟩, hi, ho, hG, g3, n3, f3, rfl⟩
      have y0 : h3.cell h.next 0 = some (.int .i64 p) := by rw [f3.cell (by omega)]; exact x0
      have gx3 := (f3.get h.next (by omega)).trans gx5
      simp (disch := first | omega | (simp only [Qn] <;> omega)) only [go_sem]
      by_cases hlt : (i : Int) < (v.length : Int)
      · rw [decide_eq_true hlt]
        have cvi : h3.cell idv (offv + i) = some (.int .i64 (v.getD i 0)) := by rw [f3.cell (hidv (by omega))]; exact cv i (by omega)
        simp (disch := first | omega | (simp only [Qn] <;> omega)) only [go_sem, sv.ixa, cvi, y0]
        refine (residue_ok (v.getD i 0) p h3 (by omega) (by omega)).mono ?_
        rintro r h4 ⟨rfl, rfl⟩
        simp (disch := first | omega | (simp only [Qn] <;> omega)) only [go_sem, g3]
        rw [show (i : Int) + 1 = ((i + 1 : Nat) : Int) from by omega]
        refine ⟨v.length - (i + 1), by omega, i + 1, o.set i (v.getD i 0 % p), ex_junk rfl, by omega, by rw [List.length_set]; exact ho, fun k hk => ?_, rfl, n3, f3.set (Nat.le_refl _) _, rfl⟩
        rw [getD_set]
        by_cases e : i = k
        · subst e; rw [if_pos rfl, if_pos (by omega)]
        · rw [if_neg e]; exact hG k (by omega)
      · rw [decide_eq_false hlt]
        obtain rfl : i = v.length := by omega
        have rx := row_two gx3
        simp (disch := first | omega | (simp only [Qn] <;> omega)) only [go_sem, rx]
        have eo : o = mkV v.length (fun i => v.getD i 0 % p) := mkV_eq ho fun k hk => hG k hk
        have so : SI h3 (.sl h5.next 0 v.length (.kn v.length)) o := by
          have := SI.own (h := h3) (id := h5.next) (by omega) g3 (.kn v.length)
          rw [ho] at this; exact this
        rw [eo] at so
        refine (apply_ok _ _ (mkV v.length (fun i => v.getD i 0 % p)) (p, A) _ h3 so ⟨ua, rfl, hua.mono (F5.trans f3)⟩ da (by rw [mkV_len, hlen]; exact Nat.le_refl _) fun k hk => ?_).mono ?_
        · rw [mkV_len] at hk
          rw [mkV_get _ hk]
          exact tmod_range _ (by show 0 < p; omega)
        · rintro w h6 ⟨o6, f6⟩
          simp (disch := first | omega | (simp only [Qn] <;> omega)) only [go_sem]
          have e : ApplyF v (p, A) = (applyF (mkV v.length (fun i => v.getD i 0 % p)) (p, A) (A.getD 0 []).length, 0) := by rw [ApplyF, if_neg (by simp [hz]), if_neg (by simp [hlen])]
          rw [e]
          exact ⟨_, rfl, o6.sv, (F5.trans f3).trans f6⟩
end Go.Proofs.Ytonhijbeddcmpaa
/- Layer 4: zip of rows. -/
namespace Go.Proofs.Ytonhijbeddcmpaa
open Go Go.Ay
set_option maxRecDepth 100000
def upto (n i : Nat) (G : Nat → List Int) : List (List Int) := (List.range n).map (fun j => if j < i then G j else [])
theorem upto_all (n : Nat) (G : Nat → List Int) : upto n n G = (List.range n).map G := List.map_congr_left fun j hj => if_pos (List.mem_range.1 hj)
theorem upto_succ {n i : Nat} (hi : i < n) (G : Nat → List Int) : (upto n i G).set i (G i) = upto n (i + 1) G := by
  refine List.ext_getElem (by simp [upto]) fun j h1 h2 => ?_
  rw [List.getElem_set]
  simp only [upto, List.getElem_map, List.getElem_range]
  by_cases e : i = j
  · subst e; rw [if_pos rfl, if_pos (by omega)]
  · rw [if_neg e]
    by_cases e2 : j < i
    · rw [if_pos e2, if_pos (by omega)]
    · rw [if_neg e2, if_neg (by omega)]
theorem rws_blank {h : H} {R n : Nat} (gR : h.get R = some (.cells false (List.replicate n .nils))) (hR : R < h.next) (G : Nat → List Int) : Rws h (.sl R 0 n (.kn n)) (List.replicate n .nils) (upto n 0 G) R := by
  have e0 : upto n 0 G = List.replicate n ([] : List Int) := by
    refine List.ext_getElem (by simp [upto]) fun i h1 h2 => ?_
    simp [upto]
  rw [e0]
  refine ⟨.inr ⟨R, n, .kn n, [], rfl, by rw [List.length_replicate, Nat.mul_one], .inr ⟨rfl, rfl⟩, Nat.le_refl _, hR, by rw [List.append_nil]; exact gR⟩, All2.of_get (by simp) fun i h1 h2 => ?_, fun w hw => ?_, fun w hw => ?_⟩
  · simp only [List.getElem_replicate]
    exact SV.nils _ _
  · rw [List.eq_of_mem_replicate hw]
    intro _ _ _ _ _ _ _ _ _ e; cases e
  · rw [List.eq_of_mem_replicate hw]
    intro _ _ _ _ e; cases e
theorem Rws.get {h : H} {R n : Nat} {ws : List V} {ll : List (List Int)} {lo : Nat} (r : Rws h (.sl R 0 n (.kn n)) ws ll lo) : h.get R = some (.cells false ws) ∧ ws.length = n ∧ R < h.next := by
  rcases r.own with ⟨h1, _⟩ | ⟨id, n', cap, rest, h1, h2, h3, _, h4, h5⟩
  · cases h1
  · cases h1
    rcases h3 with h3 | ⟨_, h3⟩
    · cases h3
    · subst h3
      rw [List.append_nil] at h5
      exact ⟨h5, by omega, h4⟩
set_option maxHeartbeats 4000000 in
theorem zipR_ok (va vb f : V) (A B : List (List Int)) (G : Nat → List Int) (h : H) (ha : SR h va A) (hb : SR h vb B) (hab : A.length ≤ B.length) (hl : A.length < 1000000)
    (hf : ∀ h', Fr h h' → ∀ i, i < A.length → ∀ x y, SI h' x (A.getD i []) → SI h' y (B.getD i []) → callP T f [x, y] h' (fun v h'' => Own h'' v 1 (ints (G i)) h'.next ∧ Fr h' h'')) :
    Ev T n_matrix_zip_int_int_int [va, vb, f] h (fun v h' => ∃ ws, Rws h' v ws ((List.range A.length).map G) h.next ∧ Fr h h') := by
  refine Ev_of t_matrix_zip_int_int_int rfl ?_
  obtain ⟨ida, offa, wsa, sa, hida, hwla, ca, alla⟩ := ha.open
  obtain ⟨idb, offb, wsb, sb, hidb, hwlb, cb, allb⟩ := hb.open
  have ez : zerosV [V.nils] A.length = List.replicate A.length .nils := by
    rw [zerosV]
    refine List.ext_getElem (by simp) fun i h1 h2 => ?_
    simp [Nat.mod_one]
  have emk : mksV h 1 24 [.nils] (.int .i64 (A.length : Int)) (.int .i64 (A.length : Int)) = some (.sl h.next 0 A.length (.kn A.length), h.new (.cells false (List.replicate A.length .nils))) := by
    rw [mksV_int (by omega) (Int.le_refl _) (by omega) (by omega), Int.toNat_natCast, Nat.mul_one, ez]
  simp (disch := first | omega | (simp only [Qn] <;> omega)) only [go_sem, c_matrix_zip_int_int_int, initV_eq, ha.lens, emk]
  have hfz : Fr h (h.new (.cells false (List.replicate A.length .nils))) := (Fr.refl h).new _
  have hgz : (h.new (.cells false (List.replicate A.length .nils))).get h.next = some (.cells false (List.replicate A.length .nils)) := H.get_new_same ..
  have hnz : (h.new (.cells false (List.replicate A.length .nils))).next = h.next + 1 := H.next_new ..
  generalize h.new (.cells false (List.replicate A.length .nils)) = hz at *
  refine Wp_loop (fun k' vars h3 => ∃ (i : Nat) (ws : List V), (∃ g : Nat → V, vars = [g 0, vb, f, g 3, .sl h.next 0 A.length (.kn A.length), g 5, g 6, va, .int .i64 (A.length : Int), .int .i64 (i : Int), g 10]) ∧ i ≤ A.length ∧ Rws h3 (.sl h.next 0 A.length (.kn A.length)) ws (upto A.length i G) h.next ∧ Fr h h3 ∧ k' = A.length - i) A.length
    ⟨0, _, ex_junk rfl, Nat.zero_le _, rws_blank hgz (by omega) G, hfz, rfl⟩ ?_
  rintro k' vars h3 ⟨i, ws, ⟨g, rfl⟩, hi, R3, f3, rfl⟩
  simp (disch := first | omega | (simp only [Qn] <;> omega)) only [go_sem]
  by_cases hlt : (i : Int) < (A.length : Int)
  · rw [decide_eq_true hlt]
    have cai : h3.cell ida (offa + i) = some (wsa.getD i .undef) := by rw [f3.cell (hida (by omega))]; exact ca i (by omega)
    have cbi : h3.cell idb (offb + i) = some (wsb.getD i .undef) := by rw [f3.cell (hidb (by omega))]; exact cb i (by omega)
    simp (disch := first | omega | (simp only [Qn] <;> omega)) only [go_sem, sa.ixa, sb.ixa, cai, cbi]
    refine (hf h3 f3 i (by omega) _ _ ((row_at alla (i := i) (by omega)).mono f3) ((row_at allb (i := i) (by omega)).mono f3)).mono ?_
    rintro w h6 ⟨o6, f6⟩
    obtain ⟨g3, l3, n3⟩ := R3.get
    have g6 := (f6.get h.next n3).trans g3
    have hw := SV.what o6.sv
    have hst := fun hh => stV_one hw.1 hw.2.1 hh h.next i
    have hput := putO_one (vs := ws) (off := i) (by omega) h6 h.next w
    simp (disch := first | omega | (simp only [Qn] <;> omega)) only [go_sem, hst, g6, hput]
    rw [show (i : Int) + 1 = ((i + 1 : Nat) : Int) from by omega]
    refine ⟨A.length - (i + 1), by omega, i + 1, ws.set i w, ex_junk rfl, by omega, ?_, ?_, rfl⟩
    · rw [← upto_succ (by omega)]
      exact R3.put rfl (by rw [H.next_set]; exact f6.next) (fun k hk hkR => by rw [H.get_set_ne _ hkR]; exact f6.get k hk) (H.get_set_same ..) (o6.set n3 _).sv (Frs.own o6)
    · exact (f3.trans f6).set (Nat.le_refl _) _
  · rw [decide_eq_false hlt]
    obtain rfl : i = A.length := by omega
    simp (disch := first | omega | (simp only [Qn] <;> omega)) only [go_sem]
    rw [upto_all] at R3
    exact ⟨ws, R3, f3⟩
end Go.Proofs.Ytonhijbeddcmpaa
/- Layer 4: Add. -/
namespace Go.Proofs.Ytonhijbeddcmpaa
open Go Go.Ay
set_option maxRecDepth 100000
theorem add1_ok (bx : Nat) (p : Int) (ua x y : V) (X Y : List Int) (h : H) (hg : h.get bx = some (.cells false [.int .i64 p, ua])) (hbx : bx < h.next) (hp : 0 < p ∧ p < 10000) (hx : SI h x X) (hy : SI h y Y) (hl : X.length ≤ Y.length) (hl2 : X.length < 1000000)
    (hX : ∀ j, j < X.length → 0 ≤ X.getD j 0 ∧ X.getD j 0 < p) (hY : ∀ j, j < X.length → 0 ≤ Y.getD j 0 ∧ Y.getD j 0 < p) :
    callP T (.fn 68 [] [.ptr bx 0]) [x, y] h (fun v h'' => Own h'' v 1 (ints (List.zipWith (fun a b => (a + 1 * b) % p) X Y)) h.next ∧ Fr h h'') := by
  show Ev T n_matrix_Add_1 [x, y, .ptr bx 0] h _
  refine Ev_of t_matrix_Add_1 rfl ?_
  have c0 : h.cell bx 0 = some (.int .i64 p) := by rw [H.cell_of hg]; rfl
  simp (disch := first | omega | (simp only [Qn] <;> omega)) only [go_sem, c_matrix_Add_1, initV_eq, c0]
  refine (plus_ok p 1 h).mono ?_
  rintro w hk ⟨ix, ip, rfl, cx, cp, lx, lp, fk⟩
  simp (disch := first | omega | (simp only [Qn] <;> omega)) only [go_sem]
  refine (zip_ok x y _ X Y (fun a b => (a + 1 * b) % p) hk (hx.mono fk) (hy.mono fk) hl hl2 fun h' f' j hj => ?_).mono ?_
  · have a := hX j hj
    have b := hY j hj
    exact plus1_ok ix ip p 1 _ _ h' (by rw [f'.cell lx.2]; exact cx) (by rw [f'.cell lp.2]; exact cp) (by omega) (by omega) (by omega) (by omega)
  · rintro w h6 ⟨o6, f6⟩
    simp (disch := first | omega | (simp only [Qn] <;> omega)) only [go_sem]
    exact ⟨o6.le fk.next, fk.trans f6⟩
def AddF (a b : Mat) : Mat × Int :=
  if fitF a b ≠ 0 then ((0, []), fitF a b) else if a.2.length ≠ b.2.length ∨ (a.2.getD 0 []).length ≠ (b.2.getD 0 []).length then ((0, []), 10)
  else ((a.1, mkR a.2.length (a.2.getD 0 []).length (fun i k => (ent a.2 i k + 1 * ent b.2 i k) % a.1)), 0)
set_option maxHeartbeats 8000000 in
theorem Add_ok (va vb : V) (a b : Mat) (h : H) (ha : MatV h va a) (hb : MatV h vb b) (la : (a.2.length : Int) ≤ 2 ^ 63 - 1) (lb : (b.2.length : Int) ≤ 2 ^ 63 - 1) :
    Ev T n_matrix_Add [va, vb] h (fun v h' => ∃ w, v = .tup [w, .int .i64 (AddF a b).2] ∧ MatO h' w (AddF a b).1 h.next ∧ Fr h h') := by
  obtain ⟨ua, rfl, hua⟩ := ha
  obtain ⟨ub, rfl, hub⟩ := hb
  refine Ev_of t_matrix_Add rfl ?_
  have wa := SV.what hua.choose_spec.1
  have wb := SV.what hub.choose_spec.1
  simp (disch := first | omega | (simp only [Qn] <;> omega)) only [go_sem, c_matrix_Add, initV_eq, boxV_agg2 h (v := .int .i64 a.1) rfl wa.2.1]
  have hfx : Fr h (h.new (.cells false [.int .i64 a.1, ua])) := (Fr.refl h).new _
  have hgx : (h.new (.cells false [.int .i64 a.1, ua])).get h.next = some (.cells false [.int .i64 a.1, ua]) := H.get_new_same ..
  have hnx : (h.new (.cells false [.int .i64 a.1, ua])).next = h.next + 1 := H.next_new ..
  generalize h.new (.cells false [.int .i64 a.1, ua]) = hx at *
  simp (disch := first | omega | (simp only [Qn] <;> omega)) only [go_sem, boxV_agg2 hx (v := .int .i64 b.1) rfl wb.2.1]
  have hfy : Fr hx (hx.new (.cells false [.int .i64 b.1, ub])) := (Fr.refl hx).new _
  have hgy : (hx.new (.cells false [.int .i64 b.1, ub])).get hx.next = some (.cells false [.int .i64 b.1, ub]) := H.get_new_same ..
  have hny : (hx.new (.cells false [.int .i64 b.1, ub])).next = hx.next + 1 := H.next_new ..
  generalize hx.new (.cells false [.int .i64 b.1, ub]) = hy at *
  have hfz : Fr hy (hy.new (.cells false [.int .i64 0, .nils])) := (Fr.refl hy).new _
  have hgz : (hy.new (.cells false [.int .i64 0, .nils])).get hy.next = some (.cells false [.int .i64 0, .nils]) := H.get_new_same ..
  have hnz : (hy.new (.cells false [.int .i64 0, .nils])).next = hy.next + 1 := H.next_new ..
  generalize hy.new (.cells false [.int .i64 0, .nils]) = hz at *
  have F := (hfx.trans hfy).trans hfz
  have gx := (hfz.get h.next (by omega)).trans ((hfy.get h.next (by omega)).trans hgx)
  have gy := (hfz.get hx.next (by omega)).trans hgy
  have rx := row_two gx
  have ry := row_two gy
  simp (disch := first | omega | (simp only [Qn] <;> omega)) only [go_sem, rx, ry, bls_pair hz (x := .int .i64 a.1) (u := ua) (y := .int .i64 b.1) (w := ub) rfl wa.2.1 rfl wb.2.1]
  have hfw : Fr hz (hz.new (.cells false [.int .i64 a.1, ua, .int .i64 b.1, ub])) := (Fr.refl hz).new _
  have hgw : (hz.new (.cells false [.int .i64 a.1, ua, .int .i64 b.1, ub])).get hz.next = some (.cells false [.int .i64 a.1, ua, .int .i64 b.1, ub]) := H.get_new_same ..
  have hnw : (hz.new (.cells false [.int .i64 a.1, ua, .int .i64 b.1, ub])).next = hz.next + 1 := H.next_new ..
  generalize hz.new (.cells false [.int .i64 a.1, ua, .int .i64 b.1, ub]) = hw at *
  have F2 := F.trans hfw
  refine (fit_ok hz.next ua ub a b hw hgw (by omega) (hua.mono F2) (hub.mono F2) la lb).mono ?_
  rintro v h5 ⟨rfl, f5⟩
  have F3 := F2.trans f5
  have gx5 := (f5.get h.next (by omega)).trans ((hfw.get h.next (by omega)).trans gx)
  have gy5 := (f5.get hx.next (by omega)).trans ((hfw.get hx.next (by omega)).trans gy)
  have gz5 := (f5.get hy.next (by omega)).trans ((hfw.get hy.next (by omega)).trans hgz)
  rw [← hny]
  simp (disch := first | omega | (simp only [Qn] <;> omega)) only [go_sem]
  refine iteW_dec (fun he => ?_) (fun he => ?_)
  · have hst := fun hh => stV_agg2 hh hy.next 0 (v := .int .i64 0) (u := .nils) rfl rfl
    have hrow := row_two (h := h5.set hy.next (some (.cells false [.int .i64 0, .nils]))) (H.get_set_same ..)
    simp (disch := first | omega | (simp only [Qn] <;> omega)) only [go_sem, bldV_nil, hst, gz5, hrow]
    exact ⟨_, by rw [AddF, if_pos he], ⟨.nils, [], by rw [AddF, if_pos he], by rw [AddF, if_pos he]; exact Rws.nils _ _⟩, F3.set (by omega) _⟩
  · have hz0 : fitF a b = 0 := Classical.byContradiction he
    obtain ⟨da, db, hpp⟩ := fit_zero hz0
    have hp := fieldF_range da.p
    have hra1 := da.r1
    have hrb1 := db.r1
    have hra2 := da.r2
    have hrb2 := db.r2
    obtain ⟨ida, offa, wsa, sua, hida, hwla, hcA, halla⟩ := (hua.mono F3).open
    obtain ⟨idb, offb, wsb, sub, hidb, hwlb, hcB, hallb⟩ := (hub.mono F3).open
    have c0 : h5.cell ida offa = some (wsa.getD 0 .undef) := hcA 0 (by omega)
    have d0 : h5.cell idb offb = some (wsb.getD 0 .undef) := hcB 0 (by omega)
    have l0 := (row_at halla (i := 0) (by omega)).lens
    have m0 := (row_at hallb (i := 0) (by omega)).lens
    have fb : Fr h5 (H.mk h5.tr (h5.next + 20)) := (Fr.refl h5).bump (by omega)
    have x1 : h5.cell h.next 1 = some ua := by rw [H.cell_of gx5]; rfl
    have y1 : h5.cell hx.next 1 = some ub := by rw [H.cell_of gy5]; rfl
    have fb3 := F3.trans fb
    have n5 := f5.next
    have gxb := (fb.get h.next (by omega)).trans gx5
    have gyb := (fb.get hx.next (by omega)).trans gy5
    have gzb := (fb.get hy.next (by omega)).trans gz5
    have z1 : (H.mk h5.tr (h5.next + 20)).cell h.next 1 = some ua := x1
    have w1 : (H.mk h5.tr (h5.next + 20)).cell hx.next 1 = some ub := y1
    have z0 : (H.mk h5.tr (h5.next + 20)).cell h.next 0 = some (.int .i64 a.1) := by rw [H.cell_of gxb]; rfl
    have nb : (H.mk h5.tr (h5.next + 20)).next = h5.next + 20 := rfl
    simp (disch := first | omega | (simp only [Qn] <;> omega)) only [go_sem, x1, y1, hua.lens, hub.lens]
    have hst0 := fun hh => stV_agg2 hh hy.next 0 (v := .int .i64 0) (u := .nils) rfl rfl
    have bad : ∀ hh : H, Fr h5 hh → (a.2.length ≠ b.2.length ∨ (a.2.getD 0 []).length ≠ (b.2.getD 0 []).length) → ∃ w, V.tup [.agg [.int .i64 0, .nils], .int .i64 10] = .tup [w, .int .i64 (AddF a b).2] ∧ MatO (hh.set hy.next (some (.cells false [.int .i64 0, .nils]))) w (AddF a b).1 h.next ∧ Fr h (hh.set hy.next (some (.cells false [.int .i64 0, .nils]))) := fun hh f hb => by
      have e : AddF a b = ((0, []), 10) := by rw [AddF, if_neg (by simp [hz0]), if_pos hb]
      rw [e]
      exact ⟨_, rfl, ⟨.nils, [], rfl, Rws.nils _ _⟩, (F3.trans f).set (by omega) _⟩
    by_cases hlen : a.2.length = b.2.length
    · have d1 : decide ((a.2.length : Int) ≠ (b.2.length : Int)) = false := decide_eq_false (by omega)
      simp (disch := first | omega | (simp only [Qn] <;> omega)) only [go_sem, d1, x1, y1, z1, w1, sua.ixa, sub.ixa, c0, d0, l0, m0]
      generalize H.mk h5.tr (h5.next + 20) = hh at *
      refine iteW_dec (fun hl => ?_) (fun hl => ?_)
      · have hrow := row_two (h := hh.set hy.next (some (.cells false [.int .i64 0, .nils]))) (H.get_set_same ..)
        simp (disch := first | omega | (simp only [Qn] <;> omega)) only [go_sem, bldV_nil, hst0, gzb, hrow]
        exact bad _ fb (.inr (by omega))
      · have hc : (a.2.getD 0 []).length = (b.2.getD 0 []).length := by omega
        simp (disch := first | omega | (simp only [Qn] <;> omega)) only [go_sem, z0, z1, w1]
        refine (zipR_ok ua ub _ a.2 b.2 (fun i => mkV (a.2.getD 0 []).length (fun k => (ent a.2 i k + 1 * ent b.2 i k) % a.1)) hh (hua.mono fb3) (hub.mono fb3) (by omega) (by omega) fun h' f' i hi x y sx sy => ?_).mono ?_
        · have ra := da.row i hi
          have rb := db.row i (by omega)
          have e : List.zipWith (fun u w => (u + 1 * w) % a.1) (a.2.getD i []) (b.2.getD i []) = mkV (a.2.getD 0 []).length (fun k => (ent a.2 i k + 1 * ent b.2 i k) % a.1) := by
            have ea : a.2.getD i [] = mkV (a.2.getD 0 []).length (fun k => ent a.2 i k) := mkV_eq ra fun k _ => rfl
            rw [ea, zip_mkV (by rw [rb, hc])]
            rfl
          rw [← e]
          refine add1_ok h.next a.1 ua x y _ _ h' ((f'.get h.next (by omega)).trans gxb) (by have := f'.next; omega) (by omega) sx sy (by rw [ra, rb, hc]; exact Nat.le_refl _) (by rw [ra]; have := da.c2; omega) (fun j hj => ?_) (fun j hj => ?_)
          · exact ⟨da.lo i j hi (by omega), da.hi i j hi (by omega)⟩
          · have := db.hi i j (by omega) (by omega)
            rw [← hpp] at this
            exact ⟨db.lo i j (by omega) (by omega), this⟩
        · rintro w h6 ⟨ws, R6, f6⟩
          have hw6 := SV.what R6.own.sv
          have hbl := bldV_two (z1 := .int .i64 0) (z2 := .nils) (v := .int .i64 a.1) (u := w) rfl rfl hw6.1 hw6.2.1
          have hst2 := fun hh => stV_agg2 hh hy.next 0 (v := .int .i64 a.1) (u := w) rfl hw6.2.1
          have c6 : h6.cell h.next 0 = some (.int .i64 a.1) := by rw [f6.cell (by omega)]; exact z0
          have g6 := (f6.get hy.next (by omega)).trans gzb
          have hrow2 := row_two (h := h6.set hy.next (some (.cells false [.int .i64 a.1, w]))) (H.get_set_same ..)
          simp (disch := first | omega | (simp only [Qn] <;> omega)) only [go_sem, c6, hbl, hst2, g6, hrow2]
          have e : AddF a b = ((a.1, mkR a.2.length (a.2.getD 0 []).length (fun i k => (ent a.2 i k + 1 * ent b.2 i k) % a.1)), 0) := by rw [AddF, if_neg (by simp [hz0]), if_neg (by omega)]
          rw [e]
          exact ⟨_, rfl, ⟨w, ws, rfl, (R6.set (by omega) _).le (by have := fb3.next; omega)⟩, (fb3.trans f6).set (by omega) _⟩
    · have d1 : decide ((a.2.length : Int) ≠ (b.2.length : Int)) = true := decide_eq_true (by omega)
      have hrow := row_two (h := (H.mk h5.tr (h5.next + 20)).set hy.next (some (.cells false [.int .i64 0, .nils]))) (H.get_set_same ..)
      simp (disch := first | omega | (simp only [Qn] <;> omega)) only [go_sem, d1, undef_eq, bldV_nil, hst0, gzb, hrow]
      exact bad _ fb (.inl hlen)
end Go.Proofs.Ytonhijbeddcmpaa
/- Layer 4: rows that grow in their places. -/
namespace Go.Proofs.Ytonhijbeddcmpaa
open Go Go.Ay
set_option maxRecDepth 100000
structure Gow (h : H) (R n : Nat) (ws : List V) (ll : List (List Int)) (lo : Nat) : Prop where
  gR : h.get R = some (.cells false ws)
  lw : ws.length = n
  lr : ll.length = n
  hR : R < lo
  lt : lo ≤ h.next
  own : ∀ k, k < n → Own h (ws.getD k .undef) 1 (ints (ll.getD k [])) lo
  dis : ∀ k k', k < n → k' < n → k ≠ k' → Dis (ws.getD k .undef) (ws.getD k' .undef)
theorem Gow.fr {h h' : H} {R n : Nat} {ws : List V} {ll : List (List Int)} {lo : Nat} (g : Gow h R n ws ll lo) (f : Fr h h') : Gow h' R n ws ll lo :=
  ⟨(f.get R (Nat.lt_of_lt_of_le g.hR g.lt)).trans g.gR, g.lw, g.lr, g.hR, Nat.le_trans g.lt f.next, fun k hk => (g.own k hk).fr f, g.dis⟩
theorem Gow.rws {h : H} {R n : Nat} {ws : List V} {ll : List (List Int)} {lo : Nat} (g : Gow h R n ws ll lo) : Rws h (.sl R 0 n (.kn n)) ws ll R := by
  have hlt := g.lt
  have hR := g.hR
  have getw : ∀ k (hk : k < ws.length), ws.getD k .undef = ws[k] := fun k hk => by rw [List.getD_eq_getElem?_getD, List.getElem?_eq_getElem hk]; rfl
  have getl : ∀ k (hk : k < ll.length), ll.getD k [] = ll[k] := fun k hk => by rw [List.getD_eq_getElem?_getD, List.getElem?_eq_getElem hk]; rfl
  have ow : ∀ w ∈ ws, ∃ r, Own h w 1 (ints r) lo := fun w hw => by
    obtain ⟨k, hk, rfl⟩ := List.mem_iff_getElem.1 hw
    exact ⟨_, by rw [← getw k hk]; exact g.own k (by rw [← g.lw]; exact hk)⟩
  refine ⟨.inr ⟨R, n, .kn n, [], rfl, by rw [g.lw, Nat.mul_one], .inr ⟨rfl, rfl⟩, Nat.le_refl _, by omega, by rw [List.append_nil]; exact g.gR⟩, All2.of_get (by rw [g.lw, g.lr]) fun k h1 h2 => ?_, fun w hw => ?_, fun w hw => ?_⟩
  · rw [← getw k h1, ← getl k h2]
    exact (g.own k (by rw [← g.lw]; exact h1)).sv
  · obtain ⟨r, o⟩ := ow w hw
    intro i o' m c e i2 o2 m2 c2 e2
    cases e
    have := Frs.own o _ _ _ _ e2
    omega
  · obtain ⟨r, o⟩ := ow w hw
    exact (Frs.own o).le (by omega)
theorem Gow.push {h : H} {R n : Nat} {ws : List V} {ll : List (List Int)} {lo : Nat} (g : Gow h R n ws ll lo) {k : Nat} (hk : k < n) {y : V} {x : Int} (hy : SV h y 1 (ints [x])) (hs : (ll.getD k []).length < 1000000) :
    ∃ v h', appP h 1 8 (ws.getD k .undef) y = some (v, h') ∧ v.cells = [v] ∧ v.one = true ∧ Gow (h'.set R (some (.cells false (ws.set k v)))) R n (ws.set k v) (ll.set k (ll.getD k [] ++ [x])) lo ∧ h'.get R = some (.cells false ws) ∧ h.next ≤ h'.next ∧ ∀ id, id < lo → h'.get id = h.get id := by
  have hlt := g.lt
  have hR := g.hR
  have ok := g.own k hk
  obtain ⟨v, h', e, a⟩ := ok.app (bytes := 8) (n := (ll.getD k []).length) (m := 1) (us := ints [x]) (y := y) g.lt hy (by rw [ints_length, Nat.mul_one]) rfl (by omega) (by omega)
  have ev := app_at ok (n := (ll.getD k []).length) (by rw [ints_length, Nat.mul_one]) (m := 1) (by omega) (by omega) hy rfl e
  have hv := SV.what a.own.sv
  have hn := a.next
  have low : ∀ id, id < lo → h'.get id = h.get id := fun id hid => a.get id (by omega) (own_apart ok hid)
  have gw : ∀ j, (ws.set k v).getD j .undef = if k = j then v else ws.getD j .undef := fun j => by
    rw [getD_set]
    split
    · rw [if_pos (by rw [g.lw]; exact hk)]
    · rfl
  have gl : ∀ j, (ll.set k (ll.getD k [] ++ [x])).getD j [] = if k = j then ll.getD k [] ++ [x] else ll.getD j [] := fun j => by
    rw [getD_set]
    split
    · rw [if_pos (by rw [g.lr]; exact hk)]
    · rfl
  have other : ∀ j, j < n → k ≠ j → Own h' (ws.getD j .undef) 1 (ints (ll.getD j [])) lo := fun j hj hne => (g.own j hj).mono hn fun id off m c e1 h1 h2 => a.get id h2 fun id' off' m' c' e2 he => g.dis k j hk hj hne _ _ _ _ e2 _ _ _ _ e1 he.symm
  refine ⟨v, h', e, hv.1, hv.2.1, ⟨H.get_set_same .., by rw [List.length_set]; exact g.lw, by rw [List.length_set]; exact g.lr, g.hR, by rw [H.next_set]; omega, fun j hj => ?_, fun j j' hj hj' hne => ?_⟩, (low R hR).trans g.gR, hn, low⟩
  · rw [gw, gl]
    by_cases hkj : k = j
    · rw [if_pos hkj, if_pos hkj, ints_append]
      exact a.own.set hR _
    · rw [if_neg hkj, if_neg hkj]
      exact (other j hj hkj).set hR _
  · rw [gw, gw]
    have lt : ∀ j, j < n → ∀ id off m c, ws.getD j .undef = .sl id off m c → id < h.next := fun j hj id off m c e1 => by
      rcases g.own j hj with ⟨h1, _⟩ | ⟨id', _, _, _, h1, _, _, _, h2, _⟩
      · rw [h1] at e1; cases e1
      · rw [h1] at e1; cases e1; exact h2
    by_cases hkj : k = j
    · rw [if_pos hkj, if_neg (by omega)]
      intro i o m c e1 i2 o2 m2 c2 e2
      rw [ev] at e1; cases e1
      have := lt j' hj' _ _ _ _ e2
      omega
    · rw [if_neg hkj]
      by_cases hkj' : k = j'
      · rw [if_pos hkj']
        intro i o m c e1 i2 o2 m2 c2 e2
        rw [ev] at e2; cases e2
        have := lt j hj _ _ _ _ e1
        omega
      · rw [if_neg hkj']
        exact g.dis j j' hj hj' hne
end Go.Proofs.Ytonhijbeddcmpaa
/- Layer 4: Turn. -/
namespace Go.Proofs.Ytonhijbeddcmpaa
open Go Go.Ay
set_option maxRecDepth 100000
/-- Cells that are laid at a kept index. -/
def litV (h : H) (a : Nat) (l : List V) (m : Nat) : H := H.mk ((H.mk h.tr a).new (.cells false l)).tr m
theorem litV_eq (h : H) (a : Nat) (l : List V) (m : Nat) : H.mk ((H.mk h.tr a).new (.cells false l)).tr m = litV h a l m := rfl
theorem litV_get (h : H) (a : Nat) (l : List V) (m : Nat) : (litV h a l m).get a = some (.cells false l) := by
  rw [litV, H.get_next']; exact H.get_new_same ..
theorem litV_ne (h : H) {a k : Nat} (l : List V) (m : Nat) (hk : k ≠ a) : (litV h a l m).get k = h.get k := by
  rw [litV, H.get_next', H.get_new_ne _ hk, H.get_next']
theorem litV_next (h : H) (a : Nat) (l : List V) (m : Nat) : (litV h a l m).next = m := rfl
theorem litV_cell (h : H) (a : Nat) (l : List V) (m off : Nat) : (litV h a l m).cell a off = l[off]? := H.cell_of (litV_get ..) off
theorem litV_cell_ne (h : H) {a k : Nat} (l : List V) (m off : Nat) (hk : k ≠ a) : (litV h a l m).cell k off = h.cell k off := by unfold H.cell; rw [litV_ne h l m hk]
attribute [go_sem] litV_get litV_ne litV_next litV_cell litV_cell_ne
theorem eqV_sl (a b c : Nat) (d : Cap) : eqV (.sl a b c d) (.sl a b c d) = true := by simp [eqV]
theorem bls_int (h : H) (x : Int) : blsV h 1 [.int .i64 0] 1 [(0, 1, .int .i64 x)] = some (.sl h.next 0 1 (.kn 1), h.new (.cells false (ints [x]))) := by
  simp [blsV, fillV, zerosV, V.cells, V.one, putAt, ints]
theorem litV_fr {b h : H} (f : Fr b h) {a m : Nat} (ha : b.next ≤ a) (hm : b.next ≤ m) (l : List V) : Fr b (litV h a l m) := ⟨hm, fun k hk => (litV_ne h l m (by omega)).trans (f.get k hk)⟩
def TurnF (a : Mat) : Mat × Int :=
  if checkM a ≠ 0 then ((0, []), checkM a) else ((a.1, mkR (a.2.getD 0 []).length a.2.length (fun k i => ent a.2 i k)), 0)
/-- Rows of which the first k are longer by one. -/
def stair (c i k : Nat) (F : Nat → Nat → Int) : List (List Int) := (List.range c).map fun k' => mkV (if k' < k then i + 1 else i) (F k')
theorem stair_zero (c i : Nat) (F : Nat → Nat → Int) : stair c i 0 F = mkR c i F := by
  rw [stair, mkR]
  exact List.map_congr_left fun k _ => by rw [if_neg (Nat.not_lt_zero k)]
theorem stair_full (c i : Nat) (F : Nat → Nat → Int) : stair c i c F = mkR c (i + 1) F := by
  rw [stair, mkR]
  exact List.map_congr_left fun k hk => by rw [if_pos (List.mem_range.1 hk)]
theorem stair_at {c i k : Nat} (F : Nat → Nat → Int) (hk : k < c) : (stair c i k F).getD k [] = mkV i (F k) := by
  rw [stair, List.getD_eq_getElem?_getD, List.getElem?_map, List.getElem?_range hk]
  simp
theorem mkV_succ (n : Nat) (f : Nat → Int) : mkV (n + 1) f = mkV n f ++ [f n] := by
  rw [mkV, List.range_succ, List.map_append]; rfl
theorem stair_step {c i k : Nat} (F : Nat → Nat → Int) (hk : k < c) : (stair c i k F).set k (mkV i (F k) ++ [F k i]) = stair c i (k + 1) F := by
  refine List.ext_getElem (by simp [stair]) fun j h1 h2 => ?_
  rw [List.getElem_set]
  simp only [stair, List.getElem_map, List.getElem_range]
  by_cases e : k = j
  · subst e; rw [if_pos rfl, if_pos (by omega), mkV_succ]
  · rw [if_neg e]
    by_cases e2 : j < k
    · rw [if_pos e2, if_pos (by omega)]
    · rw [if_neg e2, if_neg (by omega)]
set_option maxHeartbeats 8000000 in
theorem Turn_ok (va : V) (a : Mat) (h : H) (ha : MatV h va a) (la : (a.2.length : Int) ≤ 2 ^ 63 - 1) :
    Ev T n_matrix_Turn [va] h (fun v h' => ∃ w, v = .tup [w, .int .i64 (TurnF a).2] ∧ MatO h' w (TurnF a).1 h.next ∧ Fr h h') := by
  obtain ⟨ua, rfl, hua⟩ := ha
  obtain ⟨p, A⟩ := a
  simp only at hua la
  refine Ev_of t_matrix_Turn rfl ?_
  have wa := SV.what hua.choose_spec.1
  simp (disch := first | omega | (simp only [Qn] <;> omega)) only [go_sem, c_matrix_Turn, initV_eq, boxV_agg2 h (v := .int .i64 p) rfl wa.2.1]
  have hfx : Fr h (h.new (.cells false [.int .i64 p, ua])) := (Fr.refl h).new _
  have hgx : (h.new (.cells false [.int .i64 p, ua])).get h.next = some (.cells false [.int .i64 p, ua]) := H.get_new_same ..
  have hnx : (h.new (.cells false [.int .i64 p, ua])).next = h.next + 1 := H.next_new ..
  generalize h.new (.cells false [.int .i64 p, ua]) = hx at *
  have hfy : Fr hx (hx.new (.cells false [.int .i64 0, .nils])) := (Fr.refl hx).new _
  have hgy : (hx.new (.cells false [.int .i64 0, .nils])).get hx.next = some (.cells false [.int .i64 0, .nils]) := H.get_new_same ..
  have hny : (hx.new (.cells false [.int .i64 0, .nils])).next = hx.next + 1 := H.next_new ..
  generalize hx.new (.cells false [.int .i64 0, .nils]) = hy at *
  have F := hfx.trans hfy
  have gx := (hfy.get h.next (by omega)).trans hgx
  have rx := row_two gx
  simp (disch := first | omega | (simp only [Qn] <;> omega)) only [go_sem, rx]
  refine (check_ok _ (p, A) hy ⟨ua, rfl, hua.mono F⟩ la).mono ?_
  rintro v h5 ⟨rfl, f5⟩
  have F5 := F.trans f5
  have gx5 := (f5.get h.next (by omega)).trans gx
  have gy5 := (f5.get hx.next (by omega)).trans hgy
  have n5 := f5.next
  simp (disch := first | omega | (simp only [Qn] <;> omega)) only [go_sem]
  refine iteW_dec (fun he => ?_) (fun he => ?_)
  · have hst := fun hh => stV_agg2 hh hx.next 0 (v := .int .i64 0) (u := .nils) rfl rfl
    have hrow := row_two (h := h5.set hx.next (some (.cells false [.int .i64 0, .nils]))) (H.get_set_same ..)
    rw [← hnx]
    simp (disch := first | omega | (simp only [Qn] <;> omega)) only [go_sem, bldV_nil, hst, gy5, hrow]
    have e : TurnF (p, A) = ((0, []), checkM (p, A)) := by rw [TurnF, if_pos he]
    rw [e]
    exact ⟨_, rfl, ⟨.nils, [], rfl, Rws.nils _ _⟩, F5.set (by omega) _⟩
  · have hz : checkM (p, A) = 0 := Classical.byContradiction he
    have da := check_vd hz
    have hp := fieldF_range da.p
    have hr1 := da.r1
    have hr2 := da.r2
    simp only at hp hr1 hr2
    have x0 : h5.cell h.next 0 = some (.int .i64 p) := by rw [H.cell_of gx5]; rfl
    have x1 : h5.cell h.next 1 = some ua := by rw [H.cell_of gx5]; rfl
    have hua5 := hua.mono F5
    obtain ⟨c, hc⟩ : ∃ c, (A.getD 0 []).length = c := ⟨_, rfl⟩
    simp only [hc] at da
    have hc1 := da.c1
    have hc2 := da.c2
    obtain ⟨id, off, wsA, su, hid, hwl, hcA, hall⟩ := hua5.open
    have c0 : h5.cell id off = some (wsA.getD 0 .undef) := hcA 0 (by omega)
    have l0 := (row_at hall (i := 0) (by omega)).lens
    rw [hc] at l0
    have ez : zerosV [V.nils] c = List.replicate c .nils := by
      rw [zerosV]
      refine List.ext_getElem (by simp) fun i h1 h2 => ?_
      simp [Nat.mod_one]
    have emk : mksV (H.mk h5.tr (h5.next + 7)) 1 24 [.nils] (.int .i64 (c : Int)) (.int .i64 (c : Int)) = some (.sl (h5.next + 7) 0 c (.kn c), (H.mk h5.tr (h5.next + 7)).new (.cells false (List.replicate c .nils))) := by
      rw [mksV_int (by omega) (Int.le_refl _) (by omega) (by omega), Int.toNat_natCast, Nat.mul_one, ez]
    have hbl := bldV_two (z1 := .int .i64 0) (z2 := .nils) (v := .int .i64 p) (u := .sl (h5.next + 7) 0 c (.kn c)) rfl rfl rfl rfl
    have hst := fun hh id => stV_agg2 hh id 0 (v := .int .i64 p) (u := .sl (h5.next + 7) 0 c (.kn c)) rfl rfl
    simp (disch := first | omega | (simp only [Qn] <;> omega)) only [go_sem, x0, x1, su.ixa, c0, l0, emk, litV_eq, hbl, hst]
    obtain ⟨R, hR⟩ : ∃ R, h5.next + 7 = R := ⟨_, rfl⟩
    obtain ⟨O, hO⟩ : ∃ O, h5.next + 9 = O := ⟨_, rfl⟩
    rw [hR, hO]
    have fB : Fr h5 ((litV (litV h5 R (List.replicate c .nils) (h5.next + 11)) O [.int .i64 0, .nils] (h5.next + 11)).set O (some (.cells false [.int .i64 p, .sl R 0 c (.kn c)]))) := (litV_fr (litV_fr (Fr.refl h5) (by omega) (by omega) _) (by omega) (by omega) _).set (by omega) _
    have gR : ((litV (litV h5 R (List.replicate c .nils) (h5.next + 11)) O [.int .i64 0, .nils] (h5.next + 11)).set O (some (.cells false [.int .i64 p, .sl R 0 c (.kn c)]))).get R = some (.cells false (List.replicate c .nils)) := by simp (disch := first | omega | (simp only [Qn] <;> omega)) only [go_sem]
    have gO : ((litV (litV h5 R (List.replicate c .nils) (h5.next + 11)) O [.int .i64 0, .nils] (h5.next + 11)).set O (some (.cells false [.int .i64 p, .sl R 0 c (.kn c)]))).get O = some (.cells false [.int .i64 p, .sl R 0 c (.kn c)]) := by simp (disch := first | omega | (simp only [Qn] <;> omega)) only [go_sem]
    have nB : ((litV (litV h5 R (List.replicate c .nils) (h5.next + 11)) O [.int .i64 0, .nils] (h5.next + 11)).set O (some (.cells false [.int .i64 p, .sl R 0 c (.kn c)]))).next = h5.next + 11 := by simp (disch := first | omega | (simp only [Qn] <;> omega)) only [go_sem]
    generalize (litV (litV h5 R (List.replicate c .nils) (h5.next + 11)) O [.int .i64 0, .nils] (h5.next + 11)).set O (some (.cells false [.int .i64 p, .sl R 0 c (.kn c)])) = hB at *
    simp (disch := first | omega | (simp only [Qn] <;> omega)) only [go_sem, x1, hua.lens]
    obtain ⟨F0, hF0⟩ : ∃ F : Nat → Nat → Int, F = fun k i => ent A i k := ⟨_, rfl⟩
    obtain ⟨lo, hlo⟩ : ∃ lo, h5.next + 11 = lo := ⟨_, rfl⟩
    rw [hlo] at nB
    have G0 : Gow hB R c (List.replicate c .nils) (mkR c 0 F0) lo := by
      refine ⟨gR, List.length_replicate .., mkR_len .., by omega, by omega, fun k hk => ?_, fun k k' hk hk' hne => ?_⟩
      · rw [mkR_row _ hk, List.getD_eq_getElem?_getD, List.getElem?_replicate, if_pos hk]
        exact Own.nils _ _ _
      · rw [List.getD_eq_getElem?_getD, List.getElem?_replicate, if_pos hk]
        intro _ _ _ _ e; cases e
    refine Wp_loop (fun k' vars h3 => ∃ (i : Nat) (ws : List V), (∃ g : Nat → V, vars = [g 0, .ptr h.next 0, .ptr (h.next + 1) 0, g 3, g 4, .ptr O 0, g 6, g 7, g 8, g 9, ua, .int .i64 (A.length : Int), .int .i64 (i : Int), g 13, g 14, g 15, g 16, g 17]) ∧ i ≤ A.length ∧ Gow h3 R c ws (mkR c i F0) lo ∧ h3.get O = some (.cells false [.int .i64 p, .sl R 0 c (.kn c)]) ∧ Fr h5 h3 ∧ k' = A.length - i) A.length
      ⟨0, _, ex_junk rfl, Nat.zero_le _, G0, gO, fB, rfl⟩ ?_
    clear G0 gO fB emk hbl hst ez gR
    rintro k' vars h3 ⟨i, ws, ⟨g, rfl⟩, hi, G3, g3, f3, rfl⟩
    simp (disch := first | omega | (simp only [Qn] <;> omega)) only [go_sem]
    by_cases hlt : (i : Int) < (A.length : Int)
    · rw [decide_eq_true hlt]
      have ci : h3.cell id (off + i) = some (wsA.getD i .undef) := by rw [f3.cell (hid (by omega))]; exact hcA i (by omega)
      have hrow := da.row i (show i < A.length by omega)
      simp only at hrow
      have ri0 := row_at hall (i := i) (by omega)
      have lr := ri0.lens
      rw [hrow] at lr
      obtain ⟨idr, offr, sr, hidr, hcr⟩ := ri0.open
      rw [hrow] at sr hidr hcr
      simp (disch := first | omega | (simp only [Qn] <;> omega)) only [go_sem, su.ixa, ci, lr]
      rw [← stair_zero] at G3
      refine Wp_loop (fun k' vars h3 => ∃ (k : Nat) (ws : List V), (∃ g : Nat → V, vars = [g 0, .ptr h.next 0, .ptr (h.next + 1) 0, g 3, g 4, .ptr O 0, g 6, g 7, g 8, g 9, ua, .int .i64 (A.length : Int), .int .i64 (i : Int), g 13, wsA.getD i .undef, .int .i64 (c : Int), .int .i64 (k : Int), g 17]) ∧ k ≤ c ∧ Gow h3 R c ws (stair c i k F0) lo ∧ h3.get O = some (.cells false [.int .i64 p, .sl R 0 c (.kn c)]) ∧ Fr h5 h3 ∧ k' = c - k) c
        ⟨0, _, ex_junk rfl, Nat.zero_le _, G3, g3, f3, rfl⟩ ?_
      clear G3 g3 f3 ci g
      rintro k' vars h3 ⟨k, ws, ⟨g, rfl⟩, hk, G3, g3, f3, rfl⟩
      simp (disch := first | omega | (simp only [Qn] <;> omega)) only [go_sem]
      by_cases hlt2 : (k : Int) < (c : Int)
      · rw [decide_eq_true hlt2]
        have ck : h3.cell idr (offr + k) = some (.int .i64 ((A.getD i []).getD k 0)) := by rw [f3.cell (hidr (by omega))]; exact hcr k (by omega)
        have cO : h3.cell O 1 = some (.sl R 0 c (.kn c)) := by rw [H.cell_of g3]; rfl
        have cR : h3.cell R k = some (ws.getD k .undef) := by
          rw [H.cell_of G3.gR, List.getD_eq_getElem?_getD, List.getElem?_eq_getElem (by rw [G3.lw]; omega)]; rfl
        have n3 := G3.lt
        simp (disch := first | omega | (simp only [Qn] <;> omega)) only [go_sem, sr.ixa, ck, cO, cR, bls_int, litV_eq]
        have fl := litV_fr (Fr.refl h3) (a := h3.next + 9) (m := h3.next + 13) (by omega) (by omega) (ints [(A.getD i []).getD k 0])
        have hy : SV (litV h3 (h3.next + 9) (ints [(A.getD i []).getD k 0]) (h3.next + 13)) (.sl (h3.next + 9) 0 1 (.kn 1)) 1 (ints [(A.getD i []).getD k 0]) := SV.all (by rfl) (by rw [litV_next]; omega) (litV_get ..) _
        have hll := stair_at (i := i) F0 (show k < c by omega)
        obtain ⟨v, h6, e6, vc, v1, G6, gR6, n6, low6⟩ := (G3.fr fl).push (show k < c by omega) hy (by rw [hll, mkV_len]; omega)
        have hput := putO_one (vs := ws) (off := k) (by rw [G3.lw]; omega) h6 R v
        have hst1 := fun hh => stV_one vc v1 hh R k
        have cO6 : h6.cell O 1 = some (.sl R 0 c (.kn c)) := by
          rw [H.cell_of ((low6 O (by omega)).trans ((fl.get O (by omega)).trans g3))]; rfl
        simp (disch := first | omega | (simp only [Qn] <;> omega)) only [go_sem, e6, cO6, eqV_sl, hst1, gR6, hput]
        rw [show (k : Int) + 1 = ((k + 1 : Nat) : Int) from by omega]
        refine ⟨c - (k + 1), by omega, k + 1, ws.set k v, ex_junk rfl, by omega, ?_, ?_, ?_, rfl⟩
        · rw [hll, show (A.getD i []).getD k 0 = F0 k i by rw [hF0]; rfl, stair_step F0 (by omega)] at G6
          exact G6
        · exact (low6 O (by omega)).trans ((fl.get O (by omega)).trans g3)
        · exact ⟨by rw [H.next_set]; have := f3.next; rw [litV_next] at n6; omega, fun id hid => by rw [H.get_set_ne _ (by omega)]; exact (low6 id (by omega)).trans ((fl.get id (by omega)).trans (f3.get id hid))⟩
      · rw [decide_eq_false hlt2]
        obtain rfl : k = c := by omega
        simp (disch := first | omega | (simp only [Qn] <;> omega)) only [go_sem]
        rw [show (i : Int) + 1 = ((i + 1 : Nat) : Int) from by omega]
        rw [stair_full] at G3
        exact ⟨A.length - (i + 1), by omega, i + 1, ws, ex_junk rfl, by omega, G3, g3, f3, rfl⟩
    · rw [decide_eq_false hlt]
      obtain rfl : i = A.length := by omega
      have rr := row_two g3
      have gr := (f3.get hx.next (by omega)).trans gy5
      have hst2 := fun hh => stV_agg2 hh hx.next 0 (v := .int .i64 p) (u := .sl R 0 c (.kn c)) rfl rfl
      have hrow := row_two (h := h3.set hx.next (some (.cells false [.int .i64 p, .sl R 0 c (.kn c)]))) (H.get_set_same ..)
      rw [← hnx]
      simp (disch := first | omega | (simp only [Qn] <;> omega)) only [go_sem, rr, hst2, gr, hrow]
      have RS := G3.rws.set (x := hx.next) (by omega) (some (.cells false [.int .i64 p, .sl R 0 c (.kn c)]))
      have e : TurnF (p, A) = ((p, mkR c A.length F0), 0) := by rw [TurnF, if_neg (by simp [hz]), ← hc, hF0]
      rw [e]
      exact ⟨_, rfl, ⟨_, ws, rfl, RS.le (by omega)⟩, (F5.trans f3).set (by omega) _⟩
end Go.Proofs.Ytonhijbeddcmpaa
/- Layer 4: Same, the laws' helpers; the reference's primes. -/
namespace Go.Proofs.Ytonhijbeddcmpaa
open Go Go.Ay
set_option maxRecDepth 100000
theorem lists_ext {a b : List (List Int)} (hl : a.length = b.length) (h : ∀ j, j < a.length → a.getD j [] = b.getD j []) : a = b := by
  apply List.ext_getElem hl
  intro i h1 h2
  have := h i h1
  rw [List.getD_eq_getElem?_getD, List.getElem?_eq_getElem h1, List.getD_eq_getElem?_getD, List.getElem?_eq_getElem h2] at this
  exact this
theorem sameLists_ok (va vb : V) (a b : List (List Int)) (h : H) (ha : SR h va a) (hb : SR h vb b) (hla : a.length < 1000000) (hlb : b.length < 1000000) (hra : ∀ i, i < a.length → (a.getD i []).length < 1000000) (hrb : ∀ i, i < b.length → (b.getD i []).length < 1000000) :
    Ev T n_kit_SameLists_int [va, vb] h (fun v h' => v = .bool (decide (a = b)) ∧ Fr h h') := by
  refine Ev_of t_kit_SameLists_int rfl ?_
  obtain ⟨id, off, ws, hsl, hid, hwl, hc, hall⟩ := ha.open
  obtain ⟨id2, off2, ws2, hsl2, hid2, hwl2, hc2, hall2⟩ := hb.open
  simp (disch := first | omega | (simp only [Qn] <;> omega)) only [go_sem, c_kit_SameLists_int, initV_eq, ha.lens, hb.lens]
  refine iteW_dec (fun hne => ?_) (fun heq => ?_)
  · simp (disch := first | omega | (simp only [Qn] <;> omega)) only [go_sem]
    have : a ≠ b := fun e => hne (by rw [e])
    exact ⟨by rw [decide_eq_false this], Fr.refl h⟩
  have heq : a.length = b.length := by omega
  simp (disch := first | omega | (simp only [Qn] <;> omega)) only [go_sem]
  refine Wp_loop (fun k' vars h2 => ∃ (i : Nat), (∃ g : Nat → V, vars = [va, vb, g 2, .int .i64 (i : Int), g 4, g 5, g 6]) ∧ i ≤ a.length ∧ (∀ j, j < i → a.getD j [] = b.getD j []) ∧ Fr h h2 ∧ k' = a.length - i) a.length
    ⟨0, ex_junk rfl, Nat.zero_le _, fun j hj => by omega, Fr.refl h, rfl⟩ ?_
  rintro k' vars h2 ⟨i, ⟨g, rfl⟩, hi, hpre, hf2, rfl⟩
  simp (disch := first | omega | (simp only [Qn] <;> omega)) only [go_sem, ha.lens]
  by_cases hlt : (i : Int) < (a.length : Int)
  · rw [decide_eq_true hlt]
    have hc' := cells_fr hf2 hid hc i (by omega)
    have hc2' := cells_fr hf2 hid2 hc2 i (by omega)
    simp (disch := first | omega | (simp only [Qn] <;> omega)) only [go_sem, hsl.ixa, hsl2.ixa, hc', hc2']
    have fb := hf2.bump (n := h2.next + 10) (by omega)
    have r1 := (row_at hall (i := i) (by omega)).mono fb
    have r2 := (row_at hall2 (i := i) (by omega)).mono fb
    have hc3 : (H.mk h2.tr (h2.next + 10)).cell id (off + i) = some (ws.getD i .undef) := hc'
    have hc4 : (H.mk h2.tr (h2.next + 10)).cell id2 (off2 + i) = some (ws2.getD i .undef) := hc2'
    generalize H.mk h2.tr (h2.next + 10) = hh at *
    refine (same_ok _ _ _ _ hh r1 r2 (hra i (by omega)) (hrb i (by omega))).mono ?_
    rintro v h3 ⟨rfl, f3⟩
    have f4 := fb.trans f3
    by_cases e : a.getD i [] = b.getD i []
    · rw [decide_eq_true e]
      simp (disch := first | omega | (simp only [Qn] <;> omega)) only [go_sem]
      rw [show (i : Int) + 1 = ((i + 1 : Nat) : Int) from by omega]
      refine ⟨a.length - (i + 1), by omega, i + 1, ex_junk rfl, by omega, fun j hj => ?_, f4, rfl⟩
      by_cases h3 : j = i
      · rw [h3]; exact e
      · exact hpre j (by omega)
    · rw [decide_eq_false e]
      simp (disch := first | omega | (simp only [Qn] <;> omega)) only [go_sem]
      have : a ≠ b := fun e2 => e (by rw [e2])
      exact ⟨by rw [decide_eq_false this], f4⟩
  · rw [decide_eq_false hlt]
    simp (disch := first | omega | (simp only [Qn] <;> omega)) only [go_sem]
    have : a = b := lists_ext heq fun j hj => hpre j (by omega)
    exact ⟨by rw [decide_eq_true this], hf2⟩
/-- A matrix of moderate size. -/
def Fit (a : Mat) : Prop := a.2.length < 1000000 ∧ ∀ i, i < a.2.length → (a.2.getD i []).length < 1000000
theorem Same_ok (va vb : V) (a b : Mat) (h : H) (ha : MatV h va a) (hb : MatV h vb b) (fa : Fit a) (fb : Fit b) :
    Ev T n_ref04_Same [va, vb] h (fun v h' => v = .bool (decide (a = b)) ∧ Fr h h') := by
  obtain ⟨ua, rfl, hua⟩ := ha
  obtain ⟨ub, rfl, hub⟩ := hb
  refine Ev_of t_ref04_Same rfl ?_
  have wa := SV.what hua.choose_spec.1
  have wb := SV.what hub.choose_spec.1
  simp (disch := first | omega | (simp only [Qn] <;> omega)) only [go_sem, c_ref04_Same, initV_eq, boxV_agg2 h (v := .int .i64 a.1) rfl wa.2.1]
  have hfx : Fr h (h.new (.cells false [.int .i64 a.1, ua])) := (Fr.refl h).new _
  have hgx : (h.new (.cells false [.int .i64 a.1, ua])).get h.next = some (.cells false [.int .i64 a.1, ua]) := H.get_new_same ..
  have hnx : (h.new (.cells false [.int .i64 a.1, ua])).next = h.next + 1 := H.next_new ..
  generalize h.new (.cells false [.int .i64 a.1, ua]) = hx at *
  have x0 : hx.cell h.next 0 = some (.int .i64 a.1) := by rw [H.cell_of hgx]; rfl
  have x1 : hx.cell h.next 1 = some ua := by rw [H.cell_of hgx]; rfl
  simp (disch := first | omega | (simp only [Qn] <;> omega)) only [go_sem, boxV_agg2 hx (v := .int .i64 b.1) rfl wb.2.1, x0, x1]
  have hfy : Fr hx (hx.new (.cells false [.int .i64 b.1, ub])) := (Fr.refl hx).new _
  have hgy : (hx.new (.cells false [.int .i64 b.1, ub])).get hx.next = some (.cells false [.int .i64 b.1, ub]) := H.get_new_same ..
  have hny : (hx.new (.cells false [.int .i64 b.1, ub])).next = hx.next + 1 := H.next_new ..
  generalize hx.new (.cells false [.int .i64 b.1, ub]) = hy at *
  have F := hfx.trans hfy
  have y1 : hy.cell hx.next 1 = some ub := by rw [H.cell_of hgy]; rfl
  have z1 : hy.cell h.next 1 = some ua := by rw [hfy.cell (by omega)]; exact x1
  by_cases e : a.1 = b.1
  · rw [decide_eq_true e]
    simp (disch := first | omega | (simp only [Qn] <;> omega)) only [go_sem, z1, y1]
    refine (sameLists_ok _ _ _ _ hy (hua.mono F) (hub.mono F) fa.1 fb.1 fa.2 fb.2).mono ?_
    rintro v h3 ⟨rfl, f3⟩
    simp (disch := first | omega | (simp only [Qn] <;> omega)) only [go_sem]
    refine ⟨?_, F.trans f3⟩
    congr 1
    rw [decide_eq_decide]
    exact ⟨fun h => Prod.ext e h, fun h => by rw [h]⟩
  · rw [decide_eq_false e]
    simp (disch := first | omega | (simp only [Qn] <;> omega)) only [go_sem, undef_eq]
    refine ⟨?_, F⟩
    rw [decide_eq_false fun h => e (by rw [h])]
theorem ref_is_prime_ok (n : Int) (h : H) : Ev T n_ref03_Is [.int .i64 n] h (fun v h' => v = .bool (isP n) ∧ h' = h) := by
  refine Ev_of t_ref03_Is rfl ?_
  simp (disch := first | omega | (simp only [Qn] <;> omega)) only [go_sem, c_ref03_Is, initV_eq]
  by_cases h1 : n < 2
  · rw [decide_eq_true h1]
    simp (disch := first | omega | (simp only [Qn] <;> omega)) only [go_sem, undef_eq]
    exact ⟨by rw [isP, decide_eq_false (by omega)]; rfl, trivial⟩
  rw [decide_eq_false h1]
  simp (disch := first | omega | (simp only [Qn] <;> omega)) only [go_sem]
  by_cases h2 : (1000000 : Int) ≤ n
  · rw [decide_eq_true h2]
    simp (disch := first | omega | (simp only [Qn] <;> omega)) only [go_sem]
    exact ⟨by rw [isP, decide_eq_false (show ¬ n < 1000000 by omega)]; simp, trivial⟩
  rw [decide_eq_false h2]
  obtain ⟨m, rfl⟩ : ∃ m : Nat, n = (m : Int) := ⟨n.toNat, by omega⟩
  simp (disch := first | omega | (simp only [Qn] <;> omega)) only [go_sem]
  have e0 : isP (m : Int) = decide (divF m = m) := by
    rw [isP, decide_eq_true (show (1 : Int) < m by omega), decide_eq_true (show (m : Int) < 1000000 by omega), Int.toNat_natCast]; rfl
  rw [e0]
  refine Wp_loop (fun k vars h3 => ∃ (d : Nat), (∃ g : Nat → V, vars = [.int .i64 (m : Int), g 1, .int .i64 (d : Int), g 3, g 4, g 5]) ∧ 2 ≤ d ∧ d + k = 1002 ∧ divG m k d = divF m ∧ h3 = h) 1000
    ⟨2, ex_junk rfl, Nat.le_refl _, rfl, rfl, rfl⟩ ?_
  rintro k vars h3 ⟨d, ⟨g, rfl⟩, hd2, hdm, hod, rfl⟩
  have hdd : d * d ≤ 1002 * 1002 := Nat.mul_le_mul (by omega) (by omega)
  have em0 : (d : Int) * (d : Int) = ((d * d : Nat) : Int) := (Int.natCast_mul ..).symm
  have hsq : d * 2 ≤ d * d := Nat.mul_le_mul_left d hd2
  have em : (m : Int).tmod (d : Int) = ((m % d : Nat) : Int) := tmod_nat ..
  cases k with
  | zero =>
    have hgt : ¬ d * d ≤ m := by
      have hd' : d = 1002 := by omega
      subst hd'; omega
    rw [divG] at hod
    generalize d * d = dd at *
    simp (disch := first | omega | (simp only [Qn] <;> omega)) only [go_sem, em0]
    rw [decide_eq_false (show ¬ (dd : Int) ≤ (m : Int) by omega)]
    simp (disch := first | omega | (simp only [Qn] <;> omega)) only [go_sem]
    exact ⟨by rw [← hod, decide_eq_true rfl], trivial⟩
  | succ k =>
    rw [divG] at hod
    generalize d * d = dd at *
    simp (disch := first | omega | (simp only [Qn] <;> omega)) only [go_sem, em0]
    refine iteW_dec (fun hle => ?_) (fun hgt => ?_)
    · rw [if_pos (by omega)] at hod
      simp (disch := first | omega | (simp only [Qn] <;> omega)) only [go_sem, em]
      refine iteW_dec (fun hz => ?_) (fun hz => ?_)
      · rw [if_pos (by omega)] at hod
        simp (disch := first | omega | (simp only [Qn] <;> omega)) only [go_sem]
        exact ⟨by rw [← hod, decide_eq_false (by omega)], trivial⟩
      · rw [if_neg (by omega)] at hod
        simp (disch := first | omega | (simp only [Qn] <;> omega)) only [go_sem]
        rw [show (d : Int) + 1 = ((d + 1 : Nat) : Int) from by omega]
        exact ⟨k, by omega, d + 1, ex_junk rfl, by omega, by omega, hod, trivial⟩
    · rw [if_neg (by omega)] at hod
      simp (disch := first | omega | (simp only [Qn] <;> omega)) only [go_sem]
      exact ⟨by rw [← hod, decide_eq_true rfl], trivial⟩
theorem ref_field_ok (p : Int) (h : H) : Ev T n_ref04_Field [.int .i64 p] h (fun v h' => v = .bool (fieldF p) ∧ h' = h) := by
  refine Ev_of t_ref04_Field rfl ?_
  simp (disch := first | omega | (simp only [Qn] <;> omega)) only [go_sem, c_ref04_Field, initV_eq]
  by_cases h1 : p < 10000
  · rw [decide_eq_true h1]
    simp (disch := first | omega | (simp only [Qn] <;> omega)) only [go_sem]
    refine (ref_is_prime_ok p h).mono ?_
    rintro v h' ⟨rfl, rfl⟩
    simp (disch := first | omega | (simp only [Qn] <;> omega)) only [go_sem]
    exact ⟨by rw [fieldF, decide_eq_true h1, Bool.true_and], trivial⟩
  · rw [decide_eq_false h1]
    simp (disch := first | omega | (simp only [Qn] <;> omega)) only [go_sem, undef_eq]
    exact ⟨by rw [fieldF, decide_eq_false h1]; rfl, trivial⟩
end Go.Proofs.Ytonhijbeddcmpaa
/- Layer 4: matrices that are read, and matrices that are filled; the reference's blank, one, One. -/
namespace Go.Proofs.Ytonhijbeddcmpaa
open Go Go.Ay
set_option maxRecDepth 100000
/-- What a walk wants to know of a matrix that it reads. -/
structure Rd (h : H) (u : V) (A : List (List Int)) (c id off : Nat) (ws : List V) (ρ o : Nat → Nat) : Prop where
  sl : Sl u 1 A.length id off
  lt : ∀ i, i < A.length → id < h.next
  at_ : ∀ i, i < A.length → h.cell id (off + i) = some (ws.getD i .undef)
  row : ∀ i, i < A.length → SI h (ws.getD i .undef) (A.getD i [])
  rsl : ∀ i, i < A.length → Sl (ws.getD i .undef) 1 c (ρ i) (o i)
  rlt : ∀ i k, i < A.length → k < c → ρ i < h.next
  ent : ∀ i k, i < A.length → k < c → h.cell (ρ i) (o i + k) = some (.int .i64 (ent A i k))
theorem SR.rd {h : H} {u : V} {A : List (List Int)} (s : SR h u A) {c : Nat} (hc : ∀ i, i < A.length → (A.getD i []).length = c) : ∃ id off ws ρ o, Rd h u A c id off ws ρ o := by
  obtain ⟨id, off, ws, sl, hid, hwl, hcA, hall⟩ := s.open
  have key : ∀ i, ∃ r : Nat × Nat, i < A.length → Sl (ws.getD i .undef) 1 c r.1 r.2 ∧ (0 < c → r.1 < h.next) ∧ ∀ k : Nat, k < c → h.cell r.1 (r.2 + k) = some (.int .i64 ((A.getD i []).getD k 0)) := fun i => by
    by_cases hi : i < A.length
    · obtain ⟨x, y, h1, h2, h3⟩ := (row_at hall hi).open
      rw [hc i hi] at h1 h2 h3
      exact ⟨(x, y), fun _ => ⟨h1, h2, h3⟩⟩
    · exact ⟨(0, 0), fun h => absurd h hi⟩
  exact ⟨id, off, ws, fun i => (key i).choose.1, fun i => (key i).choose.2, sl, fun i hi => hid (by omega), hcA, fun i hi => row_at hall hi, fun i hi => ((key i).choose_spec hi).1, fun i k hi hk => ((key i).choose_spec hi).2.1 (by omega), fun i k hi hk => ((key i).choose_spec hi).2.2 k hk⟩
theorem Rd.fr {h h' : H} {u : V} {A : List (List Int)} {c id off : Nat} {ws : List V} {ρ o : Nat → Nat} (r : Rd h u A c id off ws ρ o) (f : Fr h h') : Rd h' u A c id off ws ρ o :=
  ⟨r.sl, fun i hi => Nat.lt_of_lt_of_le (r.lt i hi) f.next, fun i hi => by rw [f.cell (r.lt i hi)]; exact r.at_ i hi, fun i hi => (r.row i hi).mono f, r.rsl, fun i k hi hk => Nat.lt_of_lt_of_le (r.rlt i k hi hk) f.next, fun i k hi hk => by rw [f.cell (r.rlt i k hi hk)]; exact r.ent i k hi hk⟩
theorem Rd.lens {h : H} {u : V} {A : List (List Int)} {c id off : Nat} {ws : List V} {ρ o : Nat → Nat} (r : Rd h u A c id off ws ρ o) {i : Nat} (hi : i < A.length) : lensV (ws.getD i .undef) = some (.int .i64 (c : Int)) := (r.rsl i hi).lens
/-- A matrix that the call fills. -/
structure Grd (h : H) (R n c : Nat) (ρ : Nat → Nat) (f : Nat → Nat → Int) (lo : Nat) : Prop where
  gR : h.get R = some (.cells false ((List.range n).map fun i => V.sl (ρ i) 0 c (.kn c)))
  row : ∀ i, i < n → h.get (ρ i) = some (.cells false (ints (mkV c (f i))))
  inj : ∀ i j, i < n → j < n → ρ i = ρ j → i = j
  hR : lo ≤ R
  ltR : R < h.next
  hρ : ∀ i, i < n → lo ≤ ρ i
  ltρ : ∀ i, i < n → ρ i < h.next
  ne : ∀ i, i < n → ρ i ≠ R
theorem Grd.fr {h h' : H} {R n c : Nat} {ρ : Nat → Nat} {f : Nat → Nat → Int} {lo : Nat} (g : Grd h R n c ρ f lo) (F : Fr h h') : Grd h' R n c ρ f lo :=
  ⟨(F.get R g.ltR).trans g.gR, fun i hi => (F.get _ (g.ltρ i hi)).trans (g.row i hi), g.inj, g.hR, Nat.lt_of_lt_of_le g.ltR F.next, g.hρ, fun i hi => Nat.lt_of_lt_of_le (g.ltρ i hi) F.next, g.ne⟩
theorem Grd.le {h : H} {R n c : Nat} {ρ : Nat → Nat} {f : Nat → Nat → Int} {lo lo' : Nat} (g : Grd h R n c ρ f lo) (hl : lo' ≤ lo) : Grd h R n c ρ f lo' :=
  ⟨g.gR, g.row, g.inj, Nat.le_trans hl g.hR, g.ltR, fun i hi => Nat.le_trans hl (g.hρ i hi), g.ltρ, g.ne⟩
/-- A cell that lies below. -/
theorem Grd.set {h : H} {R n c : Nat} {ρ : Nat → Nat} {f : Nat → Nat → Int} {lo x : Nat} (g : Grd h R n c ρ f lo) (hx : x < lo) (o : Option Ob) : Grd (h.set x o) R n c ρ f lo :=
  ⟨by rw [H.get_set_ne _ (by have := g.hR; omega)]; exact g.gR, fun i hi => by rw [H.get_set_ne _ (by have := g.hρ i hi; omega)]; exact g.row i hi, g.inj, g.hR, g.ltR, g.hρ, g.ltρ, g.ne⟩
theorem Grd.congr {h : H} {R n c : Nat} {ρ : Nat → Nat} {f f' : Nat → Nat → Int} {lo : Nat} (g : Grd h R n c ρ f lo) (e : ∀ i k, i < n → k < c → f i k = f' i k) : Grd h R n c ρ f' lo :=
  ⟨g.gR, fun i hi => by rw [g.row i hi, mkV_congr fun k hk => e i k hi hk], g.inj, g.hR, g.ltR, g.hρ, g.ltρ, g.ne⟩
theorem Grd.cR {h : H} {R n c : Nat} {ρ : Nat → Nat} {f : Nat → Nat → Int} {lo : Nat} (g : Grd h R n c ρ f lo) : ∀ i, i < n → h.cell R i = some (.sl (ρ i) 0 c (.kn c)) := fun i hi => by
  rw [H.cell_of g.gR, List.getElem?_map, List.getElem?_range hi]; rfl
theorem Grd.cρ {h : H} {R n c : Nat} {ρ : Nat → Nat} {f : Nat → Nat → Int} {lo : Nat} (g : Grd h R n c ρ f lo) : ∀ i k, i < n → k < c → h.cell (ρ i) k = some (.int .i64 (f i k)) := fun i k hi hk => by
  rw [H.cell_of (g.row i hi), ints_getD (by rw [mkV_len]; exact hk), mkV_get _ hk]
def upF (f : Nat → Nat → Int) (i k : Nat) (x : Int) : Nat → Nat → Int := fun a b => if a = i ∧ b = k then x else f a b
theorem mkV_set {n : Nat} {f : Nat → Int} {k : Nat} (x : Int) : (mkV n f).set k x = mkV n (fun j => if j = k then x else f j) := by
  refine mkV_eq (by rw [List.length_set, mkV_len]) fun j hj => ?_
  rw [getD_set, mkV_len]
  by_cases e : k = j
  · subst e; rw [if_pos rfl, if_pos hj, if_pos rfl]
  · rw [if_neg e, if_neg (by omega), mkV_get _ hj]
theorem Grd.put {h : H} {R n c : Nat} {ρ : Nat → Nat} {f : Nat → Nat → Int} {lo : Nat} (g : Grd h R n c ρ f lo) {i k : Nat} (hi : i < n) (hk : k < c) (x : Int) :
    putO (h.get (ρ i)) h (ρ i) k [.int .i64 x] = some (h.set (ρ i) (some (.cells false (ints (mkV c (upF f i k x i)))))) ∧ Grd (h.set (ρ i) (some (.cells false (ints (mkV c (upF f i k x i)))))) R n c ρ (upF f i k x) lo := by
  have e : (mkV c (f i)).set k x = mkV c (upF f i k x i) := by
    rw [mkV_set]
    exact mkV_congr fun j _ => by
      simp only [upF, true_and]
  refine ⟨by rw [g.row i hi, putO_ints (by rw [mkV_len]; exact hk), e], ⟨?_, fun j hj => ?_, g.inj, g.hR, g.ltR, g.hρ, g.ltρ, g.ne⟩⟩
  · rw [H.get_set_ne _ (fun e => g.ne i hi e.symm)]; exact g.gR
  · by_cases e : j = i
    · subst e; rw [H.get_set_same]
    · rw [H.get_set_ne _ fun h => e (g.inj j i hj hi h), g.row j hj, mkV_congr fun b _ => ?_]
      simp only [upF]
      rw [if_neg fun h => e h.1]
theorem Grd.rws {h : H} {R n c : Nat} {ρ : Nat → Nat} {f : Nat → Nat → Int} {lo : Nat} (g : Grd h R n c ρ f lo) {cap : Cap} (hcap : cap = .un 1 ∨ cap = .kn n) : Rws h (.sl R 0 n cap) ((List.range n).map fun i => V.sl (ρ i) 0 c (.kn c)) (mkR n c f) lo := by
  refine ⟨.inr ⟨R, n, cap, [], rfl, by simp, ?_, g.hR, g.ltR, by rw [List.append_nil]; exact g.gR⟩, All2.of_get (by simp [mkR]) fun i h1 h2 => ?_, fun w hw => ?_, fun w hw => ?_⟩
  · rcases hcap with h | h
    · exact .inl h
    · exact .inr ⟨h, rfl⟩
  · simp only [List.length_map, List.length_range] at h1
    simp only [List.getElem_map, List.getElem_range, mkR]
    have := SI.own (h := h) (g.ltρ i h1) (g.row i h1) (.kn c)
    rw [mkV_len] at this
    exact this
  · obtain ⟨i, hi, rfl⟩ := List.mem_map.1 hw
    intro _ _ _ _ e1 _ _ _ _ e2
    cases e1; cases e2
    exact fun e => g.ne i (List.mem_range.1 hi) e.symm
  · obtain ⟨i, hi, rfl⟩ := List.mem_map.1 hw
    intro _ _ _ _ e2
    cases e2
    exact g.hρ i (List.mem_range.1 hi)
set_option maxHeartbeats 4000000 in
theorem blank_ok (p : Int) (n c : Nat) (h : H) (hn : 1 ≤ n) (hn2 : n ≤ 1000) (hc : c ≤ 1000) : Ev T n_ref04_blank [.int .i64 p, .int .i64 (n : Int), .int .i64 (c : Int)] h (fun w h' => ∃ R ρ, w = .agg [.int .i64 p, .sl R 0 n (.un 1)] ∧ Grd h' R n c ρ (fun _ _ => 0) h.next ∧ Fr h h') := by
  refine Ev_of t_ref04_blank rfl ?_
  have hbl := bldV_fst (z1 := .int .i64 0) (z2 := .nils) (v := .int .i64 p) rfl rfl
  have hst := fun hh id => stV_agg2 hh id 0 (v := .int .i64 p) (u := .nils) rfl rfl
  simp (disch := first | omega | (simp only [Qn] <;> omega)) only [go_sem, c_ref04_blank, initV_eq, hbl]
  have hfa : Fr h (h.new (.cells false [.int .i64 0, .nils])) := (Fr.refl h).new _
  have hga : (h.new (.cells false [.int .i64 0, .nils])).get h.next = some (.cells false [.int .i64 0, .nils]) := H.get_new_same ..
  have hna : (h.new (.cells false [.int .i64 0, .nils])).next = h.next + 1 := H.next_new ..
  generalize h.new (.cells false [.int .i64 0, .nils]) = ha at *
  rw [← hna]
  simp (disch := first | omega | (simp only [Qn] <;> omega)) only [go_sem, hst, bxH_eq]
  have fB := hfa.trans (bxH_fr ha p .nils)
  have gB := bxH_get ha p .nils
  have nB := bxH_next ha p .nils
  have gA := ((bxH_fr ha p .nils).get h.next (by omega)).trans hga
  generalize bxH ha p .nils = hB at *
  obtain ⟨O, hO⟩ : ∃ O, ha.next = O := ⟨_, rfl⟩
  obtain ⟨lo, hlo⟩ : ∃ lo, O + 1 = lo := ⟨_, rfl⟩
  rw [hO] at gB nB
  rw [hO]
  have er : ∀ (i : Nat) (ρ ρ' : Nat → Nat), (∀ j, j < i → ρ j = ρ' j) → (List.range i).map (fun j => V.sl (ρ j) 0 c (.kn c)) = (List.range i).map (fun j => V.sl (ρ' j) 0 c (.kn c)) := fun i ρ ρ' e => List.map_congr_left fun j hj => by rw [e j (List.mem_range.1 hj)]
  refine Wp_loop (fun k' vars h3 => ∃ (i : Nat) (ρ : Nat → Nat) (u : V), (∃ g : Nat → V, vars = [.int .i64 p, .int .i64 (n : Int), .int .i64 (c : Int), .ptr h.next 0, .ptr O 0, .int .i64 (i : Int), g 6]) ∧ i ≤ n ∧ Own h3 u 1 ((List.range i).map fun j => V.sl (ρ j) 0 c (.kn c)) lo ∧ (∀ j, j < i → Apart u (ρ j) ∧ lo ≤ ρ j ∧ ρ j < h3.next ∧ h3.get (ρ j) = some (.cells false (ints (mkV c fun _ => 0)))) ∧ (∀ j k, j < i → k < i → ρ j = ρ k → j = k) ∧ (0 < i → ∃ R, u = .sl R 0 i (.un 1) ∧ lo ≤ R ∧ R < h3.next ∧ h3.get R = some (.cells false ((List.range i).map fun j => V.sl (ρ j) 0 c (.kn c)))) ∧ h3.get O = some (.cells false [.int .i64 p, u]) ∧ lo ≤ h3.next ∧ Fr hB (h3.set O (some (.cells false [.int .i64 p, .nils]))) ∧ k' = n - i) n
    ⟨0, fun _ => 0, .nils, ex_junk rfl, Nat.zero_le _, Own.nils _ _ _, fun j hj => absurd hj (Nat.not_lt_zero j), fun j k hj => absurd hj (Nat.not_lt_zero j), fun h0 => absurd h0 (Nat.not_lt_zero 0), gB, by omega, ⟨Nat.le_refl _, fun k hk => by
      by_cases e : k = O
      · subst e; rw [H.get_set_same, gB]
      · rw [H.get_set_ne _ e]⟩, rfl⟩ ?_
  rintro k' vars h3 ⟨i, ρ, u, ⟨g, rfl⟩, hi, o3, r3, i3, w3, g3, n3, f3, rfl⟩
  simp (disch := first | omega | (simp only [Qn] <;> omega)) only [go_sem]
  by_cases hlt : (i : Int) < (n : Int)
  · rw [decide_eq_true hlt]
    have cO : h3.cell O 1 = some u := by rw [H.cell_of g3]; rfl
    have emk : mksV (H.mk h3.tr (h3.next + 3)) 1 8 [.int .i64 0] (.int .i64 (c : Int)) (.int .i64 (c : Int)) = some (.sl (h3.next + 3) 0 c (.kn c), (H.mk h3.tr (h3.next + 3)).new (.cells false (ints (mkV c fun _ => 0)))) := by
      rw [mksV_int (by omega) (Int.le_refl _) (by omega) (by omega), Int.toNat_natCast, Nat.mul_one, zeros_int, show List.replicate c (0 : Int) = mkV c (fun _ => 0) from mkV_eq (List.length_replicate ..) fun j hj => by rw [List.getD_eq_getElem?_getD, List.getElem?_replicate, if_pos hj]; rfl]
    have hbls := fun hh => bls_v hh (.sl (h3.next + 3) 0 c (.kn c)) rfl rfl
    simp (disch := first | omega | (simp only [Qn] <;> omega)) only [go_sem, cO, emk, hbls, litV_eq]
    obtain ⟨hh, hhe⟩ : ∃ hh, hh = litV (litV h3 (h3.next + 3) (ints (mkV c fun _ => 0)) (h3.next + 8)) (h3.next + 4) [.sl (h3.next + 3) 0 c (.kn c)] (h3.next + 8) := ⟨_, rfl⟩
    have fh : Fr h3 hh := by rw [hhe]; exact litV_fr (litV_fr (Fr.refl h3) (by omega) (by omega) _) (by omega) (by omega) _
    have nh : hh.next = h3.next + 8 := by rw [hhe]; rfl
    have gr : hh.get (h3.next + 3) = some (.cells false (ints (mkV c fun _ => 0))) := by rw [hhe]; simp (disch := first | omega | (simp only [Qn] <;> omega)) only [go_sem]
    have gl : hh.get (h3.next + 4) = some (.cells false [.sl (h3.next + 3) 0 c (.kn c)]) := by rw [hhe]; simp (disch := first | omega | (simp only [Qn] <;> omega)) only [go_sem]
    rw [← hhe]
    clear hhe emk
    obtain ⟨v, h6, e6, a6⟩ := (o3.fr fh).app (bytes := 24) (n := i) (m := 1) (us := [.sl (h3.next + 3) 0 c (.kn c)]) (y := .sl (h3.next + 4) 0 1 (.kn 1)) (by omega) (SV.all rfl (by omega) gl _) (by simp) rfl (by omega) (by omega)
    have ev := app_at (o3.fr fh) (n := i) (by simp) (m := 1) (by omega) (by omega) (SV.all rfl (by omega) gl (.kn 1)) rfl e6
    rcases a6.what with ⟨h1, _⟩ | ⟨R, h1, h2, h4, h5⟩
    · omega
    have hv := SV.what a6.own.sv
    have hR : R = hh.next := by rw [ev] at h1; cases h1; rfl
    have apO : Apart u O := own_apart o3 (by omega)
    have gO6 := (a6.get O (by omega) apO).trans ((fh.get O (by omega)).trans g3)
    have hst1 := fun hh => stV_one hv.1 hv.2.1 hh O 1
    simp (disch := first | omega | (simp only [Qn] <;> omega)) only [go_sem, e6, hst1, gO6, putO_snd]
    rw [show (i : Int) + 1 = ((i + 1 : Nat) : Int) from by omega]
    have el : (List.range (i + 1)).map (fun j => V.sl (if j = i then h3.next + 3 else ρ j) 0 c (.kn c)) = (List.range i).map (fun j => V.sl (ρ j) 0 c (.kn c)) ++ [.sl (h3.next + 3) 0 c (.kn c)] := by
      rw [List.range_succ, List.map_append, er i (fun j => if j = i then h3.next + 3 else ρ j) ρ fun j hj => if_neg (by omega)]
      simp
    have apn : Apart u (h3.next + 3) := fun id off m cc e => by
      rcases o3 with ⟨h1, _⟩ | ⟨id', _, _, _, h1, _, _, _, h2, _⟩
      · rw [h1] at e; cases e
      · rw [h1] at e; cases e; omega
    have row6 : ∀ j, j < i + 1 → ∃ r, r = (if j = i then h3.next + 3 else ρ j) ∧ lo ≤ r ∧ r < hh.next ∧ h6.get r = some (.cells false (ints (mkV c fun _ => 0))) := fun j hj => by
      refine ⟨_, rfl, ?_⟩
      by_cases e : j = i
      · rw [if_pos e]
        exact ⟨by omega, by omega, (a6.get _ (by omega) apn).trans gr⟩
      · rw [if_neg e]
        obtain ⟨q1, q2, q3, q4⟩ := r3 j (by omega)
        exact ⟨q2, by omega, (a6.get _ (by omega) q1).trans ((fh.get _ q3).trans q4)⟩
    refine ⟨n - (i + 1), by omega, i + 1, fun j => if j = i then h3.next + 3 else ρ j, v, ex_junk rfl, by omega, ?_, fun j hj => ?_, fun j k hj hk e => ?_, fun _ => ⟨R, h1, h2, h4, ?_⟩, rfl, by have := a6.next; omega, ?_, rfl⟩
    · rw [el]
      exact a6.own.set (by omega) _
    · obtain ⟨r, q0, q1, q2, q3⟩ := row6 j hj
      simp only
      rw [← q0]
      refine ⟨?_, q1, by have := a6.next; show r < h6.next; omega, by rw [H.get_set_ne _ (by omega)]; exact q3⟩
      rw [h1]
      exact Apart.sl (by omega)
    · simp only at e
      by_cases e1 : j = i
      · by_cases e2 : k = i
        · omega
        · rw [if_pos e1, if_neg e2] at e
          have := (r3 k (by omega)).2.2.1
          omega
      · by_cases e2 : k = i
        · rw [if_neg e1, if_pos e2] at e
          have := (r3 j (by omega)).2.2.1
          omega
        · rw [if_neg e1, if_neg e2] at e
          exact i3 j k (by omega) (by omega) e
    · rw [H.get_set_ne _ (by omega), h5, el]
    · have n6 := a6.next
      refine ⟨by have := f3.next; rw [H.next_set] at *; rw [H.next_set]; omega, fun k hk => ?_⟩
      have := f3.get k hk
      by_cases e : k = O
      · subst e; rw [H.get_set_same] at *; exact this
      · rw [H.get_set_ne _ e, H.get_set_ne _ e]
        rw [H.get_set_ne _ e] at this
        have ak : Apart u k := own_apart o3 (by omega)
        exact (a6.get k (by omega) ak).trans ((fh.get k (by omega)).trans this)
  · rw [decide_eq_false hlt]
    obtain rfl : i = n := by omega
    obtain ⟨R, rfl, q1, q2, q3⟩ := w3 (by omega)
    have rr := row_two g3
    have fA : h3.get h.next = some (.cells false [.int .i64 0, .nils]) := by
      have := f3.get h.next (by omega)
      rw [H.get_set_ne _ (by omega)] at this
      exact this.trans gA
    have hst2 := fun hh => stV_agg2 hh h.next 0 (v := .int .i64 p) (u := .sl R 0 i (.un 1)) rfl rfl
    have hrow := row_two (h := h3.set h.next (some (.cells false [.int .i64 p, .sl R 0 i (.un 1)]))) (H.get_set_same ..)
    simp (disch := first | omega | (simp only [Qn] <;> omega)) only [go_sem, rr, hst2, fA, hrow]
    refine ⟨R, ρ, rfl, ?_, ?_⟩
    · have : Grd h3 R i c ρ (fun _ _ => 0) lo := ⟨q3, fun j hj => (r3 j hj).2.2.2, i3, q1, q2, fun j hj => (r3 j hj).2.1, fun j hj => (r3 j hj).2.2.1, fun j hj => (r3 j hj).1 _ _ _ _ rfl⟩
      exact (this.set (by omega) _).le (by omega)
    · have := fB.trans f3
      refine ⟨this.next, fun k hk => ?_⟩
      have q := this.get k hk
      rw [H.get_set_ne _ (by omega)] at q ⊢
      exact q
end Go.Proofs.Ytonhijbeddcmpaa
/- Layer 4: the reference's one, One. -/
namespace Go.Proofs.Ytonhijbeddcmpaa
open Go Go.Ay
set_option maxRecDepth 100000
theorem Grd.mato {h : H} {R n c : Nat} {ρ : Nat → Nat} {f : Nat → Nat → Int} {lo : Nat} (g : Grd h R n c ρ f lo) (p : Int) : MatO h (.agg [.int .i64 p, .sl R 0 n (.un 1)]) (p, mkR n c f) lo := ⟨_, _, rfl, g.rws (.inl rfl)⟩
theorem bump_eq (h : H) (n : Nat) : ∃ hh, hh = H.mk h.tr n ∧ (h.next ≤ n → Fr h hh) ∧ hh.next = n ∧ (∀ k, hh.get k = h.get k) := ⟨_, rfl, fun hn => (Fr.refl h).bump hn, rfl, fun _ => rfl⟩
set_option maxHeartbeats 4000000 in
theorem ref_one_ok (n : Nat) (p : Int) (h : H) (h1 : 1 ≤ n) (h2 : n ≤ 64) (hp : 2 ≤ p) : Ev T n_ref04_one [.int .i64 (n : Int), .int .i64 p] h (fun w h' => MatO h' w (oneF n p) h.next ∧ Fr h h') := by
  refine Ev_of t_ref04_one rfl ?_
  simp (disch := first | omega | (simp only [Qn] <;> omega)) only [go_sem, c_ref04_one, initV_eq]
  have hfa : Fr h (h.new (.cells false [.int .i64 0, .nils])) := (Fr.refl h).new _
  have hga : (h.new (.cells false [.int .i64 0, .nils])).get h.next = some (.cells false [.int .i64 0, .nils]) := H.get_new_same ..
  have hna : (h.new (.cells false [.int .i64 0, .nils])).next = h.next + 1 := H.next_new ..
  generalize h.new (.cells false [.int .i64 0, .nils]) = ha at *
  refine (blank_ok p n n ha h1 (by omega) (by omega)).mono ?_
  rintro w hb ⟨R, ρ, rfl, G, fb⟩
  have hst := fun hh id => stV_agg2 hh id 0 (v := .int .i64 p) (u := .sl R 0 n (.un 1)) rfl rfl
  simp (disch := first | omega | (simp only [Qn] <;> omega)) only [go_sem, hst, bxH_eq]
  have FB := bxH_fr hb p (.sl R 0 n (.un 1))
  have gB := bxH_get hb p (.sl R 0 n (.un 1))
  have nB := bxH_next hb p (.sl R 0 n (.un 1))
  have gA := (FB.get h.next (by have := fb.next; omega)).trans ((fb.get h.next (by omega)).trans hga)
  have G2 := G.fr FB
  have fB := (hfa.trans fb).trans FB
  generalize bxH hb p (.sl R 0 n (.un 1)) = hB at *
  obtain ⟨O, hO⟩ : ∃ O, hb.next = O := ⟨_, rfl⟩
  rw [hO] at gB nB
  rw [hO]
  have hlR : R < O := by rw [← hO]; exact G.ltR
  have hlρ : ∀ i, i < n → ρ i < O := fun i hi => by rw [← hO]; exact G.ltρ i hi
  have nb := fb.next
  have em : (1 : Int).tmod p = 1 := by rw [nonneg_tmod (by omega)]; exact Int.emod_eq_of_lt (by omega) (by omega)
  refine Wp_loop (fun k' vars h3 => ∃ (i : Nat) (f : Nat → Nat → Int), (∃ g : Nat → V, vars = [.int .i64 (n : Int), .int .i64 p, .ptr h.next 0, .ptr O 0, .int .i64 (i : Int), g 5]) ∧ i ≤ n ∧ Grd h3 R n n ρ f (h.next + 1) ∧ (∀ a b, a < n → b < n → f a b = if a = b ∧ a < i then 1 else 0) ∧ h3.get O = some (.cells false [.int .i64 p, .sl R 0 n (.un 1)]) ∧ h3.get h.next = some (.cells false [.int .i64 0, .nils]) ∧ O < h3.next ∧ Fr h h3 ∧ k' = n - i) n
    ⟨0, _, ex_junk rfl, Nat.zero_le _, G2.le (by omega), fun a b _ _ => by rw [if_neg (by omega)], gB, gA, by omega, fB, rfl⟩ ?_
  clear gB gA G G2
  rintro k' vars h3 ⟨i, f, ⟨g, rfl⟩, hi, G3, f3, g3, a3, o3, F3, rfl⟩
  simp (disch := first | omega | (simp only [Qn] <;> omega)) only [go_sem]
  by_cases hlt : (i : Int) < (n : Int)
  · rw [decide_eq_true hlt]
    have cO : h3.cell O 1 = some (.sl R 0 n (.un 1)) := by rw [H.cell_of g3]; rfl
    have hp := (G3.fr ((Fr.refl h3).bump (n := h3.next + 10) (by omega))).put (i := i) (k := i) (by omega) (by omega) 1
    have hput : putO (h3.get (ρ i)) (H.mk h3.tr (h3.next + 10)) (ρ i) i [.int .i64 1] = _ := hp.1
    have Gp := hp.2
    simp (disch := first | omega | (simp only [Qn] <;> omega)) only [go_sem, cO, G3.cR, em, hput]
    rw [show (i : Int) + 1 = ((i + 1 : Nat) : Int) from by omega]
    have q1 := hlρ i (by omega)
    have q2 := G3.hρ i (by omega)
    refine ⟨n - (i + 1), by omega, i + 1, upF f i i 1, ex_junk rfl, by omega, Gp, fun a b ha hb => ?_, ?_, ?_, ?_, ?_, rfl⟩
    · simp only [upF]
      by_cases e : a = i ∧ b = i
      · rw [if_pos e, if_pos (by omega)]
      · rw [if_neg e, f3 a b ha hb]
        by_cases e2 : a = b ∧ a < i
        · rw [if_pos e2, if_pos (by omega)]
        · rw [if_neg e2, if_neg (by omega)]
    · rw [H.get_set_ne _ (by omega)]; exact g3
    · rw [H.get_set_ne _ (by omega)]; exact a3
    · show O < h3.next + 10; omega
    · exact (F3.bump (by omega)).set (by omega) _
  · rw [decide_eq_false hlt]
    obtain rfl : i = n := by omega
    have rr := row_two g3
    have hst2 := fun hh => stV_agg2 hh h.next 0 (v := .int .i64 p) (u := .sl R 0 i (.un 1)) rfl rfl
    have hrow := row_two (h := h3.set h.next (some (.cells false [.int .i64 p, .sl R 0 i (.un 1)]))) (H.get_set_same ..)
    simp (disch := first | omega | (simp only [Qn] <;> omega)) only [go_sem, rr, hst2, a3, hrow]
    have e : oneF i p = (p, mkR i i f) := by
      rw [oneF]
      congr 1
      exact mkR_congr fun a b ha hb => by
        rw [f3 a b ha hb]
        by_cases e : a = b
        · rw [if_pos e, if_pos ⟨e, ha⟩]
        · rw [if_neg e, if_neg fun h => e h.1]
    rw [e]
    obtain ⟨u, ws, e1, R1⟩ := ((G3.set (Nat.lt_succ_self _) _).mato p : MatO (h3.set h.next (some (.cells false [.int .i64 p, .sl R 0 i (.un 1)]))) _ _ _)
    exact ⟨⟨u, ws, e1, R1.le (by omega)⟩, F3.set (Nat.le_refl _) _⟩
theorem ref_One_ok (n p : Int) (h : H) : Ev T n_ref04_One [.int .i64 n, .int .i64 p] h (fun v h' => ∃ w, v = .tup [w, .int .i64 (OneF n p).2] ∧ MatO h' w (OneF n p).1 h.next ∧ Fr h h') := by
  refine Ev_of t_ref04_One rfl ?_
  simp (disch := first | omega | (simp only [Qn] <;> omega)) only [go_sem, c_ref04_One, initV_eq]
  have hfa : Fr h (h.new (.cells false [.int .i64 0, .nils])) := (Fr.refl h).new _
  have hga : (h.new (.cells false [.int .i64 0, .nils])).get h.next = some (.cells false [.int .i64 0, .nils]) := H.get_new_same ..
  have hna : (h.new (.cells false [.int .i64 0, .nils])).next = h.next + 1 := H.next_new ..
  generalize h.new (.cells false [.int .i64 0, .nils]) = ha at *
  have hst := fun hh => stV_agg2 hh h.next 0 (v := .int .i64 0) (u := .nils) rfl rfl
  have hrow := row_two (h := ha.set h.next (some (.cells false [.int .i64 0, .nils]))) (H.get_set_same ..)
  refine (ref_field_ok p ha).mono ?_
  rintro v h' ⟨rfl, rfl⟩
  cases hf : fieldF p with
  | false =>
    simp (disch := first | omega | (simp only [Qn] <;> omega)) only [go_sem, bldV_nil, hst, hga, hrow]
    have e : OneF n p = ((0, []), 3) := by rw [OneF, if_pos hf]
    rw [e]
    exact ⟨_, rfl, ⟨.nils, [], rfl, Rws.nils _ _⟩, hfa.set (Nat.le_refl _) _⟩
  | true =>
    simp (disch := first | omega | (simp only [Qn] <;> omega)) only [go_sem]
    by_cases h1 : n < 1
    · rw [decide_eq_true h1]
      simp (disch := first | omega | (simp only [Qn] <;> omega)) only [go_sem, undef_eq, bldV_nil, hst, hga, hrow]
      have e : OneF n p = ((0, []), 2) := by rw [OneF, if_neg (by simp [hf]), if_pos (.inl h1)]
      rw [e]
      exact ⟨_, rfl, ⟨.nils, [], rfl, Rws.nils _ _⟩, hfa.set (Nat.le_refl _) _⟩
    rw [decide_eq_false h1]
    simp (disch := first | omega | (simp only [Qn] <;> omega)) only [go_sem]
    by_cases h2 : 64 < n
    · rw [decide_eq_true h2]
      simp (disch := first | omega | (simp only [Qn] <;> omega)) only [go_sem, bldV_nil, hst, hga, hrow]
      have e : OneF n p = ((0, []), 2) := by rw [OneF, if_neg (by simp [hf]), if_pos (.inr h2)]
      rw [e]
      exact ⟨_, rfl, ⟨.nils, [], rfl, Rws.nils _ _⟩, hfa.set (Nat.le_refl _) _⟩
    rw [decide_eq_false h2]
    obtain ⟨m, rfl⟩ : ∃ m : Nat, n = (m : Int) := ⟨n.toNat, by omega⟩
    simp (disch := first | omega | (simp only [Qn] <;> omega)) only [go_sem]
    refine (ref_one_ok m p _ (by omega) (by omega) (fieldF_range hf).1).mono ?_
    rintro w h5 ⟨⟨u, ws, rfl, R⟩, f5⟩
    have e : OneF m p = (oneF m p, 0) := by rw [OneF, if_neg (by simp [hf]), if_neg (by omega), Int.toNat_natCast]
    have hw := SV.what R.own.sv
    have hst2 := fun hh => stV_agg2 hh h.next 0 (v := .int .i64 (oneF m p).1) (u := u) rfl hw.2.1
    have g5 := (f5.get h.next (by omega)).trans hga
    have hrow2 := row_two (h := h5.set h.next (some (.cells false [.int .i64 (oneF m p).1, u]))) (H.get_set_same ..)
    simp (disch := first | omega | (simp only [Qn] <;> omega)) only [go_sem, hst2, g5, hrow2]
    rw [e]
    exact ⟨_, rfl, ⟨u, ws, rfl, (R.set (by omega) _).le (by omega)⟩, (hfa.trans f5).set (Nat.le_refl _) _⟩
end Go.Proofs.Ytonhijbeddcmpaa
/- Layer 4: the reference's Check, both. -/
namespace Go.Proofs.Ytonhijbeddcmpaa
open Go Go.Ay
set_option maxRecDepth 100000
set_option maxHeartbeats 8000000 in
theorem ref_check_ok (v : V) (a : Mat) (h : H) (ha : MatV h v a) (hlen : (a.2.length : Int) ≤ 2 ^ 63 - 1) : Ev T n_ref04_Check [v] h (fun v h' => v = .int .i64 (checkM a) ∧ Fr h h') := by
  obtain ⟨u, rfl, hu⟩ := ha
  obtain ⟨p, rows⟩ := a
  simp only at hu hlen
  refine Ev_of t_ref04_Check rfl ?_
  have hw := SV.what hu.choose_spec.1
  simp (disch := first | omega | (simp only [Qn] <;> omega)) only [go_sem, c_ref04_Check, initV_eq, boxV_agg2 h (v := .int .i64 p) rfl hw.2.1]
  have hfx : Fr h (h.new (.cells false [.int .i64 p, u])) := (Fr.refl h).new _
  have hgx : (h.new (.cells false [.int .i64 p, u])).get h.next = some (.cells false [.int .i64 p, u]) := H.get_new_same ..
  have hnx : (h.new (.cells false [.int .i64 p, u])).next = h.next + 1 := H.next_new ..
  generalize h.new (.cells false [.int .i64 p, u]) = hx at *
  have x0 : hx.cell h.next 0 = some (.int .i64 p) := by rw [H.cell_of hgx]; rfl
  have x1 : hx.cell h.next 1 = some u := by rw [H.cell_of hgx]; rfl
  refine (ref_field_ok p hx).mono ?_
  rintro v h' ⟨rfl, rfl⟩
  cases hf : fieldF p with
  | false =>
    simp (disch := first | omega | (simp only [Qn] <;> omega)) only [go_sem]
    exact ⟨by rw [checkM, if_pos hf], hfx⟩
  | true =>
    have hF : ∀ w : Int, (if rows.length < 1 ∨ 64 < rows.length ∨ (rows.getD 0 []).length < 1 ∨ 64 < (rows.getD 0 []).length then (2 : Int) else if rows.all (goodRow p (rows.getD 0 []).length) then 0 else 3) = w → checkM (p, rows) = w := fun w e => by
      rw [checkM, if_neg (by simp [hf])]; exact e
    simp (disch := first | omega | (simp only [Qn] <;> omega)) only [go_sem, x1, hu.lens]
    by_cases a1 : (rows.length : Int) < 1
    · rw [decide_eq_true a1]
      simp (disch := first | omega | (simp only [Qn] <;> omega)) only [go_sem, undef_eq]
      exact ⟨by rw [hF 2 (if_pos (.inl (by omega)))], hfx⟩
    rw [decide_eq_false a1]
    simp (disch := first | omega | (simp only [Qn] <;> omega)) only [go_sem, x1, hu.lens]
    by_cases a2 : (64 : Int) < (rows.length : Int)
    · rw [decide_eq_true a2]
      simp (disch := first | omega | (simp only [Qn] <;> omega)) only [go_sem, undef_eq]
      exact ⟨by rw [hF 2 (if_pos (.inr (.inl (by omega))))], hfx⟩
    rw [decide_eq_false a2]
    obtain ⟨id, off, ws, su, hid, hwl, hc, hall⟩ := (hu.mono hfx).open
    have c0 : h'.cell id off = some (ws.getD 0 .undef) := hc 0 (by omega)
    have r0 := row_at hall (i := 0) (by omega)
    obtain ⟨n0, hn0⟩ : ∃ n, (rows.getD 0 []).length = n := ⟨_, rfl⟩
    have l0 := r0.lens
    rw [hn0] at hF l0
    simp (disch := first | omega | (simp only [Qn] <;> omega)) only [go_sem, x1, su.ixa, c0, l0]
    by_cases a3 : (n0 : Int) < 1
    · rw [decide_eq_true a3]
      simp (disch := first | omega | (simp only [Qn] <;> omega)) only [go_sem, undef_eq]
      exact ⟨by rw [hF 2 (if_pos (.inr (.inr (.inl (by omega)))))], hfx⟩
    rw [decide_eq_false a3]
    simp (disch := first | omega | (simp only [Qn] <;> omega)) only [go_sem, x1, su.ixa, c0, l0]
    by_cases a4 : (64 : Int) < (n0 : Int)
    · rw [decide_eq_true a4]
      simp (disch := first | omega | (simp only [Qn] <;> omega)) only [go_sem, undef_eq]
      exact ⟨by rw [hF 2 (if_pos (.inr (.inr (.inr (by omega)))))], hfx⟩
    rw [decide_eq_false a4]
    rw [if_neg (by omega)] at hF
    simp (disch := first | omega | (simp only [Qn] <;> omega)) only [go_sem]
    refine Wp_loop (fun k' vars h1 => ∃ i : Nat, (∃ g : Nat → V, vars = [g 0, .ptr h.next 0, g 2, .int .i64 (i : Int), g 4, g 5, g 6, g 7, g 8, g 9, g 10]) ∧ i ≤ rows.length ∧ (rows.take i).all (goodRow p n0) = true ∧ Fr h' h1 ∧ k' = rows.length - i) rows.length
      ⟨0, ex_junk rfl, Nat.zero_le _, rfl, Fr.refl h', rfl⟩ ?_
    rintro k' vars h1 ⟨i, ⟨g, rfl⟩, hi, ht, f1, rfl⟩
    have y1 : h1.cell h.next 1 = some u := by rw [f1.cell (by omega)]; exact x1
    simp (disch := first | omega | (simp only [Qn] <;> omega)) only [go_sem, y1, hu.lens]
    by_cases hlt : (i : Int) < (rows.length : Int)
    · rw [decide_eq_true hlt]
      have ci : h1.cell id (off + i) = some (ws.getD i .undef) := by rw [f1.cell (hid (by omega))]; exact hc i (by omega)
      have c01 : h1.cell id off = some (ws.getD 0 .undef) := by rw [f1.cell (hid (by omega))]; exact c0
      have ri0 := row_at hall (i := i) (by omega)
      have lr := ri0.lens
      obtain ⟨idr, offr, sr, hidr, hcr⟩ := ri0.open
      obtain ⟨r, hr⟩ : ∃ r, rows.getD i [] = r := ⟨_, rfl⟩
      rw [hr] at lr ri0 sr hidr hcr
      have hm := all_take (P := goodRow p n0) (l := rows) (i := i) [] (by omega)
      have hbad := all_bad (P := goodRow p n0) (l := rows) (i := i) [] (by omega)
      rw [hr] at hm hbad
      have h3 : goodRow p n0 r = false → checkM (p, rows) = 3 := fun hg => hF 3 (if_neg (by rw [hbad hg]; simp))
      have h0' : goodRow p n0 r = true → (rows.take (i + 1)).all (goodRow p n0) = true := fun hg => by rw [hm, ht, hg]; rfl
      simp (disch := first | omega | (simp only [Qn] <;> omega)) only [go_sem, y1, su.ixa, ci, c01, lr, l0]
      by_cases hrn : r.length = n0
      · have d1 : decide ((r.length : Int) ≠ (n0 : Int)) = false := decide_eq_false (by omega)
        rw [d1]
        simp (disch := first | omega | (simp only [Qn] <;> omega)) only [go_sem]
        rw [hrn] at sr hidr hcr lr
        have fb := f1.bump (n := h1.next + 12) (by omega)
        generalize H.mk h1.tr (h1.next + 12) = h2 at *
        refine Wp_loop (fun k' vars h1 => ∃ k : Nat, (∃ g : Nat → V, vars = [g 0, .ptr h.next 0, g 2, .int .i64 (i : Int), .int .i64 (k : Int), g 5, g 6, g 7, g 8, g 9, g 10]) ∧ k ≤ n0 ∧ (∀ j, j < k → 0 ≤ r.getD j 0 ∧ r.getD j 0 < p) ∧ Fr h' h1 ∧ k' = n0 - k) n0
          ⟨0, ex_junk rfl, Nat.zero_le _, fun j hj => absurd hj (Nat.not_lt_zero j), fb, rfl⟩ ?_
        clear fb f1 y1 ci c01 g
        rintro k' vars h1 ⟨k, ⟨g, rfl⟩, hk, hj, f1, rfl⟩
        have y0 : h1.cell h.next 0 = some (.int .i64 p) := by rw [f1.cell (by omega)]; exact x0
        have y1 : h1.cell h.next 1 = some u := by rw [f1.cell (by omega)]; exact x1
        have ci : h1.cell id (off + i) = some (ws.getD i .undef) := by rw [f1.cell (hid (by omega))]; exact hc i (by omega)
        simp (disch := first | omega | (simp only [Qn] <;> omega)) only [go_sem, y1, su.ixa, ci, lr]
        by_cases hlt2 : (k : Int) < (n0 : Int)
        · rw [decide_eq_true hlt2]
          have ck : h1.cell idr (offr + k) = some (.int .i64 (r.getD k 0)) := by rw [f1.cell (hidr (by omega))]; exact hcr k (by omega)
          simp (disch := first | omega | (simp only [Qn] <;> omega)) only [go_sem, y1, su.ixa, ci, sr.ixa, ck]
          have badk : (r.getD k 0 < 0 ∨ p ≤ r.getD k 0) → goodRow p n0 r = false := fun hb => by
            rw [goodRow, decide_eq_true hrn, Bool.true_and]
            rcases hb with hb | hb
            · rw [any_index.2 ⟨k, by omega, decide_eq_true hb⟩]; rfl
            · rw [(any_index (P := fun x => decide (p ≤ x))).2 ⟨k, by omega, decide_eq_true hb⟩]; simp
          by_cases n1 : r.getD k 0 < 0
          · rw [decide_eq_true n1]
            simp (disch := first | omega | (simp only [Qn] <;> omega)) only [go_sem, undef_eq]
            exact ⟨by rw [h3 (badk (.inl n1))], hfx.trans (f1.bump (by omega))⟩
          · rw [decide_eq_false n1]
            simp (disch := first | omega | (simp only [Qn] <;> omega)) only [go_sem, y1, y0, su.ixa, ci, sr.ixa, ck]
            by_cases n2 : p ≤ r.getD k 0
            · rw [decide_eq_true n2]
              simp (disch := first | omega | (simp only [Qn] <;> omega)) only [go_sem]
              exact ⟨by rw [h3 (badk (.inr n2))], hfx.trans (f1.bump (by omega))⟩
            · rw [decide_eq_false n2]
              simp (disch := first | omega | (simp only [Qn] <;> omega)) only [go_sem]
              rw [show (k : Int) + 1 = ((k + 1 : Nat) : Int) from by omega]
              refine ⟨n0 - (k + 1), by omega, k + 1, ex_junk rfl, by omega, fun j hj2 => ?_, f1.bump (by omega), rfl⟩
              by_cases e : j = k
              · subst e; omega
              · exact hj j (by omega)
        · rw [decide_eq_false hlt2]
          obtain rfl : k = n0 := by omega
          simp (disch := first | omega | (simp only [Qn] <;> omega)) only [go_sem]
          rw [show (i : Int) + 1 = ((i + 1 : Nat) : Int) from by omega]
          refine ⟨rows.length - (i + 1), by omega, i + 1, ex_junk rfl, by omega, h0' ?_, f1, rfl⟩
          rw [goodRow, decide_eq_true hrn, Bool.true_and, Bool.and_eq_true, Bool.not_eq_true', Bool.not_eq_true']
          constructor
          · rw [← Bool.not_eq_true, any_index]
            rintro ⟨j, hj1, hd⟩
            have := hj j (by omega)
            have := of_decide_eq_true hd
            omega
          · rw [← Bool.not_eq_true, any_index]
            rintro ⟨j, hj1, hd⟩
            have := hj j (by omega)
            have := of_decide_eq_true hd
            omega
      · have d1 : decide ((r.length : Int) ≠ (n0 : Int)) = true := decide_eq_true (by omega)
        rw [d1]
        simp (disch := first | omega | (simp only [Qn] <;> omega)) only [go_sem]
        exact ⟨by rw [h3 (by rw [goodRow, decide_eq_false hrn]; rfl)], hfx.trans (f1.bump (by omega))⟩
    · rw [decide_eq_false hlt]
      obtain rfl : i = rows.length := by omega
      rw [List.take_length] at ht
      simp (disch := first | omega | (simp only [Qn] <;> omega)) only [go_sem]
      exact ⟨by rw [hF 0 (if_pos ht)], hfx.trans f1⟩
set_option maxHeartbeats 4000000 in
theorem both_ok (va vb : V) (a b : Mat) (h : H) (ha : MatV h va a) (hb : MatV h vb b) (la : (a.2.length : Int) ≤ 2 ^ 63 - 1) (lb : (b.2.length : Int) ≤ 2 ^ 63 - 1) :
    Ev T n_ref04_both [va, vb] h (fun v h' => v = .int .i64 (fitF a b) ∧ Fr h h') := by
  obtain ⟨ua, rfl, hua⟩ := ha
  obtain ⟨ub, rfl, hub⟩ := hb
  refine Ev_of t_ref04_both rfl ?_
  have wa := SV.what hua.choose_spec.1
  have wb := SV.what hub.choose_spec.1
  simp (disch := first | omega | (simp only [Qn] <;> omega)) only [go_sem, c_ref04_both, initV_eq, boxV_agg2 h (v := .int .i64 a.1) rfl wa.2.1]
  have hfx : Fr h (h.new (.cells false [.int .i64 a.1, ua])) := (Fr.refl h).new _
  have hgx : (h.new (.cells false [.int .i64 a.1, ua])).get h.next = some (.cells false [.int .i64 a.1, ua]) := H.get_new_same ..
  have hnx : (h.new (.cells false [.int .i64 a.1, ua])).next = h.next + 1 := H.next_new ..
  generalize h.new (.cells false [.int .i64 a.1, ua]) = hx at *
  simp (disch := first | omega | (simp only [Qn] <;> omega)) only [go_sem, boxV_agg2 hx (v := .int .i64 b.1) rfl wb.2.1]
  have hfy : Fr hx (hx.new (.cells false [.int .i64 b.1, ub])) := (Fr.refl hx).new _
  have hgy : (hx.new (.cells false [.int .i64 b.1, ub])).get hx.next = some (.cells false [.int .i64 b.1, ub]) := H.get_new_same ..
  have hny : (hx.new (.cells false [.int .i64 b.1, ub])).next = hx.next + 1 := H.next_new ..
  generalize hx.new (.cells false [.int .i64 b.1, ub]) = hy at *
  have F := hfx.trans hfy
  have gx := (hfy.get h.next (by omega)).trans hgx
  have fb : Fr hy (H.mk hy.tr (hy.next + 6)) := (Fr.refl hy).bump (by omega)
  have r1' := row_two ((fb.get h.next (by omega)).trans gx)
  have r2' := row_two ((fb.get hx.next (by omega)).trans hgy)
  have Fb := F.trans fb
  rw [← hny]
  have nb : (H.mk hy.tr (hy.next + 6)).next = hy.next + 6 := rfl
  have gxb := (fb.get h.next (by omega)).trans gx
  have gyb := (fb.get hx.next (by omega)).trans hgy
  generalize H.mk hy.tr (hy.next + 6) = hh at *
  simp (disch := first | omega | (simp only [Qn] <;> omega)) only [go_sem, r1', r2']
  refine (ref_check_ok _ a hh ⟨ua, rfl, hua.mono Fb⟩ la).mono ?_
  rintro v h1 ⟨rfl, f1⟩
  have ry := row_two ((f1.get hx.next (by omega)).trans gyb)
  have eb := SV.eqV hub.choose_spec.1
  simp (disch := first | omega | (simp only [Qn] <;> omega)) only [go_sem, ry, eb]
  refine (ref_check_ok _ b h1 ⟨ub, rfl, hub.mono (Fb.trans f1)⟩ lb).mono ?_
  rintro v h2 ⟨rfl, f2⟩
  have F2 := (Fb.trans f1).trans f2
  simp (disch := first | omega | (simp only [Qn] <;> omega)) only [go_sem]
  refine iteW_dec (fun e1 => ?_) (fun e1 => ?_)
  · simp (disch := first | omega | (simp only [Qn] <;> omega)) only [go_sem]
    exact ⟨by rw [fitF, if_pos e1], F2⟩
  simp (disch := first | omega | (simp only [Qn] <;> omega)) only [go_sem]
  refine iteW_dec (fun e2 => ?_) (fun e2 => ?_)
  · simp (disch := first | omega | (simp only [Qn] <;> omega)) only [go_sem]
    exact ⟨by rw [fitF, if_neg e1, if_pos e2], F2⟩
  have c1 : h2.cell h.next 0 = some (.int .i64 a.1) := by rw [H.cell_of (((f1.trans f2).get h.next (by omega)).trans gxb)]; rfl
  have c2 : h2.cell hx.next 0 = some (.int .i64 b.1) := by rw [H.cell_of (((f1.trans f2).get hx.next (by omega)).trans gyb)]; rfl
  simp (disch := first | omega | (simp only [Qn] <;> omega)) only [go_sem, c1, c2]
  refine iteW_dec (fun e3 => ?_) (fun e3 => ?_)
  · simp (disch := first | omega | (simp only [Qn] <;> omega)) only [go_sem]
    exact ⟨by rw [fitF, if_neg e1, if_neg e2, if_pos fun e => e3 e.symm], F2⟩
  · simp (disch := first | omega | (simp only [Qn] <;> omega)) only [go_sem]
    exact ⟨by rw [fitF, if_neg e1, if_neg e2, if_neg fun e => e (Classical.byContradiction fun e2 => e3 fun e4 => e2 e4.symm)], F2⟩
end Go.Proofs.Ytonhijbeddcmpaa
/- Layer 4: the reference's mul, Mul. -/
namespace Go.Proofs.Ytonhijbeddcmpaa
open Go Go.Ay
set_option maxRecDepth 100000
theorem mul_bound {x y p : Int} (h0 : 0 ≤ x) (h1 : x < p) (h2 : 0 ≤ y) (h3 : y < p) (hp : p < 10000) : 0 ≤ x * y ∧ x * y < 100000000 := by
  have a := Int.mul_nonneg h0 h2
  have b := Int.mul_le_mul (show x ≤ 9999 by omega) (show y ≤ 9999 by omega) h2 (by omega)
  omega
/-- A matrix that is filled entry by entry, each in m steps. -/
def prg (S : Nat → Nat → Nat → Int) (m i k j : Nat) : Nat → Nat → Int := fun x y => if x < i ∨ x = i ∧ y < k then S m x y else if x = i ∧ y = k then S j x y else 0
theorem prg_at (S : Nat → Nat → Nat → Int) (m i k j : Nat) : prg S m i k j i k = S j i k := by
  rw [prg, if_neg (by omega), if_pos ⟨rfl, rfl⟩]
theorem prg_up {S : Nat → Nat → Nat → Int} {m i k j : Nat} {x : Int} (hx : x = S (j + 1) i k) (a b : Nat) : upF (prg S m i k j) i k x a b = prg S m i k (j + 1) a b := by
  simp only [upF]
  by_cases e : a = i ∧ b = k
  · rw [if_pos e, e.1, e.2, prg_at, hx]
  · rw [if_neg e, prg, prg]
    by_cases e2 : a < i ∨ a = i ∧ b < k
    · rw [if_pos e2, if_pos e2]
    · rw [if_neg e2, if_neg e2, if_neg e, if_neg e]
theorem prg_next {S : Nat → Nat → Nat → Int} (h0 : ∀ a b, S 0 a b = 0) (m i k a b : Nat) : prg S m i k m a b = prg S m i (k + 1) 0 a b := by
  rw [prg, prg, h0]
  by_cases e : a < i ∨ a = i ∧ b < k
  · rw [if_pos e, if_pos (by omega)]
  · rw [if_neg e]
    by_cases e2 : a = i ∧ b = k
    · rw [if_pos e2, if_pos (by omega)]
    · rw [if_neg e2, if_neg (by omega)]; split <;> rfl
theorem prg_row {S : Nat → Nat → Nat → Int} (h0 : ∀ a b, S 0 a b = 0) {m i c a b : Nat} (hb : b < c) : prg S m i c 0 a b = prg S m (i + 1) 0 0 a b := by
  rw [prg, prg, h0]
  by_cases e : a < i ∨ a = i ∧ b < c
  · rw [if_pos e, if_pos (by omega)]
  · have e2 : ¬(a < i + 1 ∨ a = i + 1 ∧ b < 0) := by omega
    rw [if_neg e, if_neg e2]; split <;> split <;> rfl
theorem prg_zero {S : Nat → Nat → Nat → Int} (h0 : ∀ a b, S 0 a b = 0) (m a b : Nat) : prg S m 0 0 0 a b = 0 := by
  rw [prg, if_neg (by omega), h0]; split <;> rfl
theorem prg_end {S : Nat → Nat → Nat → Int} {m n a b : Nat} (ha : a < n) : prg S m n 0 0 a b = S m a b := by
  rw [prg, if_pos (.inl ha)]
set_option maxHeartbeats 8000000 in
theorem ref_mul_ok (va vb : V) (a b : Mat) (ca cb : Nat) (h : H) (ha : MatV h va a) (hb : MatV h vb b) (da : Vd a ca) (db : Vd b cb) (hp : a.1 = b.1) (hc : ca = b.2.length) :
    Ev T n_ref04_mul [va, vb] h (fun w h' => MatO h' w (mulF a b ca cb) h.next ∧ Fr h h') := by
  obtain ⟨ua, rfl, hua⟩ := ha
  obtain ⟨ub, rfl, hub⟩ := hb
  obtain ⟨p, A⟩ := a
  obtain ⟨p', B⟩ := b
  simp only at hp hc hua hub
  subst hp
  refine Ev_of t_ref04_mul rfl ?_
  have wa := SV.what hua.choose_spec.1
  have wb := SV.what hub.choose_spec.1
  simp (disch := first | omega | (simp only [Qn] <;> omega)) only [go_sem, c_ref04_mul, initV_eq, boxV_agg2 h (v := .int .i64 p) rfl wa.2.1]
  have hfx : Fr h (h.new (.cells false [.int .i64 p, ua])) := (Fr.refl h).new _
  have hgx : (h.new (.cells false [.int .i64 p, ua])).get h.next = some (.cells false [.int .i64 p, ua]) := H.get_new_same ..
  have hnx : (h.new (.cells false [.int .i64 p, ua])).next = h.next + 1 := H.next_new ..
  generalize h.new (.cells false [.int .i64 p, ua]) = hx at *
  simp (disch := first | omega | (simp only [Qn] <;> omega)) only [go_sem, boxV_agg2 hx (v := .int .i64 p) rfl wb.2.1]
  have hfy : Fr hx (hx.new (.cells false [.int .i64 p, ub])) := (Fr.refl hx).new _
  have hgy : (hx.new (.cells false [.int .i64 p, ub])).get hx.next = some (.cells false [.int .i64 p, ub]) := H.get_new_same ..
  have hny : (hx.new (.cells false [.int .i64 p, ub])).next = hx.next + 1 := H.next_new ..
  generalize hx.new (.cells false [.int .i64 p, ub]) = hy at *
  rw [← hny]
  have hfz : Fr hy (hy.new (.cells false [.int .i64 0, .nils])) := (Fr.refl hy).new _
  have hgz : (hy.new (.cells false [.int .i64 0, .nils])).get hy.next = some (.cells false [.int .i64 0, .nils]) := H.get_new_same ..
  have hnz : (hy.new (.cells false [.int .i64 0, .nils])).next = hy.next + 1 := H.next_new ..
  generalize hy.new (.cells false [.int .i64 0, .nils]) = hz at *
  have F := (hfx.trans hfy).trans hfz
  have gx := (hfz.get h.next (by omega)).trans ((hfy.get h.next (by omega)).trans hgx)
  have gy := (hfz.get hx.next (by omega)).trans hgy
  have hp := fieldF_range da.p
  have hr1 := da.r1
  have hr2 := da.r2
  have hc1 := da.c1
  have hrb1 := db.r1
  have hrb2 := db.r2
  have hcb1 := db.c1
  have hcb2 := db.c2
  simp only at hp hr1 hr2 hrb1 hrb2
  obtain ⟨ida, offa, wsa, ρa, oa, RA⟩ := SR.rd (hua.mono F) fun i hi => da.row i hi
  obtain ⟨idb, offb, wsb, ρb, ob, RB⟩ := SR.rd (hub.mono F) fun i hi => db.row i hi
  rw [← hnz]
  have x0 : hz.cell h.next 0 = some (.int .i64 p) := by rw [H.cell_of gx]; rfl
  have x1 : hz.cell h.next 1 = some ua := by rw [H.cell_of gx]; rfl
  have y1 : hz.cell hx.next 1 = some ub := by rw [H.cell_of gy]; rfl
  have cb0 : hz.cell idb offb = some (wsb.getD 0 .undef) := RB.at_ 0 hrb1
  have lb0 := RB.lens hrb1
  simp (disch := first | omega | (simp only [Qn] <;> omega)) only [go_sem, x0, x1, y1, hua.lens, RB.sl.ixa, cb0, lb0]
  have fb : Fr hz (H.mk hz.tr (hz.next + 13)) := (Fr.refl hz).bump (by omega)
  have nb : (H.mk hz.tr (hz.next + 13)).next = hz.next + 13 := rfl
  generalize H.mk hz.tr (hz.next + 13) = hh at *
  refine (blank_ok p A.length cb hh hr1 (by omega) (by omega)).mono ?_
  rintro w h4 ⟨R, ρ, rfl, G, f4⟩
  have n4 := f4.next
  have hst := fun hh id => stV_agg2 hh id 0 (v := .int .i64 p) (u := .sl R 0 A.length (.un 1)) rfl rfl
  simp (disch := first | omega | (simp only [Qn] <;> omega)) only [go_sem, litV_eq, hst]
  obtain ⟨O, hO⟩ : ∃ O, hz.next + 11 = O := ⟨_, rfl⟩
  rw [hO]
  have fl := litV_fr (Fr.refl h4) (a := h4.next) (m := h4.next) (by omega) (by omega) []
  have gO : ((litV h4 O [.int .i64 0, .nils] h4.next).set O (some (.cells false [.int .i64 p, .sl R 0 A.length (.un 1)]))).get O = some (.cells false [.int .i64 p, .sl R 0 A.length (.un 1)]) := H.get_set_same ..
  have gn : ∀ k, k ≠ O → ((litV h4 O [.int .i64 0, .nils] h4.next).set O (some (.cells false [.int .i64 p, .sl R 0 A.length (.un 1)]))).get k = h4.get k := fun k hk => by simp (disch := first | omega | (simp only [Qn] <;> omega)) only [go_sem]
  have nB : ((litV h4 O [.int .i64 0, .nils] h4.next).set O (some (.cells false [.int .i64 p, .sl R 0 A.length (.un 1)]))).next = h4.next := rfl
  generalize (litV h4 O [.int .i64 0, .nils] h4.next).set O (some (.cells false [.int .i64 p, .sl R 0 A.length (.un 1)])) = hB at *
  have hlR := G.hR
  have hlρ := G.hρ
  have GB : Grd hB R A.length cb ρ (fun _ _ => 0) hh.next := ⟨by rw [gn _ (by omega)]; exact G.gR, fun i hi => by rw [gn _ (by have := hlρ i hi; omega)]; exact G.row i hi, G.inj, G.hR, by rw [nB]; exact G.ltR, G.hρ, fun i hi => by rw [nB]; exact G.ltρ i hi, G.ne⟩
  have fB : Fr hz hB := ⟨by omega, fun k hk => by rw [gn k (by omega)]; exact (f4.get k (by omega)).trans (fb.get k hk)⟩
  obtain ⟨S, hS⟩ : ∃ S : Nat → Nat → Nat → Int, S = fun j x y => sm j (fun j => ent A x j * ent B j y) % p := ⟨_, rfl⟩
  have S0 : ∀ a b, S 0 a b = 0 := fun a b => by rw [hS]; rfl
  have Sr : ∀ j a b, 0 ≤ S j a b ∧ S j a b < p := fun j a b => by rw [hS]; exact tmod_range _ (by omega)
  have GB := GB.congr (f' := prg S ca 0 0 0) fun a b _ _ => (prg_zero S0 ca a b).symm
  refine Wp_loop (fun k' vars h3 => ∃ (i : Nat), (∃ g : Nat → V, vars = [g 0, g 1, .ptr h.next 0, .ptr hx.next 0, .ptr hy.next 0, .ptr O 0, .int .i64 (i : Int), g 7, g 8, g 9, g 10, g 11]) ∧ i ≤ A.length ∧ Grd h3 R A.length cb ρ (prg S ca i 0 0) hh.next ∧ h3.get O = some (.cells false [.int .i64 p, .sl R 0 A.length (.un 1)]) ∧ Fr hz h3 ∧ k' = A.length - i) A.length
    ⟨0, ex_junk rfl, Nat.zero_le _, GB, gO, fB, rfl⟩ ?_
  clear GB gO fB gn nB fl G cb0 lb0
  rintro k' vars h3 ⟨i, ⟨g, rfl⟩, hi, G3, g3, f3, rfl⟩
  have x1' : h3.cell h.next 1 = some ua := by rw [f3.cell (by omega)]; exact x1
  simp (disch := first | omega | (simp only [Qn] <;> omega)) only [go_sem, x1', hua.lens]
  by_cases hlt : (i : Int) < (A.length : Int)
  · rw [decide_eq_true hlt]
    simp (disch := first | omega | (simp only [Qn] <;> omega)) only [go_sem]
    refine Wp_loop (fun k' vars h3 => ∃ (k : Nat), (∃ g : Nat → V, vars = [g 0, g 1, .ptr h.next 0, .ptr hx.next 0, .ptr hy.next 0, .ptr O 0, .int .i64 (i : Int), .int .i64 (k : Int), g 8, g 9, g 10, g 11]) ∧ k ≤ cb ∧ Grd h3 R A.length cb ρ (prg S ca i k 0) hh.next ∧ h3.get O = some (.cells false [.int .i64 p, .sl R 0 A.length (.un 1)]) ∧ Fr hz h3 ∧ k' = cb - k) cb
      ⟨0, ex_junk rfl, Nat.zero_le _, G3, g3, f3, rfl⟩ ?_
    clear G3 g3 f3 x1' g
    rintro k' vars h3 ⟨k, ⟨g, rfl⟩, hk, G3, g3, f3, rfl⟩
    have y1' : h3.cell hx.next 1 = some ub := by rw [f3.cell (by omega)]; exact y1
    have cb0 : h3.cell idb offb = some (wsb.getD 0 .undef) := (RB.fr f3).at_ 0 hrb1
    have lb0 := RB.lens hrb1
    simp (disch := first | omega | (simp only [Qn] <;> omega)) only [go_sem, y1', RB.sl.ixa, cb0, lb0]
    by_cases hlt2 : (k : Int) < (cb : Int)
    · rw [decide_eq_true hlt2]
      simp (disch := first | omega | (simp only [Qn] <;> omega)) only [go_sem]
      refine Wp_loop (fun k' vars h3 => ∃ (j : Nat), (∃ g : Nat → V, vars = [g 0, g 1, .ptr h.next 0, .ptr hx.next 0, .ptr hy.next 0, .ptr O 0, .int .i64 (i : Int), .int .i64 (k : Int), .int .i64 (j : Int), g 9, g 10, g 11]) ∧ j ≤ ca ∧ Grd h3 R A.length cb ρ (prg S ca i k j) hh.next ∧ h3.get O = some (.cells false [.int .i64 p, .sl R 0 A.length (.un 1)]) ∧ Fr hz h3 ∧ k' = ca - j) ca
        ⟨0, ex_junk rfl, Nat.zero_le _, G3, g3, f3, rfl⟩ ?_
      clear G3 g3 f3 y1' cb0 lb0 g
      rintro k' vars h3 ⟨j, ⟨g, rfl⟩, hj, G3, g3, f3, rfl⟩
      have y1' : h3.cell hx.next 1 = some ub := by rw [f3.cell (by omega)]; exact y1
      have lB : lensV ub = some (.int .i64 (ca : Int)) := by rw [hc]; exact hub.lens
      simp (disch := first | omega | (simp only [Qn] <;> omega)) only [go_sem, y1', lB]
      by_cases hlt3 : (j : Int) < (ca : Int)
      · rw [decide_eq_true hlt3]
        have hi' : i < A.length := by omega
        have hk' : k < cb := by omega
        have hj' : j < ca := by omega
        have hj2 : j < B.length := by omega
        have x0' : h3.cell h.next 0 = some (.int .i64 p) := by rw [f3.cell (by omega)]; exact x0
        have x1' : h3.cell h.next 1 = some ua := by rw [f3.cell (by omega)]; exact x1
        have cO : h3.cell O 1 = some (.sl R 0 A.length (.un 1)) := by rw [H.cell_of g3]; rfl
        have cv : h3.cell (ρ i) k = some (.int .i64 (S j i k)) := by rw [G3.cρ i k hi' hk', prg_at]
        have RA3 := RA.fr f3
        have RB3 := RB.fr f3
        have b1 := mul_bound (da.lo i j hi' hj') (da.hi i j hi' hj') (db.lo j k hj2 hk') (db.hi j k hj2 hk') hp.2
        simp only at b1
        have b2 := Sr j i k
        have em : (S j i k + ent A i j * ent B j k).tmod p = S (j + 1) i k := by
          rw [nonneg_tmod (by omega), hS]
          simp only
          rw [sm_succ, Int.emod_add_emod]
        have hp1 := (G3.fr ((Fr.refl h3).bump (n := h3.next + 37) (by omega))).put hi' hk' (S (j + 1) i k)
        have hput : putO (h3.get (ρ i)) (H.mk h3.tr (h3.next + 37)) (ρ i) k [.int .i64 (S (j + 1) i k)] = _ := hp1.1
        simp (disch := first | omega | (simp only [Qn] <;> omega)) only [go_sem, cO, G3.cR, cv, x1', RA.sl.ixa, RA3.at_ i hi', (RA.rsl i hi').ixa, RA3.ent i j hi' hj', y1', RB.sl.ixa, RB3.at_ j hj2, (RB.rsl j hj2).ixa, RB3.ent j k hj2 hk', x0', em, hput]
        rw [show (j : Int) + 1 = ((j + 1 : Nat) : Int) from by omega]
        have q := hlρ i hi'
        exact ⟨ca - (j + 1), by omega, j + 1, ex_junk rfl, by omega, hp1.2.congr fun a b _ _ => prg_up rfl a b, by rw [H.get_set_ne _ (by omega)]; exact g3, (f3.bump (by omega)).set (by omega) _, rfl⟩
      · rw [decide_eq_false hlt3]
        obtain rfl : j = ca := by omega
        simp (disch := first | omega | (simp only [Qn] <;> omega)) only [go_sem]
        rw [show (k : Int) + 1 = ((k + 1 : Nat) : Int) from by omega]
        exact ⟨cb - (k + 1), by omega, k + 1, ex_junk rfl, by omega, G3.congr fun a b _ _ => prg_next S0 j i k a b, g3, f3, rfl⟩
    · rw [decide_eq_false hlt2]
      obtain rfl : k = cb := by omega
      simp (disch := first | omega | (simp only [Qn] <;> omega)) only [go_sem]
      rw [show (i : Int) + 1 = ((i + 1 : Nat) : Int) from by omega]
      exact ⟨A.length - (i + 1), by omega, i + 1, ex_junk rfl, by omega, G3.congr fun a b _ hb => prg_row S0 hb, g3, f3, rfl⟩
  · rw [decide_eq_false hlt]
    obtain rfl : i = A.length := by omega
    have rr := row_two g3
    have gr := (f3.get hy.next (by omega)).trans hgz
    have hst2 := fun hh => stV_agg2 hh hy.next 0 (v := .int .i64 p) (u := .sl R 0 A.length (.un 1)) rfl rfl
    have hrow := row_two (h := h3.set hy.next (some (.cells false [.int .i64 p, .sl R 0 A.length (.un 1)]))) (H.get_set_same ..)
    simp (disch := first | omega | (simp only [Qn] <;> omega)) only [go_sem, rr, hst2, gr, hrow]
    have G5 := (G3.congr (f' := S ca) fun a b ha _ => prg_end ha).set (x := hy.next) (by omega) (some (.cells false [.int .i64 p, .sl R 0 A.length (.un 1)]))
    have e : mulF (p, A) (p, B) ca cb = (p, mkR A.length cb (S ca)) := by rw [mulF, hS]
    rw [e]
    obtain ⟨u, ws, e1, R1⟩ := G5.mato p
    exact ⟨⟨u, ws, e1, R1.le (by omega)⟩, (F.trans f3).set (by omega) _⟩
end Go.Proofs.Ytonhijbeddcmpaa
