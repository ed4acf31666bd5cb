/- Layer 4: zip of rows. Layer 4: Add. Layer 4: rows that grow in their places. Layer 4: Turn. Layer 4: Same, the laws' helpers; the reference's primes. Layer 4: matrices that are read, and matrices that are filled; the reference's blank, one, One. Layer 4: the reference's one, One. Layer 4: the reference's Check, both. Layer 4: the reference's mul, Mul. Layer 4: the reference's Mul, Add. Layer 4: the reference's Scale, Turn. Layer 4: the reference's Apply. Determinants of integer matrices: the rows. Determinants of integer matrices: products, columns, the adjugate. Polynomials with integer coefficients; the characteristic polynomial; Cayley and Hamilton. Powers modulo a prime. -/
import Derived.Test.YtonhijbeddcmpaaM4atoM4l
import Derived.Test.YtonhijbeddcmpaaSm
/- Layer 4: zip of rows. -/
namespace Go.Proofs.Ytonhijbeddcmpaa
open Go Go.Ay
set_option maxRecDepth 100000
def upto (n i : Nat) (G : Nat → List Int) : List (List Int) := (List.range n).map (fun j => if j < i then G j else [])
theorem upto_all (n : Nat) (G : Nat → List Int) : upto n n G = (List.range n).map G := List.map_congr_left fun j hj => if_pos (List.mem_range.1 hj)
theorem upto_succ {n i : Nat} (hi : i < n) (G : Nat → List Int) : (upto n i G).set i (G i) = upto n (i + 1) G := by
  refine List.ext_getElem (by simp [upto]) fun j h1 h2 => ?_
  rw [List.getElem_set]
  simp only [upto, List.getElem_map, List.getElem_range]
  by_cases e : i = j
  · subst e; rw [if_pos rfl, if_pos (by omega)]
  · rw [if_neg e]
    by_cases e2 : j < i
    · rw [if_pos e2, if_pos (by omega)]
    · rw [if_neg e2, if_neg (by omega)]
theorem rws_blank {h : H} {R n : Nat} (gR : h.get R = some (.cells false (List.replicate n .nils))) (hR : R < h.next) (G : Nat → List Int) : Rws h (.sl R 0 n (.kn n)) (List.replicate n .nils) (upto n 0 G) R := by
  have e0 : upto n 0 G = List.replicate n ([] : List Int) := by
    refine List.ext_getElem (by simp [upto]) fun i h1 h2 => ?_
    simp [upto]
  rw [e0]
  refine ⟨.inr ⟨R, n, .kn n, [], rfl, by rw [List.length_replicate, Nat.mul_one], .inr ⟨rfl, rfl⟩, Nat.le_refl _, hR, by rw [List.append_nil]; exact gR⟩, All2.of_get (by simp) fun i h1 h2 => ?_, fun w hw => ?_, fun w hw => ?_⟩
  · simp only [List.getElem_replicate]
    exact SV.nils _ _
  · rw [List.eq_of_mem_replicate hw]
    intro _ _ _ _ _ _ _ _ _ e; cases e
  · rw [List.eq_of_mem_replicate hw]
    intro _ _ _ _ e; cases e
theorem Rws.get {h : H} {R n : Nat} {ws : List V} {ll : List (List Int)} {lo : Nat} (r : Rws h (.sl R 0 n (.kn n)) ws ll lo) : h.get R = some (.cells false ws) ∧ ws.length = n ∧ R < h.next := by
  rcases r.own with ⟨h1, _⟩ | ⟨id, n', cap, rest, h1, h2, h3, _, h4, h5⟩
  · cases h1
  · cases h1
    rcases h3 with h3 | ⟨_, h3⟩
    · cases h3
    · subst h3
      rw [List.append_nil] at h5
      exact ⟨h5, by omega, h4⟩
set_option maxHeartbeats 4000000 in
theorem zipR_ok (va vb f : V) (A B : List (List Int)) (G : Nat → List Int) (h : H) (ha : SR h va A) (hb : SR h vb B) (hab : A.length ≤ B.length) (hl : A.length < 1000000)
    (hf : ∀ h', Fr h h' → ∀ i, i < A.length → ∀ x y, SI h' x (A.getD i []) → SI h' y (B.getD i []) → callP T f [x, y] h' (fun v h'' => Own h'' v 1 (ints (G i)) h'.next ∧ Fr h' h'')) :
    Ev T n_matrix_zip_int_int_int [va, vb, f] h (fun v h' => ∃ ws, Rws h' v ws ((List.range A.length).map G) h.next ∧ Fr h h') := by
  refine Ev_of t_matrix_zip_int_int_int rfl ?_
  obtain ⟨ida, offa, wsa, sa, hida, hwla, ca, alla⟩ := ha.open
  obtain ⟨idb, offb, wsb, sb, hidb, hwlb, cb, allb⟩ := hb.open
  have ez : zerosV [V.nils] A.length = List.replicate A.length .nils := by
    rw [zerosV]
    refine List.ext_getElem (by simp) fun i h1 h2 => ?_
    simp [Nat.mod_one]
  have emk : mksV h 1 24 [.nils] (.int .i64 (A.length : Int)) (.int .i64 (A.length : Int)) = some (.sl h.next 0 A.length (.kn A.length), h.new (.cells false (List.replicate A.length .nils))) := by
    rw [mksV_int (by omega) (Int.le_refl _) (by omega) (by omega), Int.toNat_natCast, Nat.mul_one, ez]
  simp (disch := first | omega | (simp only [Qn] <;> omega)) only [go_sem, c_matrix_zip_int_int_int, initV_eq, ha.lens, emk]
  have hfz : Fr h (h.new (.cells false (List.replicate A.length .nils))) := (Fr.refl h).new _
  have hgz : (h.new (.cells false (List.replicate A.length .nils))).get h.next = some (.cells false (List.replicate A.length .nils)) := H.get_new_same ..
  have hnz : (h.new (.cells false (List.replicate A.length .nils))).next = h.next + 1 := H.next_new ..
  generalize h.new (.cells false (List.replicate A.length .nils)) = hz at *
  refine Wp_loop (fun k' vars h3 => ∃ (i : Nat) (ws : List V), (∃ g : Nat → V, vars = [g 0, vb, f, g 3, .sl h.next 0 A.length (.kn A.length), g 5, g 6, va, .int .i64 (A.length : Int), .int .i64 (i : Int), g 10]) ∧ i ≤ A.length ∧ Rws h3 (.sl h.next 0 A.length (.kn A.length)) ws (upto A.length i G) h.next ∧ Fr h h3 ∧ k' = A.length - i) A.length
    ⟨0, _, ex_junk rfl, Nat.zero_le _, rws_blank hgz (by omega) G, hfz, rfl⟩ ?_
  rintro k' vars h3 ⟨i, ws, ⟨g, rfl⟩, hi, R3, f3, rfl⟩
  simp (disch := first | omega | (simp only [Qn] <;> omega)) only [go_sem]
  by_cases hlt : (i : Int) < (A.length : Int)
  · rw [decide_eq_true hlt]
    have cai : h3.cell ida (offa + i) = some (wsa.getD i .undef) := by rw [f3.cell (hida (by omega))]; exact ca i (by omega)
    have cbi : h3.cell idb (offb + i) = some (wsb.getD i .undef) := by rw [f3.cell (hidb (by omega))]; exact cb i (by omega)
    simp (disch := first | omega | (simp only [Qn] <;> omega)) only [go_sem, sa.ixa, sb.ixa, cai, cbi]
    refine (hf h3 f3 i (by omega) _ _ ((row_at alla (i := i) (by omega)).mono f3) ((row_at allb (i := i) (by omega)).mono f3)).mono ?_
    rintro w h6 ⟨o6, f6⟩
    obtain ⟨g3, l3, n3⟩ := R3.get
    have g6 := (f6.get h.next n3).trans g3
    have hw := SV.what o6.sv
    have hst := fun hh => stV_one hw.1 hw.2.1 hh h.next i
    have hput := putO_one (vs := ws) (off := i) (by omega) h6 h.next w
    simp (disch := first | omega | (simp only [Qn] <;> omega)) only [go_sem, hst, g6, hput]
    rw [show (i : Int) + 1 = ((i + 1 : Nat) : Int) from by omega]
    refine ⟨A.length - (i + 1), by omega, i + 1, ws.set i w, ex_junk rfl, by omega, ?_, ?_, rfl⟩
    · rw [← upto_succ (by omega)]
      exact R3.put rfl (by rw [H.next_set]; exact f6.next) (fun k hk hkR => by rw [H.get_set_ne _ hkR]; exact f6.get k hk) (H.get_set_same ..) (o6.set n3 _).sv (Frs.own o6)
    · exact (f3.trans f6).set (Nat.le_refl _) _
  · rw [decide_eq_false hlt]
    obtain rfl : i = A.length := by omega
    simp (disch := first | omega | (simp only [Qn] <;> omega)) only [go_sem]
    rw [upto_all] at R3
    exact ⟨ws, R3, f3⟩
end Go.Proofs.Ytonhijbeddcmpaa

/- Layer 4: Add. -/
namespace Go.Proofs.Ytonhijbeddcmpaa
open Go Go.Ay
set_option maxRecDepth 100000
theorem add1_ok (bx : Nat) (p : Int) (ua x y : V) (X Y : List Int) (h : H) (hg : h.get bx = some (.cells false [.int .i64 p, ua])) (hbx : bx < h.next) (hp : 0 < p ∧ p < 10000) (hx : SI h x X) (hy : SI h y Y) (hl : X.length ≤ Y.length) (hl2 : X.length < 1000000)
    (hX : ∀ j, j < X.length → 0 ≤ X.getD j 0 ∧ X.getD j 0 < p) (hY : ∀ j, j < X.length → 0 ≤ Y.getD j 0 ∧ Y.getD j 0 < p) :
    callP T (.fn 68 [] [.ptr bx 0]) [x, y] h (fun v h'' => Own h'' v 1 (ints (List.zipWith (fun a b => (a + 1 * b) % p) X Y)) h.next ∧ Fr h h'') := by
  show Ev T n_matrix_Add_1 [x, y, .ptr bx 0] h _
  refine Ev_of t_matrix_Add_1 rfl ?_
  have c0 : h.cell bx 0 = some (.int .i64 p) := by rw [H.cell_of hg]; rfl
  simp (disch := first | omega | (simp only [Qn] <;> omega)) only [go_sem, c_matrix_Add_1, initV_eq, c0]
  refine (plus_ok p 1 h).mono ?_
  rintro w hk ⟨ix, ip, rfl, cx, cp, lx, lp, fk⟩
  simp (disch := first | omega | (simp only [Qn] <;> omega)) only [go_sem]
  refine (zip_ok x y _ X Y (fun a b => (a + 1 * b) % p) hk (hx.mono fk) (hy.mono fk) hl hl2 fun h' f' j hj => ?_).mono ?_
  · have a := hX j hj
    have b := hY j hj
    exact plus1_ok ix ip p 1 _ _ h' (by rw [f'.cell lx.2]; exact cx) (by rw [f'.cell lp.2]; exact cp) (by omega) (by omega) (by omega) (by omega)
  · rintro w h6 ⟨o6, f6⟩
    simp (disch := first | omega | (simp only [Qn] <;> omega)) only [go_sem]
    exact ⟨o6.le fk.next, fk.trans f6⟩
def AddF (a b : Mat) : Mat × Int :=
  if fitF a b ≠ 0 then ((0, []), fitF a b) else if a.2.length ≠ b.2.length ∨ (a.2.getD 0 []).length ≠ (b.2.getD 0 []).length then ((0, []), 10)
  else ((a.1, mkR a.2.length (a.2.getD 0 []).length (fun i k => (ent a.2 i k + 1 * ent b.2 i k) % a.1)), 0)
set_option maxHeartbeats 8000000 in
theorem Add_ok (va vb : V) (a b : Mat) (h : H) (ha : MatV h va a) (hb : MatV h vb b) (la : (a.2.length : Int) ≤ 2 ^ 63 - 1) (lb : (b.2.length : Int) ≤ 2 ^ 63 - 1) :
    Ev T n_matrix_Add [va, vb] h (fun v h' => ∃ w, v = .tup [w, .int .i64 (AddF a b).2] ∧ MatO h' w (AddF a b).1 h.next ∧ Fr h h') := by
  obtain ⟨ua, rfl, hua⟩ := ha
  obtain ⟨ub, rfl, hub⟩ := hb
  refine Ev_of t_matrix_Add rfl ?_
  have wa := SV.what hua.choose_spec.1
  have wb := SV.what hub.choose_spec.1
  simp (disch := first | omega | (simp only [Qn] <;> omega)) only [go_sem, c_matrix_Add, initV_eq, boxV_agg2 h (v := .int .i64 a.1) rfl wa.2.1]
  have hfx : Fr h (h.new (.cells false [.int .i64 a.1, ua])) := (Fr.refl h).new _
  have hgx : (h.new (.cells false [.int .i64 a.1, ua])).get h.next = some (.cells false [.int .i64 a.1, ua]) := H.get_new_same ..
  have hnx : (h.new (.cells false [.int .i64 a.1, ua])).next = h.next + 1 := H.next_new ..
  generalize h.new (.cells false [.int .i64 a.1, ua]) = hx at *
  simp (disch := first | omega | (simp only [Qn] <;> omega)) only [go_sem, boxV_agg2 hx (v := .int .i64 b.1) rfl wb.2.1]
  have hfy : Fr hx (hx.new (.cells false [.int .i64 b.1, ub])) := (Fr.refl hx).new _
  have hgy : (hx.new (.cells false [.int .i64 b.1, ub])).get hx.next = some (.cells false [.int .i64 b.1, ub]) := H.get_new_same ..
  have hny : (hx.new (.cells false [.int .i64 b.1, ub])).next = hx.next + 1 := H.next_new ..
  generalize hx.new (.cells false [.int .i64 b.1, ub]) = hy at *
  have hfz : Fr hy (hy.new (.cells false [.int .i64 0, .nils])) := (Fr.refl hy).new _
  have hgz : (hy.new (.cells false [.int .i64 0, .nils])).get hy.next = some (.cells false [.int .i64 0, .nils]) := H.get_new_same ..
  have hnz : (hy.new (.cells false [.int .i64 0, .nils])).next = hy.next + 1 := H.next_new ..
  generalize hy.new (.cells false [.int .i64 0, .nils]) = hz at *
  have F := (hfx.trans hfy).trans hfz
  have gx := (hfz.get h.next (by omega)).trans ((hfy.get h.next (by omega)).trans hgx)
  have gy := (hfz.get hx.next (by omega)).trans hgy
  have rx := row_two gx
  have ry := row_two gy
  simp (disch := first | omega | (simp only [Qn] <;> omega)) only [go_sem, rx, ry, bls_pair hz (x := .int .i64 a.1) (u := ua) (y := .int .i64 b.1) (w := ub) rfl wa.2.1 rfl wb.2.1]
  have hfw : Fr hz (hz.new (.cells false [.int .i64 a.1, ua, .int .i64 b.1, ub])) := (Fr.refl hz).new _
  have hgw : (hz.new (.cells false [.int .i64 a.1, ua, .int .i64 b.1, ub])).get hz.next = some (.cells false [.int .i64 a.1, ua, .int .i64 b.1, ub]) := H.get_new_same ..
  have hnw : (hz.new (.cells false [.int .i64 a.1, ua, .int .i64 b.1, ub])).next = hz.next + 1 := H.next_new ..
  generalize hz.new (.cells false [.int .i64 a.1, ua, .int .i64 b.1, ub]) = hw at *
  have F2 := F.trans hfw
  refine (fit_ok hz.next ua ub a b hw hgw (by omega) (hua.mono F2) (hub.mono F2) la lb).mono ?_
  rintro v h5 ⟨rfl, f5⟩
  have F3 := F2.trans f5
  have gx5 := (f5.get h.next (by omega)).trans ((hfw.get h.next (by omega)).trans gx)
  have gy5 := (f5.get hx.next (by omega)).trans ((hfw.get hx.next (by omega)).trans gy)
  have gz5 := (f5.get hy.next (by omega)).trans ((hfw.get hy.next (by omega)).trans hgz)
  rw [← hny]
  simp (disch := first | omega | (simp only [Qn] <;> omega)) only [go_sem]
  refine iteW_dec (fun he => ?_) (fun he => ?_)
  · have hst := fun hh => stV_agg2 hh hy.next 0 (v := .int .i64 0) (u := .nils) rfl rfl
    have hrow := row_two (h := h5.set hy.next (some (.cells false [.int .i64 0, .nils]))) (H.get_set_same ..)
    simp (disch := first | omega | (simp only [Qn] <;> omega)) only [go_sem, bldV_nil, hst, gz5, hrow]
    exact ⟨_, by rw [AddF, if_pos he], ⟨.nils, [], by rw [AddF, if_pos he], by rw [AddF, if_pos he]; exact Rws.nils _ _⟩, F3.set (by omega) _⟩
  · have hz0 : fitF a b = 0 := Classical.byContradiction he
    obtain ⟨da, db, hpp⟩ := fit_zero hz0
    have hp := fieldF_range da.p
    have hra1 := da.r1
    have hrb1 := db.r1
    have hra2 := da.r2
    have hrb2 := db.r2
    obtain ⟨ida, offa, wsa, sua, hida, hwla, hcA, halla⟩ := (hua.mono F3).open
    obtain ⟨idb, offb, wsb, sub, hidb, hwlb, hcB, hallb⟩ := (hub.mono F3).open
    have c0 : h5.cell ida offa = some (wsa.getD 0 .undef) := hcA 0 (by omega)
    have d0 : h5.cell idb offb = some (wsb.getD 0 .undef) := hcB 0 (by omega)
    have l0 := (row_at halla (i := 0) (by omega)).lens
    have m0 := (row_at hallb (i := 0) (by omega)).lens
    have fb : Fr h5 (H.mk h5.tr (h5.next + 20)) := (Fr.refl h5).bump (by omega)
    have x1 : h5.cell h.next 1 = some ua := by rw [H.cell_of gx5]; rfl
    have y1 : h5.cell hx.next 1 = some ub := by rw [H.cell_of gy5]; rfl
    have fb3 := F3.trans fb
    have n5 := f5.next
    have gxb := (fb.get h.next (by omega)).trans gx5
    have gyb := (fb.get hx.next (by omega)).trans gy5
    have gzb := (fb.get hy.next (by omega)).trans gz5
    have z1 : (H.mk h5.tr (h5.next + 20)).cell h.next 1 = some ua := x1
    have w1 : (H.mk h5.tr (h5.next + 20)).cell hx.next 1 = some ub := y1
    have z0 : (H.mk h5.tr (h5.next + 20)).cell h.next 0 = some (.int .i64 a.1) := by rw [H.cell_of gxb]; rfl
    have nb : (H.mk h5.tr (h5.next + 20)).next = h5.next + 20 := rfl
    simp (disch := first | omega | (simp only [Qn] <;> omega)) only [go_sem, x1, y1, hua.lens, hub.lens]
    have hst0 := fun hh => stV_agg2 hh hy.next 0 (v := .int .i64 0) (u := .nils) rfl rfl
    have bad : ∀ hh : H, Fr h5 hh → (a.2.length ≠ b.2.length ∨ (a.2.getD 0 []).length ≠ (b.2.getD 0 []).length) → ∃ w, V.tup [.agg [.int .i64 0, .nils], .int .i64 10] = .tup [w, .int .i64 (AddF a b).2] ∧ MatO (hh.set hy.next (some (.cells false [.int .i64 0, .nils]))) w (AddF a b).1 h.next ∧ Fr h (hh.set hy.next (some (.cells false [.int .i64 0, .nils]))) := fun hh f hb => by
      have e : AddF a b = ((0, []), 10) := by rw [AddF, if_neg (by simp [hz0]), if_pos hb]
      rw [e]
      exact ⟨_, rfl, ⟨.nils, [], rfl, Rws.nils _ _⟩, (F3.trans f).set (by omega) _⟩
    by_cases hlen : a.2.length = b.2.length
    · have d1 : decide ((a.2.length : Int) ≠ (b.2.length : Int)) = false := decide_eq_false (by omega)
      simp (disch := first | omega | (simp only [Qn] <;> omega)) only [go_sem, d1, x1, y1, z1, w1, sua.ixa, sub.ixa, c0, d0, l0, m0]
      generalize H.mk h5.tr (h5.next + 20) = hh at *
      refine iteW_dec (fun hl => ?_) (fun hl => ?_)
      · have hrow := row_two (h := hh.set hy.next (some (.cells false [.int .i64 0, .nils]))) (H.get_set_same ..)
        simp (disch := first | omega | (simp only [Qn] <;> omega)) only [go_sem, bldV_nil, hst0, gzb, hrow]
        exact bad _ fb (.inr (by omega))
      · have hc : (a.2.getD 0 []).length = (b.2.getD 0 []).length := by omega
        simp (disch := first | omega | (simp only [Qn] <;> omega)) only [go_sem, z0, z1, w1]
        refine (zipR_ok ua ub _ a.2 b.2 (fun i => mkV (a.2.getD 0 []).length (fun k => (ent a.2 i k + 1 * ent b.2 i k) % a.1)) hh (hua.mono fb3) (hub.mono fb3) (by omega) (by omega) fun h' f' i hi x y sx sy => ?_).mono ?_
        · have ra := da.row i hi
          have rb := db.row i (by omega)
          have e : List.zipWith (fun u w => (u + 1 * w) % a.1) (a.2.getD i []) (b.2.getD i []) = mkV (a.2.getD 0 []).length (fun k => (ent a.2 i k + 1 * ent b.2 i k) % a.1) := by
            have ea : a.2.getD i [] = mkV (a.2.getD 0 []).length (fun k => ent a.2 i k) := mkV_eq ra fun k _ => rfl
            rw [ea, zip_mkV (by rw [rb, hc])]
            rfl
          rw [← e]
          refine add1_ok h.next a.1 ua x y _ _ h' ((f'.get h.next (by omega)).trans gxb) (by have := f'.next; omega) (by omega) sx sy (by rw [ra, rb, hc]; exact Nat.le_refl _) (by rw [ra]; have := da.c2; omega) (fun j hj => ?_) (fun j hj => ?_)
          · exact ⟨da.lo i j hi (by omega), da.hi i j hi (by omega)⟩
          · have := db.hi i j (by omega) (by omega)
            rw [← hpp] at this
            exact ⟨db.lo i j (by omega) (by omega), this⟩
        · rintro w h6 ⟨ws, R6, f6⟩
          have hw6 := SV.what R6.own.sv
          have hbl := bldV_two (z1 := .int .i64 0) (z2 := .nils) (v := .int .i64 a.1) (u := w) rfl rfl hw6.1 hw6.2.1
          have hst2 := fun hh => stV_agg2 hh hy.next 0 (v := .int .i64 a.1) (u := w) rfl hw6.2.1
          have c6 : h6.cell h.next 0 = some (.int .i64 a.1) := by rw [f6.cell (by omega)]; exact z0
          have g6 := (f6.get hy.next (by omega)).trans gzb
          have hrow2 := row_two (h := h6.set hy.next (some (.cells false [.int .i64 a.1, w]))) (H.get_set_same ..)
          simp (disch := first | omega | (simp only [Qn] <;> omega)) only [go_sem, c6, hbl, hst2, g6, hrow2]
          have e : AddF a b = ((a.1, mkR a.2.length (a.2.getD 0 []).length (fun i k => (ent a.2 i k + 1 * ent b.2 i k) % a.1)), 0) := by rw [AddF, if_neg (by simp [hz0]), if_neg (by omega)]
          rw [e]
          exact ⟨_, rfl, ⟨w, ws, rfl, (R6.set (by omega) _).le (by have := fb3.next; omega)⟩, (fb3.trans f6).set (by omega) _⟩
    · have d1 : decide ((a.2.length : Int) ≠ (b.2.length : Int)) = true := decide_eq_true (by omega)
      have hrow := row_two (h := (H.mk h5.tr (h5.next + 20)).set hy.next (some (.cells false [.int .i64 0, .nils]))) (H.get_set_same ..)
      simp (disch := first | omega | (simp only [Qn] <;> omega)) only [go_sem, d1, undef_eq, bldV_nil, hst0, gzb, hrow]
      exact bad _ fb (.inl hlen)
end Go.Proofs.Ytonhijbeddcmpaa

/- Layer 4: rows that grow in their places. -/
namespace Go.Proofs.Ytonhijbeddcmpaa
open Go Go.Ay
set_option maxRecDepth 100000
structure Gow (h : H) (R n : Nat) (ws : List V) (ll : List (List Int)) (lo : Nat) : Prop where
  gR : h.get R = some (.cells false ws)
  lw : ws.length = n
  lr : ll.length = n
  hR : R < lo
  lt : lo ≤ h.next
  own : ∀ k, k < n → Own h (ws.getD k .undef) 1 (ints (ll.getD k [])) lo
  dis : ∀ k k', k < n → k' < n → k ≠ k' → Dis (ws.getD k .undef) (ws.getD k' .undef)
theorem Gow.fr {h h' : H} {R n : Nat} {ws : List V} {ll : List (List Int)} {lo : Nat} (g : Gow h R n ws ll lo) (f : Fr h h') : Gow h' R n ws ll lo :=
  ⟨(f.get R (Nat.lt_of_lt_of_le g.hR g.lt)).trans g.gR, g.lw, g.lr, g.hR, Nat.le_trans g.lt f.next, fun k hk => (g.own k hk).fr f, g.dis⟩
theorem Gow.rws {h : H} {R n : Nat} {ws : List V} {ll : List (List Int)} {lo : Nat} (g : Gow h R n ws ll lo) : Rws h (.sl R 0 n (.kn n)) ws ll R := by
  have hlt := g.lt
  have hR := g.hR
  have getw : ∀ k (hk : k < ws.length), ws.getD k .undef = ws[k] := fun k hk => by rw [List.getD_eq_getElem?_getD, List.getElem?_eq_getElem hk]; rfl
  have getl : ∀ k (hk : k < ll.length), ll.getD k [] = ll[k] := fun k hk => by rw [List.getD_eq_getElem?_getD, List.getElem?_eq_getElem hk]; rfl
  have ow : ∀ w ∈ ws, ∃ r, Own h w 1 (ints r) lo := fun w hw => by
    obtain ⟨k, hk, rfl⟩ := List.mem_iff_getElem.1 hw
    exact ⟨_, by rw [← getw k hk]; exact g.own k (by rw [← g.lw]; exact hk)⟩
  refine ⟨.inr ⟨R, n, .kn n, [], rfl, by rw [g.lw, Nat.mul_one], .inr ⟨rfl, rfl⟩, Nat.le_refl _, by omega, by rw [List.append_nil]; exact g.gR⟩, All2.of_get (by rw [g.lw, g.lr]) fun k h1 h2 => ?_, fun w hw => ?_, fun w hw => ?_⟩
  · rw [← getw k h1, ← getl k h2]
    exact (g.own k (by rw [← g.lw]; exact h1)).sv
  · obtain ⟨r, o⟩ := ow w hw
    intro i o' m c e i2 o2 m2 c2 e2
    cases e
    have := Frs.own o _ _ _ _ e2
    omega
  · obtain ⟨r, o⟩ := ow w hw
    exact (Frs.own o).le (by omega)
theorem Gow.push {h : H} {R n : Nat} {ws : List V} {ll : List (List Int)} {lo : Nat} (g : Gow h R n ws ll lo) {k : Nat} (hk : k < n) {y : V} {x : Int} (hy : SV h y 1 (ints [x])) (hs : (ll.getD k []).length < 1000000) :
    ∃ v h', appP h 1 8 (ws.getD k .undef) y = some (v, h') ∧ v.cells = [v] ∧ v.one = true ∧ Gow (h'.set R (some (.cells false (ws.set k v)))) R n (ws.set k v) (ll.set k (ll.getD k [] ++ [x])) lo ∧ h'.get R = some (.cells false ws) ∧ h.next ≤ h'.next ∧ ∀ id, id < lo → h'.get id = h.get id := by
  have hlt := g.lt
  have hR := g.hR
  have ok := g.own k hk
  obtain ⟨v, h', e, a⟩ := ok.app (bytes := 8) (n := (ll.getD k []).length) (m := 1) (us := ints [x]) (y := y) g.lt hy (by rw [ints_length, Nat.mul_one]) rfl (by omega) (by omega)
  have ev := app_at ok (n := (ll.getD k []).length) (by rw [ints_length, Nat.mul_one]) (m := 1) (by omega) (by omega) hy rfl e
  have hv := SV.what a.own.sv
  have hn := a.next
  have low : ∀ id, id < lo → h'.get id = h.get id := fun id hid => a.get id (by omega) (own_apart ok hid)
  have gw : ∀ j, (ws.set k v).getD j .undef = if k = j then v else ws.getD j .undef := fun j => by
    rw [getD_set]
    split
    · rw [if_pos (by rw [g.lw]; exact hk)]
    · rfl
  have gl : ∀ j, (ll.set k (ll.getD k [] ++ [x])).getD j [] = if k = j then ll.getD k [] ++ [x] else ll.getD j [] := fun j => by
    rw [getD_set]
    split
    · rw [if_pos (by rw [g.lr]; exact hk)]
    · rfl
  have other : ∀ j, j < n → k ≠ j → Own h' (ws.getD j .undef) 1 (ints (ll.getD j [])) lo := fun j hj hne => (g.own j hj).mono hn fun id off m c e1 h1 h2 => a.get id h2 fun id' off' m' c' e2 he => g.dis k j hk hj hne _ _ _ _ e2 _ _ _ _ e1 he.symm
  refine ⟨v, h', e, hv.1, hv.2.1, ⟨H.get_set_same .., by rw [List.length_set]; exact g.lw, by rw [List.length_set]; exact g.lr, g.hR, by rw [H.next_set]; omega, fun j hj => ?_, fun j j' hj hj' hne => ?_⟩, (low R hR).trans g.gR, hn, low⟩
  · rw [gw, gl]
    by_cases hkj : k = j
    · rw [if_pos hkj, if_pos hkj, ints_append]
      exact a.own.set hR _
    · rw [if_neg hkj, if_neg hkj]
      exact (other j hj hkj).set hR _
  · rw [gw, gw]
    have lt : ∀ j, j < n → ∀ id off m c, ws.getD j .undef = .sl id off m c → id < h.next := fun j hj id off m c e1 => by
      rcases g.own j hj with ⟨h1, _⟩ | ⟨id', _, _, _, h1, _, _, _, h2, _⟩
      · rw [h1] at e1; cases e1
      · rw [h1] at e1; cases e1; exact h2
    by_cases hkj : k = j
    · rw [if_pos hkj, if_neg (by omega)]
      intro i o m c e1 i2 o2 m2 c2 e2
      rw [ev] at e1; cases e1
      have := lt j' hj' _ _ _ _ e2
      omega
    · rw [if_neg hkj]
      by_cases hkj' : k = j'
      · rw [if_pos hkj']
        intro i o m c e1 i2 o2 m2 c2 e2
        rw [ev] at e2; cases e2
        have := lt j hj _ _ _ _ e1
        omega
      · rw [if_neg hkj']
        exact g.dis j j' hj hj' hne
end Go.Proofs.Ytonhijbeddcmpaa

/- Layer 4: Turn. -/
namespace Go.Proofs.Ytonhijbeddcmpaa
open Go Go.Ay
set_option maxRecDepth 100000
/-- Cells that are laid at a kept index. -/
def litV (h : H) (a : Nat) (l : List V) (m : Nat) : H := H.mk ((H.mk h.tr a).new (.cells false l)).tr m
theorem litV_eq (h : H) (a : Nat) (l : List V) (m : Nat) : H.mk ((H.mk h.tr a).new (.cells false l)).tr m = litV h a l m := rfl
theorem litV_get (h : H) (a : Nat) (l : List V) (m : Nat) : (litV h a l m).get a = some (.cells false l) := by
  rw [litV, H.get_next']; exact H.get_new_same ..
theorem litV_ne (h : H) {a k : Nat} (l : List V) (m : Nat) (hk : k ≠ a) : (litV h a l m).get k = h.get k := by
  rw [litV, H.get_next', H.get_new_ne _ hk, H.get_next']
theorem litV_next (h : H) (a : Nat) (l : List V) (m : Nat) : (litV h a l m).next = m := rfl
theorem litV_cell (h : H) (a : Nat) (l : List V) (m off : Nat) : (litV h a l m).cell a off = l[off]? := H.cell_of (litV_get ..) off
theorem litV_cell_ne (h : H) {a k : Nat} (l : List V) (m off : Nat) (hk : k ≠ a) : (litV h a l m).cell k off = h.cell k off := by unfold H.cell; rw [litV_ne h l m hk]
attribute [go_sem] litV_get litV_ne litV_next litV_cell litV_cell_ne
theorem eqV_sl (a b c : Nat) (d : Cap) : eqV (.sl a b c d) (.sl a b c d) = true := by simp [eqV]
theorem bls_int (h : H) (x : Int) : blsV h 1 [.int .i64 0] 1 [(0, 1, .int .i64 x)] = some (.sl h.next 0 1 (.kn 1), h.new (.cells false (ints [x]))) := by
  simp [blsV, fillV, zerosV, V.cells, V.one, putAt, ints]
theorem litV_fr {b h : H} (f : Fr b h) {a m : Nat} (ha : b.next ≤ a) (hm : b.next ≤ m) (l : List V) : Fr b (litV h a l m) := ⟨hm, fun k hk => (litV_ne h l m (by omega)).trans (f.get k hk)⟩
def TurnF (a : Mat) : Mat × Int :=
  if checkM a ≠ 0 then ((0, []), checkM a) else ((a.1, mkR (a.2.getD 0 []).length a.2.length (fun k i => ent a.2 i k)), 0)
/-- Rows of which the first k are longer by one. -/
def stair (c i k : Nat) (F : Nat → Nat → Int) : List (List Int) := (List.range c).map fun k' => mkV (if k' < k then i + 1 else i) (F k')
theorem stair_zero (c i : Nat) (F : Nat → Nat → Int) : stair c i 0 F = mkR c i F := by
  rw [stair, mkR]
  exact List.map_congr_left fun k _ => by rw [if_neg (Nat.not_lt_zero k)]
theorem stair_full (c i : Nat) (F : Nat → Nat → Int) : stair c i c F = mkR c (i + 1) F := by
  rw [stair, mkR]
  exact List.map_congr_left fun k hk => by rw [if_pos (List.mem_range.1 hk)]
theorem stair_at {c i k : Nat} (F : Nat → Nat → Int) (hk : k < c) : (stair c i k F).getD k [] = mkV i (F k) := by
  rw [stair, List.getD_eq_getElem?_getD, List.getElem?_map, List.getElem?_range hk]
  simp
theorem mkV_succ (n : Nat) (f : Nat → Int) : mkV (n + 1) f = mkV n f ++ [f n] := by
  rw [mkV, List.range_succ, List.map_append]; rfl
theorem stair_step {c i k : Nat} (F : Nat → Nat → Int) (hk : k < c) : (stair c i k F).set k (mkV i (F k) ++ [F k i]) = stair c i (k + 1) F := by
  refine List.ext_getElem (by simp [stair]) fun j h1 h2 => ?_
  rw [List.getElem_set]
  simp only [stair, List.getElem_map, List.getElem_range]
  by_cases e : k = j
  · subst e; rw [if_pos rfl, if_pos (by omega), mkV_succ]
  · rw [if_neg e]
    by_cases e2 : j < k
    · rw [if_pos e2, if_pos (by omega)]
    · rw [if_neg e2, if_neg (by omega)]
set_option maxHeartbeats 8000000 in
theorem Turn_ok (va : V) (a : Mat) (h : H) (ha : MatV h va a) (la : (a.2.length : Int) ≤ 2 ^ 63 - 1) :
    Ev T n_matrix_Turn [va] h (fun v h' => ∃ w, v = .tup [w, .int .i64 (TurnF a).2] ∧ MatO h' w (TurnF a).1 h.next ∧ Fr h h') := by
  obtain ⟨ua, rfl, hua⟩ := ha
  obtain ⟨p, A⟩ := a
  simp only at hua la
  refine Ev_of t_matrix_Turn rfl ?_
  have wa := SV.what hua.choose_spec.1
  simp (disch := first | omega | (simp only [Qn] <;> omega)) only [go_sem, c_matrix_Turn, initV_eq, boxV_agg2 h (v := .int .i64 p) rfl wa.2.1]
  have hfx : Fr h (h.new (.cells false [.int .i64 p, ua])) := (Fr.refl h).new _
  have hgx : (h.new (.cells false [.int .i64 p, ua])).get h.next = some (.cells false [.int .i64 p, ua]) := H.get_new_same ..
  have hnx : (h.new (.cells false [.int .i64 p, ua])).next = h.next + 1 := H.next_new ..
  generalize h.new (.cells false [.int .i64 p, ua]) = hx at *
  have hfy : Fr hx (hx.new (.cells false [.int .i64 0, .nils])) := (Fr.refl hx).new _
  have hgy : (hx.new (.cells false [.int .i64 0, .nils])).get hx.next = some (.cells false [.int .i64 0, .nils]) := H.get_new_same ..
  have hny : (hx.new (.cells false [.int .i64 0, .nils])).next = hx.next + 1 := H.next_new ..
  generalize hx.new (.cells false [.int .i64 0, .nils]) = hy at *
  have F := hfx.trans hfy
  have gx := (hfy.get h.next (by omega)).trans hgx
  have rx := row_two gx
  simp (disch := first | omega | (simp only [Qn] <;> omega)) only [go_sem, rx]
  refine (check_ok _ (p, A) hy ⟨ua, rfl, hua.mono F⟩ la).mono ?_
  rintro v h5 ⟨rfl, f5⟩
  have F5 := F.trans f5
  have gx5 := (f5.get h.next (by omega)).trans gx
  have gy5 := (f5.get hx.next (by omega)).trans hgy
  have n5 := f5.next
  simp (disch := first | omega | (simp only [Qn] <;> omega)) only [go_sem]
  refine iteW_dec (fun he => ?_) (fun he => ?_)
  · have hst := fun hh => stV_agg2 hh hx.next 0 (v := .int .i64 0) (u := .nils) rfl rfl
    have hrow := row_two (h := h5.set hx.next (some (.cells false [.int .i64 0, .nils]))) (H.get_set_same ..)
    rw [← hnx]
    simp (disch := first | omega | (simp only [Qn] <;> omega)) only [go_sem, bldV_nil, hst, gy5, hrow]
    have e : TurnF (p, A) = ((0, []), checkM (p, A)) := by rw [TurnF, if_pos he]
    rw [e]
    exact ⟨_, rfl, ⟨.nils, [], rfl, Rws.nils _ _⟩, F5.set (by omega) _⟩
  · have hz : checkM (p, A) = 0 := Classical.byContradiction he
    have da := check_vd hz
    have hp := fieldF_range da.p
    have hr1 := da.r1
    have hr2 := da.r2
    simp only at hp hr1 hr2
    have x0 : h5.cell h.next 0 = some (.int .i64 p) := by rw [H.cell_of gx5]; rfl
    have x1 : h5.cell h.next 1 = some ua := by rw [H.cell_of gx5]; rfl
    have hua5 := hua.mono F5
    obtain ⟨c, hc⟩ : ∃ c, (A.getD 0 []).length = c := ⟨_, rfl⟩
    simp only [hc] at da
    have hc1 := da.c1
    have hc2 := da.c2
    obtain ⟨id, off, wsA, su, hid, hwl, hcA, hall⟩ := hua5.open
    have c0 : h5.cell id off = some (wsA.getD 0 .undef) := hcA 0 (by omega)
    have l0 := (row_at hall (i := 0) (by omega)).lens
    rw [hc] at l0
    have ez : zerosV [V.nils] c = List.replicate c .nils := by
      rw [zerosV]
      refine List.ext_getElem (by simp) fun i h1 h2 => ?_
      simp [Nat.mod_one]
    have emk : mksV (H.mk h5.tr (h5.next + 7)) 1 24 [.nils] (.int .i64 (c : Int)) (.int .i64 (c : Int)) = some (.sl (h5.next + 7) 0 c (.kn c), (H.mk h5.tr (h5.next + 7)).new (.cells false (List.replicate c .nils))) := by
      rw [mksV_int (by omega) (Int.le_refl _) (by omega) (by omega), Int.toNat_natCast, Nat.mul_one, ez]
    have hbl := bldV_two (z1 := .int .i64 0) (z2 := .nils) (v := .int .i64 p) (u := .sl (h5.next + 7) 0 c (.kn c)) rfl rfl rfl rfl
    have hst := fun hh id => stV_agg2 hh id 0 (v := .int .i64 p) (u := .sl (h5.next + 7) 0 c (.kn c)) rfl rfl
    simp (disch := first | omega | (simp only [Qn] <;> omega)) only [go_sem, x0, x1, su.ixa, c0, l0, emk, litV_eq, hbl, hst]
    obtain ⟨R, hR⟩ : ∃ R, h5.next + 7 = R := ⟨_, rfl⟩
    obtain ⟨O, hO⟩ : ∃ O, h5.next + 9 = O := ⟨_, rfl⟩
    rw [hR, hO]
    have fB : Fr h5 ((litV (litV h5 R (List.replicate c .nils) (h5.next + 11)) O [.int .i64 0, .nils] (h5.next + 11)).set O (some (.cells false [.int .i64 p, .sl R 0 c (.kn c)]))) := (litV_fr (litV_fr (Fr.refl h5) (by omega) (by omega) _) (by omega) (by omega) _).set (by omega) _
    have gR : ((litV (litV h5 R (List.replicate c .nils) (h5.next + 11)) O [.int .i64 0, .nils] (h5.next + 11)).set O (some (.cells false [.int .i64 p, .sl R 0 c (.kn c)]))).get R = some (.cells false (List.replicate c .nils)) := by simp (disch := first | omega | (simp only [Qn] <;> omega)) only [go_sem]
    have gO : ((litV (litV h5 R (List.replicate c .nils) (h5.next + 11)) O [.int .i64 0, .nils] (h5.next + 11)).set O (some (.cells false [.int .i64 p, .sl R 0 c (.kn c)]))).get O = some (.cells false [.int .i64 p, .sl R 0 c (.kn c)]) := by simp (disch := first | omega | (simp only [Qn] <;> omega)) only [go_sem]
    have nB : ((litV (litV h5 R (List.replicate c .nils) (h5.next + 11)) O [.int .i64 0, .nils] (h5.next + 11)).set O (some (.cells false [.int .i64 p, .sl R 0 c (.kn c)]))).next = h5.next + 11 := by simp (disch := first | omega | (simp only [Qn] <;> omega)) only [go_sem]
    generalize (litV (litV h5 R (List.replicate c .nils) (h5.next + 11)) O [.int .i64 0, .nils] (h5.next + 11)).set O (some (.cells false [.int .i64 p, .sl R 0 c (.kn c)])) = hB at *
    simp (disch := first | omega | (simp only [Qn] <;> omega)) only [go_sem, x1, hua.lens]
    obtain ⟨F0, hF0⟩ : ∃ F : Nat → Nat → Int, F = fun k i => ent A i k := ⟨_, rfl⟩
    obtain ⟨lo, hlo⟩ : ∃ lo, h5.next + 11 = lo := ⟨_, rfl⟩
    rw [hlo] at nB
    have G0 : Gow hB R c (List.replicate c .nils) (mkR c 0 F0) lo := by
      refine ⟨gR, List.length_replicate .., mkR_len .., by omega, by omega, fun k hk => ?_, fun k k' hk hk' hne => ?_⟩
      · rw [mkR_row _ hk, List.getD_eq_getElem?_getD, List.getElem?_replicate, if_pos hk]
        exact Own.nils _ _ _
      · rw [List.getD_eq_getElem?_getD, List.getElem?_replicate, if_pos hk]
        intro _ _ _ _ e; cases e
    refine Wp_loop (fun k' vars h3 => ∃ (i : Nat) (ws : List V), (∃ g : Nat → V, vars = [g 0, .ptr h.next 0, .ptr (h.next + 1) 0, g 3, g 4, .ptr O 0, g 6, g 7, g 8, g 9, ua, .int .i64 (A.length : Int), .int .i64 (i : Int), g 13, g 14, g 15, g 16, g 17]) ∧ i ≤ A.length ∧ Gow h3 R c ws (mkR c i F0) lo ∧ h3.get O = some (.cells false [.int .i64 p, .sl R 0 c (.kn c)]) ∧ Fr h5 h3 ∧ k' = A.length - i) A.length
      ⟨0, _, ex_junk rfl, Nat.zero_le _, G0, gO, fB, rfl⟩ ?_
    clear G0 gO fB emk hbl hst ez gR
    rintro k' vars h3 ⟨i, ws, ⟨g, rfl⟩, hi, G3, g3, f3, rfl⟩
    simp (disch := first | omega | (simp only [Qn] <;> omega)) only [go_sem]
    by_cases hlt : (i : Int) < (A.length : Int)
    · rw [decide_eq_true hlt]
      have ci : h3.cell id (off + i) = some (wsA.getD i .undef) := by rw [f3.cell (hid (by omega))]; exact hcA i (by omega)
      have hrow := da.row i (show i < A.length by omega)
      simp only at hrow
      have ri0 := row_at hall (i := i) (by omega)
      have lr := ri0.lens
      rw [hrow] at lr
      obtain ⟨idr, offr, sr, hidr, hcr⟩ := ri0.open
      rw [hrow] at sr hidr hcr
      simp (disch := first | omega | (simp only [Qn] <;> omega)) only [go_sem, su.ixa, ci, lr]
      rw [← stair_zero] at G3
      refine Wp_loop (fun k' vars h3 => ∃ (k : Nat) (ws : List V), (∃ g : Nat → V, vars = [g 0, .ptr h.next 0, .ptr (h.next + 1) 0, g 3, g 4, .ptr O 0, g 6, g 7, g 8, g 9, ua, .int .i64 (A.length : Int), .int .i64 (i : Int), g 13, wsA.getD i .undef, .int .i64 (c : Int), .int .i64 (k : Int), g 17]) ∧ k ≤ c ∧ Gow h3 R c ws (stair c i k F0) lo ∧ h3.get O = some (.cells false [.int .i64 p, .sl R 0 c (.kn c)]) ∧ Fr h5 h3 ∧ k' = c - k) c
        ⟨0, _, ex_junk rfl, Nat.zero_le _, G3, g3, f3, rfl⟩ ?_
      clear G3 g3 f3 ci g
      rintro k' vars h3 ⟨k, ws, ⟨g, rfl⟩, hk, G3, g3, f3, rfl⟩
      simp (disch := first | omega | (simp only [Qn] <;> omega)) only [go_sem]
      by_cases hlt2 : (k : Int) < (c : Int)
      · rw [decide_eq_true hlt2]
        have ck : h3.cell idr (offr + k) = some (.int .i64 ((A.getD i []).getD k 0)) := by rw [f3.cell (hidr (by omega))]; exact hcr k (by omega)
        have cO : h3.cell O 1 = some (.sl R 0 c (.kn c)) := by rw [H.cell_of g3]; rfl
        have cR : h3.cell R k = some (ws.getD k .undef) := by
          rw [H.cell_of G3.gR, List.getD_eq_getElem?_getD, List.getElem?_eq_getElem (by rw [G3.lw]; omega)]; rfl
        have n3 := G3.lt
        simp (disch := first | omega | (simp only [Qn] <;> omega)) only [go_sem, sr.ixa, ck, cO, cR, bls_int, litV_eq]
        have fl := litV_fr (Fr.refl h3) (a := h3.next + 9) (m := h3.next + 13) (by omega) (by omega) (ints [(A.getD i []).getD k 0])
        have hy : SV (litV h3 (h3.next + 9) (ints [(A.getD i []).getD k 0]) (h3.next + 13)) (.sl (h3.next + 9) 0 1 (.kn 1)) 1 (ints [(A.getD i []).getD k 0]) := SV.all (by rfl) (by rw [litV_next]; omega) (litV_get ..) _
        have hll := stair_at (i := i) F0 (show k < c by omega)
        obtain ⟨v, h6, e6, vc, v1, G6, gR6, n6, low6⟩ := (G3.fr fl).push (show k < c by omega) hy (by rw [hll, mkV_len]; omega)
        have hput := putO_one (vs := ws) (off := k) (by rw [G3.lw]; omega) h6 R v
        have hst1 := fun hh => stV_one vc v1 hh R k
        have cO6 : h6.cell O 1 = some (.sl R 0 c (.kn c)) := by
          rw [H.cell_of ((low6 O (by omega)).trans ((fl.get O (by omega)).trans g3))]; rfl
        simp (disch := first | omega | (simp only [Qn] <;> omega)) only [go_sem, e6, cO6, eqV_sl, hst1, gR6, hput]
        rw [show (k : Int) + 1 = ((k + 1 : Nat) : Int) from by omega]
        refine ⟨c - (k + 1), by omega, k + 1, ws.set k v, ex_junk rfl, by omega, ?_, ?_, ?_, rfl⟩
        · rw [hll, show (A.getD i []).getD k 0 = F0 k i by rw [hF0]; rfl, stair_step F0 (by omega)] at G6
          exact G6
        · exact (low6 O (by omega)).trans ((fl.get O (by omega)).trans g3)
        · exact ⟨by rw [H.next_set]; have := f3.next; rw [litV_next] at n6; omega, fun id hid => by rw [H.get_set_ne _ (by omega)]; exact (low6 id (by omega)).trans ((fl.get id (by omega)).trans (f3.get id hid))⟩
      · rw [decide_eq_false hlt2]
        obtain rfl : k = c := by omega
        simp (disch := first | omega | (simp only [Qn] <;> omega)) only [go_sem]
        rw [show (i : Int) + 1 = ((i + 1 : Nat) : Int) from by omega]
        rw [stair_full] at G3
        exact ⟨A.length - (i + 1), by omega, i + 1, ws, ex_junk rfl, by omega, G3, g3, f3, rfl⟩
    · rw [decide_eq_false hlt]
      obtain rfl : i = A.length := by omega
      have rr := row_two g3
      have gr := (f3.get hx.next (by omega)).trans gy5
      have hst2 := fun hh => stV_agg2 hh hx.next 0 (v := .int .i64 p) (u := .sl R 0 c (.kn c)) rfl rfl
      have hrow := row_two (h := h3.set hx.next (some (.cells false [.int .i64 p, .sl R 0 c (.kn c)]))) (H.get_set_same ..)
      rw [← hnx]
      simp (disch := first | omega | (simp only [Qn] <;> omega)) only [go_sem, rr, hst2, gr, hrow]
      have RS := G3.rws.set (x := hx.next) (by omega) (some (.cells false [.int .i64 p, .sl R 0 c (.kn c)]))
      have e : TurnF (p, A) = ((p, mkR c A.length F0), 0) := by rw [TurnF, if_neg (by simp [hz]), ← hc, hF0]
      rw [e]
      exact ⟨_, rfl, ⟨_, ws, rfl, RS.le (by omega)⟩, (F5.trans f3).set (by omega) _⟩
end Go.Proofs.Ytonhijbeddcmpaa

/- Layer 4: Same, the laws' helpers; the reference's primes. -/
namespace Go.Proofs.Ytonhijbeddcmpaa
open Go Go.Ay
set_option maxRecDepth 100000
theorem lists_ext {a b : List (List Int)} (hl : a.length = b.length) (h : ∀ j, j < a.length → a.getD j [] = b.getD j []) : a = b := by
  apply List.ext_getElem hl
  intro i h1 h2
  have := h i h1
  rw [List.getD_eq_getElem?_getD, List.getElem?_eq_getElem h1, List.getD_eq_getElem?_getD, List.getElem?_eq_getElem h2] at this
  exact this
theorem sameLists_ok (va vb : V) (a b : List (List Int)) (h : H) (ha : SR h va a) (hb : SR h vb b) (hla : a.length < 1000000) (hlb : b.length < 1000000) (hra : ∀ i, i < a.length → (a.getD i []).length < 1000000) (hrb : ∀ i, i < b.length → (b.getD i []).length < 1000000) :
    Ev T n_kit_SameLists_int [va, vb] h (fun v h' => v = .bool (decide (a = b)) ∧ Fr h h') := by
  refine Ev_of t_kit_SameLists_int rfl ?_
  obtain ⟨id, off, ws, hsl, hid, hwl, hc, hall⟩ := ha.open
  obtain ⟨id2, off2, ws2, hsl2, hid2, hwl2, hc2, hall2⟩ := hb.open
  simp (disch := first | omega | (simp only [Qn] <;> omega)) only [go_sem, c_kit_SameLists_int, initV_eq, ha.lens, hb.lens]
  refine iteW_dec (fun hne => ?_) (fun heq => ?_)
  · simp (disch := first | omega | (simp only [Qn] <;> omega)) only [go_sem]
    have : a ≠ b := fun e => hne (by rw [e])
    exact ⟨by rw [decide_eq_false this], Fr.refl h⟩
  have heq : a.length = b.length := by omega
  simp (disch := first | omega | (simp only [Qn] <;> omega)) only [go_sem]
  refine Wp_loop (fun k' vars h2 => ∃ (i : Nat), (∃ g : Nat → V, vars = [va, vb, g 2, .int .i64 (i : Int), g 4, g 5, g 6]) ∧ i ≤ a.length ∧ (∀ j, j < i → a.getD j [] = b.getD j []) ∧ Fr h h2 ∧ k' = a.length - i) a.length
    ⟨0, ex_junk rfl, Nat.zero_le _, fun j hj => by omega, Fr.refl h, rfl⟩ ?_
  rintro k' vars h2 ⟨i, ⟨g, rfl⟩, hi, hpre, hf2, rfl⟩
  simp (disch := first | omega | (simp only [Qn] <;> omega)) only [go_sem, ha.lens]
  by_cases hlt : (i : Int) < (a.length : Int)
  · rw [decide_eq_true hlt]
    have hc' := cells_fr hf2 hid hc i (by omega)
    have hc2' := cells_fr hf2 hid2 hc2 i (by omega)
    simp (disch := first | omega | (simp only [Qn] <;> omega)) only [go_sem, hsl.ixa, hsl2.ixa, hc', hc2']
    have fb := hf2.bump (n := h2.next + 10) (by omega)
    have r1 := (row_at hall (i := i) (by omega)).mono fb
    have r2 := (row_at hall2 (i := i) (by omega)).mono fb
    have hc3 : (H.mk h2.tr (h2.next + 10)).cell id (off + i) = some (ws.getD i .undef) := hc'
    have hc4 : (H.mk h2.tr (h2.next + 10)).cell id2 (off2 + i) = some (ws2.getD i .undef) := hc2'
    generalize H.mk h2.tr (h2.next + 10) = hh at *
    refine (same_ok _ _ _ _ hh r1 r2 (hra i (by omega)) (hrb i (by omega))).mono ?_
    rintro v h3 ⟨rfl, f3⟩
    have f4 := fb.trans f3
    by_cases e : a.getD i [] = b.getD i []
    · rw [decide_eq_true e]
      simp (disch := first | omega | (simp only [Qn] <;> omega)) only [go_sem]
      rw [show (i : Int) + 1 = ((i + 1 : Nat) : Int) from by omega]
      refine ⟨a.length - (i + 1), by omega, i + 1, ex_junk rfl, by omega, fun j hj => ?_, f4, rfl⟩
      by_cases h3 : j = i
      · rw [h3]; exact e
      · exact hpre j (by omega)
    · rw [decide_eq_false e]
      simp (disch := first | omega | (simp only [Qn] <;> omega)) only [go_sem]
      have : a ≠ b := fun e2 => e (by rw [e2])
      exact ⟨by rw [decide_eq_false this], f4⟩
  · rw [decide_eq_false hlt]
    simp (disch := first | omega | (simp only [Qn] <;> omega)) only [go_sem]
    have : a = b := lists_ext heq fun j hj => hpre j (by omega)
    exact ⟨by rw [decide_eq_true this], hf2⟩
/-- A matrix of moderate size. -/
def Fit (a : Mat) : Prop := a.2.length < 1000000 ∧ ∀ i, i < a.2.length → (a.2.getD i []).length < 1000000
theorem Same_ok (va vb : V) (a b : Mat) (h : H) (ha : MatV h va a) (hb : MatV h vb b) (fa : Fit a) (fb : Fit b) :
    Ev T n_ref04_Same [va, vb] h (fun v h' => v = .bool (decide (a = b)) ∧ Fr h h') := by
  obtain ⟨ua, rfl, hua⟩ := ha
  obtain ⟨ub, rfl, hub⟩ := hb
  refine Ev_of t_ref04_Same rfl ?_
  have wa := SV.what hua.choose_spec.1
  have wb := SV.what hub.choose_spec.1
  simp (disch := first | omega | (simp only [Qn] <;> omega)) only [go_sem, c_ref04_Same, initV_eq, boxV_agg2 h (v := .int .i64 a.1) rfl wa.2.1]
  have hfx : Fr h (h.new (.cells false [.int .i64 a.1, ua])) := (Fr.refl h).new _
  have hgx : (h.new (.cells false [.int .i64 a.1, ua])).get h.next = some (.cells false [.int .i64 a.1, ua]) := H.get_new_same ..
  have hnx : (h.new (.cells false [.int .i64 a.1, ua])).next = h.next + 1 := H.next_new ..
  generalize h.new (.cells false [.int .i64 a.1, ua]) = hx at *
  have x0 : hx.cell h.next 0 = some (.int .i64 a.1) := by rw [H.cell_of hgx]; rfl
  have x1 : hx.cell h.next 1 = some ua := by rw [H.cell_of hgx]; rfl
  simp (disch := first | omega | (simp only [Qn] <;> omega)) only [go_sem, boxV_agg2 hx (v := .int .i64 b.1) rfl wb.2.1, x0, x1]
  have hfy : Fr hx (hx.new (.cells false [.int .i64 b.1, ub])) := (Fr.refl hx).new _
  have hgy : (hx.new (.cells false [.int .i64 b.1, ub])).get hx.next = some (.cells false [.int .i64 b.1, ub]) := H.get_new_same ..
  have hny : (hx.new (.cells false [.int .i64 b.1, ub])).next = hx.next + 1 := H.next_new ..
  generalize hx.new (.cells false [.int .i64 b.1, ub]) = hy at *
  have F := hfx.trans hfy
  have y1 : hy.cell hx.next 1 = some ub := by rw [H.cell_of hgy]; rfl
  have z1 : hy.cell h.next 1 = some ua := by rw [hfy.cell (by omega)]; exact x1
  by_cases e : a.1 = b.1
  · rw [decide_eq_true e]
    simp (disch := first | omega | (simp only [Qn] <;> omega)) only [go_sem, z1, y1]
    refine (sameLists_ok _ _ _ _ hy (hua.mono F) (hub.mono F) fa.1 fb.1 fa.2 fb.2).mono ?_
    rintro v h3 ⟨rfl, f3⟩
    simp (disch := first | omega | (simp only [Qn] <;> omega)) only [go_sem]
    refine ⟨?_, F.trans f3⟩
    congr 1
    rw [decide_eq_decide]
    exact ⟨fun h => Prod.ext e h, fun h => by rw [h]⟩
  · rw [decide_eq_false e]
    simp (disch := first | omega | (simp only [Qn] <;> omega)) only [go_sem, undef_eq]
    refine ⟨?_, F⟩
    rw [decide_eq_false fun h => e (by rw [h])]
end Go.Proofs.Ytonhijbeddcmpaa

/- Layer 4: matrices that are read, and matrices that are filled; the reference's blank, one, One. -/
namespace Go.Proofs.Ytonhijbeddcmpaa
open Go Go.Ay
set_option maxRecDepth 100000
/-- What a walk wants to know of a matrix that it reads. -/
structure Rd (h : H) (u : V) (A : List (List Int)) (c id off : Nat) (ws : List V) (ρ o : Nat → Nat) : Prop where
  sl : Sl u 1 A.length id off
  lt : ∀ i, i < A.length → id < h.next
  at_ : ∀ i, i < A.length → h.cell id (off + i) = some (ws.getD i .undef)
  row : ∀ i, i < A.length → SI h (ws.getD i .undef) (A.getD i [])
  rsl : ∀ i, i < A.length → Sl (ws.getD i .undef) 1 c (ρ i) (o i)
  rlt : ∀ i k, i < A.length → k < c → ρ i < h.next
  ent : ∀ i k, i < A.length → k < c → h.cell (ρ i) (o i + k) = some (.int .i64 (ent A i k))
theorem SR.rd {h : H} {u : V} {A : List (List Int)} (s : SR h u A) {c : Nat} (hc : ∀ i, i < A.length → (A.getD i []).length = c) : ∃ id off ws ρ o, Rd h u A c id off ws ρ o := by
  obtain ⟨id, off, ws, sl, hid, hwl, hcA, hall⟩ := s.open
  have key : ∀ i, ∃ r : Nat × Nat, i < A.length → Sl (ws.getD i .undef) 1 c r.1 r.2 ∧ (0 < c → r.1 < h.next) ∧ ∀ k : Nat, k < c → h.cell r.1 (r.2 + k) = some (.int .i64 ((A.getD i []).getD k 0)) := fun i => by
    by_cases hi : i < A.length
    · obtain ⟨x, y, h1, h2, h3⟩ := (row_at hall hi).open
      rw [hc i hi] at h1 h2 h3
      exact ⟨(x, y), fun _ => ⟨h1, h2, h3⟩⟩
    · exact ⟨(0, 0), fun h => absurd h hi⟩
  exact ⟨id, off, ws, fun i => (key i).choose.1, fun i => (key i).choose.2, sl, fun i hi => hid (by omega), hcA, fun i hi => row_at hall hi, fun i hi => ((key i).choose_spec hi).1, fun i k hi hk => ((key i).choose_spec hi).2.1 (by omega), fun i k hi hk => ((key i).choose_spec hi).2.2 k hk⟩
theorem Rd.fr {h h' : H} {u : V} {A : List (List Int)} {c id off : Nat} {ws : List V} {ρ o : Nat → Nat} (r : Rd h u A c id off ws ρ o) (f : Fr h h') : Rd h' u A c id off ws ρ o :=
  ⟨r.sl, fun i hi => Nat.lt_of_lt_of_le (r.lt i hi) f.next, fun i hi => by rw [f.cell (r.lt i hi)]; exact r.at_ i hi, fun i hi => (r.row i hi).mono f, r.rsl, fun i k hi hk => Nat.lt_of_lt_of_le (r.rlt i k hi hk) f.next, fun i k hi hk => by rw [f.cell (r.rlt i k hi hk)]; exact r.ent i k hi hk⟩
theorem Rd.lens {h : H} {u : V} {A : List (List Int)} {c id off : Nat} {ws : List V} {ρ o : Nat → Nat} (r : Rd h u A c id off ws ρ o) {i : Nat} (hi : i < A.length) : lensV (ws.getD i .undef) = some (.int .i64 (c : Int)) := (r.rsl i hi).lens
/-- A matrix that the call fills. -/
structure Grd (h : H) (R n c : Nat) (ρ : Nat → Nat) (f : Nat → Nat → Int) (lo : Nat) : Prop where
  gR : h.get R = some (.cells false ((List.range n).map fun i => V.sl (ρ i) 0 c (.kn c)))
  row : ∀ i, i < n → h.get (ρ i) = some (.cells false (ints (mkV c (f i))))
  inj : ∀ i j, i < n → j < n → ρ i = ρ j → i = j
  hR : lo ≤ R
  ltR : R < h.next
  hρ : ∀ i, i < n → lo ≤ ρ i
  ltρ : ∀ i, i < n → ρ i < h.next
  ne : ∀ i, i < n → ρ i ≠ R
theorem Grd.fr {h h' : H} {R n c : Nat} {ρ : Nat → Nat} {f : Nat → Nat → Int} {lo : Nat} (g : Grd h R n c ρ f lo) (F : Fr h h') : Grd h' R n c ρ f lo :=
  ⟨(F.get R g.ltR).trans g.gR, fun i hi => (F.get _ (g.ltρ i hi)).trans (g.row i hi), g.inj, g.hR, Nat.lt_of_lt_of_le g.ltR F.next, g.hρ, fun i hi => Nat.lt_of_lt_of_le (g.ltρ i hi) F.next, g.ne⟩
theorem Grd.le {h : H} {R n c : Nat} {ρ : Nat → Nat} {f : Nat → Nat → Int} {lo lo' : Nat} (g : Grd h R n c ρ f lo) (hl : lo' ≤ lo) : Grd h R n c ρ f lo' :=
  ⟨g.gR, g.row, g.inj, Nat.le_trans hl g.hR, g.ltR, fun i hi => Nat.le_trans hl (g.hρ i hi), g.ltρ, g.ne⟩
/-- A cell that lies below. -/
theorem Grd.set {h : H} {R n c : Nat} {ρ : Nat → Nat} {f : Nat → Nat → Int} {lo x : Nat} (g : Grd h R n c ρ f lo) (hx : x < lo) (o : Option Ob) : Grd (h.set x o) R n c ρ f lo :=
  ⟨by rw [H.get_set_ne _ (by have := g.hR; omega)]; exact g.gR, fun i hi => by rw [H.get_set_ne _ (by have := g.hρ i hi; omega)]; exact g.row i hi, g.inj, g.hR, g.ltR, g.hρ, g.ltρ, g.ne⟩
theorem Grd.congr {h : H} {R n c : Nat} {ρ : Nat → Nat} {f f' : Nat → Nat → Int} {lo : Nat} (g : Grd h R n c ρ f lo) (e : ∀ i k, i < n → k < c → f i k = f' i k) : Grd h R n c ρ f' lo :=
  ⟨g.gR, fun i hi => by rw [g.row i hi, mkV_congr fun k hk => e i k hi hk], g.inj, g.hR, g.ltR, g.hρ, g.ltρ, g.ne⟩
theorem Grd.cR {h : H} {R n c : Nat} {ρ : Nat → Nat} {f : Nat → Nat → Int} {lo : Nat} (g : Grd h R n c ρ f lo) : ∀ i, i < n → h.cell R i = some (.sl (ρ i) 0 c (.kn c)) := fun i hi => by
  rw [H.cell_of g.gR, List.getElem?_map, List.getElem?_range hi]; rfl
theorem Grd.cρ {h : H} {R n c : Nat} {ρ : Nat → Nat} {f : Nat → Nat → Int} {lo : Nat} (g : Grd h R n c ρ f lo) : ∀ i k, i < n → k < c → h.cell (ρ i) k = some (.int .i64 (f i k)) := fun i k hi hk => by
  rw [H.cell_of (g.row i hi), ints_getD (by rw [mkV_len]; exact hk), mkV_get _ hk]
def upF (f : Nat → Nat → Int) (i k : Nat) (x : Int) : Nat → Nat → Int := fun a b => if a = i ∧ b = k then x else f a b
theorem mkV_set {n : Nat} {f : Nat → Int} {k : Nat} (x : Int) : (mkV n f).set k x = mkV n (fun j => if j = k then x else f j) := by
  refine mkV_eq (by rw [List.length_set, mkV_len]) fun j hj => ?_
  rw [getD_set, mkV_len]
  by_cases e : k = j
  · subst e; rw [if_pos rfl, if_pos hj, if_pos rfl]
  · rw [if_neg e, if_neg (by omega), mkV_get _ hj]
theorem Grd.put {h : H} {R n c : Nat} {ρ : Nat → Nat} {f : Nat → Nat → Int} {lo : Nat} (g : Grd h R n c ρ f lo) {i k : Nat} (hi : i < n) (hk : k < c) (x : Int) :
    putO (h.get (ρ i)) h (ρ i) k [.int .i64 x] = some (h.set (ρ i) (some (.cells false (ints (mkV c (upF f i k x i)))))) ∧ Grd (h.set (ρ i) (some (.cells false (ints (mkV c (upF f i k x i)))))) R n c ρ (upF f i k x) lo := by
  have e : (mkV c (f i)).set k x = mkV c (upF f i k x i) := by
    rw [mkV_set]
    exact mkV_congr fun j _ => by
      simp only [upF, true_and]
  refine ⟨by rw [g.row i hi, putO_ints (by rw [mkV_len]; exact hk), e], ⟨?_, fun j hj => ?_, g.inj, g.hR, g.ltR, g.hρ, g.ltρ, g.ne⟩⟩
  · rw [H.get_set_ne _ (fun e => g.ne i hi e.symm)]; exact g.gR
  · by_cases e : j = i
    · subst e; rw [H.get_set_same]
    · rw [H.get_set_ne _ fun h => e (g.inj j i hj hi h), g.row j hj, mkV_congr fun b _ => ?_]
      simp only [upF]
      rw [if_neg fun h => e h.1]
theorem Grd.rws {h : H} {R n c : Nat} {ρ : Nat → Nat} {f : Nat → Nat → Int} {lo : Nat} (g : Grd h R n c ρ f lo) {cap : Cap} (hcap : cap = .un 1 ∨ cap = .kn n) : Rws h (.sl R 0 n cap) ((List.range n).map fun i => V.sl (ρ i) 0 c (.kn c)) (mkR n c f) lo := by
  refine ⟨.inr ⟨R, n, cap, [], rfl, by simp, ?_, g.hR, g.ltR, by rw [List.append_nil]; exact g.gR⟩, All2.of_get (by simp [mkR]) fun i h1 h2 => ?_, fun w hw => ?_, fun w hw => ?_⟩
  · rcases hcap with h | h
    · exact .inl h
    · exact .inr ⟨h, rfl⟩
  · simp only [List.length_map, List.length_range] at h1
    simp only [List.getElem_map, List.getElem_range, mkR]
    have := SI.own (h := h) (g.ltρ i h1) (g.row i h1) (.kn c)
    rw [mkV_len] at this
    exact this
  · obtain ⟨i, hi, rfl⟩ := List.mem_map.1 hw
    intro _ _ _ _ e1 _ _ _ _ e2
    cases e1; cases e2
    exact fun e => g.ne i (List.mem_range.1 hi) e.symm
  · obtain ⟨i, hi, rfl⟩ := List.mem_map.1 hw
    intro _ _ _ _ e2
    cases e2
    exact g.hρ i (List.mem_range.1 hi)
end Go.Proofs.Ytonhijbeddcmpaa

/- Layer 4: the reference's one, One. -/
namespace Go.Proofs.Ytonhijbeddcmpaa
open Go Go.Ay
set_option maxRecDepth 100000
end Go.Proofs.Ytonhijbeddcmpaa

/- Layer 4: the reference's Check, both. -/
namespace Go.Proofs.Ytonhijbeddcmpaa
open Go Go.Ay
set_option maxRecDepth 100000
end Go.Proofs.Ytonhijbeddcmpaa

/- Layer 4: the reference's mul, Mul. -/
namespace Go.Proofs.Ytonhijbeddcmpaa
open Go Go.Ay
set_option maxRecDepth 100000
theorem mul_bound {x y p : Int} (h0 : 0 ≤ x) (h1 : x < p) (h2 : 0 ≤ y) (h3 : y < p) (hp : p < 10000) : 0 ≤ x * y ∧ x * y < 100000000 := by
  have a := Int.mul_nonneg h0 h2
  have b := Int.mul_le_mul (show x ≤ 9999 by omega) (show y ≤ 9999 by omega) h2 (by omega)
  omega
end Go.Proofs.Ytonhijbeddcmpaa

/- Layer 4: the reference's Mul, Add. -/
namespace Go.Proofs.Ytonhijbeddcmpaa
open Go Go.Ay
set_option maxRecDepth 100000
end Go.Proofs.Ytonhijbeddcmpaa

/- Layer 4: the reference's Scale, Turn. -/
namespace Go.Proofs.Ytonhijbeddcmpaa
open Go Go.Ay
set_option maxRecDepth 100000
end Go.Proofs.Ytonhijbeddcmpaa

/- Layer 4: the reference's Apply. -/
namespace Go.Proofs.Ytonhijbeddcmpaa
open Go Go.Ay
set_option maxRecDepth 100000
end Go.Proofs.Ytonhijbeddcmpaa

/- Determinants of integer matrices: the rows. -/
namespace Go.Ay
abbrev Mx := Nat → Nat → Int
/-- Past a row that is left out. -/
def skp (i r : Nat) : Nat := if r < i then r else r + 1
/-- Where a row stands when another one is left out. -/
def low (i k : Nat) : Nat := if i < k then k - 1 else k
theorem skp_ne (i r : Nat) : skp i r ≠ i := by unfold skp; split <;> omega
theorem skp_lt {n i r : Nat} (h : r < n) : skp i r < n + 1 := by unfold skp; split <;> omega
theorem skp_low {i k r : Nat} (h : i ≠ k) : skp i r = k ↔ r = low i k := by unfold skp low; split <;> split <;> omega
theorem skp_low' {i k : Nat} (h : i ≠ k) : skp i (low i k) = k := (skp_low h).2 rfl
theorem low_lt {n i k : Nat} (h : k < n + 1) (hi : i < n + 1) (hne : i ≠ k) : low i k < n := by unfold low; split <;> omega
theorem low_ne {i k k' : Nat} (h : i ≠ k) (h' : i ≠ k') (hne : k ≠ k') : low i k ≠ low i k' := by unfold low; split <;> split <;> omega
theorem skp_inj {i r r' : Nat} (h : skp i r = skp i r') : r = r' := by unfold skp at h; split at h <;> split at h <;> omega
/-- A sign. -/
def sgn : Nat → Int
  | 0 => 1
  | n + 1 => - sgn n
theorem sgn_succ (n : Nat) : sgn (n + 1) = - sgn n := rfl
theorem sgn_add (n m : Nat) : sgn (n + m) = sgn n * sgn m := by
  induction m with
  | zero => rw [Nat.add_zero]; show sgn n = sgn n * 1; rw [Int.mul_one]
  | succ m ih => rw [← Nat.add_assoc, sgn_succ, sgn_succ, ih, Int.mul_neg]
theorem sgn_sq (n : Nat) : sgn n * sgn n = 1 := by
  induction n with
  | zero => rfl
  | succ n ih => rw [sgn_succ, Int.neg_mul_neg, ih]
theorem sgn_two (n : Nat) : sgn (n + n) = 1 := by rw [sgn_add, sgn_sq]
def del (A : Mx) (i j : Nat) : Mx := fun r c => A (skp i r) (skp j c)
def setR (A : Mx) (k : Nat) (u : Nat → Int) : Mx := fun i j => if i = k then u j else A i j
theorem setR_same (A : Mx) (k : Nat) (u : Nat → Int) (j : Nat) : setR A k u k j = u j := if_pos rfl
theorem setR_ne (A : Mx) {i k : Nat} (u : Nat → Int) (j : Nat) (h : i ≠ k) : setR A k u i j = A i j := if_neg h
theorem setR_comm (A : Mx) {k l : Nat} (u v : Nat → Int) (h : k ≠ l) : setR (setR A k u) l v = setR (setR A l v) k u := by
  funext i j
  simp only [setR]
  by_cases h1 : i = l
  · rw [if_pos h1, if_neg (by omega), if_pos h1]
  · rw [if_neg h1, if_neg h1]
theorem setR_self (A : Mx) (k : Nat) : setR A k (A k) = A := by
  funext i j
  simp only [setR]
  split
  · rename_i h; rw [h]
  · rfl
theorem del_set_same (A : Mx) (k j : Nat) (u : Nat → Int) : del (setR A k u) k j = del A k j := by
  funext r c
  simp only [del]
  rw [setR_ne _ _ _ (skp_ne k r)]
theorem del_set_ne (A : Mx) {i k : Nat} (j : Nat) (u : Nat → Int) (h : i ≠ k) : del (setR A k u) i j = setR (del A i j) (low i k) (fun c => u (skp j c)) := by
  funext r c
  simp only [del, setR]
  by_cases e : r = low i k
  · rw [if_pos e, if_pos ((skp_low h).2 e)]
  · rw [if_neg e, if_neg fun e2 => e ((skp_low h).1 e2)]
/-- Alternating, and linear in each row. -/
structure Alt (n : Nat) (F : Mx → Int) : Prop where
  congr : ∀ A B, (∀ i j, i < n → j < n → A i j = B i j) → F A = F B
  lin : ∀ A k (x : Int) (u v : Nat → Int), k < n → F (setR A k (fun j => x * u j + v j)) = x * F (setR A k u) + F (setR A k v)
  alt : ∀ A i j, i < n → j < n → i ≠ j → (∀ c, c < n → A i c = A j c) → F A = 0
/-- The same, with neighbours alone. -/
structure Adj (n : Nat) (F : Mx → Int) : Prop where
  congr : ∀ A B, (∀ i j, i < n → j < n → A i j = B i j) → F A = F B
  lin : ∀ A k (x : Int) (u v : Nat → Int), k < n → F (setR A k (fun j => x * u j + v j)) = x * F (setR A k u) + F (setR A k v)
  adj : ∀ A k, k + 1 < n → (∀ c, c < n → A k c = A (k + 1) c) → F A = 0
def swp (A : Mx) (i j : Nat) : Mx := setR (setR A i (A j)) j (A i)
theorem swp_left (A : Mx) {i j : Nat} (h : i ≠ j) (c : Nat) : swp A i j i c = A j c := by rw [swp, setR_ne _ _ _ h, setR_same]
theorem swp_right (A : Mx) (i j : Nat) (c : Nat) : swp A i j j c = A i c := by rw [swp, setR_same]
theorem swp_other (A : Mx) {i j k : Nat} (h1 : k ≠ i) (h2 : k ≠ j) (c : Nat) : swp A i j k c = A k c := by rw [swp, setR_ne _ _ _ h2, setR_ne _ _ _ h1]
theorem swap_of {n : Nat} {F : Mx → Int} (lin : ∀ A k (x : Int) (u v : Nat → Int), k < n → F (setR A k (fun j => x * u j + v j)) = x * F (setR A k u) + F (setR A k v)) {i j : Nat} (hi : i < n) (hj : j < n) (hne : i ≠ j)
    (alt : ∀ A, (∀ c, c < n → A i c = A j c) → F A = 0) (A : Mx) : F (swp A i j) = - F A := by
  have z : ∀ w : Nat → Int, F (setR (setR A i w) j w) = 0 := fun w => alt _ fun c _ => by rw [setR_same, setR_ne _ _ _ hne, setR_same]
  have l2 : ∀ w (x : Int) (u v : Nat → Int), F (setR (setR A i w) j (fun c => x * u c + v c)) = x * F (setR (setR A i w) j u) + F (setR (setR A i w) j v) := fun w x u v => lin _ _ _ _ _ hj
  have l1 : ∀ w (x : Int) (u v : Nat → Int), F (setR (setR A i (fun c => x * u c + v c)) j w) = x * F (setR (setR A i u) j w) + F (setR (setR A i v) j w) := fun w x u v => by
    rw [setR_comm _ _ _ hne, setR_comm _ _ _ hne, setR_comm _ _ _ hne]
    exact lin _ _ _ _ _ hi
  have e := z (fun c => 1 * A i c + A j c)
  rw [l1, l2, l2, z, z] at e
  have e2 : setR (setR A i (A i)) j (A j) = A := by rw [setR_self, setR_self]
  rw [e2] at e
  rw [swp]
  omega
theorem Adj.full {n : Nat} {F : Mx → Int} (a : Adj n F) : Alt n F := by
  have key : ∀ d A i, i + d + 1 < n → (∀ c, c < n → A i c = A (i + d + 1) c) → F A = 0 := by
    intro d
    induction d with
    | zero => intro A i h e; exact a.adj A i h e
    | succ d ih =>
      intro A i h e
      have s := swap_of a.lin (i := i + d + 1) (j := i + (d + 1) + 1) (by omega) h (by omega) (fun B hB => a.adj B (i + d + 1) (by omega) hB) A
      rw [ih (swp A (i + d + 1) (i + (d + 1) + 1)) i (by omega) fun c hc => by rw [swp_left _ (by omega), swp_other _ (by omega) (by omega)]; exact e c hc] at s
      omega
  refine ⟨a.congr, a.lin, fun A i j hi hj hne e => ?_⟩
  rcases Nat.lt_or_gt_of_ne hne with h | h
  · obtain ⟨d, rfl⟩ : ∃ d, j = i + d + 1 := ⟨j - i - 1, by omega⟩
    exact key d A i hj e
  · obtain ⟨d, rfl⟩ : ∃ d, i = j + d + 1 := ⟨i - j - 1, by omega⟩
    exact key d A j hi fun c hc => (e c hc).symm
theorem Alt.swap {n : Nat} {F : Mx → Int} (a : Alt n F) {i j : Nat} (hi : i < n) (hj : j < n) (hne : i ≠ j) (A : Mx) : F (swp A i j) = - F A :=
  swap_of a.lin hi hj hne (fun B hB => a.alt B i j hi hj hne hB) A
theorem Alt.zero_row {n : Nat} {F : Mx → Int} (a : Alt n F) (A : Mx) {k : Nat} (hk : k < n) : F (setR A k (fun _ => 0)) = 0 := by
  have := a.lin A k 1 (fun _ => 0) (fun _ => 0) hk
  simp only [Int.mul_zero, Int.add_zero] at this
  omega
theorem Alt.sum {n : Nat} {F : Mx → Int} (a : Alt n F) (A : Mx) {k : Nat} (hk : k < n) (m : Nat) (x : Nat → Int) (u : Nat → Nat → Int) : F (setR A k (fun c => sm m (fun j => x j * u j c))) = sm m (fun j => x j * F (setR A k (u j))) := by
  induction m with
  | zero => exact a.zero_row A hk
  | succ m ih =>
    have := a.lin A k (x m) (u m) (fun c => sm m (fun j => x j * u j c)) hk
    rw [sm_succ, ← ih]
    have e : (fun c => sm (m + 1) (fun j => x j * u j c)) = fun c => x m * u m c + sm m (fun j => x j * u j c) := by
      funext c; rw [sm_succ, Int.add_comm]
    rw [e, this, Int.add_comm]
/-- A multiple of another row. -/
theorem Alt.add_row {n : Nat} {F : Mx → Int} (a : Alt n F) (A : Mx) {i k : Nat} (hi : i < n) (hk : k < n) (hne : i ≠ k) (x : Int) : F (setR A k (fun c => x * A i c + A k c)) = F A := by
  rw [a.lin _ _ _ _ _ hk, setR_self, a.alt (setR A k (A i)) i k hi hk hne fun c _ => by rw [setR_same, setR_ne _ _ _ hne], Int.mul_zero, Int.zero_add]
theorem Alt.mul_row {n : Nat} {F : Mx → Int} (a : Alt n F) (A : Mx) {k : Nat} (hk : k < n) (x : Int) (u : Nat → Int) : F (setR A k (fun c => x * u c)) = x * F (setR A k u) := by
  have := a.lin A k x u (fun _ => 0) hk
  simp only [Int.add_zero] at this
  rw [this, a.zero_row A hk, Int.add_zero]
/-! expansion along a column -/
def det : Nat → Mx → Int
  | 0, _ => 1
  | n + 1, A => sm (n + 1) (fun i => sgn i * A i 0 * det n (del A i 0))
def exc (j n : Nat) (A : Mx) : Int := sm (n + 1) (fun i => sgn (i + j) * A i j * det n (del A i j))
theorem det_succ (n : Nat) (A : Mx) : det (n + 1) A = exc 0 n A := rfl
theorem sm_pair {n a b : Nat} (ha : a < n) (hb : b < n) (hne : a ≠ b) {f : Nat → Int} (h : ∀ k, k < n → k ≠ a → k ≠ b → f k = 0) : sm n f = f a + f b := by
  have e : sm n f = sm n (fun k => (if k = a then f k else 0) + (if k = b then f k else 0)) := sm_congr fun k hk => by
    by_cases h1 : k = a
    · rw [if_pos h1, if_neg (by omega), Int.add_zero]
    · by_cases h2 : k = b
      · rw [if_neg h1, if_pos h2, Int.zero_add]
      · rw [if_neg h1, if_neg h2, h k hk h1 h2]; rfl
  rw [e, sm_add, sm_pick ha, sm_pick hb]
theorem exc_adj {n j : Nat} (hj : j < n + 1) (a : Alt n (det n)) : Adj (n + 1) (exc j n) := by
  refine ⟨fun A B h => sm_congr fun i hi => ?_, fun A k x u v hk => ?_, fun A k hk h => ?_⟩
  · rw [h i j hi hj, a.congr (del A i j) (del B i j) fun r c hr hc => h _ _ (skp_lt hr) (skp_lt hc)]
  · simp only [exc]
    rw [← sm_mul, ← sm_add]
    refine sm_congr fun i hi => ?_
    by_cases e : i = k
    · subst e
      rw [setR_same, setR_same, setR_same, del_set_same, del_set_same, del_set_same]
      grind
    · rw [setR_ne _ _ _ e, setR_ne _ _ _ e, setR_ne _ _ _ e, del_set_ne _ _ _ e, del_set_ne _ _ _ e, del_set_ne _ _ _ e, a.lin _ _ _ _ _ (low_lt hk hi e)]
      grind
  · simp only [exc]
    rw [sm_pair (a := k) (b := k + 1) (by omega) (by omega) (by omega) fun i hi h1 h2 => ?_]
    · have e : det n (del A k j) = det n (del A (k + 1) j) := a.congr _ _ fun r c hr hc => by
        simp only [del]
        by_cases hr2 : r = k
        · subst hr2
          rw [show skp r r = r + 1 by unfold skp; rw [if_neg (by omega)], show skp (r + 1) r = r by unfold skp; rw [if_pos (by omega)]]
          exact (h _ (skp_lt hc)).symm
        · rw [show skp k r = skp (k + 1) r by unfold skp; split <;> split <;> omega]
      rw [e, ← h j hj, show k + 1 + j = k + j + 1 by omega, sgn_succ]
      grind
    · rw [a.alt (del A i j) (low i k) (low i (k + 1)) (low_lt (by omega) hi h1) (low_lt hk hi h2) (low_ne h1 h2 (by omega)) fun c hc => ?_, Int.mul_zero]
      simp only [del]
      rw [skp_low' h1, skp_low' h2]
      exact h _ (skp_lt hc)
theorem det_alt : ∀ n, Alt n (det n)
  | 0 => ⟨fun _ _ _ => rfl, fun _ _ _ _ _ h => absurd h (Nat.not_lt_zero _), fun _ _ _ h => absurd h (Nat.not_lt_zero _)⟩
  | n + 1 => (exc_adj (j := 0) (by omega) (det_alt n)).full
theorem exc_alt {n j : Nat} (hj : j < n + 1) : Alt (n + 1) (exc j n) := (exc_adj hj (det_alt n)).full
def idM : Mx := fun i j => if i = j then 1 else 0
theorem del_id (j : Nat) : del idM j j = idM := by
  funext r c
  simp only [del, idM]
  by_cases e : r = c
  · rw [if_pos e, if_pos (by rw [e])]
  · rw [if_neg e, if_neg fun h => e (skp_inj h)]
theorem det_id : ∀ n, det n idM = 1
  | 0 => rfl
  | n + 1 => by
    rw [det_succ, exc, sm_one (t := 0) (by omega) fun k _ hne => by simp only [idM]; rw [if_neg hne]; simp, del_id, det_id n]
    rfl
theorem exc_id {n j : Nat} (hj : j < n + 1) : exc j n idM = 1 := by
  rw [exc, sm_one (t := j) hj fun k _ hne => by simp only [idM]; rw [if_neg hne]; simp, del_id, det_id n, sgn_two]
  simp [idM]
/-! there is no other -/
theorem onto_of_inj {n : Nat} {s : Nat → Nat} (hs : ∀ i, i < n → s i < n) (hi : ∀ i j, i < n → j < n → s i = s j → i = j) {m : Nat} (hm : m < n) : ∃ i, i < n ∧ s i = m := by
  refine Classical.byContradiction fun hno => ?_
  have one : ∀ v k, k ≤ n → sm k (fun i => if s i = v then (1 : Int) else 0) ≤ 1 := by
    intro v k
    induction k with
    | zero => intro _; rw [sm_zero]; omega
    | succ k ih =>
      intro hk
      rw [sm_succ]
      by_cases e : s k = v
      · rw [if_pos e, sm_zeros fun i hik => if_neg fun e2 => by have := hi i k (by omega) (by omega) (by rw [e2, e]); omega]
        omega
      · rw [if_neg e]; have := ih (by omega); omega
  have tot : sm n (fun v => sm n (fun i => if s i = v then (1 : Int) else 0)) = sm n (fun _ => 1) := by
    rw [sm_swap]
    exact sm_congr fun i hi => sm_pick' (hs i hi) (fun _ => 1)
  have le : sm n (fun v => sm n (fun i => if s i = v then (1 : Int) else 0)) ≤ sm n (fun v => 1 - if v = m then 1 else 0) := sm_le fun v _ => by
    by_cases e : v = m
    · subst e
      rw [if_pos rfl, sm_zeros fun i hik => if_neg fun e2 => hno ⟨i, hik, e2⟩]
      omega
    · rw [if_neg e]; have := one v n (Nat.le_refl _); omega
  rw [tot, sm_sub, sm_pick hm (fun _ => 1)] at le
  omega
theorem Alt.perm {n : Nat} {F : Mx → Int} (a : Alt n F) (hI : F idM = 0) : ∀ d m, m + d = n → ∀ A (s : Nat → Nat), (∀ i, i < n → s i < n) → (∀ i c, i < n → c < n → A i c = if c = s i then 1 else 0) → (∀ i, i < m → s i = i) → F A = 0 := by
  intro d
  induction d with
  | zero =>
    intro m hm A s hs hA hfix
    rw [← hI]
    refine a.congr _ _ fun i j hi hj => ?_
    rw [hA i j hi hj, hfix i (by omega)]
    simp only [idM]
    by_cases e : i = j
    · rw [if_pos e, if_pos e.symm]
    · rw [if_neg e, if_neg fun h => e h.symm]
  | succ d ih =>
    intro m hm A s hs hA hfix
    by_cases hj : ∃ j, m ≤ j ∧ j < n ∧ s j = m
    · obtain ⟨j, h1, h2, h3⟩ := hj
      by_cases e : j = m
      · subst e
        exact ih (j + 1) (by omega) A s hs hA fun i hi => by
          by_cases e : i = j
          · rw [e, h3]
          · exact hfix i (by omega)
      · have sw := a.swap (i := m) (j := j) (by omega) h2 (by omega) A
        rw [ih (m + 1) (by omega) (swp A m j) (fun i => if i = m then m else if i = j then s m else s i) (fun i hi => by
          split
          · omega
          · split
            · exact hs m (by omega)
            · exact hs i hi) (fun i c hi hc => by
          by_cases e1 : i = m
          · subst e1
            rw [swp_left _ (by omega), if_pos rfl, hA j c h2 hc, h3]
          · rw [if_neg e1]
            by_cases e2 : i = j
            · subst e2
              rw [swp_right, if_pos rfl, hA m c (by omega) hc]
            · rw [swp_other _ e1 e2, if_neg e2, hA i c hi hc]) (fun i hi => by
          by_cases e1 : i = m
          · rw [if_pos e1, e1]
          · rw [if_neg e1, if_neg (by omega)]; exact hfix i (by omega))] at sw
        omega
    · refine Classical.byContradiction fun hF => hj ?_
      obtain ⟨i, h1, h2⟩ := onto_of_inj hs (fun i j hi hj e => Classical.byContradiction fun hne => hF (a.alt A i j hi hj hne fun c hc => by rw [hA i c hi hc, hA j c hj hc, e])) (show m < n by omega)
      exact ⟨i, Nat.le_of_not_lt fun hlt => by have := hfix i hlt; omega, h1, h2⟩
theorem Alt.units {n : Nat} {F : Mx → Int} (a : Alt n F) (hI : F idM = 0) : ∀ k, k ≤ n → ∀ A, (∀ i, k ≤ i → i < n → ∃ s, s < n ∧ ∀ c, c < n → A i c = if c = s then 1 else 0) → F A = 0 := by
  intro k
  induction k with
  | zero =>
    intro _ A h
    exact a.perm hI n 0 (by omega) A (fun i => if hi : i < n then (h i (Nat.zero_le _) hi).choose else 0) (fun i hi => by rw [dif_pos hi]; exact (h i (Nat.zero_le _) hi).choose_spec.1) (fun i c hi hc => by rw [dif_pos hi]; exact (h i (Nat.zero_le _) hi).choose_spec.2 c hc) fun i hi => absurd hi (Nat.not_lt_zero i)
  | succ k ih =>
    intro hk A h
    have e : F A = F (setR A k (fun c => sm n (fun j => A k j * (if c = j then 1 else 0)))) := a.congr _ _ fun i c hi hc => by
      by_cases e : i = k
      · subst e
        rw [setR_same, sm_one hc fun j _ hne => by rw [if_neg (Ne.symm hne), Int.mul_zero], if_pos rfl, Int.mul_one]
      · rw [setR_ne _ _ _ e]
    rw [e, a.sum A (by omega) n (A k) (fun j c => if c = j then 1 else 0)]
    refine sm_zeros fun j hj => ?_
    rw [ih (by omega) _ fun i h1 h2 => ?_, Int.mul_zero]
    by_cases e : i = k
    · subst e
      exact ⟨j, hj, fun c _ => by rw [setR_same]⟩
    · obtain ⟨s, hs, hc⟩ := h i (by omega) h2
      exact ⟨s, hs, fun c hc' => by rw [setR_ne _ _ _ e]; exact hc c hc'⟩
theorem Alt.uniq {n : Nat} {F : Mx → Int} (a : Alt n F) (A : Mx) : F A = det n A * F idM := by
  have d := det_alt n
  have z : Alt n (fun A => F A - det n A * F idM) := by
    refine ⟨fun A B h => by rw [a.congr A B h, d.congr A B h], fun A k x u v hk => ?_, fun A i j hi hj hne h => ?_⟩
    · rw [a.lin _ _ _ _ _ hk, d.lin _ _ _ _ _ hk]
      grind
    · rw [a.alt A i j hi hj hne h, d.alt A i j hi hj hne h]; simp
  have := z.units (by rw [det_id]; omega) n (Nat.le_refl _) A fun i h1 h2 => by omega
  omega
theorem det_col {n j : Nat} (hj : j < n + 1) (A : Mx) : det (n + 1) A = exc j n A := by
  rw [(exc_alt hj).uniq A, exc_id hj, Int.mul_one]
end Go.Ay

/- Determinants of integer matrices: products, columns, the adjugate. -/
namespace Go.Ay
def mulM (n : Nat) (A B : Mx) : Mx := fun i j => sm n (fun k => A i k * B k j)
def trM (A : Mx) : Mx := fun i j => A j i
theorem det_congr {n : Nat} {A B : Mx} (h : ∀ i j, i < n → j < n → A i j = B i j) : det n A = det n B := (det_alt n).congr A B h
theorem mul_setR (n : Nat) (A B : Mx) (k : Nat) (u : Nat → Int) : mulM n (setR A k u) B = setR (mulM n A B) k (fun j => sm n (fun t => u t * B t j)) := by
  funext i j
  simp only [mulM, setR]
  by_cases e : i = k
  · simp only [if_pos e]
  · simp only [if_neg e]
theorem det_mul (n : Nat) (A B : Mx) : det n (mulM n A B) = det n A * det n B := by
  have d := det_alt n
  have a : Alt n (fun A => det n (mulM n A B)) := by
    refine ⟨fun A C h => d.congr _ _ fun i j hi hj => sm_congr fun k hk => by rw [h i k hi hk], fun A k x u v hk => ?_, fun A i j hi hj hne h => d.alt _ i j hi hj hne fun c _ => sm_congr fun k hk => by rw [h k hk]⟩
    rw [mul_setR, mul_setR, mul_setR, ← d.lin _ _ _ _ _ hk]
    congr 2
    funext j
    rw [← sm_mul, ← sm_add]
    exact sm_congr fun t _ => by grind
  have e := a.uniq A
  rw [e]
  congr 1
  exact det_congr fun i j hi hj => by
    simp only [mulM, idM]
    rw [sm_one (t := i) hi fun k _ hne => by rw [if_neg fun h => hne h.symm, Int.zero_mul], if_pos rfl, Int.one_mul]
/-! columns -/
theorem det_two (A : Mx) : det 2 A = A 0 0 * A 1 1 - A 1 0 * A 0 1 := by
  simp [det, sm, sgn, del, skp]
  grind
theorem col_alt : ∀ n (A : Mx) a b, a < n → b < n → a ≠ b → (∀ i, i < n → A i a = A i b) → det n A = 0
  | 0, _, _, _, h, _, _, _ => absurd h (Nat.not_lt_zero _)
  | 1, _, a, b, ha, hb, hne, _ => by omega
  | 2, A, a, b, ha, hb, hne, h => by
    have h0 := h 0 (by omega)
    have h1 := h 1 (by omega)
    rw [det_two]
    have : a = 0 ∧ b = 1 ∨ a = 1 ∧ b = 0 := by omega
    rcases this with ⟨rfl, rfl⟩ | ⟨rfl, rfl⟩
    · rw [h0, h1]; grind
    · rw [h0, h1]; grind
  | n + 3, A, a, b, ha, hb, hne, h => by
    obtain ⟨j, hj, h1, h2⟩ : ∃ j, j < n + 3 ∧ j ≠ a ∧ j ≠ b := by
      by_cases e0 : a ≠ 0 ∧ b ≠ 0
      · exact ⟨0, by omega, by omega, by omega⟩
      · by_cases e1 : a ≠ 1 ∧ b ≠ 1
        · exact ⟨1, by omega, by omega, by omega⟩
        · exact ⟨2, by omega, by omega, by omega⟩
    rw [det_col hj A, exc]
    refine sm_zeros fun i hi => ?_
    rw [col_alt (n + 2) (del A i j) (low j a) (low j b) (low_lt ha hj h1) (low_lt hb hj h2) (low_ne h1 h2 hne) fun r hr => ?_, Int.mul_zero]
    simp only [del]
    rw [skp_low' h1, skp_low' h2]
    exact h _ (skp_lt hr)
theorem tr_alt : ∀ n, Alt n (fun A => det n (trM A))
  | 0 => ⟨fun _ _ _ => rfl, fun _ _ _ _ _ h => absurd h (Nat.not_lt_zero _), fun _ _ _ h => absurd h (Nat.not_lt_zero _)⟩
  | n + 1 => by
    refine ⟨fun A B h => det_congr fun i j hi hj => h j i hj hi, fun A k x u v hk => ?_, fun A i j hi hj hne h => col_alt (n + 1) _ i j hi hj hne fun r hr => h r hr⟩
    rw [det_col hk, det_col hk, det_col hk, exc, exc, exc, ← sm_mul, ← sm_add]
    refine sm_congr fun i hi => ?_
    have e : ∀ w : Nat → Int, del (trM (setR A k w)) i k = del (trM A) i k := fun w => by
      funext r c
      simp only [del, trM]
      rw [setR_ne _ _ _ (skp_ne k c)]
    rw [e, e, e]
    simp only [trM, setR_same]
    grind
theorem det_tr (n : Nat) (A : Mx) : det n (trM A) = det n A := by
  have := (tr_alt n).uniq A
  rw [this]
  have e : trM idM = idM := by
    funext i j
    simp only [trM, idM]
    by_cases h : i = j
    · rw [if_pos h, if_pos h.symm]
    · rw [if_neg h, if_neg fun e => h e.symm]
  rw [e, det_id, Int.mul_one]
theorem det_row {n i : Nat} (hi : i < n + 1) (A : Mx) : det (n + 1) A = sm (n + 1) (fun j => sgn (i + j) * A i j * det n (del A i j)) := by
  rw [← det_tr, det_col hi, exc]
  refine sm_congr fun j _ => ?_
  rw [Nat.add_comm j i, ← det_tr n (del A i j)]
  rfl
/-- The adjugate (of n + 1 rows). -/
def adjM (n : Nat) (A : Mx) : Mx := fun i j => sgn (i + j) * det n (del A j i)
theorem mul_adj {n : Nat} (A : Mx) {i k : Nat} (hi : i < n + 1) (hk : k < n + 1) : mulM (n + 1) A (adjM n A) i k = if i = k then det (n + 1) A else 0 := by
  by_cases e : i = k
  · subst e
    rw [if_pos rfl, det_row hi]
    exact sm_congr fun j _ => by
      simp only [adjM]
      rw [Nat.add_comm j i]
      grind
  · rw [if_neg e, ← (det_alt (n + 1)).alt (setR A k (A i)) i k hi hk e fun c _ => by rw [setR_same, setR_ne _ _ _ e], det_row hk]
    exact sm_congr fun j _ => by
      simp only [adjM]
      rw [Nat.add_comm j k, setR_same, del_set_same]
      grind
theorem adj_mul {n : Nat} (A : Mx) {i k : Nat} (hi : i < n + 1) (hk : k < n + 1) : mulM (n + 1) (adjM n A) A i k = if i = k then det (n + 1) A else 0 := by
  have h := mul_adj (trM A) hk hi
  rw [det_tr] at h
  by_cases e : i = k
  · rw [if_pos e]
    rw [if_pos e.symm] at h
    rw [← h]
    exact sm_congr fun j _ => by
      simp only [adjM, trM]
      rw [← det_tr n (del A j i), Nat.add_comm j i]
      show _ * det n (trM (del A j i)) * _ = _ * (_ * det n (trM (del A j i)))
      grind
  · rw [if_neg e]
    rw [if_neg fun x => e x.symm] at h
    rw [← h]
    exact sm_congr fun j _ => by
      simp only [adjM, trM]
      rw [← det_tr n (del A j i), Nat.add_comm j i]
      show _ * det n (trM (del A j i)) * _ = _ * (_ * det n (trM (del A j i)))
      grind
/-- Congruent entries. -/
theorem sm_mod {p : Int} : ∀ {n : Nat} {f g : Nat → Int}, (∀ k, k < n → f k % p = g k % p) → sm n f % p = sm n g % p
  | 0, _, _, _ => rfl
  | n + 1, f, g, h => by
    rw [sm_succ, sm_succ, Int.add_emod, sm_mod fun k hk => h k (by omega), h n (by omega), ← Int.add_emod]
theorem mul_mod {p a b c d : Int} (h : a % p = b % p) (k : c % p = d % p) : a * c % p = b * d % p := by
  rw [Int.mul_emod, h, k, ← Int.mul_emod]
theorem det_mod {p : Int} : ∀ {n : Nat} {A B : Mx}, (∀ i j, i < n → j < n → A i j % p = B i j % p) → det n A % p = det n B % p
  | 0, _, _, _ => rfl
  | n + 1, A, B, h => by
    rw [det_succ, det_succ]
    exact sm_mod fun i hi => mul_mod (mul_mod rfl (h i 0 hi (by omega))) (det_mod fun r c hr hc => h _ _ (skp_lt hr) (skp_lt hc))
theorem mulM_assoc (n : Nat) (A B C : Mx) (i j : Nat) : mulM n (mulM n A B) C i j = mulM n A (mulM n B C) i j := by
  simp only [mulM]
  have e1 : ∀ k, k < n → sm n (fun t => A i t * B t k) * C k j = sm n (fun t => A i t * B t k * C k j) := fun k _ => (sm_mulr ..).symm
  have e2 : ∀ t, t < n → A i t * sm n (fun k => B t k * C k j) = sm n (fun k => A i t * B t k * C k j) := fun t _ => by
    rw [← sm_mul]
    exact sm_congr fun k _ => by grind
  rw [sm_congr e1, sm_congr e2, sm_swap]
end Go.Ay

/- Polynomials with integer coefficients; the characteristic polynomial; Cayley and Hamilton. -/
namespace Go.Ay
def pev (n : Nat) (c : Nat → Int) (t : Int) : Int := sm n (fun k => c k * t ^ k)
theorem pev_first (n : Nat) (c : Nat → Int) (t : Int) : pev (n + 1) c t = c 0 + t * pev n (fun k => c (k + 1)) t := by
  rw [pev, sm_first, pev, ← sm_mul, Int.pow_zero, Int.mul_one]
  congr 1
  exact sm_congr fun k _ => by rw [Int.pow_succ]; grind
theorem pev_zero : ∀ {n : Nat} {c : Nat → Int}, (∀ t : Int, 1 ≤ t → pev n c t = 0) → ∀ k, k < n → c k = 0
  | 0, _, _, k, hk => absurd hk (Nat.not_lt_zero k)
  | n + 1, c, h, k, hk => by
    have h0 : c 0 = 0 := by
      have e := h (ab (c 0) + 1) (by have := ab_nonneg (c 0); omega)
      rw [pev_first] at e
      generalize pev n (fun k => c (k + 1)) (ab (c 0) + 1) = q at e
      have b := ab_nonneg (c 0)
      have b1 := (ab_le (x := c 0) (b := ab (c 0))).1 (Int.le_refl _)
      generalize ab (c 0) = a at *
      by_cases hq : 1 ≤ q
      · have := Int.mul_le_mul_of_nonneg_left hq (show 0 ≤ a + 1 by omega); omega
      · by_cases hq2 : q ≤ -1
        · have := Int.mul_le_mul_of_nonneg_left hq2 (show 0 ≤ a + 1 by omega); omega
        · have : q = 0 := by omega
          subst this; omega
    have hr : ∀ t : Int, 1 ≤ t → pev n (fun k => c (k + 1)) t = 0 := fun t ht => by
      have e := h t ht
      rw [pev_first, h0, Int.zero_add] at e
      rcases Int.mul_eq_zero.1 e with e | e
      · omega
      · exact e
    cases k with
    | zero => exact h0
    | succ k => exact pev_zero hr k (by omega)
theorem pev_inj {n : Nat} {c d : Nat → Int} (h : ∀ t : Int, 1 ≤ t → pev n c t = pev n d t) (k : Nat) (hk : k < n) : c k = d k := by
  have := pev_zero (n := n) (c := fun k => c k - d k) (fun t ht => by
    have e := h t ht
    simp only [pev] at e ⊢
    have e2 : sm n (fun k => (c k - d k) * t ^ k) = sm n (fun k => c k * t ^ k - d k * t ^ k) := sm_congr fun k _ => by grind
    rw [e2, sm_sub]; omega) k hk
  omega
theorem pev_congr {n : Nat} {c d : Nat → Int} (h : ∀ k, k < n → c k = d k) (t : Int) : pev n c t = pev n d t := sm_congr fun k hk => by rw [h k hk]
theorem pev_add (n : Nat) (c d : Nat → Int) (t : Int) : pev n (fun k => c k + d k) t = pev n c t + pev n d t := by
  simp only [pev]; rw [← sm_add]; exact sm_congr fun k _ => by grind
theorem pev_sub (n : Nat) (c d : Nat → Int) (t : Int) : pev n (fun k => c k - d k) t = pev n c t - pev n d t := by
  simp only [pev]; rw [← sm_sub]; exact sm_congr fun k _ => by grind
theorem pev_mul (n : Nat) (x : Int) (c : Nat → Int) (t : Int) : pev n (fun k => x * c k) t = x * pev n c t := by
  simp only [pev]; rw [← sm_mul]; exact sm_congr fun k _ => by grind
theorem pev_sum (n m : Nat) (c : Nat → Nat → Int) (t : Int) : pev n (fun k => sm m (fun i => c i k)) t = sm m (fun i => pev n (c i) t) := by
  simp only [pev]
  rw [sm_swap]
  exact sm_congr fun k _ => by rw [sm_mulr]
/-- One degree up. -/
def shf (c : Nat → Int) : Nat → Int := fun k => if k = 0 then 0 else c (k - 1)
theorem pev_shf (n : Nat) (c : Nat → Int) (t : Int) : pev (n + 1) (shf c) t = t * pev n c t := by
  rw [pev_first]
  simp only [shf, if_true]
  rw [Int.zero_add]
  congr 1
theorem pev_more {n m : Nat} (h : n ≤ m) {c : Nat → Int} (hz : ∀ k, n ≤ k → k < m → c k = 0) (t : Int) : pev m c t = pev n c t :=
  sm_more h fun k h1 h2 => by rw [hz k h1 h2, Int.zero_mul]
/-! the determinant of t X + Y -/
def dpl : Nat → Mx → Mx → Nat → Int
  | 0, _, _, k => if k = 0 then 1 else 0
  | n + 1, X, Y, k => sm (n + 1) (fun i => sgn i * (Y i 0 * dpl n (del X i 0) (del Y i 0) k + X i 0 * shf (dpl n (del X i 0) (del Y i 0)) k))
theorem dpl_high : ∀ (n : Nat) (X Y : Mx) (k : Nat), n < k → dpl n X Y k = 0
  | 0, _, _, k, h => by rw [dpl, if_neg (by omega)]
  | n + 1, X, Y, k, h => by
    rw [dpl]
    refine sm_zeros fun i _ => ?_
    rw [shf, if_neg (by omega), dpl_high n _ _ k (by omega), dpl_high n _ _ (k - 1) (by omega)]
    simp
theorem det_dpl : ∀ (n : Nat) (X Y : Mx) (t : Int), det n (fun i j => t * X i j + Y i j) = pev (n + 1) (dpl n X Y) t
  | 0, X, Y, t => by simp [det, pev, sm, dpl]
  | n + 1, X, Y, t => by
    rw [det_succ, exc]
    have e : ∀ i, i < n + 1 → sgn (i + 0) * (t * X i 0 + Y i 0) * det n (del (fun i j => t * X i j + Y i j) i 0) = pev (n + 2) (fun k => sgn i * (Y i 0 * dpl n (del X i 0) (del Y i 0) k + X i 0 * shf (dpl n (del X i 0) (del Y i 0)) k)) t := fun i hi => by
      have d : det n (del (fun i j => t * X i j + Y i j) i 0) = _ := det_dpl n (del X i 0) (del Y i 0) t
      rw [d, pev_mul, pev_add, pev_mul, pev_mul, pev_shf, pev_more (n := n + 1) (m := n + 2) (by omega) fun k h1 h2 => dpl_high n _ _ k (by omega), Nat.add_zero]
      grind
    rw [sm_congr e]
    exact (pev_sum (n + 2) (n + 1) (fun i k => sgn i * (Y i 0 * dpl n (del X i 0) (del Y i 0) k + X i 0 * shf (dpl n (del X i 0) (del Y i 0)) k)) t).symm
theorem dpl_mod {p : Int} : ∀ {n : Nat} {X X' Y Y' : Mx}, (∀ i j, i < n → j < n → X i j % p = X' i j % p) → (∀ i j, i < n → j < n → Y i j % p = Y' i j % p) → ∀ k, dpl n X Y k % p = dpl n X' Y' k % p
  | 0, _, _, _, _, _, _, _ => rfl
  | n + 1, X, X', Y, Y', hX, hY, k => by
    rw [dpl, dpl]
    refine sm_mod fun i hi => mul_mod rfl ?_
    have ih := fun k => dpl_mod (p := p) (n := n) (X := del X i 0) (X' := del X' i 0) (Y := del Y i 0) (Y' := del Y' i 0) (fun r c hr hc => hX _ _ (skp_lt hr) (skp_lt hc)) (fun r c hr hc => hY _ _ (skp_lt hr) (skp_lt hc)) k
    have e1 := mul_mod (hY i 0 hi (by omega)) (ih k)
    have e2 : X i 0 * shf (dpl n (del X i 0) (del Y i 0)) k % p = X' i 0 * shf (dpl n (del X' i 0) (del Y' i 0)) k % p := mul_mod (hX i 0 hi (by omega)) (by
      simp only [shf]
      split
      · rfl
      · exact ih (k - 1))
    rw [Int.add_emod, e1, e2, ← Int.add_emod]
/-! t - A -/
def chM (A : Mx) (t : Int) : Mx := fun i j => (if i = j then t else 0) - A i j
/-- The characteristic polynomial's coefficients. -/
def chp (n : Nat) (A : Mx) : Nat → Int := dpl n idM (fun i j => - A i j)
theorem chM_lin (A : Mx) (t : Int) : chM A t = fun i j => t * idM i j + - A i j := by
  funext i j
  simp only [chM, idM]
  split
  · rw [Int.mul_one]; omega
  · rw [Int.mul_zero]; omega
theorem det_chp (n : Nat) (A : Mx) (t : Int) : det n (chM A t) = pev (n + 1) (chp n A) t := by
  rw [chM_lin, det_dpl]; rfl
theorem chp_mod {p : Int} {n : Nat} {A B : Mx} (h : ∀ i j, i < n → j < n → A i j % p = B i j % p) (k : Nat) : chp n A k % p = chp n B k % p :=
  dpl_mod (fun _ _ _ _ => rfl) (fun i j hi hj => by rw [Int.neg_emod_eq_sub_emod, Int.neg_emod_eq_sub_emod, Int.sub_emod, h i j hi hj, ← Int.sub_emod]) k
theorem chp_congr {n : Nat} {A B : Mx} (h : ∀ i j, i < n → j < n → A i j = B i j) (k : Nat) (hk : k < n + 1) : chp n A k = chp n B k :=
  pev_inj (n := n + 1) (fun t _ => by rw [← det_chp, ← det_chp]; exact det_congr fun i j hi hj => by simp only [chM]; rw [h i j hi hj]) k hk
/-- A polynomial that has the determinant's values is the characteristic polynomial. -/
theorem chp_uniq {n : Nat} {A : Mx} {c : Nat → Int} (h : ∀ t : Int, 1 ≤ t → det n (chM A t) = pev (n + 1) c t) (k : Nat) (hk : k < n + 1) : chp n A k = c k :=
  pev_inj (n := n + 1) (fun t ht => by rw [← det_chp, h t ht]) k hk
/-! the adjugate of t - A, by the powers of t -/
/-! powers -/
def pwM (n : Nat) (A : Mx) : Nat → Mx
  | 0 => idM
  | k + 1 => mulM n A (pwM n A k)
/-! a border -/
end Go.Ay

/- Powers modulo a prime. -/
namespace Go.Ay
def bnm : Nat → Nat → Nat
  | _, 0 => 1
  | 0, _ + 1 => 0
  | n + 1, k + 1 => bnm n k + bnm n (k + 1)
theorem bnm_zero (n : Nat) : bnm n 0 = 1 := by cases n <;> rfl
theorem bnm_succ (n k : Nat) : bnm (n + 1) (k + 1) = bnm n k + bnm n (k + 1) := rfl
theorem bnm_high : ∀ n k, n < k → bnm n k = 0
  | 0, 0, h => by omega
  | 0, _ + 1, _ => rfl
  | n + 1, 0, h => by omega
  | n + 1, k + 1, h => by rw [bnm_succ, bnm_high n k (by omega), bnm_high n (k + 1) (by omega)]
theorem bnm_mul : ∀ n k, (k + 1) * bnm (n + 1) (k + 1) = (n + 1) * bnm n k
  | 0, 0 => rfl
  | 0, k + 1 => by rw [bnm_high 1 (k + 2) (by omega), bnm_high 0 (k + 1) (by omega)]; omega
  | n + 1, 0 => by
    have h := bnm_mul n 0
    rw [bnm_succ, bnm_zero, Nat.mul_add, h, bnm_zero]; omega
  | n + 1, k + 1 => by
    have h1 := bnm_mul n k
    have h2 := bnm_mul n (k + 1)
    rw [bnm_succ (n + 1) (k + 1), Nat.mul_add, h2, bnm_succ n k]
    rw [bnm_succ n k] at h1
    generalize bnm n k = x at *
    generalize bnm n (k + 1) = y at *
    grind
theorem binom (n : Nat) (a : Int) : (1 + a) ^ n = pev (n + 1) (fun k => (bnm n k : Int)) a := by
  induction n with
  | zero => simp [pev, sm, bnm]
  | succ n ih =>
    rw [Int.pow_succ, ih, show pev (n + 1) (fun k => (bnm n k : Int)) a * (1 + a) = pev (n + 1) (fun k => (bnm n k : Int)) a + a * pev (n + 1) (fun k => (bnm n k : Int)) a by grind, ← pev_shf, ← pev_more (n := n + 1) (m := n + 1 + 1) (c := fun k => (bnm n k : Int)) (by omega) fun k h1 h2 => by rw [bnm_high n k (by omega)]; rfl, ← pev_add]
    refine pev_congr (fun k _ => ?_) a
    cases k with
    | zero => simp [shf, bnm_zero]
    | succ k =>
      simp only [shf, if_neg (Nat.succ_ne_zero k), Nat.add_sub_cancel]
      rw [bnm_succ]; omega
structure Pr (p : Nat) : Prop where
  two : 2 ≤ p
  div : ∀ d, d ∣ p → d = 1 ∨ d = p
theorem Pr.cop {p : Nat} (P : Pr p) {a : Nat} (h0 : 0 < a) (h1 : a < p) : Nat.Coprime p a := by
  rcases P.div (Nat.gcd p a) (Nat.gcd_dvd_left p a) with h | h
  · exact h
  · have := Nat.le_of_dvd h0 (Nat.gcd_dvd_right p a)
    omega
theorem Pr.bnm {p : Nat} (P : Pr p) {k : Nat} (h0 : 0 < k) (h1 : k < p) : p ∣ Ay.bnm p k := by
  obtain ⟨q, rfl⟩ : ∃ q, p = q + 1 := ⟨p - 1, by omega⟩
  obtain ⟨j, rfl⟩ : ∃ j, k = j + 1 := ⟨k - 1, by omega⟩
  have h := bnm_mul q j
  exact (P.cop h0 h1).dvd_of_dvd_mul_left (h ▸ Nat.dvd_mul_right (q + 1) _)
theorem fermat0 {p : Nat} (P : Pr p) : ∀ a : Nat, ((a : Int)) ^ p % p = (a : Int) % p
  | 0 => by
    have := P.two
    rw [show ((0 : Nat) : Int) = 0 from rfl, Int.zero_pow (by omega)]
  | a + 1 => by
    have h2 := P.two
    have e : ((a + 1 : Nat) : Int) = 1 + (a : Int) := by omega
    rw [e, binom]
    obtain ⟨q, rfl⟩ : ∃ q, p = q + 1 := ⟨p - 1, by omega⟩
    have e2 : pev (q + 1 + 1) (fun k => (Ay.bnm (q + 1) k : Int)) (a : Int) % ((q + 1 : Nat) : Int) = (1 + (a : Int) ^ (q + 1)) % ((q + 1 : Nat) : Int) := by
      rw [pev, sm_succ]
      have e3 : sm (q + 1) (fun k => (Ay.bnm (q + 1) k : Int) * (a : Int) ^ k) % ((q + 1 : Nat) : Int) = sm (q + 1) (fun k => if k = 0 then 1 else 0) % ((q + 1 : Nat) : Int) := sm_mod fun k hk => by
        by_cases h : k = 0
        · subst h; rw [if_pos rfl, bnm_zero]; simp
        · rw [if_neg h]
          obtain ⟨t, ht⟩ := P.bnm (k := k) (by omega) hk
          rw [ht, Int.natCast_mul, Int.mul_assoc, Int.mul_emod_right]; rfl
      have e4 : Ay.bnm (q + 1) (q + 1) = 1 := by
        have : ∀ n, Ay.bnm n n = 1 := fun n => by
          induction n with
          | zero => rfl
          | succ n ih => rw [bnm_succ, ih, bnm_high n (n + 1) (by omega)]
        exact this _
      rw [Int.add_emod, e3, e4, ← Int.add_emod, sm_pick (t := 0) (by omega) (fun _ => 1)]
      simp
    rw [e2, Int.add_emod, fermat0 P a, ← Int.add_emod]
theorem fermat {p : Nat} (P : Pr p) {a : Int} (h0 : 0 < a) (h1 : a < p) : a * a ^ (p - 2) % p = 1 := by
  have h2 := P.two
  obtain ⟨n, rfl⟩ : ∃ n : Nat, a = n := ⟨a.toNat, by omega⟩
  have h := fermat0 P n
  obtain ⟨q, rfl⟩ : ∃ q, p = q + 2 := ⟨p - 2, by omega⟩
  rw [Nat.add_sub_cancel]
  have e : (n : Int) ^ (q + 2) - n = n * (n * (n : Int) ^ q - 1) := by rw [Int.pow_succ, Int.pow_succ]; grind
  have hd : ((q + 2 : Nat) : Int) ∣ (n : Int) ^ (q + 2) - n := Int.dvd_of_emod_eq_zero (Int.emod_eq_emod_iff_emod_sub_eq_zero.1 h)
  rw [e] at hd
  have c : Nat.Coprime (q + 2) n := P.cop (by omega) (by omega)
  have hd2 : ((q + 2 : Nat) : Int) ∣ (n : Int) * (n : Int) ^ q - 1 := by
    have := Int.natAbs_dvd_natAbs.2 hd
    rw [Int.natAbs_mul, Int.natAbs_natCast, Int.natAbs_natCast] at this
    have := c.dvd_of_dvd_mul_left this
    exact Int.natAbs_dvd_natAbs.1 (by rw [Int.natAbs_natCast]; exact this)
  have := Int.emod_eq_emod_iff_emod_sub_eq_zero.2 (Int.emod_eq_zero_of_dvd hd2)
  rw [this]
  exact Int.emod_eq_of_lt (by omega) (by omega)
end Go.Ay

