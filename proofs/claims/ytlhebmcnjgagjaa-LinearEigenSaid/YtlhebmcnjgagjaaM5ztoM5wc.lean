/- Layer 5: the plain law of the intersection. Layer 5: Meet. Layer 5: the reference's check, Basis, Rank, In, Sum. Layer 5: the law of the intersection. Layer 5: the tags of a system's rows. Layer 5: Solve. Layer 5: two rows appended; a taker under another's change. The law LinearBasis, walked. Layer 5: the reference's Apply: its result lies at or behind the heap's index. Layer 5: for LinearSolves: apply, a part of rows, a row replaced. Layer 5: Sum and Meet by what they compute; the reference's kernel and Meet. Layer 5: the reference's Meet. The law LinearMeets, walked. Layer 5: the law LinearSpans, walked. The step of Samuelson and Berkowitz, as a convolution. Layer 4: the reference's Poly. Layer 5: Values, of the program and of the reference. Layer 5: Values, of the program. Layer 5: Eigen, of the program and of the reference; the reference's Kernel. Layer 5: the plain law of Solve: one solution that is 0 at rows that earlier ones span. Layer 5: the plain law of the reference's Solve: rows that earlier ones do not span; a kernel of one row. Layer 5: the reference's Solve. Layer 5: the plain law of LinearEigen. Layer 5: the law LinearMaps, walked. The law LinearSolves, walked. Layer 5: Eigen with the span that it found; membership; the law LinearEigen, walked. Layer 5: the law LinearEigen, walked. -/
import Derived.Test.YtlhebmcnjgagjaaM5gtoM5w
import Derived.Test.YtlhebmcnjgagjaaL4ytoL4tb
import Derived.Test.YtlhebmcnjgagjaaL4atoL4x
import Derived.Test.YtlhebmcnjgagjaaAy34
/- Layer 5: the plain law of the intersection. -/
namespace Go.Proofs.Ytlhebmcnjgagjaa
open Go Go.Ay
set_option maxRecDepth 100000
section
variable {p : Int} {n : Nat} {ll : List (List Int)} {P : Nat → Nat} {g : Nat → Nat → Int}
theorem Pv.vw (v : Pv p n ll P g) {i j : Nat} (hi : i < ll.length) (hj : j < n) : vw ll i j = g i j := by
  rw [Go.Proofs.Ytlhebmcnjgagjaa.vw, v.row i hi, mkV_get _ hj]
/-- At a pivot a combination shows its coefficient. -/
theorem Pv.at_ (v : Pv p n ll P g) (κ : Nat → Int) {t : Nat} (ht : t < ll.length) : sm ll.length (fun i => κ i * Go.Proofs.Ytlhebmcnjgagjaa.vw ll i (P t)) = κ t := by
  rw [sm_one (t := t) ht fun a ha hne => by rw [v.vw ha (v.lt t ht), v.zer t a ht ha hne, Int.mul_zero], v.vw ht (v.lt t ht), v.one t ht, Int.mul_one]
end
theorem vw_app {a b : List (List Int)} {i j : Nat} : vw (a ++ b) i j = if i < a.length then vw a i j else vw b (i - a.length) j := by
  unfold vw
  rw [List.getD_eq_getElem?_getD (l := a ++ b)]
  by_cases e : i < a.length
  · rw [if_pos e, List.getElem?_append_left e, ← List.getD_eq_getElem?_getD]
  · rw [if_neg e, List.getElem?_append_right (by omega), ← List.getD_eq_getElem?_getD]
section
variable {p : Int} {n : Nat} {first second : List (List Int)} {P1 P2 PK : Nat → Nat} {g1 g2 gK : Nat → Nat → Int} {K : List (List Int)}
end
end Go.Proofs.Ytlhebmcnjgagjaa

/- Layer 5: Meet. -/
namespace Go.Proofs.Ytlhebmcnjgagjaa
open Go Go.Ay
set_option maxRecDepth 100000
end Go.Proofs.Ytlhebmcnjgagjaa

/- Layer 5: the reference's check, Basis, Rank, In, Sum. -/
namespace Go.Proofs.Ytlhebmcnjgagjaa
open Go Go.Ay
set_option maxRecDepth 100000
theorem SRc.sr {h : H} {u : V} {ll : List (List Int)} {lo : Nat} (s : SRc h u ll lo) : SR h u ll := s.srf.sr
end Go.Proofs.Ytlhebmcnjgagjaa

/- Layer 5: the law of the intersection. -/
namespace Go.Proofs.Ytlhebmcnjgagjaa
open Go Go.Ay
set_option maxRecDepth 100000
theorem InS.app {p : Int} {n m : Nat} {V : Nat → Nat → Int} {A B : List (List Int)} (hA : ∀ i, i < A.length → InS p n m V (vw A i)) (hB : ∀ i, i < B.length → InS p n m V (vw B i)) : ∀ i, i < (A ++ B).length → InS p n m V (vw (A ++ B) i) := fun i hi => by
  rw [List.length_append] at hi
  by_cases e : i < A.length
  · exact (hA i e).congr fun j _ => by rw [vw_app, if_pos e]
  · exact (hB (i - A.length) (by omega)).congr fun j _ => by rw [vw_app, if_neg e]
end Go.Proofs.Ytlhebmcnjgagjaa

/- Layer 5: the tags of a system's rows. -/
namespace Go.Proofs.Ytlhebmcnjgagjaa
open Go Go.Ay
set_option maxRecDepth 100000
section
variable {p : Int} {n m W i k : Nat} {V : Nat → Nat → Int} {S : Nat → Bool} {f : Nat → Nat → Int}
theorem Sp.cut {U : Nat → Nat → Int} (hW : n ≤ W) (s : Sp p n W U i S f k) : Sp p n n U i S f k :=
  ⟨⟨fun c j hc hs hj => s.re.rng c j hc hs (by omega), s.re.one, s.re.zer, s.re.lead⟩, fun c hc hs => (s.out c hc hs).cols hW, s.inn, s.cn⟩
end
end Go.Proofs.Ytlhebmcnjgagjaa

/- Layer 5: Solve. -/
namespace Go.Proofs.Ytlhebmcnjgagjaa
open Go Go.Ay
set_option maxRecDepth 100000
end Go.Proofs.Ytlhebmcnjgagjaa

/- Layer 5: two rows appended; a taker under another's change. -/
namespace Go.Proofs.Ytlhebmcnjgagjaa
open Go Go.Ay
set_option maxRecDepth 100000
theorem vw_mkR {m n : Nat} {A : Mx} {i j : Nat} (hi : i < m) (hj : j < n) : vw (mkR m n A) i j = A i j := by rw [vw, mkR_row _ hi, mkV_get _ hj]
theorem Rws.open {h : H} {u : V} {ws : List V} {ll : List (List Int)} {lo : Nat} (r : Rws h u ws ll lo) : ∃ id off, Sl u 1 ll.length id off ∧ (0 < ll.length → id < h.next ∧ lo ≤ id) ∧ ws.length = ll.length ∧ ∀ i, i < ll.length → h.cell id (off + i) = some (ws.getD i .undef) := by
  have hl := r.row.length
  obtain ⟨id, off, h1, h2, h3⟩ := r.own.sv.shape ll.length (by rw [hl, Nat.mul_one]) (by omega)
  refine ⟨id, off, h1, fun h0 => ⟨h2 h0, ?_⟩, hl, fun i i1 => ?_⟩
  · rcases r.own with ⟨h1', _⟩ | ⟨id', n, cap, rest, h1', _, _, h4, _⟩
    · have := h1.len
      rw [h1'] at this
      simp [lenV] at this
      omega
    · have e := h1.ixa .i64 0 (by omega) (by omega)
      have hn : n = ll.length := by
        have := h1.len
        rw [h1'] at this
        simpa [lenV] using this
      rw [h1', ixaV_sl (by omega) (by omega)] at e
      simp only [Option.some.injEq, V.ptr.injEq] at e
      omega
  · rw [h3 i (by omega), List.getD_eq_getElem?_getD, List.getElem?_eq_getElem (by omega)]; rfl
theorem InS.vw {p : Int} {n m : Nat} {V : Nat → Nat → Int} {ll ll' : List (List Int)} {q q' : Nat} (h : InS p n m V (vw ll q)) (e : ll'.getD q' [] = ll.getD q []) : InS p n m V (Go.Proofs.Ytlhebmcnjgagjaa.vw ll' q') := by
  unfold Go.Proofs.Ytlhebmcnjgagjaa.vw at h ⊢
  rw [e]; exact h
end Go.Proofs.Ytlhebmcnjgagjaa

/- The law LinearBasis, walked. -/
namespace Go.Proofs.Ytlhebmcnjgagjaa
open Go Go.Ay
set_option maxRecDepth 100000
end Go.Proofs.Ytlhebmcnjgagjaa

/- Layer 5: the reference's Apply: its result lies at or behind the heap's index. -/
namespace Go.Proofs.Ytlhebmcnjgagjaa
open Go Go.Ay
set_option maxRecDepth 100000
set_option maxHeartbeats 8000000 in
theorem ref_Apply_fr (vv va : V) (v : List Int) (a : Mat) (h : H) (hv : SI h vv v) (lv : (v.length : Int) ≤ 2 ^ 63 - 1) (ha : MatV h va a) (la : (a.2.length : Int) ≤ 2 ^ 63 - 1) :
    Ev T n_ref04_Apply [vv, va] h (fun r h' => ∃ w, r = .tup [w, .int .i64 (ApplyF v a).2] ∧ SI h' w (ApplyF v a).1 ∧ Fr h h' ∧ Frs w h.next) := by
  obtain ⟨ua, rfl, hua⟩ := ha
  obtain ⟨p, A⟩ := a
  simp only at hua la
  refine Ev_of t_ref04_Apply rfl ?_
  have wa := SV.what hua.choose_spec.1
  simp (disch := first | omega | (simp only [Qn] <;> omega)) only [go_sem, c_ref04_Apply, initV_eq, boxV_agg2 h (v := .int .i64 p) rfl wa.2.1]
  have hfx : Fr h (h.new (.cells false [.int .i64 p, ua])) := (Fr.refl h).new _
  have hgx : (h.new (.cells false [.int .i64 p, ua])).get h.next = some (.cells false [.int .i64 p, ua]) := H.get_new_same ..
  have hnx : (h.new (.cells false [.int .i64 p, ua])).next = h.next + 1 := H.next_new ..
  generalize h.new (.cells false [.int .i64 p, ua]) = hx at *
  have rx := row_two hgx
  simp (disch := first | omega | (simp only [Qn] <;> omega)) only [go_sem, rx]
  refine (ref_check_ok _ (p, A) hx ⟨ua, rfl, hua.mono hfx⟩ la).mono ?_
  rintro r h5 ⟨rfl, f5⟩
  have F5 := hfx.trans f5
  have gx5 := (f5.get h.next (by omega)).trans hgx
  have n5 := f5.next
  simp (disch := first | omega | (simp only [Qn] <;> omega)) only [go_sem]
  refine iteW_dec (fun he => ?_) (fun he => ?_)
  · simp (disch := first | omega | (simp only [Qn] <;> omega)) only [go_sem]
    have e : ApplyF v (p, A) = ([], checkM (p, A)) := by rw [ApplyF, if_pos he]
    rw [e]
    exact ⟨_, rfl, SV.nils _ _, F5, fun _ _ _ _ e => by cases e⟩
  have hz : checkM (p, A) = 0 := Classical.byContradiction he
  have da := check_vd hz
  have hp := fieldF_range da.p
  have hra1 := da.r1
  have hra2 := da.r2
  have hca1 := da.c1
  have hca2 := da.c2
  simp only at hp hra1 hra2
  obtain ⟨c, hc⟩ : ∃ c, (A.getD 0 []).length = c := ⟨_, rfl⟩
  simp only [hc] at da hca1 hca2
  have x0 : h5.cell h.next 0 = some (.int .i64 p) := by rw [H.cell_of gx5]; rfl
  have x1 : h5.cell h.next 1 = some ua := by rw [H.cell_of gx5]; rfl
  simp (disch := first | omega | (simp only [Qn] <;> omega)) only [go_sem, hv.lens, x1, hua.lens]
  refine iteW_dec (fun hl => ?_) (fun hl => ?_)
  · simp (disch := first | omega | (simp only [Qn] <;> omega)) only [go_sem]
    have e : ApplyF v (p, A) = ([], 10) := by rw [ApplyF, if_neg (by simp [hz]), if_pos (by show v.length ≠ A.length; omega)]
    rw [e]
    exact ⟨_, rfl, SV.nils _ _, F5, fun _ _ _ _ e => by cases e⟩
  have hlen : v.length = A.length := by omega
  obtain ⟨ida, offa, wsa, ρa, oa, RA⟩ := SR.rd (hua.mono F5) fun i hi => da.row i hi
  obtain ⟨idv, offv, sv, hidv, cv⟩ := (hv.mono F5).open
  have ca0 : h5.cell ida offa = some (wsa.getD 0 .undef) := RA.at_ 0 hra1
  have emk : mksV h5 1 8 [.int .i64 0] (.int .i64 (c : Int)) (.int .i64 (c : Int)) = some (.sl h5.next 0 c (.kn c), h5.new (.cells false (ints (List.replicate c 0)))) := by
    rw [mksV_int (by omega) (Int.le_refl _) (by omega) (by omega), Int.toNat_natCast, Nat.mul_one, zeros_int]
  simp (disch := first | omega | (simp only [Qn] <;> omega)) only [go_sem, x1, RA.sl.ixa, ca0, RA.lens hra1, emk]
  have hfz : Fr h5 (h5.new (.cells false (ints (List.replicate c 0)))) := (Fr.refl h5).new _
  have hgz : (h5.new (.cells false (ints (List.replicate c 0)))).get h5.next = some (.cells false (ints (List.replicate c 0))) := H.get_new_same ..
  have hnz : (h5.new (.cells false (ints (List.replicate c 0)))).next = h5.next + 1 := H.next_new ..
  generalize h5.new (.cells false (ints (List.replicate c 0))) = hz5 at *
  obtain ⟨S, hS⟩ : ∃ S : Nat → Nat → Int, S = fun i k => sm i (fun i => v.getD i 0 % p * ent A i k) % p := ⟨_, rfl⟩
  have Sr : ∀ i k, 0 ≤ S i k ∧ S i k < p := fun i k => by rw [hS]; exact tmod_range _ (by omega)
  have S0 : ∀ k, S 0 k = 0 := fun k => by rw [hS]; rfl
  have er : List.replicate c (0 : Int) = mkV c (fun x => if x < 0 then S v.length x else if x = 0 then S 0 x else 0) := mkV_eq (List.length_replicate ..) fun j hj => by
    rw [List.getD_eq_getElem?_getD, List.getElem?_replicate, if_pos hj, if_neg (by omega), S0]; simp
  rw [er] at hgz
  have lsl : lensV (.sl h5.next 0 c (.kn c)) = some (.int .i64 (c : Int)) := rfl
  refine Wp_loop (fun k' vars h3 => ∃ (k : Nat), (∃ g : Nat → V, vars = [vv, g 1, .ptr h.next 0, g 3, g 4, g 5, .sl h5.next 0 c (.kn c), .int .i64 (k : Int), g 8, g 9, g 10, g 11, g 12]) ∧ k ≤ c ∧ h3.get h5.next = some (.cells false (ints (mkV c (fun x => if x < k then S v.length x else if x = k then S 0 x else 0)))) ∧ h5.next < h3.next ∧ Fr h5 h3 ∧ k' = c - k) c
    ⟨0, ex_junk rfl, Nat.zero_le _, hgz, by omega, hfz, rfl⟩ ?_
  clear hgz hfz er emk ca0
  rintro k' vars h3 ⟨k, ⟨g, rfl⟩, hk, g3, n3, f3, rfl⟩
  simp (disch := first | omega | (simp only [Qn] <;> omega)) only [go_sem, lsl]
  by_cases hlt : (k : Int) < (c : Int)
  · rw [decide_eq_true hlt]
    simp (disch := first | omega | (simp only [Qn] <;> omega)) only [go_sem]
    refine Wp_loop (fun k' vars h3 => ∃ (i : Nat), (∃ g : Nat → V, vars = [vv, g 1, .ptr h.next 0, g 3, g 4, g 5, .sl h5.next 0 c (.kn c), .int .i64 (k : Int), .int .i64 (i : Int), g 9, g 10, g 11, g 12]) ∧ i ≤ v.length ∧ h3.get h5.next = some (.cells false (ints (mkV c (fun x => if x < k then S v.length x else if x = k then S i x else 0)))) ∧ h5.next < h3.next ∧ Fr h5 h3 ∧ k' = v.length - i) v.length
      ⟨0, ex_junk rfl, Nat.zero_le _, g3, n3, f3, rfl⟩ ?_
    clear g3 n3 f3 g
    rintro k' vars h3 ⟨i, ⟨g, rfl⟩, hi, g3, n3, f3, rfl⟩
    simp (disch := first | omega | (simp only [Qn] <;> omega)) only [go_sem, hv.lens]
    by_cases hlt2 : (i : Int) < (v.length : Int)
    · rw [decide_eq_true hlt2]
      have hi' : i < A.length := by omega
      have hk' : k < c := by omega
      have x0' : h3.cell h.next 0 = some (.int .i64 p) := by rw [f3.cell (by omega)]; exact x0
      have x1' : h3.cell h.next 1 = some ua := by rw [f3.cell (by omega)]; exact x1
      have cvi : h3.cell idv (offv + i) = some (.int .i64 (v.getD i 0)) := by rw [f3.cell (hidv (by omega))]; exact cv i (by omega)
      have RA3 := RA.fr f3
      have co : h3.cell h5.next k = some (.int .i64 (S i k)) := by
        rw [H.cell_of g3, ints_getD (by rw [mkV_len]; exact hk'), mkV_get _ hk', if_neg (by omega), if_pos rfl]
      have b1 := da.lo i k hi' hk'
      have b2 := da.hi i k hi' hk'
      have b3 := tmod_range (v.getD i 0) (show 0 < p by omega)
      have b4 := mul_bound b3.1 b3.2 b1 b2 hp.2
      simp only at b4
      have b5 := Sr i k
      have ev : eqV ua ua = true := SV.eqV hua.choose_spec.1
      have ew : eqV (wsa.getD i .undef) (wsa.getD i .undef) = true := SV.eqV (RA.row i hi')
      have em : (S i k + v.getD i 0 % p * ent A i k).tmod p = S (i + 1) k := by
        rw [nonneg_tmod (by omega), hS]
        simp only
        rw [sm_succ, Int.emod_add_emod]
      simp (disch := first | omega | (simp only [Qn] <;> omega)) only [go_sem, co, sv.ixa, cvi, x0', x1', RA.sl.ixa, RA3.at_ i hi', (RA.rsl i hi').ixa, RA3.ent i k hi' hk']
      refine (pick_ok (v.getD i 0) p (H.mk h3.tr (h3.next + 28)) (by omega) (by omega)).mono ?_
      rintro r h4 ⟨rfl, rfl⟩
      have hput : putO (some (.cells false (ints (mkV c (fun x => if x < k then S v.length x else if x = k then S i x else 0))))) (H.mk h3.tr (h3.next + 28)) h5.next k [.int .i64 (S (i + 1) k)] = some ((H.mk h3.tr (h3.next + 28)).set h5.next (some (.cells false (ints (mkV c (fun x => if x < k then S v.length x else if x = k then S (i + 1) x else 0)))))) := by
        rw [putO_ints (by rw [mkV_len]; exact hk'), mkV_set]
        congr 5
        refine mkV_congr fun x _ => ?_
        by_cases e : x = k
        · subst e; rw [if_pos rfl, if_neg (by omega), if_pos rfl]
        · rw [if_neg e, if_neg e, if_neg e]
      simp (disch := first | omega | (simp only [Qn] <;> omega)) only [go_sem, co, sv.ixa, cvi, x0', x1', RA.sl.ixa, RA3.at_ i hi', (RA.rsl i hi').ixa, RA3.ent i k hi' hk', ev, ew, em, g3, hput]
      rw [show (i : Int) + 1 = ((i + 1 : Nat) : Int) from by omega]
      exact ⟨v.length - (i + 1), by omega, i + 1, ex_junk rfl, by omega, rfl, by show h5.next < h3.next + 28; omega, (f3.bump (by omega)).set (Nat.le_refl _) _, rfl⟩
    · rw [decide_eq_false hlt2]
      obtain rfl : i = v.length := by omega
      simp (disch := first | omega | (simp only [Qn] <;> omega)) only [go_sem]
      rw [show (k : Int) + 1 = ((k + 1 : Nat) : Int) from by omega]
      refine ⟨c - (k + 1), by omega, k + 1, ex_junk rfl, by omega, ?_, n3, f3, rfl⟩
      rw [g3]
      congr 4
      funext x
      by_cases e : x < k
      · rw [if_pos e, if_pos (by omega)]
      · rw [if_neg e]
        by_cases e2 : x = k
        · rw [if_pos e2, if_pos (by omega)]
        · rw [if_neg e2, if_neg (by omega), S0]; split <;> rfl
  · rw [decide_eq_false hlt]
    obtain rfl : k = c := by omega
    simp (disch := first | omega | (simp only [Qn] <;> omega)) only [go_sem]
    have e : ApplyF v (p, A) = (mkV k (S v.length), 0) := by
      rw [ApplyF, if_neg (by simp [hz]), if_neg (by simp [hlen]), applyF, mkV_len, hS, ← hc]
      congr 1
      refine mkV_congr fun x _ => ?_
      simp only
      refine congrArg (· % p) (sm_congr fun j hj => ?_)
      rw [mkV_get _ hj]
    rw [e]
    have so := SI.own (h := h3) (id := h5.next) (by omega) g3 (.kn k)
    rw [mkV_len, mkV_congr (g := S v.length) fun x hx => if_pos hx] at so
    exact ⟨_, rfl, so, F5.trans f3, fun _ _ _ _ e => by cases e; have := F5.next; omega⟩
end Go.Proofs.Ytlhebmcnjgagjaa

/- Layer 5: for LinearSolves: apply, a part of rows, a row replaced. -/
namespace Go.Proofs.Ytlhebmcnjgagjaa
open Go Go.Ay
set_option maxRecDepth 100000
theorem all2_take {α β : Type} {R : α → β → Prop} : ∀ {as : List α} {bs : List β} (k : Nat), All2 R as bs → All2 R (as.take k) (bs.take k)
  | [], [], k, _ => by rw [List.take_nil, List.take_nil]; exact trivial
  | _ :: _, _ :: _, 0, _ => trivial
  | a :: as, b :: bs, k + 1, h => ⟨h.1, all2_take k h.2⟩
  | [], _ :: _, _, h => h.elim
  | _ :: _, [], _, h => h.elim
theorem Rws.pre {h : H} {id m lo : Nat} {ws : List V} {ll : List (List Int)} (r : Rws h (.sl id 0 m (.un 1)) ws ll lo) {k : Nat} (hk : k ≤ ll.length) : Rws h (.sl id 0 k (.un 1)) (ws.take k) (ll.take k) lo := by
  have hl := r.row.length
  refine ⟨?_, all2_take k r.row, fun w hw => ?_, fun w hw => r.frs w (List.mem_of_mem_take hw)⟩
  · rcases r.own with ⟨e, _⟩ | ⟨id', n, cap, rest, e, h1, _, h3, h4, h5⟩
    · cases e
    · cases e
      exact .inr ⟨id, k, .un 1, ws.drop k ++ rest, rfl, by rw [List.length_take]; omega, .inl rfl, h3, h4, by rw [h5, ← List.append_assoc, List.take_append_drop]⟩
  · have := r.dis w (List.mem_of_mem_take hw)
    intro i o n' c e i' o' n2 c' e'
    cases e
    exact this _ _ _ _ rfl _ _ _ _ e'
theorem apply_ok (vv va : V) (v : List Int) (a : Mat) (h : H) (hv : SI h vv v) (lv : (v.length : Int) ≤ 2 ^ 63 - 1) (ha : MatV h va a) (la : (a.2.length : Int) ≤ 2 ^ 63 - 1) :
    Ev T n_law05_apply [vv, va] h (fun w h' => SI h' w (ApplyF v a).1 ∧ Fr h h' ∧ Frs w h.next) := by
  obtain ⟨ua, rfl, hua⟩ := ha
  refine Ev_of t_law05_apply rfl ?_
  have wa := SV.what hua.choose_spec.1
  simp (disch := first | omega | (simp only [Qn] <;> omega)) only [go_sem, c_law05_apply, initV_eq, boxV_agg2 h (v := .int .i64 a.1) rfl wa.2.1]
  have hfx : Fr h (h.new (.cells false [.int .i64 a.1, ua])) := (Fr.refl h).new _
  have hgx : (h.new (.cells false [.int .i64 a.1, ua])).get h.next = some (.cells false [.int .i64 a.1, ua]) := H.get_new_same ..
  have hnx : (h.new (.cells false [.int .i64 a.1, ua])).next = h.next + 1 := H.next_new ..
  generalize h.new (.cells false [.int .i64 a.1, ua]) = hx at *
  simp (disch := first | omega | (simp only [Qn] <;> omega)) only [go_sem, row_two hgx]
  refine (ref_Apply_fr vv _ v a hx (hv.mono hfx) lv ⟨ua, rfl, hua.mono hfx⟩ la).mono ?_
  rintro w h2 ⟨u, rfl, su, f2, fu⟩
  simp (disch := first | omega | (simp only [Qn] <;> omega)) only [go_sem]
  exact ⟨su, hfx.trans f2, fu.le (by omega)⟩
end Go.Proofs.Ytlhebmcnjgagjaa

/- Layer 5: Sum and Meet by what they compute; the reference's kernel and Meet. -/
namespace Go.Proofs.Ytlhebmcnjgagjaa
open Go Go.Ay
set_option maxRecDepth 100000
theorem Sp.same {p : Int} {n W m k : Nat} {V V' : Nat → Nat → Int} {S : Nat → Bool} {f : Nat → Nat → Int} (s : Sp p n W V m S f k) (hW : n ≤ W) (e : ∀ i j, i < m → j < W → V i j % p = V' i j % p) : Sp p n W V' m S f k where
  re := s.re
  out := fun c hc hs => (s.out c hc hs).rows e
  inn := fun a ha => (s.inn a ha).congr fun j hj => (e a j ha (by omega)).symm
  cn := s.cn
end Go.Proofs.Ytlhebmcnjgagjaa

/- Layer 5: the reference's Meet. -/
namespace Go.Proofs.Ytlhebmcnjgagjaa
open Go Go.Ay
set_option maxRecDepth 100000
end Go.Proofs.Ytlhebmcnjgagjaa

/- The law LinearMeets, walked. -/
namespace Go.Proofs.Ytlhebmcnjgagjaa
open Go Go.Ay
set_option maxRecDepth 100000
end Go.Proofs.Ytlhebmcnjgagjaa

/- Layer 5: the law LinearSpans, walked. -/
namespace Go.Proofs.Ytlhebmcnjgagjaa
open Go Go.Ay
set_option maxRecDepth 100000
end Go.Proofs.Ytlhebmcnjgagjaa

/- The step of Samuelson and Berkowitz, as a convolution. -/
namespace Go.Ay
end Go.Ay

/- Layer 4: the reference's Poly.
-/
namespace Go.Proofs.Ytlhebmcnjgagjaa
open Go Go.Ay
set_option maxRecDepth 100000
end Go.Proofs.Ytlhebmcnjgagjaa

/- Layer 5: Values, of the program and of the reference. -/
namespace Go.Proofs.Ytlhebmcnjgagjaa
open Go Go.Ay
set_option maxRecDepth 100000
/-- Horner's way, from the last coefficient on. -/
def vlF (p x : Int) (c : List Int) : Nat → Int
  | 0 => 0
  | s + 1 => (vlF p x c s * x + c.getD (c.length - (s + 1)) 0) % p
theorem vlF_range {p : Int} (hp : 0 < p) (x : Int) (c : List Int) : ∀ s, 0 ≤ vlF p x c s ∧ vlF p x c s < p
  | 0 => ⟨Int.le_refl 0, hp⟩
  | s + 1 => by rw [vlF]; exact tmod_range _ hp
def rtF (p : Int) (c : List Int) (n : Nat) : List Int := ((List.range n).filter fun x : Nat => decide (vlF p (x : Int) c c.length = 0)).map fun x : Nat => (x : Int)
theorem rtF_succ (p : Int) (c : List Int) (n : Nat) : rtF p c (n + 1) = rtF p c n ++ (if vlF p (n : Int) c c.length = 0 then [(n : Int)] else []) := by
  rw [rtF, List.range_succ, List.filter_append, List.map_append]
  congr 1
  by_cases e : vlF p (n : Int) c c.length = 0 <;> simp [List.filter, e]
theorem rtF_len (p : Int) (c : List Int) (n : Nat) : (rtF p c n).length ≤ n := by
  rw [rtF, List.length_map]; exact Nat.le_trans (List.length_filter_le _ _) (by rw [List.length_range]; omega)
noncomputable def ValuesF (a : Mat) : List Int × Int := if (PolyF a).2 ≠ 0 then ([], (PolyF a).2) else (rtF a.1 (PolyF a).1 a.1.toNat, 0)
theorem polyF_good {a : Mat} (h : ¬ (PolyF a).2 ≠ 0) : checkM a = 0 ∧ (PolyF a).1.length < 1000 ∧ ∀ i, i < (PolyF a).1.length → 0 ≤ (PolyF a).1.getD i 0 ∧ (PolyF a).1.getD i 0 < a.1 := by
  have hs : sqF a = 0 := by
    by_cases e : sqF a = 0
    · exact e
    · rw [PolyF, if_pos e] at h
      exact absurd e h
  have hc : checkM a = 0 := by
    unfold sqF at hs
    by_cases e : checkM a = 0
    · exact e
    · first
      | (rw [if_pos e] at hs; exact absurd hs e)
      | (simp [e] at hs)
  have d := check_vd hc
  have hp := fieldF_range d.p
  have r2 := d.r2
  refine ⟨hc, ?_⟩
  rw [PolyF, if_neg (by simp [hs])]
  simp only [mkV_len]
  refine ⟨by omega, fun i hi => ?_⟩
  rw [mkV_get _ hi]
  exact tmod_range _ (by omega)
theorem hn_bound {p v x y : Int} (hp : p < 10000) (hv : 0 ≤ v ∧ v < p) (hx : 0 ≤ x ∧ x < p) (hy : 0 ≤ y ∧ y < p) : 0 ≤ v * x ∧ v * x ≤ 100000000 ∧ 0 ≤ v * x + y ∧ v * x + y ≤ 200000000 := by
  have b1 := Int.mul_nonneg hv.1 hx.1
  have b2 := Int.mul_le_mul (show v ≤ 10000 by omega) (show x ≤ 10000 by omega) hx.1 (by omega)
  omega
end Go.Proofs.Ytlhebmcnjgagjaa

/- Layer 5: Values, of the program. -/
namespace Go.Proofs.Ytlhebmcnjgagjaa
open Go Go.Ay
set_option maxRecDepth 100000
theorem backward_loop (LID X : Nat) (w : V) (C : List Int) (J : Nat → H → Prop)
    (hP : ∀ s hh, J s hh → hh.get X = some (.cells false [w]) ∧ SI hh w C)
    (hY : ∀ s hh, s < C.length → J s hh → Ey T LID [.int .i64 ((C.length : Int) - 1 - (s : Int)), .int .i64 (C.getD (C.length - (s + 1)) 0)] hh (fun v hh' => v = .bool true ∧ J (s + 1) hh')) (hh : H) (h0 : J 0 hh) (hn : C.length < 1000000) :
    Ev T n_slices_Backward_int_int_1 [.yl LID, .ptr X 0] hh (fun _ hh' => J C.length hh') := by
  refine Ev_of t_slices_Backward_int_int_1 rfl ?_
  obtain ⟨gX, sC⟩ := hP 0 hh h0
  have x0 : hh.cell X 0 = some w := by rw [H.cell_of gX]; rfl
  simp (disch := first | omega | (simp only [Qn] <;> omega)) only [go_sem, c_slices_Backward_int_int_1, initV_eq, x0, sC.lens]
  refine Wp_loop (fun k' vars h1 => ∃ s : Nat, (∃ j : Nat → V, vars = [.yl LID, .ptr X 0, .int .i64 ((C.length : Int) - 1 - (s : Int)), j 3, j 4]) ∧ s ≤ C.length ∧ J s h1 ∧ k' = C.length - s) C.length
    ⟨0, ex_junk (by rw [Int.natCast_zero, Int.sub_zero]; rfl), Nat.zero_le _, h0, rfl⟩ ?_
  clear h0 gX x0 sC
  rintro k' vars h1 ⟨s, ⟨jk, rfl⟩, hs, hJ, rfl⟩
  obtain ⟨gX, sC⟩ := hP s h1 hJ
  have x0 : h1.cell X 0 = some w := by rw [H.cell_of gX]; rfl
  obtain ⟨id, off, sl, hid, hc⟩ := sC.open
  simp (disch := first | omega | (simp only [Qn] <;> omega)) only [go_sem]
  by_cases hsl : (0 : Int) ≤ (C.length : Int) - 1 - (s : Int)
  · rw [decide_eq_true hsl]
    have hs' : s < C.length := by omega
    have eI : ((C.length : Int) - 1 - (s : Int)).toNat = C.length - (s + 1) := by omega
    have cc := hc (C.length - (s + 1)) (by omega)
    simp (disch := first | omega | (simp only [Qn] <;> omega)) only [go_sem, x0, sl.ixa, eI, cc]
    refine (hY s h1 hs' hJ).mono ?_
    rintro v h2 ⟨rfl, hJ2⟩
    simp (disch := first | omega | (simp only [Qn] <;> omega)) only [go_sem]
    rw [show (C.length : Int) - 1 - (s : Int) - 1 = (C.length : Int) - 1 - ((s + 1 : Nat) : Int) by omega]
    exact ⟨C.length - (s + 1), by omega, s + 1, ex_junk rfl, by omega, hJ2, rfl⟩
  rw [decide_eq_false hsl]
  obtain rfl : s = C.length := by omega
  simp (disch := first | omega | (simp only [Qn] <;> omega)) only [go_sem]
  exact hJ
theorem backward_ok (w : V) (h : H) (h1 : w.cells = [w]) (h2 : w.one = true) : Ev T n_slices_Backward_int_int [w] h (fun v h' => v = .fn 88 [] [.ptr h.next 0] ∧ h' = h.new (.cells false [w])) := by
  refine Ev_of t_slices_Backward_int_int rfl ?_
  simp (disch := first | omega | (simp only [Qn] <;> omega)) only [go_sem, c_slices_Backward_int_int, initV_eq, fun hh => box_one hh h1 h2]
structure VJ (X7 X8 XB LID : Nat) (x v : Int) (wc : V) (h : H) (rc : LRec) (hh : H) : Prop where
  g7 : hh.get X7 = some (.cells false [.int .i64 x])
  g8 : hh.get X8 = some (.cells false [.int .i64 v])
  gB : hh.get XB = some (.cells false [wc])
  gL : hh.get LID = some (.loop rc)
  fr : Fr h hh
  lt : LID < hh.next
set_option maxHeartbeats 8000000 in
theorem Values_ok (va : V) (a : Mat) (h : H) (ha : MatV h va a) (la : (a.2.length : Int) ≤ 2 ^ 63 - 1) : Ev T n_linear_Values [va] h (fun v h' => ∃ w, v = .tup [w, .int .i64 (ValuesF a).2] ∧ SI h' w (ValuesF a).1 ∧ Fr h h') := by
  obtain ⟨ua, rfl, hua⟩ := ha
  refine Ev_of t_linear_Values rfl ?_
  have wa := SV.what hua.choose_spec.1
  simp (disch := first | omega | (simp only [Qn] <;> omega)) only [go_sem, c_linear_Values, initV_eq, boxV_agg2 h (v := .int .i64 a.1) rfl wa.2.1]
  have hf1 : Fr h (h.new (.cells false [.int .i64 a.1, ua])) := (Fr.refl h).new _
  have hg1 : (h.new (.cells false [.int .i64 a.1, ua])).get h.next = some (.cells false [.int .i64 a.1, ua]) := H.get_new_same ..
  have hn1 : (h.new (.cells false [.int .i64 a.1, ua])).next = h.next + 1 := H.next_new ..
  generalize h.new (.cells false [.int .i64 a.1, ua]) = h1 at *
  obtain ⟨X, hX⟩ : ∃ X, h.next = X := ⟨_, rfl⟩
  rw [hX] at hg1
  rw [hX]
  simp (disch := first | omega | (simp only [Qn] <;> omega)) only [go_sem, row_two hg1]
  refine (Poly_ok _ a h1 ⟨ua, rfl, hua.mono hf1⟩ la).mono ?_
  rintro w h2 ⟨wc, rfl, sc, f2⟩
  have F2 := hf1.trans f2
  simp (disch := first | omega | (simp only [Qn] <;> omega)) only [go_sem, List.getElem?_cons_zero, List.getElem?_cons_succ]
  refine iteW_dec (fun hz => ?_) (fun hz => ?_)
  · simp (disch := first | omega | (simp only [Qn] <;> omega)) only [go_sem]
    rw [ValuesF, if_pos hz]
    exact ⟨_, rfl, SV.nils _ _, F2⟩
  obtain ⟨hc, hN, hr⟩ := polyF_good hz
  have hp := fieldF_range (check_vd hc).p
  obtain ⟨P, hP⟩ : ∃ P : Nat, a.1 = (P : Int) := ⟨a.1.toNat, by omega⟩
  obtain ⟨C, hC⟩ : ∃ C, (PolyF a).1 = C := ⟨_, rfl⟩
  rw [hC] at sc hN hr
  have eV : ValuesF a = (rtF P C P, 0) := by rw [ValuesF, if_neg hz, hC, hP, Int.toNat_natCast]
  rw [eV]
  rw [hP] at hp hr hg1
  have gX := (f2.get X (by omega)).trans hg1
  have x0 : h2.cell X 0 = some (.int .i64 (P : Int)) := by rw [H.cell_of gX]; rfl
  have wwc := SV.what sc
  simp (disch := first | omega | (simp only [Qn] <;> omega)) only [go_sem, x0]
  refine Wp_loop (fun k' vars hh => ∃ (x : Nat) (u : V), (∃ g : Nat → V, vars = [g 0, .ptr X 0, g 2, g 3, wc, g 5, u, g 7, g 8, g 9, g 10, .int .i64 (P : Int), .int .i64 (x : Int), g 13, g 14, g 15, g 16, g 17]) ∧ x ≤ P ∧ Own hh u 1 (ints (rtF P C x)) h2.next ∧ Fr h2 hh ∧ k' = P - x) P
    ⟨0, .nils, ex_junk rfl, Nat.zero_le _, Own.nils _ _ _, Fr.refl _, rfl⟩ ?_
  rintro k' vars hh ⟨x, u, ⟨jk, rfl⟩, hx, o, F, rfl⟩
  simp (disch := first | omega | (simp only [Qn] <;> omega)) only [go_sem]
  by_cases hlt : (x : Int) < (P : Int)
  · rw [decide_eq_true hlt]
    have hx' : x < P := by omega
    have q8 : (((hh.new (.cells false [.int .i64 0])).set hh.next (some (.cells false [.int .i64 (x : Int)]))).new (.cells false [.int .i64 0])).get (hh.next + 1) = some (.cells false [.int .i64 0]) := by
      have := H.get_new_same ((hh.new (.cells false [.int .i64 0])).set hh.next (some (.cells false [.int .i64 (x : Int)]))) (.cells false [.int .i64 0])
      rwa [H.next_set, H.next_new] at this
    have p8 : ∀ h : H, putO (some (.cells false [.int .i64 0])) h (hh.next + 1) 0 [.int .i64 0] = some (h.set (hh.next + 1) (some (.cells false [.int .i64 0]))) := fun h => putO_one (vs := [.int .i64 0]) (by simp) h _ _
    simp (disch := first | omega | (simp only [Qn] <;> omega)) only [go_sem, q8, p8]
    obtain ⟨h5, hh5⟩ : ∃ h5, ((((hh.new (.cells false [.int .i64 0])).set hh.next (some (.cells false [.int .i64 (x : Int)]))).new (.cells false [.int .i64 0])).set (hh.next + 1) (some (.cells false [.int .i64 0]))) = h5 := ⟨_, rfl⟩
    have f5 : Fr hh h5 := by rw [← hh5]; exact ((((Fr.refl hh).new _).set (Nat.le_refl _) _).new _).set (by omega) _
    have n5 : h5.next = hh.next + 2 := by rw [← hh5, H.next_set, H.next_new, H.next_set, H.next_new]
    have g75 : h5.get hh.next = some (.cells false [.int .i64 (x : Int)]) := by rw [← hh5, H.get_set_ne _ (by omega), H.get_new_ne _ (by rw [H.next_set, H.next_new]; omega), H.get_set_same]
    have g85 : h5.get (hh.next + 1) = some (.cells false [.int .i64 0]) := by rw [← hh5, H.get_set_same]
    rw [hh5]
    clear hh5 q8 p8
    obtain ⟨X7, hX7⟩ : ∃ X, hh.next = X := ⟨_, rfl⟩
    rw [hX7] at g75 g85 n5
    rw [hX7]
    refine (backward_ok wc h5 wwc.1 wwc.2.1).mono ?_
    rintro w h6 ⟨rfl, rfl⟩
    have hf7 : Fr h5 (h5.new (.cells false [wc])) := (Fr.refl h5).new _
    have hg7 : (h5.new (.cells false [wc])).get h5.next = some (.cells false [wc]) := H.get_new_same ..
    have hn7 : (h5.new (.cells false [wc])).next = h5.next + 1 := H.next_new ..
    generalize h5.new (.cells false [wc]) = h7 at *
    obtain ⟨XB, hXB⟩ : ∃ X, h5.next = X := ⟨_, rfl⟩
    rw [hXB] at hg7
    rw [hXB]
    obtain ⟨LID, hLID⟩ : ∃ X, h7.next = X := ⟨_, rfl⟩
    simp (disch := first | omega | (simp only [Qn] <;> omega)) only [go_sem]
    rw [hLID]
    generalize hrc : LRec.mk _ _ _ _ _ _ = rc
    refine ⟨rfl, ?_⟩
    have f8 : Fr h7 (h7.new (.loop rc)) := (Fr.refl h7).new _
    have lX : X < hh.next := by have := F.next; have := f2.next; omega
    have J0 : VJ X7 (X7 + 1) XB LID (x : Int) (vlF P (x : Int) C 0) wc hh rc (h7.new (.loop rc)) :=
      ⟨((hf7.trans f8).get _ (by omega)).trans g75, ((hf7.trans f8).get _ (by omega)).trans g85, (f8.get _ (by omega)).trans hg7, by rw [← hLID]; exact H.get_new_same .., (f5.trans hf7).trans f8, by rw [H.next_new]; omega⟩
    have loop : Ev T 88 [.yl LID, .ptr XB 0] (h7.new (.loop rc)) (fun _ hh' => VJ X7 (X7 + 1) XB LID (x : Int) (vlF P (x : Int) C C.length) wc hh rc hh') := by
      refine backward_loop LID XB wc C (fun s hh' => VJ X7 (X7 + 1) XB LID (x : Int) (vlF P (x : Int) C s) wc hh rc hh') (fun s hh' J => ⟨J.gB, (SI.mono sc F).mono J.fr⟩) (fun s hh' hs J => ?_) _ J0 (by omega)
      refine Ey_of J.gL (by rw [← hrc]; rfl) ?_
      subst hrc
      simp (disch := first | omega | (simp only [Qn] <;> omega)) only [go_sem, List.zip_cons_cons, List.zip_nil_left]
      refine ⟨_, J.gL, rfl, ?_⟩
      generalize hrb : LRec.mk _ _ _ _ LSt.busy _ = rb
      have lt := J.lt
      obtain ⟨h10, h10e⟩ : ∃ q, hh'.set LID (some (.loop rb)) = q := ⟨_, rfl⟩
      have J2 : VJ X7 (X7 + 1) XB LID (x : Int) (vlF P (x : Int) C s) wc hh rb h10 := by
        rw [← h10e]
        exact ⟨by rw [H.get_set_ne _ (by omega)]; exact J.g7, by rw [H.get_set_ne _ (by omega)]; exact J.g8, by rw [H.get_set_ne _ (by omega)]; exact J.gB, H.get_set_same .., J.fr.set (by omega) _, J.lt⟩
      rw [h10e]
      have c7 : h10.cell X7 0 = some (.int .i64 (x : Int)) := by rw [H.cell_of J2.g7]; rfl
      have c8 : h10.cell (X7 + 1) 0 = some (.int .i64 (vlF P (x : Int) C s)) := by rw [H.cell_of J2.g8]; rfl
      have cX : h10.cell X 0 = some (.int .i64 (P : Int)) := by rw [J2.fr.cell lX, F.cell (by have := f2.next; omega)]; exact x0
      have c7' : hh'.cell X7 0 = some (.int .i64 (x : Int)) := by rw [H.cell_of J.g7]; rfl
      have c8' : hh'.cell (X7 + 1) 0 = some (.int .i64 (vlF P (x : Int) C s)) := by rw [H.cell_of J.g8]; rfl
      have cX' : hh'.cell X 0 = some (.int .i64 (P : Int)) := by rw [J.fr.cell lX, F.cell (by have := f2.next; omega)]; exact x0
      have rv := vlF_range (show (0 : Int) < (P : Int) by omega) (x : Int) C s
      have rc := hr (C.length - (s + 1)) (by omega)
      have bd := hn_bound hp.2 rv (show 0 ≤ (x : Int) ∧ (x : Int) < P by omega) rc
      have em := nonneg_tmod (a := vlF P (x : Int) C s * (x : Int) + C.getD (C.length - (s + 1)) 0) (p := (P : Int)) bd.2.2.1
      have p8 : ∀ h : H, putO (some (.cells false [.int .i64 (vlF P (x : Int) C s)])) h (X7 + 1) 0 [.int .i64 (vlF P (x : Int) C (s + 1))] = some (h.set (X7 + 1) (some (.cells false [.int .i64 (vlF P (x : Int) C (s + 1))]))) := fun h => putO_one (vs := [.int .i64 (vlF P (x : Int) C s)]) (by simp) h _ _
      have ev : (vlF P (x : Int) C s * (x : Int) + C.getD (C.length - (s + 1)) 0) % (P : Int) = vlF P (x : Int) C (s + 1) := rfl
      simp (disch := first | omega | (simp only [Qn] <;> omega)) only [go_sem, c7, c8, cX, c7', c8', cX', em, ev, J.g8, J2.g8, p8]
      refine ⟨rb, by rw [H.get_set_ne _ (by omega)]; exact J2.gL, rfl, ?_⟩
      subst hrb
      exact ⟨by rw [H.get_set_ne _ (by omega), H.get_set_ne _ (by omega)]; exact J2.g7, by rw [H.get_set_ne _ (by omega)]; exact H.get_set_same .., by rw [H.get_set_ne _ (by omega), H.get_set_ne _ (by omega)]; exact J2.gB, H.get_set_same .., (J2.fr.set (by omega) _).set (by omega) _, J2.lt⟩
    refine loop.mono ?_
    rintro _ h20 J
    refine ⟨_, J.gL, by rw [← hrc]; simp, ?_⟩
    have hpe : rc.pend = none := by rw [← hrc]
    simp only [hpe, Option.getD_none]
    have lt := J.lt
    have q8 : ∀ o, (h20.set LID o).cell (X7 + 1) 0 = some (.int .i64 (vlF P (x : Int) C C.length)) := fun o => by
      rw [H.cell_set_ne _ (by omega), H.cell_of J.g8]; rfl
    have q7 : ∀ o, (h20.set LID o).cell X7 0 = some (.int .i64 (x : Int)) := fun o => by
      rw [H.cell_set_ne _ (by omega), H.cell_of J.g7]; rfl
    have g' : ∀ o, Fr hh (h20.set LID o) := fun o => Fr.set J.fr (by omega) o
    simp (disch := first | omega | (simp only [Qn] <;> omega)) only [go_sem, q8]
    have q7' := q7 (some (.loop { rc with st := LSt.out, pend := none }))
    have gF := g' (some (.loop { rc with st := LSt.out, pend := none }))
    generalize h20.set LID (some (.loop { rc with st := LSt.out, pend := none })) = h21 at *
    have F4 := F.trans gF
    have o4 := o.fr gF
    refine iteW_dec (fun hv0 => ?_) (fun hv0 => ?_)
    · have f5 : Fr h21 (h21.new (.cells false (ints [(x : Int)]))) := (Fr.refl h21).new _
      have hy : SV (h21.new (.cells false (ints [(x : Int)]))) (.sl h21.next 0 1 (.kn 1)) 1 (ints [(x : Int)]) := SV.all rfl (by rw [H.next_new]; omega) (H.get_new_same ..) _
      have lr := rtF_len (P : Int) C x
      obtain ⟨u6, h6, e6, a6⟩ := (o4.fr f5).app (bytes := 8) (n := (rtF P C x).length) (m := 1) (by have := F4.next; have := f5.next; omega) hy (by rw [ints_length, Nat.mul_one]) rfl (by omega) (by omega)
      simp (disch := first | omega | (simp only [Qn] <;> omega)) only [go_sem, q7', bls_int, e6]
      rw [show (x : Int) + 1 = ((x + 1 : Nat) : Int) from by omega]
      have oo := a6.own
      rw [← ints_append] at oo
      refine ⟨P - (x + 1), by omega, x + 1, u6, ex_junk rfl, by omega, ?_, a6.fr h2 (F4.trans f5) (Nat.le_refl _), rfl⟩
      rw [rtF_succ, if_pos hv0]; exact oo
    · simp (disch := first | omega | (simp only [Qn] <;> omega)) only [go_sem]
      rw [show (x : Int) + 1 = ((x + 1 : Nat) : Int) from by omega]
      refine ⟨P - (x + 1), by omega, x + 1, u, ex_junk rfl, by omega, ?_, F4, rfl⟩
      rw [rtF_succ, if_neg hv0, List.append_nil]; exact o4
  rw [decide_eq_false hlt]
  obtain rfl : x = P := by omega
  simp (disch := first | omega | (simp only [Qn] <;> omega)) only [go_sem]
  exact ⟨_, rfl, o.sv, F2.trans F⟩
end Go.Proofs.Ytlhebmcnjgagjaa

/- Layer 5: Eigen, of the program and of the reference; the reference's Kernel. -/
namespace Go.Proofs.Ytlhebmcnjgagjaa
open Go Go.Ay
set_option maxRecDepth 100000
theorem Gp.congr {h : H} {R n c i : Nat} {ρ : Nat → Nat} {f f' : Nat → Nat → Int} {lo : Nat} (g : Gp h R n c i ρ f lo) (e : ∀ j k, j < i → k < c → f j k = f' j k) : Gp h R n c i ρ f' lo :=
  { g with row := fun j hj => by rw [g.row j hj]; congr 3; exact mkV_congr fun k hk => e j k hj hk }
theorem Gp.edit {h : H} {R n c i : Nat} {ρ : Nat → Nat} {f : Nat → Nat → Int} {lo : Nat} (g : Gp h R n c i ρ f lo) {j : Nat} (hj : j < i) (w : Nat → Int) : Gp (h.set (ρ j) (some (.cells false (ints (mkV c w))))) R n c i ρ (fun a => if a = j then w else f a) lo :=
  { g with
    gR := by rw [H.get_set_ne _ (by have := g.hρ j hj; omega)]; exact g.gR
    row := fun a ha => by
      by_cases e : a = j
      · simp only [if_pos e]; rw [e, H.get_set_same]
      · simp only [if_neg e]; rw [H.get_set_ne _ fun q => e (g.inj a j ha hj q)]; exact g.row a ha }
theorem Gp.fr {h h' : H} {R n c i : Nat} {ρ : Nat → Nat} {f : Nat → Nat → Int} {lo : Nat} (g : Gp h R n c i ρ f lo) (F : Fr h h') : Gp h' R n c i ρ f lo :=
  { g with
    gR := (F.get R g.ltR).trans g.gR
    row := fun j hj => (F.get _ (g.ltρ j hj)).trans (g.row j hj)
    ltR := Nat.lt_of_lt_of_le g.ltR F.next
    ltρ := fun j hj => Nat.lt_of_lt_of_le (g.ltρ j hj) F.next }
theorem tmod_same (x : Int) {p : Int} (hp : 0 < p) : x.tmod p % p = x % p := by
  have e := tmod_fix x hp
  have m : x % p % p = x % p := mm2 p x
  split at e
  · rw [← m, ← e, Int.add_emod_right]
  · rw [← m, ← e]
/-- The matrix less a multiple of the identity. -/
def egL (p x : Int) (n : Nat) (A : List (List Int)) : List (List Int) := mkR n n fun i j => (ent A i j - if j = i then x else 0) % p
theorem egL_vw {p x : Int} {n : Nat} {A : List (List Int)} {i j : Nat} (hi : i < n) (hj : j < n) : vw (egL p x n A) i j = (ent A i j - if j = i then x else 0) % p := vw_mkR hi hj
end Go.Proofs.Ytlhebmcnjgagjaa

/- Layer 5: the plain law of Solve: one solution that is 0 at rows that earlier ones span. -/
namespace Go.Proofs.Ytlhebmcnjgagjaa
open Go Go.Ay
set_option maxRecDepth 100000
theorem unit_of {p d : Int} (hp : isP p = true) (h : d % p ≠ 0) : ∃ y : Int, y * d % p = 1 := by
  have hr := isP_pr hp
  have h2 := isP_gt hp
  have m := tmod_range d (show 0 < p by omega)
  have f := fermat hr (a := d % p) (by omega) (by omega)
  rw [show (p.toNat : Int) = p by omega] at f
  refine ⟨(d % p) ^ (p.toNat - 2), ?_⟩
  rw [mul_mod rfl (show d % p = d % p % p from (mm2 p d).symm), Int.mul_comm]
  exact f
structure Sol (p : Int) (n m : Nat) (V : Nat → Nat → Int) (b r : Nat → Int) : Prop where
  rng : ∀ i, i < m → 0 ≤ r i ∧ r i < p
  eq : ∀ j, j < n → sm m (fun i => r i * V i j) % p = b j % p
  zer : ∀ i, i < m → InS p n i V (V i) → r i = 0
theorem dif_mod {p x y : Int} (hx : 0 ≤ x ∧ x < p) (hy : 0 ≤ y ∧ y < p) (h : (x - y) % p = 0) : x = y := by
  obtain ⟨k, hk⟩ := Int.dvd_of_emod_eq_zero h
  by_cases e : k = 0
  · rw [e, Int.mul_zero] at hk; omega
  · by_cases e2 : 0 < k
    · have := Int.mul_le_mul_of_nonneg_left (show 1 ≤ k by omega) (show 0 ≤ p by omega)
      omega
    · have := Int.mul_le_mul_of_nonneg_left (show k ≤ -1 by omega) (show 0 ≤ p by omega)
      omega
/-- A relation tells a row out of those before it. -/
theorem rel_row {p : Int} (hp : isP p = true) {n i : Nat} {V : Nat → Nat → Int} {d : Nat → Int} (h : ∀ j, j < n → sm (i + 1) (fun k => d k * V k j) % p = 0) (hd : d i % p ≠ 0) : InS p n i V (V i) := by
  obtain ⟨y, hy⟩ := unit_of hp hd
  refine ⟨fun k => -(y * d k), fun j hj => ?_⟩
  have e := h j hj
  rw [sm_succ] at e
  have e1 : (y * sm i (fun k => d k * V k j) + y * (d i * V i j)) % p = 0 := by
    rw [← Int.mul_add, Int.mul_emod, e, Int.mul_zero, Int.zero_emod]
  have e2 : (y * (d i * V i j)) % p = V i j % p := by
    rw [← Int.mul_assoc, Int.mul_emod, hy, Int.one_mul, mm2]
  have e3 : sm i (fun k => -(y * d k) * V k j) = - (y * sm i (fun k => d k * V k j)) := by
    rw [← sm_mul, ← sm_neg]
    exact sm_congr fun k _ => by rw [Int.neg_mul, Int.mul_assoc]
  rw [e3, ← e2]
  have e4 : (y * (d i * V i j) - -(y * sm i (fun k => d k * V k j))) % p = 0 := by
    rw [Int.sub_neg, Int.add_comm]; exact e1
  exact sub_zero e4
theorem Sol.uniq {p : Int} (hp : isP p = true) {n m : Nat} {V : Nat → Nat → Int} {b r r' : Nat → Int} (s : Sol p n m V b r) (s' : Sol p n m V b r') : ∀ i, i < m → r i = r' i := by
  have hz : ∀ k, ∀ i, i < m → m ≤ i + k → r i = r' i := by
    intro k
    induction k with
    | zero => intro i h1 h2; omega
    | succ k ih =>
      intro i hi hk
      by_cases hlt : m ≤ i + k
      · exact ih i hi hlt
      · have above : ∀ q, i + 1 ≤ q → q < m → r q = r' q := fun q h1 h2 => ih q h2 (by omega)
        have hrel : ∀ j, j < n → sm (i + 1) (fun q => (r q - r' q) * V q j) % p = 0 := fun j hj => by
          have e1 : sm m (fun q => (r q - r' q) * V q j) = sm (i + 1) (fun q => (r q - r' q) * V q j) := sm_more (by omega) fun q h1 h2 => by rw [above q h1 h2, Int.sub_self, Int.zero_mul]
          rw [← e1]
          have e2 : sm m (fun q => (r q - r' q) * V q j) = sm m (fun q => r q * V q j) - sm m (fun q => r' q * V q j) := by
            rw [← sm_sub]; exact sm_congr fun q _ => Int.sub_mul ..
          rw [e2, Int.sub_emod, s.eq j hj, s'.eq j hj, Int.sub_self, Int.zero_emod]
        by_cases hd : (r i - r' i) % p = 0
        · exact dif_mod (s.rng i hi) (s'.rng i hi) hd
        · have := rel_row hp hrel hd
          rw [s.zer i hi this, s'.zer i hi this]
  exact fun i hi => hz m i hi (by omega)
end Go.Proofs.Ytlhebmcnjgagjaa

/- Layer 5: the plain law of the reference's Solve: rows that earlier ones do not span; a kernel of one row. -/
namespace Go.Proofs.Ytlhebmcnjgagjaa
open Go Go.Ay
set_option maxRecDepth 100000
theorem Sp.le {p : Int} {n m m' k k' : Nat} {V V' : Nat → Nat → Int} {S S' : Nat → Bool} {f f' : Nat → Nat → Int} (hp : 1 < p) (s : Sp p n n V m S f k) (s' : Sp p n n V' m' S' f' k') (h : ∀ i, i < m → InS p n m' V' (V i)) : k ≤ k' := by
  have hin : ∀ c, c < n → S c = true → InS p n n (gf S' f') (f c) := fun c hc hs => s'.mem.1 ((s.out c hc hs).trans h)
  have := (cnt_eq fun c hc hs => Re.sub hp s.re s'.re hin hc hs).1
  rw [s.cn, s'.cn]; exact this
def Ind (p : Int) (n L : Nat) (U : Nat → Nat → Int) : Prop := ∀ κ : Nat → Int, (∀ j, j < n → sm L (fun t => κ t * U t j) % p = 0) → ∀ t, t < L → κ t % p = 0
theorem Ind.more {p : Int} (hp : isP p = true) {n L : Nat} {U U' : Nat → Nat → Int} (I : Ind p n L U) (e : ∀ t, t < L → U' t = U t) (h : ¬ InS p n L U (U' L)) : Ind p n (L + 1) U' := fun κ hκ t ht => by
  have h1 : κ L % p = 0 := by
    by_cases e1 : κ L % p = 0
    · exact e1
    · refine absurd ((rel_row hp hκ e1).rows fun i j hi _ => by rw [e i hi]) h
  by_cases e2 : t = L
  · rw [e2]; exact h1
  · refine I κ (fun j hj => ?_) t (by omega)
    have := hκ j hj
    rw [sm_succ] at this
    have e3 : κ L * U' L j % p = 0 := by rw [Int.mul_emod, h1, Int.zero_mul, Int.zero_emod]
    rw [Int.add_emod, e3, Int.add_zero, mm2] at this
    rw [← this]
    exact congrArg (· % p) (sm_congr fun q hq => by rw [e q hq])
/-- The rows at places. -/
def rl (A : List (List Int)) (l : List Nat) : List (List Int) := l.map fun i => A.getD i []
theorem rl_get {A : List (List Int)} {l : List Nat} {t : Nat} (ht : t < l.length) : (rl A l).getD t [] = A.getD (l.getD t 0) [] := by
  rw [rl, List.getD_eq_getElem?_getD, List.getElem?_map, List.getElem?_eq_getElem ht, List.getD_eq_getElem?_getD (l := l), List.getElem?_eq_getElem ht]
  rfl
theorem rl_vw {A : List (List Int)} {l : List Nat} {t : Nat} (ht : t < l.length) : vw (rl A l) t = vw A (l.getD t 0) := by
  funext j; rw [vw, rl_get ht]; rfl
/-- What the search for rows keeps. -/
structure Gy (p : Int) (n : Nat) (A : List (List Int)) (i : Nat) (l : List Nat) : Prop where
  ind : Ind p n l.length (vw (rl A l))
  sp : ∃ S f, Sp p n n (vw (rl A l)) l.length S f l.length
  lt : ∀ t, t < l.length → l.getD t 0 < i
  inj : ∀ s t, s < l.length → t < l.length → l.getD s 0 = l.getD t 0 → s = t
  all : ∀ q, q < i → InS p n l.length (vw (rl A l)) (vw A q)
  new : ∀ t, t < l.length → ¬ InS p n (l.getD t 0) (vw A) (vw A (l.getD t 0))
  old : ∀ q, q < i → (∃ t, t < l.length ∧ l.getD t 0 = q) ∨ InS p n q (vw A) (vw A q)
section
variable {p : Int} {n i : Nat} {A : List (List Int)} {l : List Nat}
theorem Gy.start (p : Int) (n : Nat) (A : List (List Int)) : Gy p n A 0 [] where
  ind := fun _ _ t ht => absurd ht (Nat.not_lt_zero t)
  sp := ⟨fun _ => false, fun _ _ => 0, Sp.start p n n _ _⟩
  lt := fun t ht => absurd ht (Nat.not_lt_zero t)
  inj := fun t _ ht => absurd ht (Nat.not_lt_zero t)
  all := fun t ht => absurd ht (Nat.not_lt_zero t)
  new := fun t ht => absurd ht (Nat.not_lt_zero t)
  old := fun t ht => absurd ht (Nat.not_lt_zero t)
theorem Gy.back (g : Gy p n A i l) {v : Nat → Int} (h : InS p n l.length (vw (rl A l)) v) : InS p n i (vw A) v := h.trans fun t ht => by
  rw [rl_vw ht]; exact InS.row (g.lt t ht)
theorem Gy.skip (g : Gy p n A i l) (h : InS p n l.length (vw (rl A l)) (vw A i)) : Gy p n A (i + 1) l :=
  { g with
    lt := fun t ht => by have := g.lt t ht; omega
    all := fun q hq => by
      by_cases e : q = i
      · rw [e]; exact h
      · exact g.all q (by omega)
    old := fun q hq => by
      by_cases e : q = i
      · rw [e]; exact .inr (g.back h)
      · exact g.old q (by omega) }
theorem snoc_get {l : List Nat} {i t : Nat} (ht : t < l.length) : (l ++ [i]).getD t 0 = l.getD t 0 := by
  rw [List.getD_eq_getElem?_getD, List.getElem?_append_left ht, ← List.getD_eq_getElem?_getD]
theorem snoc_last {l : List Nat} {i : Nat} : (l ++ [i]).getD l.length 0 = i := by
  rw [List.getD_eq_getElem?_getD, List.getElem?_append_right (Nat.le_refl _), Nat.sub_self]; rfl
theorem Gy.take (hp : isP p = true) (g : Gy p n A i l) (h : ¬ InS p n l.length (vw (rl A l)) (vw A i)) {S : Nat → Bool} {f : Nat → Nat → Int} (s : Sp p n n (vw (rl A (l ++ [i]))) (l.length + 1) S f (l.length + 1)) : Gy p n A (i + 1) (l ++ [i]) := by
  have ll : (l ++ [i]).length = l.length + 1 := by simp
  have eo : ∀ t, t < l.length → vw (rl A (l ++ [i])) t = vw (rl A l) t := fun t ht => by rw [rl_vw (by omega), rl_vw ht, snoc_get ht]
  have en : vw (rl A (l ++ [i])) l.length = vw A i := by rw [rl_vw (by omega), snoc_last]
  have up : ∀ v, InS p n l.length (vw (rl A l)) v → InS p n (l.length + 1) (vw (rl A (l ++ [i]))) v := fun v hv => hv.trans fun t ht => by rw [← eo t ht]; exact InS.row (by omega)
  refine ⟨by rw [ll]; exact Ind.more hp g.ind eo (by rw [en]; exact h), ⟨S, f, by rw [ll]; exact s⟩, fun t ht => ?_, fun a b ha hb e => ?_, fun q hq => ?_, fun t ht => ?_, fun q hq => ?_⟩
  · by_cases e : t = l.length
    · rw [e, snoc_last]; omega
    · rw [snoc_get (by omega)]; have := g.lt t (by omega); omega
  · by_cases e1 : a = l.length
    · by_cases e2 : b = l.length
      · omega
      · rw [e1, snoc_last, snoc_get (by omega)] at e
        have := g.lt b (by omega); omega
    · by_cases e2 : b = l.length
      · rw [e2, snoc_last, snoc_get (by omega)] at e
        have := g.lt a (by omega); omega
      · rw [snoc_get (by omega), snoc_get (by omega)] at e
        exact g.inj a b (by omega) (by omega) e
  · rw [ll]
    by_cases e : q = i
    · rw [e, ← en]; exact InS.row (by omega)
    · exact up _ (g.all q (by omega))
  · by_cases e : t = l.length
    · rw [e, snoc_last]; intro q; exact h (q.trans g.all)
    · rw [snoc_get (by omega)]; exact g.new t (by omega)
  · by_cases e : q = i
    · exact .inl ⟨l.length, by omega, by rw [snoc_last, e]⟩
    · rcases g.old q (by omega) with ⟨t, h1, h2⟩ | h1
      · exact .inl ⟨t, by omega, by rw [snoc_get h1]; exact h2⟩
      · exact .inr h1
end
end Go.Proofs.Ytlhebmcnjgagjaa

/- Layer 5: the reference's Solve. -/
namespace Go.Proofs.Ytlhebmcnjgagjaa
open Go Go.Ay
set_option maxRecDepth 100000
end Go.Proofs.Ytlhebmcnjgagjaa

/- Layer 5: the plain law of LinearEigen. -/
namespace Go.Proofs.Ytlhebmcnjgagjaa
open Go Go.Ay
set_option maxRecDepth 100000
/-! Independent rows are at most as many as columns. -/
theorem Ind.less {p : Int} {n L : Nat} {U : Nat → Nat → Int} (I : Ind p n (L + 1) U) : Ind p n L U := fun κ hκ t ht => by
  have := I (fun t => if t < L then κ t else 0) (fun j hj => by
    rw [sm_succ, if_neg (Nat.lt_irrefl L), Int.zero_mul, Int.add_zero, ← hκ j hj]
    exact congrArg (· % p) (sm_congr fun q hq => by rw [if_pos hq])) t (by omega)
  rwa [if_pos ht] at this
theorem Ind.sp {p : Int} (hp : isP p = true) {n : Nat} {U : Nat → Nat → Int} : ∀ {L : Nat}, Ind p n L U → ∃ S f, Sp p n n U L S f L
  | 0, _ => ⟨fun _ => false, fun _ _ => 0, Sp.start p n n _ _⟩
  | L + 1, I => by
    have hp1 := isP_gt hp
    obtain ⟨S, f, s⟩ := Ind.sp hp I.less
    obtain ⟨u, hu⟩ : ∃ u, rdF p S f (fun j => U L j % p) n = u := ⟨_, rfl⟩
    by_cases hz : ∀ j, j < n → u j = 0
    · have hin := (Sp.zero (by omega) s (U L)).1 (by rw [hu]; exact hz)
      obtain ⟨c, hc⟩ := hin
      have := I (fun t => if t = L then -1 else c t) (fun j hj => by
        rw [sm_succ, if_pos rfl]
        have e1 : sm L (fun i => (if i = L then -1 else c i) * U i j) = sm L (fun i => c i * U i j) := sm_congr fun i hi => by rw [if_neg (by omega)]
        rw [e1, Int.add_emod, ← hc j hj, ← Int.add_emod, show U L j + -1 * U L j = 0 by omega, Int.zero_emod]) L (by omega)
      rw [if_pos rfl] at this
      have h2 : (-1 : Int) % p = p - 1 := by
        rw [show (-1 : Int) = (p - 1) + p * (-1) by omega, Int.add_mul_emod_self_left, Int.emod_eq_of_lt (by omega) (by omega)]
      omega
    · have hex : ∃ j, j < n ∧ u j ≠ 0 := Classical.byContradiction fun h => hz fun j hj => Classical.byContradiction fun h2 => h ⟨j, hj, h2⟩
      have hr : ∀ j, j < n → 0 ≤ u j ∧ u j < p := fun j hj => by
        rw [← hu]; exact rdF_range (by omega) (tmod_range _ (by omega)) n
      have least : ∀ d, ∀ j, j ≤ d → j < n → u j ≠ 0 → ∃ q, q < n ∧ u q ≠ 0 ∧ ∀ i, i < q → u i = 0 := by
        intro d
        induction d with
        | zero => intro j h1 h2 h3; exact ⟨j, h2, h3, fun i hi => by omega⟩
        | succ d ih =>
          intro j h1 h2 h3
          by_cases e : ∃ i, i < j ∧ u i ≠ 0
          · obtain ⟨i, i1, i2⟩ := e
            exact ih i (by omega) (by omega) i2
          · exact ⟨j, h2, h3, fun i hi => Classical.byContradiction fun h => e ⟨i, hi, h⟩⟩
      obtain ⟨j, j1, j2⟩ := hex
      obtain ⟨q, q1, q2, q3⟩ := least j j (Nat.le_refl _) j1 j2
      have rq := hr q q1
      obtain ⟨x, hx⟩ := unit_of (d := u q) hp (by rw [Int.emod_eq_of_lt rq.1 rq.2]; exact q2)
      exact ⟨_, _, Sp.yes hp1 s (Nat.le_refl n) hu.symm q1 q3 (by omega) hx rfl⟩
theorem Ind.le {p : Int} (hp : isP p = true) {n L : Nat} {U : Nat → Nat → Int} (I : Ind p n L U) : L ≤ n := by
  obtain ⟨S, f, s⟩ := I.sp hp
  rw [s.cn]; exact cnt_le n S
/-! Rows that the matrix multiplies by numbers. -/
structure Ew (p : Int) (n : Nat) (A : Nat → Nat → Int) (x : Int) (L : Nat) (U : Nat → Nat → Int) (ev : Nat → Int) : Prop where
  ind : Ind p n L U
  rg : ∀ t, t < L → 0 ≤ ev t ∧ ev t < x
  eg : ∀ t, t < L → ∀ j, j < n → sm n (fun i => U t i * A i j) % p = ev t * U t j % p
theorem Ew.start (p : Int) (n : Nat) (A : Nat → Nat → Int) (x : Int) : Ew p n A x 0 (fun _ _ => 0) (fun _ => 0) :=
  ⟨fun _ _ t ht => absurd ht (Nat.not_lt_zero t), fun t ht => absurd ht (Nat.not_lt_zero t), fun t ht => absurd ht (Nat.not_lt_zero t)⟩
theorem no_zero {p a b : Int} (hp : isP p = true) (h : a * b % p = 0) (hb : b % p ≠ 0) : a % p = 0 := by
  obtain ⟨y, hy⟩ := unit_of hp hb
  have e : (a * b * y) % p = 0 := by rw [Int.mul_emod, h, Int.zero_mul, Int.zero_emod]
  have e2 : (a * b * y) % p = a % p := by
    rw [show a * b * y = a * (y * b) by grind, Int.mul_emod, hy, Int.mul_one, mm2]
  rw [← e2]; exact e
theorem Ew.more {p : Int} (hp : isP p = true) {n L r : Nat} {A U W : Nat → Nat → Int} {ev : Nat → Int} {x : Int} (e : Ew p n A x L U ev) (hx : x < p) (I : Ind p n r W) (hW : ∀ s, s < r → ∀ j, j < n → sm n (fun i => W s i * A i j) % p = x * W s j % p) (hx0 : 0 ≤ x) :
    Ew p n A (x + 1) (L + r) (fun t => if t < L then U t else W (t - L)) (fun t => if t < L then ev t else x) := by
  have hp1 := isP_gt hp
  refine ⟨fun κ hκ => ?_, fun t ht => ?_, fun t ht j hj => ?_⟩
  · have split : ∀ j, j < n → (sm L (fun t => κ t * U t j) + sm r (fun s => κ (L + s) * W s j)) % p = 0 := fun j hj => by
      rw [← hκ j hj, sm_app]
      congr 2
      · exact sm_congr fun t ht => by rw [if_pos ht]
      · exact sm_congr fun s hs => by rw [if_neg (by omega), Nat.add_sub_cancel_left]
    have push : ∀ (q : Nat) (V : Nat → Nat → Int) (c : Nat → Int) (j : Nat), sm n (fun i => sm q (fun t => c t * V t i) * A i j) = sm q (fun t => c t * sm n (fun i => V t i * A i j)) := fun q V c j => by
      have e1 : ∀ i, i < n → sm q (fun t => c t * V t i) * A i j = sm q (fun t => c t * (V t i * A i j)) := fun i _ => by
        rw [← sm_mulr]; exact sm_congr fun t _ => by rw [Int.mul_assoc]
      rw [sm_congr e1, sm_swap]
      exact sm_congr fun t _ => sm_mul n (c t) _
    have two : ∀ j, j < n → (sm L (fun t => κ t * (ev t * U t j)) + sm r (fun s => κ (L + s) * (x * W s j))) % p = 0 := fun j hj => by
      have z : sm n (fun i => (sm L (fun t => κ t * U t i) + sm r (fun s => κ (L + s) * W s i)) * A i j) % p = 0 :=
        smod_zero fun i hi => by rw [Int.mul_emod, split i hi, Int.zero_mul, Int.zero_emod]
      have e1 : sm n (fun i => (sm L (fun t => κ t * U t i) + sm r (fun s => κ (L + s) * W s i)) * A i j) = sm n (fun i => sm L (fun t => κ t * U t i) * A i j) + sm n (fun i => sm r (fun s => κ (L + s) * W s i) * A i j) := by
        rw [← sm_add]; exact sm_congr fun i _ => Int.add_mul ..
      rw [e1, push, push] at z
      rw [← z]
      refine add_cg (sm_mod fun t ht => mul_mod rfl (e.eg t ht j hj).symm) (sm_mod fun s hs => mul_mod rfl (hW s hs j hj).symm)
    have three : ∀ j, j < n → sm L (fun t => (κ t * (ev t - x)) * U t j) % p = 0 := fun j hj => by
      have a1 := split j hj
      have a2 := two j hj
      have e1 : sm L (fun t => (κ t * (ev t - x)) * U t j) = (sm L (fun t => κ t * (ev t * U t j)) + sm r (fun s => κ (L + s) * (x * W s j))) - x * (sm L (fun t => κ t * U t j) + sm r (fun s => κ (L + s) * W s j)) := by
        rw [Int.mul_add, ← sm_mul, ← sm_mul]
        have b1 : sm L (fun t => (κ t * (ev t - x)) * U t j) = sm L (fun t => κ t * (ev t * U t j)) - sm L (fun k => x * (κ k * U k j)) := by
          rw [← sm_sub]; exact sm_congr fun t _ => by grind
        have b2 : sm r (fun s => κ (L + s) * (x * W s j)) = sm r (fun k => x * (κ (L + k) * W k j)) := sm_congr fun s _ => by grind
        rw [b1, b2]; omega
      rw [e1, Int.sub_emod, a2, Int.mul_emod, a1, Int.mul_zero, Int.zero_emod, Int.sub_zero, Int.zero_emod]
    have zero : ∀ t, t < L → κ t % p = 0 := fun t ht => by
      have q := e.rg t ht
      refine no_zero hp (e.ind _ three t ht) ?_
      intro h0
      have : (ev t - x) % p = ev t - x + p := by
        rw [show ev t - x = (ev t - x + p) + p * (-1) by omega, Int.add_mul_emod_self_left, Int.emod_eq_of_lt (by omega) (by omega)]
        omega
      omega
    have last : ∀ s, s < r → κ (L + s) % p = 0 := I _ fun j hj => by
      have a1 := split j hj
      have a0 : sm L (fun t => κ t * U t j) % p = 0 := smod_zero fun t ht => by rw [Int.mul_emod, zero t ht, Int.zero_mul, Int.zero_emod]
      rw [Int.add_emod, a0, Int.zero_add, mm2] at a1
      exact a1
    intro t ht
    by_cases h : t < L
    · exact zero t h
    · have := last (t - L) (by omega)
      rwa [show L + (t - L) = t by omega] at this
  · by_cases h : t < L
    · rw [if_pos h]; have := e.rg t h; omega
    · rw [if_neg h]; omega
  · by_cases h : t < L
    · simp only [if_pos h]; exact e.eg t h j hj
    · simp only [if_neg h]; exact hW _ (by omega) j hj
/-! A kernel is more than zero exactly if the determinant is zero. -/
theorem cnt_full (n : Nat) : cnt n (fun _ => true) = n := by
  rw [cnt]; rw [List.filter_eq_self.2 fun _ _ => rfl, List.length_range]
theorem det_ker {p : Int} (hp : isP p = true) {n k : Nat} (hn : 1 ≤ n) {V : Nat → Nat → Int} {S : Nat → Bool} {f : Nat → Nat → Int} (s : Sk p n n (n + n) V S f k) (hk : k = n) : (0 < (krF n n S f (n + n)).length) ↔ det n V % p = 0 := by
  have hp1 := isP_gt hp
  have lK : (krF n n S f (n + n)).length = cnt n (kS n S) := by rw [krF_rwF rfl, rwF_len]
  have cn := s.cn
  rw [cnt_app, hk] at cn
  rw [lK]
  constructor
  · intro h
    -- a row of the kernel
    obtain ⟨c, hc, hs⟩ : ∃ c, c < n ∧ kS n S c = true := by
      refine Classical.byContradiction fun hno => ?_
      have : cnt n (kS n S) = cnt n (fun _ => false) := cnt_congr fun c hc => by
        cases e : kS n S c with
        | false => rfl
        | true => exact absurd ⟨c, hc, e⟩ hno
      rw [cnt_none] at this
      omega
    obtain ⟨m, rfl⟩ : ∃ m, n = m + 1 := ⟨n - 1, by omega⟩
    have z : ∀ j, j < m + 1 → sm (m + 1) (fun i => kf (m + 1) f c i * V i j) % p = 0 := fun j hj => Sk.zero rfl s hc hs hj
    have one : kf (m + 1) f c c = 1 := (Re.ker rfl s.re).one c hc hs
    have e1 : sm (m + 1) (fun j => sm (m + 1) (fun i => kf (m + 1) f c i * V i j) * adjM m V j c) % p = 0 := smod_zero fun j hj => by rw [Int.mul_emod, z j hj, Int.zero_mul, Int.zero_emod]
    have e2 : sm (m + 1) (fun j => sm (m + 1) (fun i => kf (m + 1) f c i * V i j) * adjM m V j c) = sm (m + 1) (fun i => kf (m + 1) f c i * mulM (m + 1) V (adjM m V) i c) := by
      have b1 : ∀ j, j < m + 1 → sm (m + 1) (fun i => kf (m + 1) f c i * V i j) * adjM m V j c = sm (m + 1) (fun i => kf (m + 1) f c i * (V i j * adjM m V j c)) := fun j _ => by
        rw [← sm_mulr]; exact sm_congr fun i _ => by rw [Int.mul_assoc]
      rw [sm_congr b1, sm_swap]
      exact sm_congr fun i _ => sm_mul (m + 1) (kf (m + 1) f c i) _
    rw [e2, sm_one (t := c) hc fun i hi hne => by rw [mul_adj V hi hc, if_neg hne, Int.mul_zero], mul_adj V hc hc, if_pos rfl, one, Int.one_mul] at e1
    exact e1
  · intro hd
    refine Nat.pos_of_ne_zero fun h0 => ?_
    have full : ∀ c, c < n → S c = true := fun c hc => by
      have := (cnt_eq (n := n) (S := S) (S' := fun _ => true) fun _ _ _ => rfl).2 (by rw [cnt_full]; omega) c hc
      exact this
    have sl := Sk.left rfl s
    have ex : ∀ c, ∃ d : Nat → Int, c < n → ∀ j, j < n → f c j % p = sm n (fun i => d i * V i j) % p := fun c => by
      by_cases h : c < n
      · obtain ⟨d, hd⟩ := sl.out c h (full c h)
        exact ⟨d, fun _ => hd⟩
      · exact ⟨fun _ => 0, fun h2 => absurd h2 h⟩
    have hR := fun c => (ex c).choose_spec
    have left : ∀ i j, i < n → j < n → mulM n (fun c => (ex c).choose) V i j % p = idM i j % p := fun i j hi hj => by
      have := hR i hi j hj
      rw [show mulM n (fun c => (ex c).choose) V i j = sm n (fun k => (ex i).choose k * V k j) from rfl, ← this]
      simp only [idM]
      by_cases e : i = j
      · rw [if_pos e, ← e, sl.re.one i hi (full i hi)]
      · rw [if_neg e, sl.re.zer i j hi hj (full i hi) (full j hj) (fun h => e h.symm)]
    have := det_mod left
    rw [det_mul, det_id, Int.mul_emod, hd, Int.mul_zero, Int.zero_emod, Int.emod_eq_of_lt (by omega) hp1] at this
    omega
/-! The polynomial's value. -/
theorem vlF_mod (p x : Int) (c : List Int) : ∀ s, s ≤ c.length → vlF p x c s % p = sm s (fun i => c.getD (c.length - s + i) 0 * x ^ i) % p
  | 0, _ => rfl
  | s + 1, h => by
    rw [vlF, mm2, sm_first]
    have ih := vlF_mod p x c s (by omega)
    have e1 : sm s (fun k => c.getD (c.length - (s + 1) + (k + 1)) 0 * x ^ (k + 1)) = sm s (fun i => c.getD (c.length - s + i) 0 * x ^ i) * x := by
      rw [← sm_mulr]
      exact sm_congr fun k hk => by rw [show c.length - (s + 1) + (k + 1) = c.length - s + k by omega, Int.pow_succ, Int.mul_assoc]
    rw [e1, Nat.add_zero, Int.pow_zero, Int.mul_one, Int.add_comm (c.getD _ 0)]
    exact add_cg (mul_mod ih rfl) rfl
theorem root_det {p x : Int} (hp : 0 < p) {n : Nat} {A : Mx} : (vlF p x (mkV (n + 1) fun q => chp n A q % p) (n + 1) = 0) ↔ det n (chM A x) % p = 0 := by
  have r := vlF_range hp x (mkV (n + 1) fun q => chp n A q % p) (n + 1)
  have e := vlF_mod p x (mkV (n + 1) fun q => chp n A q % p) (n + 1) (by rw [mkV_len]; exact Nat.le_refl _)
  rw [Int.emod_eq_of_lt r.1 r.2] at e
  rw [e, det_chp, pev]
  have e2 : sm (n + 1) (fun i => (mkV (n + 1) fun q => chp n A q % p).getD ((mkV (n + 1) fun q => chp n A q % p).length - (n + 1) + i) 0 * x ^ i) % p = sm (n + 1) (fun k => chp n A k * x ^ k) % p := by
    refine sm_mod fun i hi => ?_
    rw [mkV_len, Nat.sub_self, Nat.zero_add, mkV_get _ hi]
    exact mul_mod (mm2 _ _) rfl
  rw [e2]
theorem sgn_ne (n : Nat) : sgn n = 1 ∨ sgn n = -1 := by
  induction n with
  | zero => exact .inl rfl
  | succ n ih => rw [sgn_succ]; rcases ih with h | h <;> rw [h] <;> simp
theorem det_shift {p x : Int} {n : Nat} {A : Mx} {V : Nat → Nat → Int} (h : ∀ i j, i < n → j < n → V i j % p = (A i j - if j = i then x else 0) % p) : (det n V % p = 0) ↔ det n (chM A x) % p = 0 := by
  have e1 : det n V % p = det n (fun i j => - chM A x i j) % p := det_mod fun i j hi hj => by
    rw [h i j hi hj, chM]
    congr 1
    by_cases e : i = j
    · rw [if_pos e, if_pos e.symm]; omega
    · rw [if_neg e, if_neg fun q => e q.symm]; omega
  rw [e1, det_neg]
  rcases sgn_ne n with h | h
  · rw [h, Int.one_mul]
  · rw [h]
    constructor
    · intro q
      have := Int.dvd_of_emod_eq_zero q
      exact Int.emod_eq_zero_of_dvd (by have := Int.dvd_neg.2 this; rwa [Int.neg_mul, Int.one_mul, Int.neg_neg] at this)
    · intro q
      have := Int.dvd_of_emod_eq_zero q
      exact Int.emod_eq_zero_of_dvd (by rw [Int.neg_mul, Int.one_mul]; exact Int.dvd_neg.2 this)
theorem chM_tr (n : Nat) (A : Mx) (x : Int) : det n (chM (trM A) x) = det n (chM A x) := by
  rw [← det_tr n (chM A x)]
  refine det_congr fun i j _ _ => ?_
  simp only [chM, trM]
  by_cases e : i = j
  · rw [if_pos e, if_pos e.symm]
  · rw [if_neg e, if_neg fun q => e q.symm]
/-- Rows of a kernel are independent. -/
theorem Ind.pv {p : Int} {n : Nat} {ll : List (List Int)} {P : Nat → Nat} {g : Nat → Nat → Int} (v : Pv p n ll P g) (hP : ∀ t, t < ll.length → P t < n) : Ind p n ll.length (vw ll) := fun κ hκ t ht => by
  rw [← Pv.at_ v κ ht]
  exact hκ _ (hP t ht)
end Go.Proofs.Ytlhebmcnjgagjaa

/- Layer 5: the law LinearMaps, walked. -/
namespace Go.Proofs.Ytlhebmcnjgagjaa
open Go Go.Ay
set_option maxRecDepth 100000
end Go.Proofs.Ytlhebmcnjgagjaa

/- The law LinearSolves, walked. -/
namespace Go.Proofs.Ytlhebmcnjgagjaa
open Go Go.Ay
set_option maxRecDepth 100000
end Go.Proofs.Ytlhebmcnjgagjaa

/- Layer 5: Eigen with the span that it found; membership; the law LinearEigen, walked. -/
namespace Go.Proofs.Ytlhebmcnjgagjaa
open Go Go.Ay
set_option maxRecDepth 100000
set_option maxHeartbeats 8000000 in
theorem Eigen_sp (va : V) (a : Mat) (x : Int) (h : H) (ha : MatV h va a) (la : (a.2.length : Int) ≤ 2 ^ 63 - 1) (hz0 : checkM a = 0) (hsq0 : (a.2.getD 0 []).length = a.2.length) : Ev T n_linear_Eigen [va, .int .i64 x] h (fun w h' => ∃ u S f, w = .tup [u, .int .i64 0] ∧ Sk a.1 a.2.length a.2.length (a.2.length + a.2.length) (vw (egL a.1 x a.2.length a.2)) S f a.2.length ∧ SRf h' u (krF a.2.length a.2.length S f (a.2.length + a.2.length)) h.next ∧ Fr h h') := by
  obtain ⟨ua, rfl, hua⟩ := ha
  refine Ev_of t_linear_Eigen rfl ?_
  have wa := SV.what hua.choose_spec.1
  simp (disch := first | omega | (simp only [Qn] <;> omega)) only [go_sem, c_linear_Eigen, initV_eq, boxV_agg2 h (v := .int .i64 a.1) rfl wa.2.1]
  have hf1 : Fr h (h.new (.cells false [.int .i64 a.1, ua])) := (Fr.refl h).new _
  have hg1 : (h.new (.cells false [.int .i64 a.1, ua])).get h.next = some (.cells false [.int .i64 a.1, ua]) := H.get_new_same ..
  have hn1 : (h.new (.cells false [.int .i64 a.1, ua])).next = h.next + 1 := H.next_new ..
  generalize h.new (.cells false [.int .i64 a.1, ua]) = h1 at *
  obtain ⟨X, hX⟩ : ∃ X, h.next = X := ⟨_, rfl⟩
  rw [hX] at hg1
  rw [hX]
  simp (disch := first | omega | (simp only [Qn] <;> omega)) only [go_sem, row_two hg1]
  refine (check_ok _ a h1 ⟨ua, rfl, hua.mono hf1⟩ la).mono ?_
  rintro w h2 ⟨rfl, f2⟩
  have F2 := hf1.trans f2
  simp (disch := first | omega | (simp only [Qn] <;> omega)) only [go_sem]
  refine iteW_dec (fun hz => absurd hz0 hz) (fun _ => ?_)
  have hz := hz0
  have da := check_vd hz
  have hp := fieldF_range da.p
  have hP : isP a.1 = true := by have := da.p; simp only [fieldF, Bool.and_eq_true] at this; exact this.2
  have hp1 := isP_gt hP
  have r1 := da.r1
  have r2 := da.r2
  have c1 := da.c1
  have c2 := da.c2
  have gX := (f2.get X (by omega)).trans hg1
  have x0 : h2.cell X 0 = some (.int .i64 a.1) := by rw [H.cell_of gX]; rfl
  have x1 : h2.cell X 1 = some ua := by rw [H.cell_of gX]; rfl
  obtain ⟨ida, offa, wsa, sa, hida, hwla, hca, halla⟩ := (hua.mono F2).open
  have c0 := hca 0 r1
  rw [Nat.add_zero] at c0
  have l0 := (row_at halla (i := 0) r1).lens
  have n2 := f2.next
  have i0 : ixaV 1 ua (.int .i64 0) = some (.ptr ida offa) := by rw [sa.ixa .i64 0 (by omega) (by omega)]; rfl
  simp (disch := first | omega | (simp only [Qn] <;> omega)) only [go_sem, x0, x1, sa.lens, i0, c0, l0]
  have fb : Fr h2 (H.mk h2.tr (h2.next + 10)) := (Fr.refl h2).bump (by omega)
  refine iteW_dec (fun hne => absurd (by omega) hne) (fun hne => ?_)
  obtain ⟨n, hn⟩ : ∃ n, a.2.length = n := ⟨_, rfl⟩
  have hsq : (a.2.getD 0 []).length = n := by omega
  obtain ⟨p, hpe⟩ : ∃ p, a.1 = p := ⟨_, rfl⟩
  obtain ⟨A, hA⟩ : ∃ A, a.2 = A := ⟨_, rfl⟩
  have dlo := da.lo
  have dhi := da.hi
  have drow := da.row
  rw [hpe] at hp hP hp1 x0 dhi
  rw [hA] at hn dlo dhi drow sa hida hwla hca halla r1 r2
  rw [hA] at hsq
  rw [hsq] at dlo dhi drow
  rw [hn] at sa hida hwla hca dlo dhi drow r1 r2
  rw [hpe, hA, hn]
  replace F2 := F2.trans fb
  replace x0 : (H.mk h2.tr (h2.next + 10)).cell X 0 = some (.int .i64 p) := x0
  replace x1 : (H.mk h2.tr (h2.next + 10)).cell X 1 = some ua := x1
  replace hca : ∀ i, i < n → (H.mk h2.tr (h2.next + 10)).cell ida (offa + i) = some (wsa.getD i .undef) := hca
  replace halla := halla.mono fun _ _ r => SI.mono r fb
  have lX : X < (H.mk h2.tr (h2.next + 10)).next := by show X < h2.next + 10; omega
  replace hida : 0 < n → ida < (H.mk h2.tr (h2.next + 10)).next := fun q => Nat.lt_of_lt_of_le (hida q) fb.next
  clear gX c0 i0 hg1 f2 fb
  generalize H.mk h2.tr (h2.next + 10) = h3 at *
  have emk : mksV h3 1 24 [.nils] (.int .i64 (n : Int)) (.int .i64 (n : Int)) = some (.sl h3.next 0 n (.kn n), h3.new (.cells false (List.replicate n .nils))) := by
    rw [mksV_int (by omega) (Int.le_refl _) (by omega) (by omega), Int.toNat_natCast, Nat.mul_one]
    congr 4
    refine List.ext_getElem (by simp [zerosV]) fun i _ _ => ?_
    simp [zerosV, Nat.mod_one]
  simp (disch := first | omega | (simp only [Qn] <;> omega)) only [go_sem, x0, x1, sa.lens, emk]
  obtain ⟨R, hR⟩ : ∃ R, h3.next = R := ⟨_, rfl⟩
  have hf4 : Fr h3 (h3.new (.cells false (List.replicate n .nils))) := (Fr.refl h3).new _
  have hg4 : (h3.new (.cells false (List.replicate n .nils))).get h3.next = some (.cells false (List.replicate n .nils)) := H.get_new_same ..
  have hn4 : (h3.new (.cells false (List.replicate n .nils))).next = h3.next + 1 := H.next_new ..
  generalize h3.new (.cells false (List.replicate n .nils)) = h4 at *
  rw [hR] at hg4
  rw [hR]
  have x14 : h4.cell X 1 = some ua := by rw [hf4.cell lX]; exact x1
  try simp (disch := first | omega | (simp only [Qn] <;> omega)) only [go_sem, x14, sa.lens]
  obtain ⟨E, hE⟩ : ∃ E : Nat → Nat → Int, (fun i j => if j = i then ent A i i - x.tmod p else ent A i j) = E := ⟨_, rfl⟩
  refine Wp_loop (fun k' vars hh => ∃ (i : Nat) (ρ : Nat → Nat), (∃ g : Nat → V, vars = [g 0, .int .i64 x, .ptr X 0, g 3, g 4, g 5, .sl R 0 n (.kn n), g 7, g 8, g 9, g 10, ua, .int .i64 (n : Int), .int .i64 (i : Int), g 14]) ∧ i ≤ n ∧ Gp hh R n n i ρ E h3.next ∧ Fr h3 hh ∧ k' = n - i) n
    ⟨0, _, ex_junk rfl, Nat.zero_le _, Gp.zero hg4 (by omega) (by omega), hf4, rfl⟩ ?_
  clear hg4 x14 hf4 hn4
  rintro k' vars hh ⟨i, ρ, ⟨jk, rfl⟩, hi, G, F, rfl⟩
  simp (disch := first | omega | (simp only [Qn] <;> omega)) only [go_sem]
  by_cases hlt : (i : Int) < (n : Int)
  · rw [decide_eq_true hlt]
    have hi' : i < n := by omega
    have ci : hh.cell ida (offa + i) = some (wsa.getD i .undef) := by rw [F.cell (hida (by omega))]; exact hca i hi'
    have ri := (row_at halla (i := i) (by omega)).mono F
    have eri : A.getD i [] = mkV n (ent A i) := mkV_eq (drow i hi') fun k _ => rfl
    rw [eri] at ri
    simp (disch := first | omega | (simp only [Qn] <;> omega)) only [go_sem, sa.ixa, ci]
    refine (clone_ok _ _ hh ri (by rw [mkV_len]; omega)).mono ?_
    rintro v h5 ⟨_, f5, hcp⟩
    obtain ⟨N, rfl, i1, i2, i3⟩ := hcp (by rw [mkV_len]; omega)
    rw [mkV_len]
    have G0 : Gp hh R n n i ρ (fun j => if j = i then ent A i else E j) h3.next := G.congr fun j k hj hk => by rw [if_neg (by omega)]
    obtain ⟨pt, G5⟩ := G0.step hi' f5 i1 i2 (by rw [if_pos rfl]; exact i3)
    simp (disch := first | omega | (simp only [Qn] <;> omega)) only [go_sem, pt]
    have gR5 := G5.gR
    have rN := G5.row i (by omega)
    have upi : upN ρ i N i = N := by simp [upN]
    rw [upi, if_pos rfl] at rN
    have hRl := G5.hR
    have f6 : Fr h3 (h5.set R (some (.cells false (((List.range n).map fun j => if j < i then V.sl (ρ j) 0 n (.un 1) else .nils).set i (.sl N 0 n (.un 1)))))) := (F.trans f5).set (by omega) _
    obtain ⟨h6, hh6⟩ : ∃ h6, h5.set R (some (.cells false (((List.range n).map fun j => if j < i then V.sl (ρ j) 0 n (.un 1) else .nils).set i (.sl N 0 n (.un 1))))) = h6 := ⟨_, rfl⟩
    rw [hh6] at G5 gR5 rN f6
    rw [hh6]
    have n6 : h6.next = h5.next := by rw [← hh6]; rfl
    have cR : h6.cell R i = some (.sl N 0 n (.un 1)) := by
      rw [H.cell_of gR5, List.getElem?_map, List.getElem?_range hi', Option.map_some, if_pos (by omega), upi]
    have bN : Bk h6 N n (ent A i) := rN
    have cN := bN.cell hi'
    have x06 : h6.cell X 0 = some (.int .i64 p) := by rw [f6.cell lX]; exact x0
    have lo := dlo i i hi' hi'
    have hi2 := dhi i i hi' hi'
    have tb := tmod_bd x (show 0 < p by omega)
    have pt2 := bN.put hi' (H.mk h6.tr (h5.next + 14)) (ent A i i - x.tmod p)
    have cL : ((List.map (fun j => if j < i then V.sl (ρ j) 0 n (.un 1) else V.nils) (List.range n)).set i (V.sl N 0 n (.un 1)))[i]? = some (V.sl N 0 n (.un 1)) := List.getElem?_set_self (by simpa using hi')
    have ixR : ∀ kk : IntKind, ixaV 1 (V.sl R 0 n (.kn n)) (.int kk (i : Int)) = some (.ptr R i) := fun kk => by
      rw [ixaV_sl (by omega) (by omega)]; simp
    clear hh6
    simp (disch := first | omega | (simp only [Qn] <;> omega)) only [go_sem, ixR, cL, cR, cN, x06, pt2]
    have fb6 : Fr h6 (H.mk h6.tr (h5.next + 14)) := (Fr.refl h6).bump (by omega)
    have G7 := (G5.fr fb6).edit (j := i) (by omega) (fun j => if j = i then ent A i i - x.tmod p else ent A i j)
    rw [upi] at G7
    rw [show (i : Int) + 1 = ((i + 1 : Nat) : Int) from by omega]
    refine ⟨n - (i + 1), by omega, i + 1, _, ex_junk rfl, by omega, G7.congr fun j k hj hk => ?_, (f6.trans fb6).set (by have := F.next; omega) _, rfl⟩
    by_cases e : j = i
    · rw [if_pos e, e, ← hE]
    · rw [if_neg e, if_neg e]
  rw [decide_eq_false hlt]
  obtain rfl : i = n := by omega
  have x0h : hh.cell X 0 = some (.int .i64 p) := by rw [F.cell lX]; exact x0
  have sl : lensV (V.sl R 0 i (.kn i)) = some (.int .i64 (i : Int)) := rfl
  simp (disch := first | omega | (simp only [Qn] <;> omega)) only [go_sem, x0h, sl]
  refine (kernel_ok p i (.sl R 0 i (.kn i)) (mkR i i E) hh (G.done.sr _) (by rw [mkR_len]; omega) (by omega) (by omega) (fun q hq => by rw [mkR_len] at hq; rw [mkR_row _ hq, mkV_len]) hP hp.2).mono ?_
  rintro w h9 ⟨k, S, f, rfl, s, sr, f9⟩
  simp (disch := first | omega | (simp only [Qn] <;> omega)) only [go_sem]
  rw [mkR_len] at s sr
  refine ⟨_, S, f, rfl, ?_, sr.le (by have := (F2.trans F).next; omega), (F2.trans F).trans f9⟩
  refine Sp.same s (Nat.le_refl _) fun q j hq hj => ?_
  rw [vw_mkR hq hj, vw_mkR hq hj, mkE, mkE]
  by_cases e : j < i
  · rw [if_pos e, if_pos e, vw_mkR hq e, egL_vw hq e, mm2, ← hE]
    by_cases e2 : j = q
    · simp only [if_pos e2]; rw [e2]
      exact sub_cg rfl (tmod_same x (by omega))
    · simp only [if_neg e2, Int.sub_zero]
  · rw [if_neg e, if_neg e]
set_option maxHeartbeats 4000000 in
theorem has_ok (v : V) (l : List Int) (x : Int) (h : H) (hv : SI h v l) (hl : l.length < 1000000) : Ev T n_kit_Has_int [v, .int .i64 x] h (fun w h' => w = .bool (decide (x ∈ l)) ∧ h' = h) := by
  refine Ev_of t_kit_Has_int rfl ?_
  obtain ⟨id, off, sl, hid, hc⟩ := hv.open
  simp (disch := first | omega | (simp only [Qn] <;> omega)) only [go_sem, c_kit_Has_int, initV_eq]
  refine Wp_loop (fun k' vars hh => hh = h ∧ ∃ i : Nat, (∃ g : Nat → V, vars = [v, .int .i64 x, g 2, .int .i64 (i : Int), g 4, g 5]) ∧ i ≤ l.length ∧ x ∉ l.take i ∧ k' = l.length - i) l.length
    ⟨rfl, 0, ex_junk rfl, Nat.zero_le _, by simp, rfl⟩ ?_
  rintro k' vars hh ⟨rfl, i, ⟨g, rfl⟩, hi, hn, rfl⟩
  simp (disch := first | omega | (simp only [Qn] <;> omega)) only [go_sem, sl.lens]
  by_cases hlt : (i : Int) < (l.length : Int)
  · rw [decide_eq_true hlt]
    have hi' : i < l.length := by omega
    have ge : l.getD i 0 = l[i] := by rw [List.getD_eq_getElem?_getD, List.getElem?_eq_getElem hi']; rfl
    simp (disch := first | omega | (simp only [Qn] <;> omega)) only [go_sem, sl.ixa, hc i hi']
    refine iteW_dec (fun he => ?_) (fun he => ?_)
    · simp (disch := first | omega | (simp only [Qn] <;> omega)) only [go_sem]
      rw [decide_eq_true (show x ∈ l by rw [← he, ge]; exact List.getElem_mem _)]
      exact ⟨rfl, trivial⟩
    · simp (disch := first | omega | (simp only [Qn] <;> omega)) only [go_sem]
      rw [show (i : Int) + 1 = ((i + 1 : Nat) : Int) from by omega]
      refine ⟨l.length - (i + 1), by omega, i + 1, ex_junk rfl, by omega, fun hm => ?_, rfl⟩
      rw [List.take_add_one, List.getElem?_eq_getElem hi', ← ge] at hm
      rcases List.mem_append.1 hm with h1 | h1
      · exact hn h1
      · simp at h1; exact he h1.symm
  rw [decide_eq_false hlt]
  obtain rfl : i = l.length := by omega
  rw [List.take_length] at hn
  simp (disch := first | omega | (simp only [Qn] <;> omega)) only [go_sem]
  rw [decide_eq_false hn]
  exact ⟨rfl, trivial⟩
end Go.Proofs.Ytlhebmcnjgagjaa

/- Layer 5: the law LinearEigen, walked. -/
namespace Go.Proofs.Ytlhebmcnjgagjaa
open Go Go.Ay
set_option maxRecDepth 100000
set_option maxHeartbeats 32000000 in
theorem eigen_ok (vl : V) (l : List Int) (pp nn : Int) (h : H) (hc : SI h vl l) (hcl : (l.length : Int) ≤ 2 ^ 63 - 1) : Ev T n_law05_LinearEigen [vl, .int .i64 pp, .int .i64 nn] h (fun v _ => v = .bool true) := by
  refine Ev_of t_law05_LinearEigen rfl ?_
  simp (disch := first | omega | (simp only [Qn] <;> omega)) only [go_sem, c_law05_LinearEigen, initV_eq]
  refine (lives_ok h).mono ?_
  rintro v h0 ⟨rfl, g⟩
  replace hc := hc.mono g
  clear g
  simp (disch := first | omega | (simp only [Qn] <;> omega)) only [go_sem, hc.lens]
  refine iteW_dec (fun hlong => ?_) (fun hl1 => ?_)
  · simp (disch := first | omega | (simp only [Qn] <;> omega)) only [go_sem]
  have hl : l.length < 1000000 := by omega
  simp (disch := first | omega | (simp only [Qn] <;> omega)) only [go_sem]
  refine callpP.intro (pick_ok pp 5 ⟨.lf, 0⟩ (by omega) (by omega)) rfl ?_
  rintro v hb ⟨rfl, rfl⟩
  refine ⟨rfl, ?_⟩
  simp (disch := first | omega | (simp only [Qn] <;> omega)) only [go_sem]
  refine callpP.intro (pick_ok nn 5 ⟨.lf, 0⟩ (by omega) (by omega)) rfl ?_
  rintro v hb ⟨rfl, rfl⟩
  refine ⟨rfl, ?_⟩
  have r5 := tmod_range pp (show (0 : Int) < 5 by omega)
  have r6 := tmod_range nn (show (0 : Int) < 5 by omega)
  obtain ⟨t, ht⟩ : ∃ t : Nat, pp % 5 = (t : Int) := ⟨(pp % 5).toNat, by omega⟩
  have ht5 : t < 5 := by omega
  obtain ⟨n, hn⟩ : ∃ n : Nat, 1 + nn % 5 = (n : Int) := ⟨(1 + nn % 5).toNat, by omega⟩
  have hn5 : 1 ≤ n ∧ n ≤ 5 := by omega
  have hb5 : ∀ hh : H, blsV hh 1 [.int .i64 0] 5 [(0, 1, .int .i64 2), (1, 1, .int .i64 3), (2, 1, .int .i64 5), (3, 1, .int .i64 7), (4, 1, .int .i64 11)] = some (.sl hh.next 0 5 (.kn 5), hh.new (.cells false (ints [2, 3, 5, 7, 11]))) := fun _ => rfl
  rw [ht]
  have key : ∀ t, t < 5 → fieldF (([2, 3, 5, 7, 11] : List Int).getD t 0) = true ∧ ([2, 3, 5, 7, 11] : List Int).getD t 0 ≤ 11 := by decide +kernel
  have hk := key t ht5
  obtain ⟨p, hp⟩ : ∃ p, ([2, 3, 5, 7, 11] : List Int).getD t 0 = p := ⟨_, rfl⟩
  rw [hp] at hk
  obtain ⟨hf, hp11⟩ := hk
  have cl : ∀ (a m : Nat) (hh : H), (litV hh a (ints [2, 3, 5, 7, 11]) m).cell a t = some (.int .i64 p) := fun a m hh => by
    rw [litV_cell, ← hp]
    have := own_cell (h := litV hh a (ints [2, 3, 5, 7, 11]) m) (id := a) (ro := false) (l := [2, 3, 5, 7, 11]) (litV_get ..) t ht5
    rw [litV_cell] at this
    exact this
  simp (disch := first | omega | (simp only [Qn] <;> omega)) only [go_sem, hn, hb5, litV_eq, cl]
  have fL : Fr h0 (litV h0 h0.next (ints [2, 3, 5, 7, 11]) (h0.next + 10)) := litV_fr (Fr.refl h0) (Nat.le_refl _) (by omega) _
  have nL : (litV h0 h0.next (ints [2, 3, 5, 7, 11]) (h0.next + 10)).next = h0.next + 10 := litV_next ..
  replace hc := hc.mono fL
  clear cl
  generalize litV h0 h0.next (ints [2, 3, 5, 7, 11]) (h0.next + 10) = h1 at *
  have hF := hf
  simp only [fieldF, Bool.and_eq_true, decide_eq_true_eq] at hF
  obtain ⟨hp2, hpr⟩ := hF
  have hp1 := isP_gt hpr
  have vc := SV.what hc
  have hbl : bldV [.nils, .int .i64 0] [(0, 1, vl)] = some (.agg [vl, .int .i64 0]) := bldV_fst (z1 := .nils) (z2 := .int .i64 0) (v := vl) vc.1 vc.2.1
  have hbo := fun hh => boxV_agg2 hh (v := vl) (u := .int .i64 0) vc.2.1 rfl
  simp (disch := first | omega | (simp only [Qn] <;> omega)) only [go_sem, hbl, hbo]
  have hfx : Fr h1 (h1.new (.cells false [vl, .int .i64 0])) := (Fr.refl h1).new _
  have hgx : (h1.new (.cells false [vl, .int .i64 0])).get h1.next = some (.cells false [vl, .int .i64 0]) := H.get_new_same ..
  have hnx : (h1.new (.cells false [vl, .int .i64 0])).next = h1.next + 1 := H.next_new ..
  generalize h1.new (.cells false [vl, .int .i64 0]) = hx at *
  have idl : ∀ id off len c, vl = .sl id off len c → id < h1.next := fun id off len c e => SI.lt hc e
  obtain ⟨tid, htid⟩ : ∃ t, h1.next = t := ⟨_, rfl⟩
  rw [htid] at hgx idl
  have htk : Tk hx tid l := ⟨vl, 0, hgx, hc.mono hfx, idl, Nat.zero_le _, by omega⟩
  rw [htid]
  refine (drawn_un tid l n n p hx htk hl (by omega) (by omega) (by omega)).mono ?_
  rintro va k0 ⟨Am, wsA, hA, RA, ht0, FX0, hun⟩
  have n0 := FX0.next
  obtain ⟨ida, rfl⟩ := hun (by omega)
  obtain ⟨aL, haL⟩ : ∃ a, mkR n n Am = a := ⟨_, rfl⟩
  have al : aL.length = n := by rw [← haL, mkR_len]
  have ar : ∀ i, i < aL.length → (aL.getD i []).length = n := fun i hi => by rw [← haL, mkR_row _ (by omega), mkV_len]
  have ae : ∀ i j, i < aL.length → j < n → 0 ≤ vw aL i j ∧ vw aL i j < p := fun i j hi hj => by rw [← haL, vw_mkR (by omega) hj]; exact hA i j (by omega) hj
  rw [haL] at RA
  have ra := RA.sr
  clear hA haL FX0 ht0 htk hgx hfx idl hbl hbo vc
  have hbl2 := bldV_two (z1 := .int .i64 0) (z2 := .nils) (v := .int .i64 p) (u := .sl ida 0 n (.un 1)) rfl rfl rfl rfl
  have hst2 := fun hh id => stV_agg2 hh id 0 (v := .int .i64 p) (u := .sl ida 0 n (.un 1)) rfl rfl
  simp (disch := first | omega | (simp only [Qn] <;> omega)) only [go_sem, hbl2, hst2, bxH_eq]
  have fB := bxH_fr k0 p (.sl ida 0 n (.un 1))
  have gB := bxH_get k0 p (.sl ida 0 n (.un 1))
  have nB := bxH_next k0 p (.sl ida 0 n (.un 1))
  generalize bxH k0 p (.sl ida 0 n (.un 1)) = k1 at *
  obtain ⟨X, hX⟩ : ∃ X, k0.next = X := ⟨_, rfl⟩
  rw [hX] at gB nB
  try rw [hX]
  replace ra := ra.mono fB
  have lX : X < k1.next := by omega
  have a0 : (aL.getD 0 []).length = n := ar 0 (by omega)
  have va : Vd (p, aL) n := ⟨hf, by show 1 ≤ aL.length; omega, by show aL.length ≤ 64; omega, by omega, by omega, ar, fun i k hi hk => (ae i k (by have : i < aL.length := hi; omega) hk).1, fun i k hi hk => (ae i k (by have : i < aL.length := hi; omega) hk).2⟩
  have cka : checkM (p, aL) = 0 := vd_check va
  have mv : ∀ {h' : H}, Fr k1 h' → MatV h' (.agg [.int .i64 p, .sl ida 0 n (.un 1)]) (p, aL) := fun f => ⟨_, rfl, ra.mono f⟩
  have rX : ∀ {h' : H}, Fr k1 h' → h'.row X 0 2 = some [.int .i64 p, .sl ida 0 n (.un 1)] := fun f => row_two ((f.get X lX).trans gB)
  have la : ((p, aL).2.length : Int) ≤ 2 ^ 63 - 1 := by show (aL.length : Int) ≤ _; omega
  clear hbl2 hst2 fB nB hun
  simp (disch := first | omega | (simp only [Qn] <;> omega)) only [go_sem, rX (Fr.refl _)]
  refine (Values_ok _ (p, aL) k1 (mv (Fr.refl _)) la).mono ?_
  rintro w k2 ⟨uv, rfl, sv, f2⟩
  have hsq : sqF (p, aL) = 0 := by
    unfold sqF
    first
    | (rw [if_neg (by simp [cka]), if_neg (by show ¬ aL.length ≠ (aL.getD 0 []).length; omega)])
    | simp [cka, a0, al]
  obtain ⟨Ce, hC⟩ : ∃ Ce, mkV (n + 1) (fun q => chp n (ent aL) q % p) = Ce := ⟨_, rfl⟩
  have ePoly : PolyF (p, aL) = (Ce, 0) := by
    rw [PolyF, if_neg (by simp [hsq]), ← hC]
    show (mkV (aL.length + 1) (fun q => chp aL.length (ent aL) q % p), (0 : Int)) = _
    rw [al]
  have lC : Ce.length = n + 1 := by rw [← hC, mkV_len]
  obtain ⟨P, hP⟩ : ∃ P : Nat, p = (P : Int) := ⟨p.toNat, by omega⟩
  have eV : ValuesF (p, aL) = (rtF p Ce P, 0) := by
    rw [ValuesF, ePoly, if_neg (by simp)]
    show (rtF p Ce p.toNat, (0 : Int)) = _
    rw [hP, Int.toNat_natCast]
  rw [eV] at sv
  replace sv : SI k2 uv (rtF p Ce P) := sv
  rw [eV]
  simp (disch := first | omega | (simp only [Qn] <;> omega)) only [go_sem, List.getElem?_cons_zero, List.getElem?_cons_succ]
  have mem : ∀ x : Nat, x < P → ((x : Int) ∈ rtF p Ce P ↔ det n (chM (ent aL) (x : Int)) % p = 0) := fun x hx => by
    rw [← root_det (by omega), hC, rtF, lC]
    constructor
    · intro h
      obtain ⟨y, hy, e⟩ := List.mem_map.1 h
      have := (List.mem_filter.1 hy).2
      rw [decide_eq_true_eq] at this
      rw [← e]; exact this
    · intro h
      exact List.mem_map.2 ⟨x, List.mem_filter.2 ⟨List.mem_range.2 hx, by rw [decide_eq_true_eq]; exact h⟩, rfl⟩
  have lrt := rtF_len p Ce P
  refine Wp_loop (fun k' vars hh => ∃ (x all : Nat) (U : Nat → Nat → Int) (ev : Nat → Int), (∃ g : Nat → V, vars = [g 0, .int .i64 p, .int .i64 (n : Int), g 3, .ptr X 0, uv, .int .i64 0, .int .i64 (all : Int), .int .i64 (x : Int), g 9, g 10, g 11, g 12, g 13, g 14, g 15, g 16, g 17, g 18, g 19, g 20, g 21, g 22, g 23, g 24, g 25, g 26, g 27, g 28]) ∧ x ≤ P ∧ Ew p n (ent aL) (x : Int) all U ev ∧ Fr k2 hh ∧ k' = P - x) P
    ⟨0, 0, _, _, ex_junk rfl, Nat.zero_le _, Ew.start p n (ent aL) _, Fr.refl _, rfl⟩ ?_
  rintro k' vars hh ⟨x, all, U, ev, ⟨jk, rfl⟩, hx, ew, F, rfl⟩
  have lall := ew.ind.le hpr
  simp (disch := first | omega | (simp only [Qn] <;> omega)) only [go_sem]
  by_cases hlt : (x : Int) < p
  · rw [decide_eq_true hlt]
    have hx' : x < P := by omega
    have F1 := f2.trans F
    simp (disch := first | omega | (simp only [Qn] <;> omega)) only [go_sem, rX F1]
    refine (Eigen_sp _ (p, aL) (x : Int) hh (mv F1) la cka (by show (aL.getD 0 []).length = aL.length; omega)).mono ?_
    rintro w h5 ⟨uk, S, f, rfl, sk, sr, f5⟩
    simp only [al] at sk sr
    obtain ⟨K, hK⟩ : ∃ K, krF n n S f (n + n) = K := ⟨_, rfl⟩
    rw [hK] at sr
    have F5 := F.trans f5
    have sK := sr.sr
    have lK : K.length ≤ n + n := by rw [← hK]; exact krF_len
    have hV : ∀ i j, i < n → j < n → vw (egL p (x : Int) n aL) i j % p = (ent aL i j - if j = i then (x : Int) else 0) % p := fun i j hi hj => by rw [egL_vw hi hj, mm2]
    have iff1 : (0 < K.length) ↔ (x : Int) ∈ rtF p Ce P := by
      rw [mem x hx', ← det_shift hV, ← hK]
      exact det_ker hpr hn5.1 sk rfl
    have lk := sK.lens
    have d00 : decide ((0 : Int) ≠ 0) = false := rfl
    have pvK : Pv p n K (fun i => ((List.range n).filter (kS n S)).getD i 0) (fun i => kf n f (((List.range n).filter (kS n S)).getD i 0)) := by
      have := Re.pv (Re.ker rfl sk.re)
      rw [← krF_rwF rfl, hK] at this
      exact this
    have rowK : ∀ q, q < K.length → (K.getD q []).length = n := fun q hq => by rw [pvK.row q hq, mkV_len]
    have eig : ∀ q, q < K.length → ∀ j, j < n → sm n (fun i => vw K q i * ent aL i j) % p = (x : Int) * vw K q j % p := fun q hq j hj => by
      obtain ⟨c, hcn, hs, hw⟩ : ∃ c, c < n ∧ kS n S c = true ∧ ∀ t, t < n → vw K q t = kf n f c t := by
        have hq2 := hq
        rw [← hK, krF_rwF rfl] at hq2
        obtain ⟨a1, a2, a3⟩ := piv_at hq2
        rw [← krF_rwF rfl, hK] at a3
        exact ⟨_, a1, a2, fun t ht => by rw [vw, a3, mkV_get _ ht]⟩
      have z := Sk.zero rfl sk hcn hs hj
      have e1 : sm n (fun i => kf n f c i * vw (egL p (x : Int) n aL) i j) % p = sm n (fun i => vw K q i * (ent aL i j - if j = i then (x : Int) else 0)) % p := sm_mod fun i hi => mul_mod (by rw [hw i hi]) (hV i j hi hj)
      rw [z] at e1
      have e2 : sm n (fun i => vw K q i * (ent aL i j - if j = i then (x : Int) else 0)) = sm n (fun i => vw K q i * ent aL i j) - vw K q j * (x : Int) := by
        have b1 : sm n (fun i => if j = i then vw K q i * (x : Int) else 0) = vw K q j * (x : Int) := sm_pick' hj (fun i => vw K q i * (x : Int))
        rw [← b1, ← sm_sub]
        exact sm_congr fun i _ => by
          by_cases e : j = i
          · rw [if_pos e, if_pos e, Int.mul_sub]
          · rw [if_neg e, if_neg e, Int.sub_zero, Int.sub_zero]
      rw [e2] at e1
      rw [Int.mul_comm (x : Int)]
      exact sub_zero e1.symm
    simp (disch := first | omega | (simp only [Qn] <;> omega)) only [go_sem, List.getElem?_cons_zero, List.getElem?_cons_succ, d00, lk]
    refine (has_ok uv (rtF p Ce P) (x : Int) h5 (sv.mono F5) (by omega)).mono ?_
    rintro w h6 ⟨rfl, rfl⟩
    have eb : (decide ((0 : Int) < (K.length : Int)) == decide ((x : Int) ∈ rtF p Ce P)) = true := by
      by_cases e : 0 < K.length
      · rw [decide_eq_true (show (0 : Int) < (K.length : Int) by omega), decide_eq_true (iff1.1 e)]; rfl
      · rw [decide_eq_false (show ¬ (0 : Int) < (K.length : Int) by omega), decide_eq_false fun q => e (iff1.2 q)]; rfl
    simp (disch := first | omega | (simp only [Qn] <;> omega)) only [go_sem, eb]
    obtain ⟨idk, offk, wsk, ρk, ok, RK⟩ := SR.rd sK rowK
    refine Wp_loop (fun k' vars hh => ∃ (q : Nat), (∃ g : Nat → V, vars = [g 0, .int .i64 p, .int .i64 (n : Int), g 3, .ptr X 0, uv, .int .i64 0, .int .i64 (all : Int), .int .i64 (x : Int), uk, g 10, .int .i64 (q : Int), g 12, g 13, g 14, g 15, g 16, g 17, g 18, g 19, g 20, g 21, g 22, g 23, g 24, g 25, g 26, g 27, g 28]) ∧ q ≤ K.length ∧ Fr h6 hh ∧ k' = K.length - q) K.length
      ⟨0, ex_junk rfl, Nat.zero_le _, Fr.refl _, rfl⟩ ?_
    clear jk
    rintro k' vars h7 ⟨q, ⟨jk, rfl⟩, hq, f7, rfl⟩
    have F7 := F5.trans f7
    simp (disch := first | omega | (simp only [Qn] <;> omega)) only [go_sem, lk]
    by_cases hqk : (q : Int) < (K.length : Int)
    · rw [decide_eq_true hqk]
      have hq' : q < K.length := by omega
      have RK7 := RK.fr f7
      have cq := RK7.at_ q hq'
      have rq := RK7.row q hq'
      have wq := SV.what rq
      have rX7 := rX (f2.trans F7)
      have fb : Fr h7 (H.mk h7.tr (h7.next + 10)) := (Fr.refl h7).bump (by omega)
      have rX7b := rX ((f2.trans F7).trans fb)
      have emk := fun hh => mks_ints hh n (by omega)
      simp (disch := first | omega | (simp only [Qn] <;> omega)) only [go_sem, RK.sl.ixa, cq, rX7, rX7b]
      have nb : (H.mk h7.tr (h7.next + 10)).next = h7.next + 10 := rfl
      refine (apply_ok _ _ (K.getD q []) (p, aL) _ (rq.mono fb) (by rw [rowK q hq']; omega) (mv ((f2.trans F7).trans fb)) la).mono ?_
      rintro w h8 ⟨s8, f8, r8⟩
      have n8 := f8.next
      have eA : (ApplyF (K.getD q []) (p, aL)).1 = mkV n fun j => vw K q j * (x : Int) % p := by
        rw [ApplyF, if_neg (by simp [cka]), if_neg (by show ¬ (K.getD q []).length ≠ aL.length; rw [rowK q hq']; omega)]
        show applyF _ (p, aL) (aL.getD 0 []).length = _
        rw [applyF, a0, rowK q hq']
        refine mkV_congr fun j hj => ?_
        rw [mkV_len, Int.mul_comm (vw K q j), ← eig q hq' j hj]
        exact sm_mod (f := fun i => (mkV n fun i => (K.getD q []).getD i 0 % p).getD i 0 * ent aL i j) (g := fun i => vw K q i * ent aL i j) fun i hi => mul_mod (by rw [mkV_get _ hi, mm2]; rfl) rfl
      rw [eA] at s8
      simp (disch := first | omega | (simp only [Qn] <;> omega)) only [go_sem, emk, litV_eq]
      have fx9 : Fx (h7.next + 7) h8 (litV h8 (h7.next + 7) (ints (mkV n fun _ => 0)) h8.next) := ⟨by rw [litV_next]; exact Nat.le_refl _, fun id h1 h2 => litV_ne _ _ _ h2⟩
      have s9 := SI.fx s8 r8 (by omega) fx9
      have b9 : Bt (litV h8 (h7.next + 7) (ints (mkV n fun _ => 0)) h8.next) (h7.next + 7) n (fun _ => 0) [] := by unfold Bt; rw [List.append_nil]; exact litV_get ..
      have f9 : Fr h7 (litV h8 (h7.next + 7) (ints (mkV n fun _ => 0)) h8.next) := Fx.fr (fb.trans f8) (by omega) fx9
      have n9 : h7.next + 7 < (litV h8 (h7.next + 7) (ints (mkV n fun _ => 0)) h8.next).next := by rw [litV_next]; omega
      have nn9 : (litV h8 (h7.next + 7) (ints (mkV n fun _ => 0)) h8.next).next = h8.next := litV_next ..
      generalize litV h8 (h7.next + 7) (ints (mkV n fun _ => 0)) h8.next = h9 at *
      obtain ⟨N, hN⟩ : ∃ N, h7.next + 7 = N := ⟨_, rfl⟩
      rw [hN] at b9 n9 ⊢
      have lw := s9.lens
      rw [mkV_len] at lw
      have lrow := rq.lens
      rw [rowK q hq'] at lrow
      have cq9 : h9.cell idk (offk + q) = some (wsk.getD q .undef) := (RK7.fr f9).at_ q hq'
      have dnn : decide ((n : Int) ≠ (n : Int)) = false := decide_eq_false fun h => h rfl
      simp (disch := first | omega | (simp only [Qn] <;> omega)) only [go_sem, RK.sl.ixa, cq9, lrow, dnn, lw]
      refine Wp_loop (fun k' vars hh => ∃ (j : Nat), (∃ g : Nat → V, vars = [g 0, .int .i64 p, .int .i64 (n : Int), g 3, .ptr X 0, uv, .int .i64 0, .int .i64 (all : Int), .int .i64 (x : Int), uk, g 10, .int .i64 (q : Int), w, .sl N 0 n (.kn n), .int .i64 (j : Int), g 15, g 16, g 17, g 18, g 19, g 20, g 21, g 22, g 23, g 24, g 25, g 26, g 27, g 28]) ∧ j ≤ n ∧ Bt hh N n (fun i => if i < j then vw K q i * (x : Int) % p else 0) [] ∧ Fx N h9 hh ∧ k' = n - j) n
        ⟨0, ex_junk rfl, Nat.zero_le _, b9.congr fun i _ => (if_neg (Nat.not_lt_zero i)).symm, Fx.refl _ _, rfl⟩ ?_
      clear jk
      rintro k' vars h10 ⟨j, ⟨jk, rfl⟩, hj, b10, fx10, rfl⟩
      have f10 : Fr h7 h10 := Fx.fr f9 (by omega) fx10
      simp (disch := first | omega | (simp only [Qn] <;> omega)) only [go_sem]
      by_cases hjn : (j : Int) < (n : Int)
      · rw [decide_eq_true hjn]
        have hj' : j < n := by omega
        have RK10 := RK7.fr f10
        have c1 := RK10.at_ q hq'
        have c2 := RK10.ent q j hq' hj'
        have rg := pvK.rng q j hq' hj'
        have eg : ent K q j = vw K q j := rfl
        have rg2 : 0 ≤ vw K q j ∧ vw K q j < p := by
          have e : vw K q j = kf n f (((List.range n).filter (kS n S)).getD q 0) j := by rw [vw, pvK.row q hq', mkV_get _ hj']
          rw [e]; exact rg
        rw [eg] at c2
        have bm1 := Int.mul_nonneg rg2.1 (show (0 : Int) ≤ (x : Int) by omega)
        have bm2 := Int.mul_le_mul (show vw K q j ≤ 11 by omega) (show (x : Int) ≤ 11 by omega) (by omega) (by omega)
        have em := nonneg_tmod (a := vw K q j * (x : Int)) (p := p) bm1
        have pt := b10.put hj' h10 (vw K q j * (x : Int) % p)
        have ixN : ∀ kk : IntKind, ixaV 1 (V.sl N 0 n (.kn n)) (.int kk (j : Int)) = some (.ptr N j) := fun kk => by
          rw [ixaV_sl (by omega) (by omega)]; simp
        simp (disch := first | omega | (simp only [Qn] <;> omega)) only [go_sem, RK.sl.ixa, c1, (RK.rsl q hq').ixa, c2, em, ixN, pt]
        rw [show (j : Int) + 1 = ((j + 1 : Nat) : Int) from by omega]
        refine ⟨n - (j + 1), by omega, j + 1, ex_junk rfl, by omega, (Bk.set ..).bt.congr fun i hi => ?_, fx10.set _, rfl⟩
        by_cases e : i = j
        · rw [if_pos e, if_pos (by omega), e]
        · rw [if_neg e]
          by_cases e2 : i < j
          · rw [if_pos e2, if_pos (by omega)]
          · rw [if_neg e2, if_neg (by omega)]
      rw [decide_eq_false hjn]
      obtain rfl : j = n := by omega
      have s10 := SI.fx s9 r8 (by omega) fx10
      have b11 : SI h10 (.sl N 0 j (.kn j)) (mkV j fun i => vw K q i * (x : Int) % p) := (b10.congr fun i hi => if_pos hi).si (by have := fx10.next; omega) _
      simp (disch := first | omega | (simp only [Qn] <;> omega)) only [go_sem]
      refine (same_ok w _ _ _ h10 s10 b11 (by rw [mkV_len]; omega) (by rw [mkV_len]; omega)).mono ?_
      rintro w2 h11 ⟨rfl, f11⟩
      simp (disch := first | omega | (simp only [Qn] <;> omega)) only [go_sem, decide_true]
      rw [show (q : Int) + 1 = ((q + 1 : Nat) : Int) from by omega]
      exact ⟨K.length - (q + 1), by omega, q + 1, ex_junk rfl, by omega, f7.trans (f10.trans f11), rfl⟩
    rw [decide_eq_false hqk]
    obtain rfl : q = K.length := by omega
    have ew' := ew.more hpr hlt (Ind.pv pvK pvK.lt) eig (by omega)
    have lnew := ew'.ind.le hpr
    simp (disch := first | omega | (simp only [Qn] <;> omega)) only [go_sem, lk]
    rw [show (x : Int) + 1 = ((x + 1 : Nat) : Int) from by omega, show (all : Int) + (K.length : Int) = ((all + K.length : Nat) : Int) from by omega]
    exact ⟨P - (x + 1), by omega, x + 1, all + K.length, _, _, ex_junk rfl, by omega, ew', F7, rfl⟩
  rw [decide_eq_false hlt]
  obtain rfl : x = P := by omega
  obtain ⟨idv, offv, slv, hidv, hcv⟩ := sv.open
  have F3 := f2.trans F
  have asc : ∀ i, i + 1 < (rtF p Ce x).length → (rtF p Ce x).getD i 0 < (rtF p Ce x).getD (i + 1) 0 := fun i hi => by
    have pw : (rtF p Ce x).Pairwise (· < ·) := by
      rw [rtF]
      refine List.pairwise_map.2 ((List.pairwise_lt_range.sublist List.filter_sublist).imp fun {a b} h => ?_)
      show (a : Int) < (b : Int)
      omega
    rw [List.getD_eq_getElem?_getD, List.getD_eq_getElem?_getD, List.getElem?_eq_getElem (by omega), List.getElem?_eq_getElem hi]
    exact List.pairwise_iff_getElem.1 pw i (i + 1) (by omega) hi (by omega)
  simp (disch := first | omega | (simp only [Qn] <;> omega)) only [go_sem]
  refine Wp_loop (fun k' vars hh => ∃ (i : Nat), (∃ g : Nat → V, vars = [g 0, .int .i64 p, .int .i64 (n : Int), g 3, .ptr X 0, uv, .int .i64 0, .int .i64 (all : Int), g 8, g 9, g 10, g 11, g 12, g 13, g 14, .int .i64 (i : Int), g 16, g 17, g 18, g 19, g 20, g 21, g 22, g 23, g 24, g 25, g 26, g 27, g 28]) ∧ Fr k2 hh ∧ i ≤ (rtF p Ce x).length ∧ k' = (rtF p Ce x).length - i) (rtF p Ce x).length
    ⟨0, ex_junk rfl, F, Nat.zero_le _, rfl⟩ ?_
  clear jk
  rintro k' vars h4 ⟨i, ⟨jk, rfl⟩, f4, hi, rfl⟩
  simp (disch := first | omega | (simp only [Qn] <;> omega)) only [go_sem, slv.lens]
  by_cases hil : (i : Int) + 1 < ((rtF p Ce x).length : Int)
  · rw [decide_eq_true hil]
    have hi' : i + 1 < (rtF p Ce x).length := by omega
    have c1 : h4.cell idv (offv + i) = some (.int .i64 ((rtF p Ce x).getD i 0)) := by rw [f4.cell (hidv (by omega))]; exact hcv i (by omega)
    have c2 : h4.cell idv (offv + (i + 1)) = some (.int .i64 ((rtF p Ce x).getD (i + 1) 0)) := by rw [f4.cell (hidv (by omega))]; exact hcv (i + 1) hi'
    have e1 : ((i : Int) + 1).toNat = i + 1 := by omega
    have lt := asc i hi'
    simp (disch := first | omega | (simp only [Qn] <;> omega)) only [go_sem, slv.ixa, c1, c2, e1]
    refine iteW_dec (fun hq => absurd hq (by omega)) (fun _ => ?_)
    simp (disch := first | omega | (simp only [Qn] <;> omega)) only [go_sem]
    rw [show (i : Int) + 1 = ((i + 1 : Nat) : Int) from by omega]
    exact ⟨(rtF p Ce x).length - (i + 1), by omega, i + 1, ex_junk rfl, f4.bump (by omega), by omega, rfl⟩
  rw [decide_eq_false hil]
  have F5 := f2.trans f4
  simp (disch := first | omega | (simp only [Qn] <;> omega)) only [go_sem, rX F5]
  refine (ref_Turn_ok _ (p, aL) h4 (mv F5) la).mono ?_
  rintro w h6 ⟨wt, rfl, ot, f6⟩
  have eT : TurnF (p, aL) = ((p, mkR n n fun k i => ent aL i k), 0) := by
    rw [TurnF, if_neg (by simp [cka])]
    show ((p, mkR (aL.getD 0 []).length aL.length fun k i => ent aL i k), (0 : Int)) = _
    rw [a0, al]
  rw [eT] at ot
  obtain ⟨ut, wst, rfl, Rt⟩ := ot
  simp only at Rt
  obtain ⟨aT, haT⟩ : ∃ aT, mkR n n (fun k i => ent aL i k) = aT := ⟨_, rfl⟩
  have lT : aT.length = n := by rw [← haT, mkR_len]
  have rT : ∀ i, i < aT.length → (aT.getD i []).length = n := fun i hi => by rw [← haT, mkR_row _ (by omega), mkV_len]
  have eTe : ∀ i j, i < n → j < n → ent aT i j = ent aL j i := fun i j hi hj => by rw [← haT]; exact vw_mkR hi hj
  rw [haT] at Rt
  have rt := Rt.sr
  have wt := SV.what rt.choose_spec.1
  have vT : Vd (p, aT) n := ⟨hf, by show 1 ≤ aT.length; omega, by show aT.length ≤ 64; omega, by omega, by omega, rT, fun i k hi hk => by
    have hi' : i < aT.length := hi
    show 0 ≤ ent aT i k
    rw [eTe i k (by omega) hk]; exact (ae k i (by omega) (by omega)).1, fun i k hi hk => by
    have hi' : i < aT.length := hi
    show ent aT i k < p
    rw [eTe i k (by omega) hk]; exact (ae k i (by omega) (by omega)).2⟩
  have ckT : checkM (p, aT) = 0 := vd_check vT
  have hst2 := fun hh id => stV_agg2 hh id 0 (v := .int .i64 p) (u := ut) rfl wt.2.1
  have hb0 : ∀ hh : H, (hh.new (.cells false [.int .i64 0, .nils])).get hh.next = some (.cells false [.int .i64 0, .nils]) := fun hh => H.get_new_same ..
  simp (disch := first | omega | (simp only [Qn] <;> omega)) only [go_sem, List.getElem?_cons_zero, List.getElem?_cons_succ, hst2, bxH_eq]
  have fB := bxH_fr h6 p ut
  have gB2 := bxH_get h6 p ut
  generalize bxH h6 p ut = h7 at *
  simp (disch := first | omega | (simp only [Qn] <;> omega)) only [go_sem, row_two gB2]
  refine (Values_ok _ (p, aT) h7 ⟨ut, rfl, rt.mono fB⟩ (by show (aT.length : Int) ≤ _; omega)).mono ?_
  rintro w h8 ⟨uv2, rfl, sv2, f8⟩
  have hsq2 : sqF (p, aT) = 0 := by
    have := rT 0 (by omega)
    unfold sqF
    first
    | (rw [if_neg (by simp [ckT]), if_neg (by show ¬ aT.length ≠ (aT.getD 0 []).length; omega)])
    | simp [ckT, this, lT]
  have ePT : PolyF (p, aT) = (mkV (n + 1) (fun q => chp n (ent aT) q % p), 0) := by
    rw [PolyF, if_neg (by simp [hsq2])]
    show (mkV (aT.length + 1) (fun q => chp aT.length (ent aT) q % p), (0 : Int)) = _
    rw [lT]
  have eVT : ValuesF (p, aT) = (rtF p Ce x, 0) := by
    rw [ValuesF, ePT, if_neg (by simp)]
    show (rtF p (mkV (n + 1) fun q => chp n (ent aT) q % p) p.toNat, (0 : Int)) = _
    rw [show p.toNat = x by omega]
    congr 1
    rw [rtF, rtF]
    refine congrArg _ (List.filter_congr fun y hy => ?_)
    rw [decide_eq_decide, mkV_len, root_det (by omega), lC, ← hC, root_det (by omega), ← chM_tr n (ent aL)]
    rw [det_congr (A := chM (ent aT) (y : Int)) (B := chM (trM (ent aL)) (y : Int)) fun i j hi hj => by
      simp only [chM, trM]
      rw [eTe i j hi hj]]
  rw [eVT] at sv2
  replace sv2 : SI h8 uv2 (rtF p Ce x) := sv2
  rw [eVT]
  have F8 := ((f4.trans f6).trans fB).trans f8
  have lrt2 := rtF_len p Ce x
  simp (disch := first | omega | (simp only [Qn] <;> omega)) only [go_sem, List.getElem?_cons_zero, List.getElem?_cons_succ, decide_true]
  rw [decide_eq_true (show (all : Int) ≤ (n : Int) by omega)]
  simp (disch := first | omega | (simp only [Qn] <;> omega)) only [go_sem, decide_true]
  refine (same_ok uv uv2 _ _ h8 (sv.mono F8) sv2 (by omega) (by omega)).mono ?_
  rintro w9 h9 ⟨rfl, f9⟩
  simp (disch := first | omega | (simp only [Qn] <;> omega)) only [go_sem, decide_true]
end Go.Proofs.Ytlhebmcnjgagjaa

