/- Contracts: Root, Int, the common order. -/
import Derived.Test.YthfabknpogbcaaaC6i
namespace Go.Proofs.Ythfabknpogbcaaa
open Go Go.Ay
set_option maxRecDepth 100000
noncomputable section

theorem bls_int1 (h : H) (a : Int) : blsV h 1 [.int .i64 0] 1 [(0, 1, .int .i64 a)] = some (.sl h.next 0 1 (.kn 1), h.new (.cells false (ints [a]))) := rfl
theorem bls_int2 (h : H) (a b : Int) : blsV h 1 [.int .i64 0] 2 [(0, 1, .int .i64 a), (1, 1, .int .i64 b)] = some (.sl h.next 0 2 (.kn 2), h.new (.cells false (ints [a, b]))) := rfl

def rootF (n k : Int) : (Int × List Int) × Int :=
  if n < 1 ∨ 120 < n then ((0, []), 2) else madeF n.toNat ((List.replicate n.toNat 0).set (k % n).toNat 1)

theorem Root_ok (n k : Int) (h : H) : Ev T n_cyclo_Root [.int .i64 n, .int .i64 k] h (fun v h' => ∃ w, v = .tup [w, .int .i64 (rootF n k).2] ∧ CycO h' w (rootF n k).1 h.next ∧ Fr h h') := by
  refine Ev_of t_cyclo_Root rfl ?_
  simp (disch := first | omega | (simp only [List.length_set, List.length_replicate, List.length_append, List.length_take, List.length_drop, List.length_cons, List.length_nil, List.length_map, List.length_range, ints_length] <;> omega)) only [go_sem, c_cyclo_Root, initV_eq]
  have hfa : Fr h (h.new (.cells false [.int .i64 0, .nils])) := (Fr.refl h).new _
  have hga : (h.new (.cells false [.int .i64 0, .nils])).get h.next = some (.cells false [.int .i64 0, .nils]) := H.get_new_same ..
  have hna : (h.new (.cells false [.int .i64 0, .nils])).next = h.next + 1 := H.next_new ..
  have hst2 := fun hh => stV_agg2 hh h.next 0 (v := .int .i64 0) (u := .nils) rfl rfl
  generalize h.new (.cells false [.int .i64 0, .nils]) = ha at *
  have hrow0 := row_two (h := ha.set h.next (some (.cells false [.int .i64 0, .nils]))) (H.get_set_same ..)
  have hzero : Fr h (ha.set h.next (some (.cells false [.int .i64 0, .nils]))) := hfa.set (Nat.le_refl _) _
  by_cases h1 : n < 1
  · rw [decide_eq_true h1]
    simp (disch := first | omega | (simp only [List.length_set, List.length_replicate, List.length_append, List.length_take, List.length_drop, List.length_cons, List.length_nil, List.length_map, List.length_range, ints_length] <;> omega)) only [go_sem, hst2, hga, hrow0]
    rw [rootF, if_pos (.inl h1)]
    exact ⟨_, rfl, CycO.zero _ _, hzero⟩
  rw [decide_eq_false h1]
  simp (disch := first | omega | (simp only [List.length_set, List.length_replicate, List.length_append, List.length_take, List.length_drop, List.length_cons, List.length_nil, List.length_map, List.length_range, ints_length] <;> omega)) only [go_sem]
  refine iteW_dec (fun h2 => ?_) (fun h2 => ?_)
  · simp (disch := first | omega | (simp only [List.length_set, List.length_replicate, List.length_append, List.length_take, List.length_drop, List.length_cons, List.length_nil, List.length_map, List.length_range, ints_length] <;> omega)) only [go_sem, hst2, hga, hrow0]
    rw [rootF, if_pos (.inr h2)]
    exact ⟨_, rfl, CycO.zero _ _, hzero⟩
  obtain ⟨m, hm⟩ : ∃ m : Nat, n = (m : Int) := ⟨n.toNat, by omega⟩
  subst hm
  rw [rootF, if_neg (by omega), Int.toNat_natCast]
  simp (disch := first | omega | (simp only [List.length_set, List.length_replicate, List.length_append, List.length_take, List.length_drop, List.length_cons, List.length_nil, List.length_map, List.length_range, ints_length] <;> omega)) only [go_sem]
  have hnb : (ha.new (.cells false (ints (List.replicate m 0)))).next = ha.next + 1 := H.next_new ..
  have hgb : (ha.new (.cells false (ints (List.replicate m 0)))).get ha.next = some (.cells false (ints (List.replicate m 0))) := H.get_new_same ..
  have hfb : Fr ha (ha.new (.cells false (ints (List.replicate m 0)))) := (Fr.refl ha).new _
  generalize ha.new (.cells false (ints (List.replicate m 0))) = hb at *
  refine (residue_ok k m hb (by omega) (by omega)).mono ?_
  rintro v3 h3 ⟨rfl, rfl⟩
  have hr0 := Int.emod_nonneg k (show (m : Int) ≠ 0 by omega)
  have hr1 := Int.emod_lt_of_pos k (show (0 : Int) < m by omega)
  have hre : k % (m : Int) = (((k % (m : Int)).toNat : Nat) : Int) := by omega
  generalize hR : (k % (m : Int)).toNat = r at *
  rw [hre]
  have hrm : r < m := by omega
  clear hre hR hr0 hr1
  simp (disch := first | omega | (simp only [List.length_set, List.length_replicate, List.length_append, List.length_take, List.length_drop, List.length_cons, List.length_nil, List.length_map, List.length_range, ints_length] <;> omega)) only [go_sem, hgb]
  have hsi : SI (h3.set ha.next (some (.cells false (ints ((List.replicate m 0).set r 1))))) (.sl ha.next 0 m (.kn m)) ((List.replicate m 0).set r 1) := by
    have := SI.own (h := (h3.set ha.next (some (.cells false (ints ((List.replicate m 0).set r 1)))))) (id := ha.next) (by rw [H.next_set]; omega) (H.get_set_same ..) (.kn m)
    rw [List.length_set, List.length_replicate] at this; exact this
  refine (made_ok m _ _ _ (by omega) (by omega) hsi (by rw [List.length_set, List.length_replicate]; omega)).mono ?_
  rintro v5 h5' ⟨w, rfl, hcy, hf5⟩
  generalize madeF m _ = M at *
  have hf45 : Fr ha h5' := (hfb.set (Nat.le_refl _) _).trans hf5
  have hg5 := (hf45.get h.next (by omega)).trans hga
  obtain ⟨u, rfl, hu, hfu⟩ := hcy
  have hst3 := fun hh => stV_agg2 hh h.next 0 (v := .int .i64 M.1.1) (u := u) rfl hu.what.2.1
  have hrow := row_two (h := h5'.set h.next (some (.cells false [.int .i64 M.1.1, u]))) (H.get_set_same ..)
  simp (disch := first | omega | (simp only [List.length_set, List.length_replicate, List.length_append, List.length_take, List.length_drop, List.length_cons, List.length_nil, List.length_map, List.length_range, ints_length] <;> omega)) only [go_sem, hst3, hg5, hrow]
  rw [H.next_set] at hfu
  exact ⟨_, rfl, (CycO.set ⟨u, rfl, hu, hfu⟩ (by omega) _).le (by omega), (hfa.trans hf45).set (Nat.le_refl _) _⟩

theorem Int_ok (k : Int) (h : H) : Ev T n_cyclo_Int [.int .i64 k] h (fun v h' => ∃ w, v = .tup [w, .int .i64 (makeF 1 [k]).2] ∧ CycO h' w (makeF 1 [k]).1 h.next ∧ Fr h h') := by
  refine Ev_of t_cyclo_Int rfl ?_
  simp (disch := first | omega | (simp only [List.length_set, List.length_replicate, List.length_append, List.length_take, List.length_drop, List.length_cons, List.length_nil, List.length_map, List.length_range, ints_length] <;> omega)) only [go_sem, c_cyclo_Int, initV_eq]
  have hfa : Fr h (h.new (.cells false [.int .i64 0, .nils])) := (Fr.refl h).new _
  have hga : (h.new (.cells false [.int .i64 0, .nils])).get h.next = some (.cells false [.int .i64 0, .nils]) := H.get_new_same ..
  have hna : (h.new (.cells false [.int .i64 0, .nils])).next = h.next + 1 := H.next_new ..
  generalize h.new (.cells false [.int .i64 0, .nils]) = ha at *
  simp (disch := first | omega | (simp only [List.length_set, List.length_replicate, List.length_append, List.length_take, List.length_drop, List.length_cons, List.length_nil, List.length_map, List.length_range, ints_length] <;> omega)) only [go_sem, bls_int1]
  have hsi : SI (ha.new (.cells false (ints [k]))) (.sl ha.next 0 1 (.kn 1)) [k] := SI.own (h := ha.new (.cells false (ints [k]))) (id := ha.next) (l := [k]) (by rw [H.next_new]; omega) (H.get_new_same ..) (.kn 1)
  refine (make_ok 1 _ [k] _ hsi (by simp)).mono ?_
  rintro v5 h5' ⟨w, rfl, hcy, hf5⟩
  generalize makeF 1 _ = M at *
  have hf45 : Fr ha h5' := ((Fr.refl ha).new _).trans hf5
  have hg5 := (hf45.get h.next (by omega)).trans hga
  obtain ⟨u, rfl, hu, hfu⟩ := hcy
  have hst3 := fun hh => stV_agg2 hh h.next 0 (v := .int .i64 M.1.1) (u := u) rfl hu.what.2.1
  have hrow := row_two (h := h5'.set h.next (some (.cells false [.int .i64 M.1.1, u]))) (H.get_set_same ..)
  simp (disch := first | omega | (simp only [List.length_set, List.length_replicate, List.length_append, List.length_take, List.length_drop, List.length_cons, List.length_nil, List.length_map, List.length_range, ints_length] <;> omega)) only [go_sem, hst3, hg5, hrow]
  rw [H.next_new] at hfu
  exact ⟨_, rfl, (CycO.set ⟨u, rfl, hu, hfu⟩ (by omega) _).le (by omega), (hfa.trans hf45).set (Nat.le_refl _) _⟩

def orF (l : List Int) : Int := (l.find? (fun x => decide (x ≠ 0))).getD 0
theorem or_ok (v : V) (l : List Int) (h : H) (hs : SI h v l) (hl : l.length < 1000000) : Ev T n_cmp_Or_api_Errno [v] h (fun v h' => v = .int .i64 (orF l) ∧ h' = h) := by
  refine Ev_of t_cmp_Or_api_Errno rfl ?_
  obtain ⟨id, off, hsl, hid, hc⟩ := hs.open
  simp (disch := first | omega | (simp only [List.length_set, List.length_replicate, List.length_append, List.length_take, List.length_drop, List.length_cons, List.length_nil, List.length_map, List.length_range, ints_length] <;> omega)) only [go_sem, c_cmp_Or_api_Errno, initV_eq, hs.lens]
  refine Wp_loop (fun k' vars h2 => ∃ (k : Nat), (∃ g : Nat → V, vars = [g 0, g 1, .int .i64 0, g 3, v, .int .i64 (l.length : Int), .int .i64 (k : Int), g 7, g 8]) ∧ k ≤ l.length ∧ h2 = h ∧ orF l = orF (l.drop k) ∧ k' = l.length - k) l.length
    ⟨0, ex_junk rfl, Nat.zero_le _, rfl, rfl, rfl⟩ ?_
  rintro k' vars h2 ⟨k, ⟨g, rfl⟩, hk, rfl, hor, rfl⟩
  simp (disch := first | omega | (simp only [List.length_set, List.length_replicate, List.length_append, List.length_take, List.length_drop, List.length_cons, List.length_nil, List.length_map, List.length_range, ints_length] <;> omega)) only [go_sem]
  refine iteW_dec (fun hlt => ?_) (fun hge => ?_)
  · have hd : l.drop k = l.getD k 0 :: l.drop (k + 1) := by
      rw [List.drop_eq_getElem_cons (by omega), List.getD_eq_getElem?_getD, List.getElem?_eq_getElem (by omega)]; rfl
    simp (disch := first | omega | (simp only [List.length_set, List.length_replicate, List.length_append, List.length_take, List.length_drop, List.length_cons, List.length_nil, List.length_map, List.length_range, ints_length] <;> omega)) only [go_sem, hsl.ixa, hc]
    refine iteW_dec (fun hne => ?_) (fun he => ?_)
    · simp (disch := first | omega | (simp only [List.length_set, List.length_replicate, List.length_append, List.length_take, List.length_drop, List.length_cons, List.length_nil, List.length_map, List.length_range, ints_length] <;> omega)) only [go_sem]
      refine ⟨?_, trivial⟩
      rw [hor, hd, orF, List.find?_cons, decide_eq_true hne]; rfl
    · simp (disch := first | omega | (simp only [List.length_set, List.length_replicate, List.length_append, List.length_take, List.length_drop, List.length_cons, List.length_nil, List.length_map, List.length_range, ints_length] <;> omega)) only [go_sem]
      rw [show (k : Int) + 1 = ((k + 1 : Nat) : Int) from by omega]
      refine ⟨l.length - (k + 1), by omega, k + 1, ex_junk rfl, by omega, ?_, rfl⟩
      rw [hor, hd, orF, List.find?_cons, decide_eq_false he]; rfl
  · simp (disch := first | omega | (simp only [List.length_set, List.length_replicate, List.length_append, List.length_take, List.length_drop, List.length_cons, List.length_nil, List.length_map, List.length_range, ints_length] <;> omega)) only [go_sem]
    refine ⟨?_, trivial⟩
    rw [hor, List.drop_of_length_le (by omega)]; rfl

def commonF (a b : Int × List Int) : Int × Int :=
  if orF [checkF a, checkF b] ≠ 0 then (0, orF [checkF a, checkF b]) else if 120 < a.1 / (Int.gcd a.1 b.1 : Int) * b.1 then (0, 5) else (a.1 / (Int.gcd a.1 b.1 : Int) * b.1, 0)
theorem check_range {a : Int × List Int} (h : checkF a = 0) : 1 ≤ a.1 ∧ a.1 ≤ 120 ∧ a.2.length = (phiF a.1.toNat).length - 1 := by
  unfold checkF at h
  split at h
  · cases h
  · rename_i h1
    split at h
    · cases h
    · rename_i h2
      refine ⟨by omega, by omega, by omega⟩
theorem or_zero {a b : Int} (h : orF [a, b] = 0) : a = 0 ∧ b = 0 := by
  unfold orF at h
  simp only [List.find?_cons, List.find?_nil] at h
  by_cases ha : a = 0
  · subst ha
    simp at h
    by_cases hb : b = 0
    · exact ⟨rfl, hb⟩
    · simp [hb] at h
  · simp [ha] at h

set_option maxHeartbeats 1000000 in
theorem common_ok (va vb : V) (a b : Int × List Int) (h : H) (ha : CycV h va a) (hb : CycV h vb b) (hla : a.2.length < 1000000) (hlb : b.2.length < 1000000) :
    Ev T n_cyclo_common [va, vb] h (fun v h' => v = .tup [.int .i64 (commonF a b).1, .int .i64 (commonF a b).2] ∧ Fr h h') := by
  obtain ⟨u, rfl, hu⟩ := ha
  obtain ⟨w, rfl, hw⟩ := hb
  obtain ⟨N, A⟩ := a
  obtain ⟨M, B⟩ := b
  refine Ev_of t_cyclo_common rfl ?_
  simp (disch := first | omega | (simp only [List.length_set, List.length_replicate, List.length_append, List.length_take, List.length_drop, List.length_cons, List.length_nil, List.length_map, List.length_range, ints_length] <;> omega)) only [go_sem, c_cyclo_common, initV_eq, boxV_agg2 h (v := .int .i64 N) rfl hu.what.2.1]
  have hfa : Fr h (h.new (.cells false [.int .i64 N, u])) := (Fr.refl h).new _
  have hga : (h.new (.cells false [.int .i64 N, u])).get h.next = some (.cells false [.int .i64 N, u]) := H.get_new_same ..
  have hna : (h.new (.cells false [.int .i64 N, u])).next = h.next + 1 := H.next_new ..
  generalize h.new (.cells false [.int .i64 N, u]) = ha at *
  simp (disch := first | omega | (simp only [List.length_set, List.length_replicate, List.length_append, List.length_take, List.length_drop, List.length_cons, List.length_nil, List.length_map, List.length_range, ints_length] <;> omega)) only [go_sem, boxV_agg2 ha (v := .int .i64 M) rfl hw.what.2.1]
  have hfb : Fr ha (ha.new (.cells false [.int .i64 M, w])) := (Fr.refl ha).new _
  have hgb : (ha.new (.cells false [.int .i64 M, w])).get ha.next = some (.cells false [.int .i64 M, w]) := H.get_new_same ..
  have hnb : (ha.new (.cells false [.int .i64 M, w])).next = ha.next + 1 := H.next_new ..
  generalize ha.new (.cells false [.int .i64 M, w]) = hb at *
  have hgab := (hfb.get h.next (by omega)).trans hga
  have r0 : ∀ n, (H.mk hb.tr n).row h.next 0 2 = some [.int .i64 N, u] := fun n => row_two (h := H.mk hb.tr n) hgab
  have r1 : ∀ n, (H.mk hb.tr n).row ha.next 0 2 = some [.int .i64 M, w] := fun n => row_two (h := H.mk hb.tr n) hgb
  rw [← hnb]
  simp (disch := first | omega | (simp only [List.length_set, List.length_replicate, List.length_append, List.length_take, List.length_drop, List.length_cons, List.length_nil, List.length_map, List.length_range, ints_length] <;> omega)) only [go_sem, r0, r1]
  have hF : Fr h (H.mk hb.tr (hb.next + 7)) := (hfa.trans hfb).bump (by omega)
  refine (check_ok _ (N, A) _ ⟨u, rfl, hu.mono hF⟩ hla).mono ?_
  rintro v3 h3 ⟨rfl, hf3⟩
  have hF3 : Fr hb h3 := ((Fr.refl hb).bump (by omega)).trans hf3
  have hg3a := (hF3.get h.next (by omega)).trans hgab
  have hg3b := (hF3.get ha.next (by omega)).trans hgb
  simp (disch := first | omega | (simp only [List.length_set, List.length_replicate, List.length_append, List.length_take, List.length_drop, List.length_cons, List.length_nil, List.length_map, List.length_range, ints_length] <;> omega)) only [go_sem, row_two hg3b, hw.what.1, (show eqV w w = true from SV.eqV hw)]
  refine (check_ok _ (M, B) _ ⟨w, rfl, hw.mono (hF.trans hf3)⟩ hlb).mono ?_
  rintro v4 h4 ⟨rfl, hf4⟩
  have hF4 : Fr hb h4 := hF3.trans hf4
  have hn4 : hb.next + 7 ≤ h4.next := Nat.le_trans hf3.next hf4.next
  simp (disch := first | omega | (simp only [List.length_set, List.length_replicate, List.length_append, List.length_take, List.length_drop, List.length_cons, List.length_nil, List.length_map, List.length_range, ints_length] <;> omega)) only [go_sem, bls_int2]
  obtain ⟨e, he⟩ : ∃ e, [checkF (N, A), checkF (M, B)] = e := ⟨_, rfl⟩
  have hee : orF e = orF [checkF (N, A), checkF (M, B)] := by rw [he]
  rw [he]
  have hel : e.length = 2 := by rw [← he]; rfl
  have hg5 : (H.mk ((H.mk h4.tr (hb.next + 4)).new (.cells false (ints e))).tr h4.next).get (hb.next + 4) = some (.cells false (ints e)) := by
    rw [H.get_next', H.get_new, if_pos rfl]
  have hF5 : Fr hb (H.mk ((H.mk h4.tr (hb.next + 4)).new (.cells false (ints e))).tr h4.next) := ⟨hF4.next, fun id hid => by rw [H.get_next', H.get_new, if_neg (by show id ≠ hb.next + 4; omega)]; exact hF4.get id hid⟩
  have hn5 : (H.mk ((H.mk h4.tr (hb.next + 4)).new (.cells false (ints e))).tr h4.next).next = h4.next := rfl
  generalize H.mk ((H.mk h4.tr (hb.next + 4)).new (.cells false (ints e))).tr h4.next = h5 at *
  have hs5 : SI h5 (.sl (hb.next + 4) 0 2 (.kn 2)) e := by
    have := SI.own (h := h5) (id := hb.next + 4) (by omega) hg5 (.kn 2)
    rw [hel] at this; exact this
  refine (or_ok _ e h5 hs5 (by omega)).mono ?_
  rintro v6 h6 ⟨rfl, rfl⟩
  rw [hee]
  simp (disch := first | omega | (simp only [List.length_set, List.length_replicate, List.length_append, List.length_take, List.length_drop, List.length_cons, List.length_nil, List.length_map, List.length_range, ints_length] <;> omega)) only [go_sem]
  have hF6 : Fr h h6 := (hfa.trans hfb).trans hF5
  refine iteW_dec (fun hne => ?_) (fun hze => ?_)
  · simp (disch := first | omega | (simp only [List.length_set, List.length_replicate, List.length_append, List.length_take, List.length_drop, List.length_cons, List.length_nil, List.length_map, List.length_range, ints_length] <;> omega)) only [go_sem]
    rw [commonF, if_pos hne]
    exact ⟨rfl, hF6⟩
  have hz : orF [checkF (N, A), checkF (M, B)] = 0 := by omega
  obtain ⟨z1, z2⟩ := or_zero hz
  have g1 := check_range z1
  have g2 := check_range z2
  simp only at g1 g2
  rw [commonF, if_neg hze]
  have hg6a := (hF5.get h.next (by omega)).trans hgab
  have hg6b := (hF5.get ha.next (by omega)).trans hgb
  have c0 : ∀ n, (H.mk h6.tr n).cell h.next 0 = some (.int .i64 N) := fun n => by rw [H.cell_of (h := H.mk h6.tr n) hg6a]; rfl
  have c1 : ∀ n, (H.mk h6.tr n).cell ha.next 0 = some (.int .i64 M) := fun n => by rw [H.cell_of (h := H.mk h6.tr n) hg6b]; rfl
  simp (disch := first | omega | (simp only [List.length_set, List.length_replicate, List.length_append, List.length_take, List.length_drop, List.length_cons, List.length_nil, List.length_map, List.length_range, ints_length] <;> omega)) only [go_sem, c0, c1]
  refine (gcd_ok N M _ (by omega) (by omega)).mono ?_
  rintro v7 h7 ⟨rfl, hf7⟩
  have hF7 : Fr hb h7 := (hF5.bump (by omega)).trans hf7
  have hg7a := (hF7.get h.next (by omega)).trans hgab
  have hg7b := (hF7.get ha.next (by omega)).trans hgb
  have d0 : h7.cell h.next 0 = some (.int .i64 N) := by rw [H.cell_of hg7a]; rfl
  have d1 : h7.cell ha.next 0 = some (.int .i64 M) := by rw [H.cell_of hg7b]; rfl
  have hG : 1 ≤ Int.gcd N M := Nat.one_le_iff_ne_zero.2 (fun e => by rw [Int.gcd_eq_zero_iff] at e; omega)
  have hdv : N.tdiv (Int.gcd N M : Int) = N / (Int.gcd N M : Int) := Int.tdiv_eq_ediv_of_nonneg (by omega)
  have hq0 : 0 ≤ N / (Int.gcd N M : Int) := Int.ediv_nonneg (by omega) (by omega)
  have hq1 : N / (Int.gcd N M : Int) ≤ N := Int.ediv_le_self _ (by omega)
  generalize (Int.gcd N M : Nat) = G at *
  generalize hQ : N / (G : Int) = Q at *
  have hp0 : 0 ≤ Q * M := Int.mul_nonneg hq0 (by omega)
  have hp1 : Q * M ≤ 120 * 120 := Int.mul_le_mul (by omega) (by omega) (by omega) (by omega)
  simp (disch := first | omega | (simp only [List.length_set, List.length_replicate, List.length_append, List.length_take, List.length_drop, List.length_cons, List.length_nil, List.length_map, List.length_range, ints_length] <;> omega)) only [go_sem, d0, d1, hdv, arith_quo]
  refine iteW_dec (fun hlt => ?_) (fun hge => ?_)
  · simp (disch := first | omega | (simp only [List.length_set, List.length_replicate, List.length_append, List.length_take, List.length_drop, List.length_cons, List.length_nil, List.length_map, List.length_range, ints_length] <;> omega)) only [go_sem]
    rw [if_pos hlt]
    exact ⟨rfl, (hfa.trans hfb).trans hF7⟩
  · simp (disch := first | omega | (simp only [List.length_set, List.length_replicate, List.length_append, List.length_take, List.length_drop, List.length_cons, List.length_nil, List.length_map, List.length_range, ints_length] <;> omega)) only [go_sem]
    rw [if_neg hge]
    exact ⟨rfl, (hfa.trans hfb).trans hF7⟩
end
end Go.Proofs.Ythfabknpogbcaaa
