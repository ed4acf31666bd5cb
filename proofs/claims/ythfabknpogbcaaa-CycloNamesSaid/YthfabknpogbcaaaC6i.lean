/- Contracts: Check, Phi, Make, Root, Int. -/
import Derived.Test.YthfabknpogbcaaaC6h
namespace Go.Proofs.Ythfabknpogbcaaa
open Go Go.Ay
set_option maxRecDepth 100000
noncomputable section

def checkF (a : Int × List Int) : Int :=
  if a.1 < 1 ∨ 120 < a.1 then 2 else if a.2.length ≠ (phiF a.1.toNat).length - 1 then 3 else if a.2.any overF then 5 else if (leastF a.1.toNat a.2).1 < a.1.toNat then 3 else 0

set_option maxHeartbeats 1000000 in
theorem check_ok (v : V) (a : Int × List Int) (h : H) (ha : CycV h v a) (hl : a.2.length < 1000000) :
    Ev T n_cyclo_Check [v] h (fun v h' => v = .int .i64 (checkF a) ∧ Fr h h') := by
  obtain ⟨u, rfl, hu⟩ := ha
  obtain ⟨N, C⟩ := a
  refine Ev_of t_cyclo_Check rfl ?_
  simp (disch := first | omega | (simp only [List.length_set, List.length_replicate, List.length_append, List.length_take, List.length_drop, List.length_cons, List.length_nil, List.length_map, List.length_range, ints_length] <;> omega)) only [go_sem, c_cyclo_Check, initV_eq, boxV_agg2 h (v := .int .i64 N) rfl hu.what.2.1]
  have hfa : Fr h (h.new (.cells false [.int .i64 N, u])) := (Fr.refl h).new _
  have hga : (h.new (.cells false [.int .i64 N, u])).get h.next = some (.cells false [.int .i64 N, u]) := H.get_new_same ..
  have hna : (h.new (.cells false [.int .i64 N, u])).next = h.next + 1 := H.next_new ..
  generalize h.new (.cells false [.int .i64 N, u]) = ha at *
  by_cases h1 : N < 1
  · rw [decide_eq_true h1]
    simp (disch := first | omega | (simp only [List.length_set, List.length_replicate, List.length_append, List.length_take, List.length_drop, List.length_cons, List.length_nil, List.length_map, List.length_range, ints_length] <;> omega)) only [go_sem]
    exact ⟨by rw [checkF, if_pos (.inl h1)], hfa⟩
  rw [decide_eq_false h1]
  have c0 : ha.cell h.next 0 = some (.int .i64 N) := by rw [H.cell_of hga]; rfl
  have c1 : ha.cell h.next 1 = some u := by rw [H.cell_of hga]; rfl
  simp (disch := first | omega | (simp only [List.length_set, List.length_replicate, List.length_append, List.length_take, List.length_drop, List.length_cons, List.length_nil, List.length_map, List.length_range, ints_length] <;> omega)) only [go_sem, c0]
  refine iteW_dec (fun h2 => ?_) (fun h2 => ?_)
  · simp (disch := first | omega | (simp only [List.length_set, List.length_replicate, List.length_append, List.length_take, List.length_drop, List.length_cons, List.length_nil, List.length_map, List.length_range, ints_length] <;> omega)) only [go_sem]
    exact ⟨by rw [checkF, if_pos (.inr h2)], hfa⟩
  obtain ⟨n, hn⟩ : ∃ n : Nat, N = (n : Int) := ⟨N.toNat, by omega⟩
  subst hn
  simp (disch := first | omega | (simp only [List.length_set, List.length_replicate, List.length_append, List.length_take, List.length_drop, List.length_cons, List.length_nil, List.length_map, List.length_range, ints_length] <;> omega)) only [go_sem]
  refine (begin_ok ha).mono ?_
  rintro v1 hb ⟨tid, mid, rfl, ht, hfb⟩
  have htb := ht.tb
  have hmb := ht.mb
  have hab := hfa.trans hfb
  have hgb := (hfb.get h.next (by omega)).trans hga
  have d0 : hb.cell h.next 0 = some (.int .i64 (n : Int)) := by rw [H.cell_of hgb]; rfl
  have d1 : hb.cell h.next 1 = some u := by rw [H.cell_of hgb]; rfl
  have hub := hu.mono hab
  simp (disch := first | omega | (simp only [List.length_set, List.length_replicate, List.length_append, List.length_take, List.length_drop, List.length_cons, List.length_nil, List.length_map, List.length_range, ints_length] <;> omega)) only [go_sem, d0, d1, hub.lens]
  refine (phi_ok tid mid _ n _ (by omega) (by omega) (ht.fr ((Fr.refl hb).bump (by omega)))).mono ?_
  rintro v2 hd ⟨ht2, hp2, hf2⟩
  have hpl := phi_len (n := n) (by omega) (by omega)
  have hbd : Fr ha hd := Fr.thenM (hfb.bump (by omega)) hf2 hmb
  have hgd := (hbd.get h.next (by omega)).trans hga
  have e0 : hd.cell h.next 0 = some (.int .i64 (n : Int)) := by rw [H.cell_of hgd]; rfl
  have e1 : hd.cell h.next 1 = some u := by rw [H.cell_of hgd]; rfl
  simp (disch := first | omega | (simp only [List.length_set, List.length_replicate, List.length_append, List.length_take, List.length_drop, List.length_cons, List.length_nil, List.length_map, List.length_range, ints_length] <;> omega)) only [go_sem, e0, e1, hp2.lens, hub.eqV, if_true, if_false]
  have hN : (n : Int).toNat = n := Int.toNat_natCast n
  have hFd : Fr h hd := hfa.trans hbd
  refine iteW_dec (fun h3 => ?_) (fun h3 => ?_)
  · simp (disch := first | omega | (simp only [List.length_set, List.length_replicate, List.length_append, List.length_take, List.length_drop, List.length_cons, List.length_nil, List.length_map, List.length_range, ints_length] <;> omega)) only [go_sem]
    exact ⟨by rw [checkF, if_neg (by simp only; omega), if_pos (by simp only [hN]; omega)], hFd⟩
  simp (disch := first | omega | (simp only [List.length_set, List.length_replicate, List.length_append, List.length_take, List.length_drop, List.length_cons, List.length_nil, List.length_map, List.length_range, ints_length] <;> omega)) only [go_sem, e1]
  have hud := hu.mono hFd
  refine (contains_ok u _ C overF _ hud hl test_over).mono ?_
  rintro v3 h4 ⟨rfl, rfl⟩
  simp (disch := first | omega | (simp only [List.length_set, List.length_replicate, List.length_append, List.length_take, List.length_drop, List.length_cons, List.length_nil, List.length_map, List.length_range, ints_length] <;> omega)) only [go_sem]
  refine iteW_bool (fun h5 => ?_) (fun h5 => ?_)
  · simp (disch := first | omega | (simp only [List.length_set, List.length_replicate, List.length_append, List.length_take, List.length_drop, List.length_cons, List.length_nil, List.length_map, List.length_range, ints_length] <;> omega)) only [go_sem]
    exact ⟨by rw [checkF, if_neg (by simp only; omega), if_neg (by simp only [hN]; omega), if_pos h5], hFd⟩
  simp (disch := first | omega | (simp only [List.length_set, List.length_replicate, List.length_append, List.length_take, List.length_drop, List.length_cons, List.length_nil, List.length_map, List.length_range, ints_length] <;> omega)) only [go_sem, e0, e1]
  have hlen : C.length ≤ n := by omega
  refine (least_ok tid mid _ n u C _ (by omega) (by omega) (ht2.fr ((Fr.refl h4).bump (by omega))) (hud.mono ((Fr.refl h4).bump (by omega))) hlen).mono ?_
  rintro v5 h5' ⟨w, rfl, hw, ht5, hf5, _⟩
  have hb5 : Fr ha h5' := Fr.thenM (hbd.bump (by omega)) hf5 (by omega)
  have hg5 := (hb5.get h.next (by omega)).trans hga
  have f0 : h5'.cell h.next 0 = some (.int .i64 (n : Int)) := by rw [H.cell_of hg5]; rfl
  simp (disch := first | omega | (simp only [List.length_set, List.length_replicate, List.length_append, List.length_take, List.length_drop, List.length_cons, List.length_nil, List.length_map, List.length_range, ints_length] <;> omega)) only [go_sem, f0]
  refine iteW_dec (fun h6 => ?_) (fun h6 => ?_)
  · simp (disch := first | omega | (simp only [List.length_set, List.length_replicate, List.length_append, List.length_take, List.length_drop, List.length_cons, List.length_nil, List.length_map, List.length_range, ints_length] <;> omega)) only [go_sem]
    exact ⟨by rw [checkF, if_neg (by simp only; omega), if_neg (by simp only [hN]; omega), if_neg (by rw [h5]; simp), if_pos (by simp only [hN]; omega)], hfa.trans hb5⟩
  · simp (disch := first | omega | (simp only [List.length_set, List.length_replicate, List.length_append, List.length_take, List.length_drop, List.length_cons, List.length_nil, List.length_map, List.length_range, ints_length] <;> omega)) only [go_sem]
    exact ⟨by rw [checkF, if_neg (by simp only; omega), if_neg (by simp only [hN]; omega), if_neg (by rw [h5]; simp), if_neg (by simp only [hN]; omega)], hfa.trans hb5⟩

def phiP (n : Int) : List Int × Int := if n < 1 ∨ 120 < n then ([], 2) else (phiF n.toNat, 0)
theorem Phi_ok (n : Int) (h : H) : Ev T n_cyclo_Phi [.int .i64 n] h (fun v h' => ∃ u, v = .tup [u, .int .i64 (phiP n).2] ∧ SI h' u (phiP n).1 ∧ Fr h h') := by
  refine Ev_of t_cyclo_Phi rfl ?_
  simp (disch := first | omega | (simp only [List.length_set, List.length_replicate, List.length_append, List.length_take, List.length_drop, List.length_cons, List.length_nil, List.length_map, List.length_range, ints_length] <;> omega)) only [go_sem, c_cyclo_Phi, initV_eq]
  by_cases h1 : n < 1
  · rw [decide_eq_true h1]
    simp (disch := first | omega | (simp only [List.length_set, List.length_replicate, List.length_append, List.length_take, List.length_drop, List.length_cons, List.length_nil, List.length_map, List.length_range, ints_length] <;> omega)) only [go_sem]
    rw [phiP, if_pos (.inl h1)]
    exact ⟨_, rfl, SI.nils _, Fr.refl h⟩
  rw [decide_eq_false h1]
  simp (disch := first | omega | (simp only [List.length_set, List.length_replicate, List.length_append, List.length_take, List.length_drop, List.length_cons, List.length_nil, List.length_map, List.length_range, ints_length] <;> omega)) only [go_sem]
  refine iteW_dec (fun h2 => ?_) (fun h2 => ?_)
  · simp (disch := first | omega | (simp only [List.length_set, List.length_replicate, List.length_append, List.length_take, List.length_drop, List.length_cons, List.length_nil, List.length_map, List.length_range, ints_length] <;> omega)) only [go_sem]
    rw [phiP, if_pos (.inr h2)]
    exact ⟨_, rfl, SI.nils _, Fr.refl h⟩
  obtain ⟨m, hm⟩ : ∃ m : Nat, n = (m : Int) := ⟨n.toNat, by omega⟩
  subst hm
  simp (disch := first | omega | (simp only [List.length_set, List.length_replicate, List.length_append, List.length_take, List.length_drop, List.length_cons, List.length_nil, List.length_map, List.length_range, ints_length] <;> omega)) only [go_sem]
  refine (begin_ok _).mono ?_
  rintro v1 hb ⟨tid, mid, rfl, ht, hfb⟩
  simp (disch := first | omega | (simp only [List.length_set, List.length_replicate, List.length_append, List.length_take, List.length_drop, List.length_cons, List.length_nil, List.length_map, List.length_range, ints_length] <;> omega)) only [go_sem]
  refine (phi_ok tid mid _ m _ (by omega) (by omega) ht).mono ?_
  rintro v2 hd ⟨ht2, hp2, hf2⟩
  simp (disch := first | omega | (simp only [List.length_set, List.length_replicate, List.length_append, List.length_take, List.length_drop, List.length_cons, List.length_nil, List.length_map, List.length_range, ints_length] <;> omega)) only [go_sem]
  rw [phiP, if_neg (by omega), Int.toNat_natCast]
  exact ⟨_, rfl, hp2, hfb.thenM hf2 ht.mb⟩

def accF (ix : Nat → Nat) (val : Nat → Int) (l0 : List Int) : Nat → List Int
  | 0 => l0
  | k + 1 => (accF ix val l0 k).set (ix k) (W ((accF ix val l0 k).getD (ix k) 0 + val k))
theorem accF_len (ix : Nat → Nat) (val : Nat → Int) (l0 : List Int) : ∀ k, (accF ix val l0 k).length = l0.length
  | 0 => rfl
  | k + 1 => by rw [accF, List.length_set, accF_len ix val l0 k]
def makeF (n : Int) (c : List Int) : (Int × List Int) × Int :=
  if n < 1 ∨ 120 < n then ((0, []), 2) else if 1000 < c.length then ((0, []), 4) else if c.any overF then ((0, []), 5) else madeF n.toNat (accF (fun i => i % n.toNat) (fun i => c.getD i 0) (List.replicate n.toNat 0) c.length)

set_option maxHeartbeats 1000000 in
theorem make_ok (n : Int) (vc : V) (c : List Int) (h : H) (hc : SI h vc c) (hl : c.length < 1000000) :
    Ev T n_cyclo_Make [.int .i64 n, vc] h (fun v h' => ∃ w, v = .tup [w, .int .i64 (makeF n c).2] ∧ CycO h' w (makeF n c).1 h.next ∧ Fr h h') := by
  refine Ev_of t_cyclo_Make rfl ?_
  simp (disch := first | omega | (simp only [List.length_set, List.length_replicate, List.length_append, List.length_take, List.length_drop, List.length_cons, List.length_nil, List.length_map, List.length_range, ints_length] <;> omega)) only [go_sem, c_cyclo_Make, initV_eq]
  have hfa : Fr h (h.new (.cells false [.int .i64 0, .nils])) := (Fr.refl h).new _
  have hga : (h.new (.cells false [.int .i64 0, .nils])).get h.next = some (.cells false [.int .i64 0, .nils]) := H.get_new_same ..
  have hna : (h.new (.cells false [.int .i64 0, .nils])).next = h.next + 1 := H.next_new ..
  have hst2 := fun hh => stV_agg2 hh h.next 0 (v := .int .i64 0) (u := .nils) rfl rfl
  generalize h.new (.cells false [.int .i64 0, .nils]) = ha at *
  have hrow0 := row_two (h := ha.set h.next (some (.cells false [.int .i64 0, .nils]))) (H.get_set_same ..)
  have hzero : Fr h (ha.set h.next (some (.cells false [.int .i64 0, .nils]))) := hfa.set (Nat.le_refl _) _
  by_cases h1 : n < 1
  · rw [decide_eq_true h1]
    simp (disch := first | omega | (simp only [List.length_set, List.length_replicate, List.length_append, List.length_take, List.length_drop, List.length_cons, List.length_nil, List.length_map, List.length_range, ints_length] <;> omega)) only [go_sem, hst2, hga, hrow0]
    rw [makeF, if_pos (.inl h1)]
    exact ⟨_, rfl, CycO.zero _ _, hzero⟩
  rw [decide_eq_false h1]
  simp (disch := first | omega | (simp only [List.length_set, List.length_replicate, List.length_append, List.length_take, List.length_drop, List.length_cons, List.length_nil, List.length_map, List.length_range, ints_length] <;> omega)) only [go_sem]
  refine iteW_dec (fun h2 => ?_) (fun h2 => ?_)
  · simp (disch := first | omega | (simp only [List.length_set, List.length_replicate, List.length_append, List.length_take, List.length_drop, List.length_cons, List.length_nil, List.length_map, List.length_range, ints_length] <;> omega)) only [go_sem, hst2, hga, hrow0]
    rw [makeF, if_pos (.inr h2)]
    exact ⟨_, rfl, CycO.zero _ _, hzero⟩
  simp (disch := first | omega | (simp only [List.length_set, List.length_replicate, List.length_append, List.length_take, List.length_drop, List.length_cons, List.length_nil, List.length_map, List.length_range, ints_length] <;> omega)) only [go_sem, hc.lens]
  refine iteW_dec (fun h3 => ?_) (fun h3 => ?_)
  · simp (disch := first | omega | (simp only [List.length_set, List.length_replicate, List.length_append, List.length_take, List.length_drop, List.length_cons, List.length_nil, List.length_map, List.length_range, ints_length] <;> omega)) only [go_sem, hst2, hga, hrow0]
    rw [makeF, if_neg (by omega), if_pos (by omega)]
    exact ⟨_, rfl, CycO.zero _ _, hzero⟩
  simp (disch := first | omega | (simp only [List.length_set, List.length_replicate, List.length_append, List.length_take, List.length_drop, List.length_cons, List.length_nil, List.length_map, List.length_range, ints_length] <;> omega)) only [go_sem]
  refine (contains_ok vc _ c overF _ (hc.mono hfa) hl test_over).mono ?_
  rintro v3 h4 ⟨rfl, rfl⟩
  simp (disch := first | omega | (simp only [List.length_set, List.length_replicate, List.length_append, List.length_take, List.length_drop, List.length_cons, List.length_nil, List.length_map, List.length_range, ints_length] <;> omega)) only [go_sem]
  refine iteW_bool (fun h5 => ?_) (fun h5 => ?_)
  · simp (disch := first | omega | (simp only [List.length_set, List.length_replicate, List.length_append, List.length_take, List.length_drop, List.length_cons, List.length_nil, List.length_map, List.length_range, ints_length] <;> omega)) only [go_sem, hst2, hga, hrow0]
    rw [makeF, if_neg (by omega), if_neg (by omega), if_pos h5]
    exact ⟨_, rfl, CycO.zero _ _, hzero⟩
  obtain ⟨m, hm⟩ : ∃ m : Nat, n = (m : Int) := ⟨n.toNat, by omega⟩
  subst hm
  have hmk : makeF (m : Int) c = madeF m (accF (fun i => i % m) (fun i => c.getD i 0) (List.replicate m 0) c.length) := by
    rw [makeF, if_neg (by omega), if_neg (by omega), if_neg (by rw [h5]; simp), Int.toNat_natCast]
  rw [hmk]
  simp (disch := first | omega | (simp only [List.length_set, List.length_replicate, List.length_append, List.length_take, List.length_drop, List.length_cons, List.length_nil, List.length_map, List.length_range, ints_length] <;> omega)) only [go_sem, hc.lens]
  obtain ⟨cid, coff, hcs, hcid, hcc⟩ := hc.open
  have hnb : (h4.new (.cells false (ints (List.replicate m 0)))).next = h4.next + 1 := H.next_new ..
  have hgb : (h4.new (.cells false (ints (List.replicate m 0)))).get h4.next = some (.cells false (ints (List.replicate m 0))) := H.get_new_same ..
  have hfb : Fr h4 (h4.new (.cells false (ints (List.replicate m 0)))) := (Fr.refl h4).new _
  generalize h4.new (.cells false (ints (List.replicate m 0))) = hb at *
  refine Wp_loop (fun k' vars h3 => ∃ (k : Nat), (∃ g : Nat → V, vars = [.int .i64 (m : Int), vc, .ptr h.next 0, g 3, .sl h4.next 0 m (.kn m), g 5, g 6, g 7, g 8, g 9, vc, .int .i64 (c.length : Int), .int .i64 (k : Int), g 13]) ∧ k ≤ c.length ∧
    h3.get h4.next = some (.cells false (ints (accF (fun i => i % m) (fun i => c.getD i 0) (List.replicate m 0) k))) ∧ Fr h4 h3 ∧ h4.next < h3.next ∧ k' = c.length - k) c.length
    ⟨0, ex_junk rfl, Nat.zero_le _, hgb, hfb, by omega, rfl⟩ ?_
  rintro k' vars h3 ⟨k, ⟨g, rfl⟩, hk, hg3, hf3, hn3, rfl⟩
  have hal := accF_len (fun i => i % m) (fun i => c.getD i 0) (List.replicate m 0) k
  rw [List.length_replicate] at hal
  simp (disch := first | omega | (simp only [List.length_set, List.length_replicate, List.length_append, List.length_take, List.length_drop, List.length_cons, List.length_nil, List.length_map, List.length_range, ints_length] <;> omega)) only [go_sem]
  by_cases hkc : (k : Int) < (c.length : Int)
  · rw [decide_eq_true hkc]
    have hcc3 := cells_fr (hfa.trans hf3) hcid hcc
    have hkm : k % m < m := Nat.mod_lt _ (by omega)
    have em : (k : Int).tmod (m : Int) = ((k % m : Nat) : Int) := tmod_nat ..
    have hstep : accF (fun i => i % m) (fun i => c.getD i 0) (List.replicate m 0) (k + 1) = (accF (fun i => i % m) (fun i => c.getD i 0) (List.replicate m 0) k).set (k % m) (W ((accF (fun i => i % m) (fun i => c.getD i 0) (List.replicate m 0) k).getD (k % m) 0 + c.getD k 0)) := rfl
    generalize k % m = r at hkm em hstep
    simp (disch := first | omega | (simp only [List.length_set, List.length_replicate, List.length_append, List.length_take, List.length_drop, List.length_cons, List.length_nil, List.length_map, List.length_range, ints_length] <;> omega)) only [go_sem, hcs.ixa, hcc3, em, own_cell hg3, hg3]
    rw [show (k : Int) + 1 = ((k + 1 : Nat) : Int) from by omega]
    refine ⟨c.length - (k + 1), by omega, k + 1, ex_junk rfl, by omega, by rw [hstep], ?_, by omega, rfl⟩
    exact hf3.set (Nat.le_refl _) _
  · rw [decide_eq_false hkc]
    have : c.length = k := by omega
    subst this
    simp (disch := first | omega | (simp only [List.length_set, List.length_replicate, List.length_append, List.length_take, List.length_drop, List.length_cons, List.length_nil, List.length_map, List.length_range, ints_length] <;> omega)) only [go_sem]
    have hsi : SI h3 (.sl h4.next 0 m (.kn m)) (accF (fun i => i % m) (fun i => c.getD i 0) (List.replicate m 0) c.length) := by
      have := SI.own (h := h3) (id := h4.next) (by omega) hg3 (.kn m)
      rw [hal] at this; exact this
    refine (made_ok m _ _ h3 (by omega) (by omega) hsi (by omega)).mono ?_
    rintro v5 h5' ⟨w, rfl, hcy, hf5⟩
    generalize madeF m _ = M at *
    have hf45 : Fr h4 h5' := hf3.trans hf5
    have hg5 := (hf45.get h.next (by omega)).trans hga
    obtain ⟨u, rfl, hu, hfu⟩ := hcy
    have hst3 := fun hh => stV_agg2 hh h.next 0 (v := .int .i64 M.1.1) (u := u) rfl hu.what.2.1
    have hrow := row_two (h := h5'.set h.next (some (.cells false [.int .i64 M.1.1, u]))) (H.get_set_same ..)
    simp (disch := first | omega | (simp only [List.length_set, List.length_replicate, List.length_append, List.length_take, List.length_drop, List.length_cons, List.length_nil, List.length_map, List.length_range, ints_length] <;> omega)) only [go_sem, hst3, hg5, hrow]
    exact ⟨_, rfl, (CycO.set ⟨u, rfl, hu, hfu⟩ (by omega) _).le (by omega), (hfa.trans hf45).set (Nat.le_refl _) _⟩
end
end Go.Proofs.Ythfabknpogbcaaa
