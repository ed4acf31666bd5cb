/- Contracts: the canonical form. -/
import Derived.Test.YthfabknpogbcaaaC6f
namespace Go.Proofs.Ythfabknpogbcaaa
open Go Go.Ay
set_option maxRecDepth 100000

theorem boxV_ptr (h : H) (id off : Nat) : boxV h (.ptr id off) = some (.ptr h.next 0, h.new (.cells false [.ptr id off])) := boxV_one rfl rfl h

set_option maxHeartbeats 2000000 in
theorem least_ok (tid mid b n : Nat) (vc : V) (c : List Int) (h : H) (hn1 : 1 ≤ n) (hn2 : n ≤ 120) (ht : Tb h tid mid b) (hc : SI h vc c) (hl : c.length ≤ n) :
    Ev T n_cyclo_table_least [.ptr tid 0, .int .i64 (n : Int), vc] h (fun v h' => ∃ u, v = .agg [.int .i64 ((leastF n c).1 : Int), u] ∧ SI h' u (leastF n c).2 ∧ Tb h' tid mid b ∧ FrM mid h h' ∧ (u = vc ∨ ∀ id off len cc, u = .sl id off len cc → h.next ≤ id)) := by
  refine Ev_of t_cyclo_table_least rfl ?_
  simp (disch := first | omega | (simp only [List.length_set, List.length_replicate, List.length_append, List.length_take, List.length_drop, List.length_cons, List.length_nil, List.length_map, List.length_range, ints_length] <;> omega)) only [go_sem, c_cyclo_table_least, initV_eq, boxV_ptr, boxV_one hc.what.1 hc.what.2.1]
  obtain ⟨B, hB⟩ : ∃ B, h.next = B := ⟨_, rfl⟩
  rw [hB]
  have htl := ht.tlt
  have hml := ht.mlt
  refine Wp_loop (fun f vars h1 => ∃ (n' : Nat) (c' : List Int) (vc' x y : V), (∃ g : Nat → V, vars = [g 0, g 1, g 2, .ptr B 0, .ptr (B + 1) 0, .ptr (B + 2) 0, .ptr (B + 3) 0, g 7, g 8, g 9, g 10, g 11, g 12]) ∧
    h1.get B = some (.cells false [.ptr tid 0]) ∧ h1.get (B + 1) = some (.cells false [.int .i64 (n' : Int)]) ∧ h1.get (B + 2) = some (.cells false [vc']) ∧ h1.get (B + 3) = some (.cells false [x, y]) ∧
    Avoid h1 mid (B + 1) ∧ Avoid h1 mid (B + 2) ∧ Avoid h1 mid (B + 3) ∧ SI h1 vc' c' ∧ Tb h1 tid mid b ∧ FrM mid h h1 ∧ B + 3 < h1.next ∧ 1 ≤ n' ∧ n' ≤ 120 ∧ c'.length ≤ n' ∧ n' ≤ f ∧ leastG f n' c' = leastF n c ∧ (∀ z off len cc, B ≤ z → z ≤ B + 3 → vc' ≠ .sl z off len cc) ∧ (vc' = vc ∨ ∀ id off len cc, vc' = .sl id off len cc → h.next ≤ id)) n
    ⟨n, c, vc, .int .i64 0, .nils, ex_junk rfl, by simp only [H.get_new, H.next_new, hB]; repeat (first | rw [if_pos trivial] | rw [if_pos rfl] | rw [if_neg (by omega)]), by simp only [H.get_new, H.next_new, hB]; repeat (first | rw [if_pos trivial] | rw [if_pos rfl] | rw [if_neg (by omega)]), by simp only [H.get_new, H.next_new, hB]; repeat (first | rw [if_pos trivial] | rw [if_pos rfl] | rw [if_neg (by omega)]), by simp only [H.get_new, H.next_new, hB]; repeat (first | rw [if_pos trivial] | rw [if_pos rfl] | rw [if_neg (by omega)]), (ht.avoid (by omega)).fr ((((((Fr.refl h).new _).new _).new _).new _).get mid hml), (ht.avoid (by omega)).fr ((((((Fr.refl h).new _).new _).new _).new _).get mid hml), (ht.avoid (by omega)).fr ((((((Fr.refl h).new _).new _).new _).new _).get mid hml), hc.mono ((((Fr.refl h).new _).new _).new _ |>.new _), ht.fr ((((Fr.refl h).new _).new _).new _ |>.new _), Fr.toM ((((Fr.refl h).new _).new _).new _ |>.new _) mid, by simp only [H.next_new, hB]; omega, hn1, hn2, hl, Nat.le_refl _, rfl, fun z off len cc h1 h2 e => by (subst e; have := SV.ne_of hc; omega), .inl rfl⟩ ?_
  rintro f vars h1 ⟨n', c', vc', x, y, ⟨g, rfl⟩, hb0, hb1, hb2, hb3, ha1, ha2, ha4, hc1, ht1, hf1, hB1, hn1', hn2', hl', hnf, hfin, hvb, hvf⟩
  have e0 : h1.cell B 0 = some (.ptr tid 0) := by rw [H.cell_of hb0]; rfl
  have e1 : h1.cell (B + 1) 0 = some (.int .i64 (n' : Int)) := by rw [H.cell_of hb1]; rfl
  have e2 : h1.cell (B + 2) 0 = some vc' := by rw [H.cell_of hb2]; rfl
  simp (disch := first | omega | (simp only [List.length_set, List.length_replicate, List.length_append, List.length_take, List.length_drop, List.length_cons, List.length_nil, List.length_map, List.length_range, ints_length] <;> omega)) only [go_sem, e0, e1, e2]
  refine (primes_ok n' h1).mono ?_
  rintro v2 h2 ⟨rfl, rfl⟩
  simp (disch := first | omega | (simp only [List.length_set, List.length_replicate, List.length_append, List.length_take, List.length_drop, List.length_cons, List.length_nil, List.length_map, List.length_range, ints_length] <;> omega)) only [go_sem]
  generalize hrc : LRec.mk _ _ _ _ _ _ = rc
  refine ⟨rfl, ?_⟩
  obtain ⟨nb, hnb⟩ : ∃ nb, h1.next = nb := ⟨_, rfl⟩
  rw [hnb]
  have hBd : ∀ q l hh, (hh.get (nb + 1) = some (.loop rc) ∧ hh.get B = some (.cells false [.ptr tid 0]) ∧ hh.get (B + 1) = some (.cells false [.int .i64 (n' : Int)]) ∧ hh.get (B + 2) = some (.cells false [vc']) ∧ hh.get (B + 3) = some (.cells false [x, y]) ∧
      Avoid hh mid (B + 1) ∧ Avoid hh mid (B + 2) ∧ Avoid hh mid (B + 3) ∧ Avoid hh mid nb ∧ SI hh vc' c' ∧ Tb hh tid mid b ∧ FrM mid h hh ∧ nb + 1 < hh.next ∧ (∀ e ∈ (q :: l : List Nat), e ∈ prOf n') ∧ (q :: l).findSome? (fun q => (lowerF n' q c').map (fun d => (q, d))) = stepF n' c') →
      Ey T (nb + 1) [.int .i64 (q : Int)] hh (fun v hh' => hh'.get nb = hh.get nb ∧ (v = .bool true ∧ (hh'.get (nb + 1) = some (.loop rc) ∧ hh'.get B = some (.cells false [.ptr tid 0]) ∧ hh'.get (B + 1) = some (.cells false [.int .i64 (n' : Int)]) ∧ hh'.get (B + 2) = some (.cells false [vc']) ∧ hh'.get (B + 3) = some (.cells false [x, y]) ∧
      Avoid hh' mid (B + 1) ∧ Avoid hh' mid (B + 2) ∧ Avoid hh' mid (B + 3) ∧ Avoid hh' mid nb ∧ SI hh' vc' c' ∧ Tb hh' tid mid b ∧ FrM mid h hh' ∧ nb + 1 < hh'.next ∧ (∀ e ∈ l, e ∈ prOf n') ∧ l.findSome? (fun q => (lowerF n' q c').map (fun d => (q, d))) = stepF n' c') ∨
      v = .bool false ∧ ∃ d vd, hh'.get (nb + 1) = some (.loop { rc with st := .done, pend := some (.exit 1) }) ∧ hh'.get B = some (.cells false [.ptr tid 0]) ∧ hh'.get (B + 1) = some (.cells false [.int .i64 ((n' / q : Nat) : Int)]) ∧ hh'.get (B + 2) = some (.cells false [vd]) ∧ hh'.get (B + 3) = some (.cells false [x, y]) ∧
      Avoid hh' mid (B + 1) ∧ Avoid hh' mid (B + 2) ∧ Avoid hh' mid (B + 3) ∧ SI hh' vd d ∧ Tb hh' tid mid b ∧ FrM mid h hh' ∧ nb + 1 < hh'.next ∧ q ∈ prOf n' ∧ lowerF n' q c' = some d ∧ stepF n' c' = some (q, d) ∧ (∀ z off len cc, B ≤ z → z ≤ B + 3 → vd ≠ .sl z off len cc) ∧ (∀ id off len cc, vd = .sl id off len cc → h.next ≤ id))) := by
    rintro q l hh ⟨hr, k0, k1, k2, k3, a1, a2, a4, a3, hsi, htb, hfr, hnx, hmem, hfs⟩
    refine Ey_of hr (by rw [← hrc]; rfl) ?_
    have hq := lowOk hn1' hn2' (hmem q (List.mem_cons_self ..))
    have hobj : ∀ ro vs, hh.get (nb + 1) ≠ some (.cells ro vs) := fun ro vs e => by rw [hr] at e; cases e
    subst hrc
    simp (disch := first | omega | (simp only [List.length_set, List.length_replicate, List.length_append, List.length_take, List.length_drop, List.length_cons, List.length_nil, List.length_map, List.length_range, ints_length] <;> omega)) only [go_sem]
    refine ⟨_, hr, rfl, ?_⟩
    have c0 : hh.cell B 0 = some (.ptr tid 0) := by rw [H.cell_of k0]; rfl
    have c1 : hh.cell (B + 1) 0 = some (.int .i64 (n' : Int)) := by rw [H.cell_of k1]; rfl
    have c2 : hh.cell (B + 2) 0 = some vc' := by rw [H.cell_of k2]; rfl
    simp (disch := first | omega | (simp only [List.length_set, List.length_replicate, List.length_append, List.length_take, List.length_drop, List.length_cons, List.length_nil, List.length_map, List.length_range, ints_length] <;> omega)) only [go_sem, c0, c1, c2, List.zip_cons_cons, List.zip_nil_left]
    generalize hrb : Ob.loop _ = rb
    have hne1 : nb + 1 ≠ tid := by omega
    have hne2 : nb + 1 ≠ mid := by omega
    have htb2 := htb.set hne1 hne2 (htb.avoid_obj hobj) (some rb)
    have hsi2 : SI (hh.set (nb + 1) (some rb)) vc' c' := SV.set_obj hsi hobj (some rb)
    have hfr2 : FrM mid h (hh.set (nb + 1) (some rb)) := hfr.set (by omega) (some rb)
    have a1' : Avoid (hh.set (nb + 1) (some rb)) mid (B + 1) := a1.fr (H.get_set_ne _ (by omega) _)
    have a2' : Avoid (hh.set (nb + 1) (some rb)) mid (B + 2) := a2.fr (H.get_set_ne _ (by omega) _)
    have a4' : Avoid (hh.set (nb + 1) (some rb)) mid (B + 3) := a4.fr (H.get_set_ne _ (by omega) _)
    have a3' : Avoid (hh.set (nb + 1) (some rb)) mid nb := a3.fr (H.get_set_ne _ (by omega) _)
    have hr2 : (hh.set (nb + 1) (some rb)).get (nb + 1) = some rb := H.get_set_same ..
    have k0' : (hh.set (nb + 1) (some rb)).get B = some (.cells false [.ptr tid 0]) := by rw [H.get_set_ne _ (by omega)]; exact k0
    have k1' : (hh.set (nb + 1) (some rb)).get (B + 1) = some (.cells false [.int .i64 (n' : Int)]) := by rw [H.get_set_ne _ (by omega)]; exact k1
    have k2' : (hh.set (nb + 1) (some rb)).get (B + 2) = some (.cells false [vc']) := by rw [H.get_set_ne _ (by omega)]; exact k2
    have k3' : (hh.set (nb + 1) (some rb)).get (B + 3) = some (.cells false [x, y]) := by rw [H.get_set_ne _ (by omega)]; exact k3
    have kn : (hh.set (nb + 1) (some rb)).get nb = hh.get nb := H.get_set_ne _ (by omega) _
    have hnx2 : nb + 1 < (hh.set (nb + 1) (some rb)).next := hnx
    generalize hh.set (nb + 1) (some rb) = h3 at *
    refine (lower_ok tid mid b n' q vc' c' h3 hq (by have := htb2.tb; have := htb2.tlt; omega) htb2 hsi2 hl').mono ?_
    rintro v4 h4 ⟨htb4, hfr4, u, t, rfl, hlow⟩
    have nm : ∀ z, z < nb + 2 → z ≠ mid → h4.get z = h3.get z := fun z hz hzm => hfr4.get z (by omega) hzm
    have hmB : mid < B := by omega
    have j0 := (nm B (by omega) (by omega)).trans k0'
    have j1 := (nm (B + 1) (by omega) (by omega)).trans k1'
    have j2 := (nm (B + 2) (by omega) (by omega)).trans k2'
    have j3 := (nm (B + 3) (by omega) (by omega)).trans k3'
    have jr := (nm (nb + 1) (by omega) (by omega)).trans hr2
    have jn := (nm nb (by omega) (by omega)).trans kn
    have a1'' := hfr4.av htb2.mlt (B + 1) (by omega) a1'
    have a2'' := hfr4.av htb2.mlt (B + 2) (by omega) a2'
    have a4'' := hfr4.av htb2.mlt (B + 3) (by omega) a4'
    have a3'' := hfr4.av htb2.mlt nb (by omega) a3'
    have d1 : h4.cell (B + 1) 0 = some (.int .i64 (n' : Int)) := by rw [H.cell_of j1]; rfl
    simp (disch := first | omega | (simp only [List.length_set, List.length_replicate, List.length_append, List.length_take, List.length_drop, List.length_cons, List.length_nil, List.length_map, List.length_range, ints_length] <;> omega)) only [go_sem, List.getElem?_cons_zero, List.getElem?_cons_succ]
    cases hlw : lowerF n' q c' with
    | none =>
      rw [hlw] at hlow
      simp only at hlow
      subst hlow
      simp (disch := first | omega | (simp only [List.length_set, List.length_replicate, List.length_append, List.length_take, List.length_drop, List.length_cons, List.length_nil, List.length_map, List.length_range, ints_length] <;> omega)) only [go_sem]
      refine ⟨_, by rw [jr, ← hrb], ?_⟩
      have hobj4 : ∀ ro vs, h4.get (nb + 1) ≠ some (.cells ro vs) := fun ro vs e => by rw [jr, ← hrb] at e; cases e
      refine ⟨by rw [H.get_set_ne _ (by omega)]; exact jn, .inl ⟨rfl, H.get_set_same .., by rw [H.get_set_ne _ (by omega)]; exact j0, by rw [H.get_set_ne _ (by omega)]; exact j1, by rw [H.get_set_ne _ (by omega)]; exact j2, by rw [H.get_set_ne _ (by omega)]; exact j3,
        a1''.fr (H.get_set_ne _ (by omega) _), a2''.fr (H.get_set_ne _ (by omega) _), a4''.fr (H.get_set_ne _ (by omega) _), a3''.fr (H.get_set_ne _ (by omega) _), SV.set_obj (hsi2.monoM htb2.isMap hfr4) hobj4 _, htb4.set hne1 hne2 (htb4.avoid_obj hobj4) _, (hfr2.trans hfr4).set (by omega) _, by rw [H.next_set]; have := hfr4.next; omega, fun e he => hmem e (List.mem_cons_of_mem _ he), ?_⟩⟩
      rw [← hfs, List.findSome?_cons, hlw]; rfl
    | some d =>
      rw [hlw] at hlow
      simp only at hlow
      obtain ⟨rfl, hu, huf⟩ := hlow
      have hnx3 := hfr4.next
      have ed : (n' : Int).tdiv (q : Int) = ((n' / q : Nat) : Int) := rfl
      have hdl := Nat.div_le_self n' q
      have hq2 := hq.q2
      obtain ⟨m', hm'⟩ : ∃ m', n' / q = m' := ⟨_, rfl⟩
      rw [hm'] at ed hdl
      rw [hm']
      simp (disch := first | omega | (simp only [List.length_set, List.length_replicate, List.length_append, List.length_take, List.length_drop, List.length_cons, List.length_nil, List.length_map, List.length_range, ints_length] <;> omega)) only [go_sem, d1, ed, j1, hu.st1, j2]
      have hstep : stepF n' c' = some (q, d) := by rw [← hfs, List.findSome?_cons, hlw]; rfl
      have hu1 : SI (h4.set (B + 1) (some (.cells false [.int .i64 (m' : Int)]))) u d := SV.set_ne hu (fun off len cc e => by have := huf _ _ _ _ e; omega) _
      have hu2 : SI ((h4.set (B + 1) (some (.cells false [.int .i64 (m' : Int)]))).set (B + 2) (some (.cells false [u]))) u d := SV.set_ne hu1 (fun off len cc e => by have := huf _ _ _ _ e; omega) _
      have ht2' := ((htb4.set (x := B + 1) (by omega) (by omega) a1'' (some (.cells false [.int .i64 (m' : Int)]))).set (x := B + 2) (by omega) (by omega) (a2''.fr (H.get_set_ne _ (by omega) _)) (some (.cells false [u])))
      have hfr5 : FrM mid h ((h4.set (B + 1) (some (.cells false [.int .i64 (m' : Int)]))).set (B + 2) (some (.cells false [u]))) := ((hfr2.trans hfr4).set (by omega) _).set (by omega) _
      have g1 : ((h4.set (B + 1) (some (.cells false [.int .i64 (m' : Int)]))).set (B + 2) (some (.cells false [u]))).get (B + 1) = some (.cells false [.int .i64 (m' : Int)]) := by rw [H.get_set_ne _ (by omega), H.get_set_same]
      have g2 : ((h4.set (B + 1) (some (.cells false [.int .i64 (m' : Int)]))).set (B + 2) (some (.cells false [u]))).get (B + 2) = some (.cells false [u]) := H.get_set_same ..
      have g3 : ∀ z, z ≠ B + 1 → z ≠ B + 2 → ((h4.set (B + 1) (some (.cells false [.int .i64 (m' : Int)]))).set (B + 2) (some (.cells false [u]))).get z = h4.get z := fun z h1 h2 => by rw [H.get_set_ne _ h2, H.get_set_ne _ h1]
      have gn : ((h4.set (B + 1) (some (.cells false [.int .i64 (m' : Int)]))).set (B + 2) (some (.cells false [u]))).next = h4.next := rfl
      have a1f := a1''.fr (g3 mid (by omega) (by omega))
      have a2f := a2''.fr (g3 mid (by omega) (by omega))
      have a4f := a4''.fr (g3 mid (by omega) (by omega))
      generalize ((h4.set (B + 1) (some (.cells false [.int .i64 (m' : Int)]))).set (B + 2) (some (.cells false [u]))) = h5 at *
      have jr5 := (g3 (nb + 1) (by omega) (by omega)).trans jr
      have hobj5 : ∀ ro vs, h5.get (nb + 1) ≠ some (.cells ro vs) := fun ro vs e => by rw [jr5, ← hrb] at e; cases e
      refine ⟨_, by rw [jr5, ← hrb], ?_⟩
      refine ⟨by rw [H.get_set_ne _ (by omega), g3 nb (by omega) (by omega)]; exact jn, .inr ⟨rfl, d, u, H.get_set_same .., by rw [H.get_set_ne _ (by omega), g3 B (by omega) (by omega)]; exact j0, by rw [H.get_set_ne _ (by omega)]; exact g1, by rw [H.get_set_ne _ (by omega)]; exact g2, by rw [H.get_set_ne _ (by omega), g3 _ (by omega) (by omega)]; exact j3,
        a1f.fr (H.get_set_ne _ (by omega) _), a2f.fr (H.get_set_ne _ (by omega) _), a4f.fr (H.get_set_ne _ (by omega) _), SV.set_obj hu2 hobj5 _, ht2'.set hne1 hne2 (ht2'.avoid_obj hobj5) _, hfr5.set (by omega) _, by rw [H.next_set]; omega, hmem q (List.mem_cons_self ..), rfl, hstep, fun z off len cc h1 h2 e => by have := huf _ _ _ _ e; omega, fun id off len cc e => by have := huf _ _ _ _ e; omega⟩⟩
  have hvn : ∀ off len cc, vc' ≠ .sl nb off len cc := fun off len cc e => by
    subst e
    have := SV.ne_of hc1; omega
  refine (primes1_ok (nb + 1) nb (fun l hh => hh.get (nb + 1) = some (.loop rc) ∧ hh.get B = some (.cells false [.ptr tid 0]) ∧ hh.get (B + 1) = some (.cells false [.int .i64 (n' : Int)]) ∧ hh.get (B + 2) = some (.cells false [vc']) ∧ hh.get (B + 3) = some (.cells false [x, y]) ∧
      Avoid hh mid (B + 1) ∧ Avoid hh mid (B + 2) ∧ Avoid hh mid (B + 3) ∧ Avoid hh mid nb ∧ SI hh vc' c' ∧ Tb hh tid mid b ∧ FrM mid h hh ∧ nb + 1 < hh.next ∧ (∀ e ∈ l, e ∈ prOf n') ∧ l.findSome? (fun q => (lowerF n' q c').map (fun d => (q, d))) = stepF n' c')
    (fun hh' => ∃ q d vd, hh'.get (nb + 1) = some (.loop { rc with st := .done, pend := some (.exit 1) }) ∧ hh'.get B = some (.cells false [.ptr tid 0]) ∧ hh'.get (B + 1) = some (.cells false [.int .i64 ((n' / q : Nat) : Int)]) ∧ hh'.get (B + 2) = some (.cells false [vd]) ∧ hh'.get (B + 3) = some (.cells false [x, y]) ∧
      Avoid hh' mid (B + 1) ∧ Avoid hh' mid (B + 2) ∧ Avoid hh' mid (B + 3) ∧ SI hh' vd d ∧ Tb hh' tid mid b ∧ FrM mid h hh' ∧ nb + 1 < hh'.next ∧ q ∈ prOf n' ∧ lowerF n' q c' = some d ∧ stepF n' c' = some (q, d) ∧ (∀ z off len cc, B ≤ z → z ≤ B + 3 → vd ≠ .sl z off len cc) ∧ (∀ id off len cc, vd = .sl id off len cc → h.next ≤ id)) ?_ ?_ n' hn1' hn2' _ ?_ ?_).mono ?_
  · rintro l hh z ⟨hr, k0, k1, k2, k3, a1, a2, a4, a3, hsi, htb, hfr, hnx, hmem, hfs⟩
    refine ⟨by rw [H.get_set_ne _ (by omega)]; exact hr, by rw [H.get_set_ne _ (by omega)]; exact k0, by rw [H.get_set_ne _ (by omega)]; exact k1, by rw [H.get_set_ne _ (by omega)]; exact k2, by rw [H.get_set_ne _ (by omega)]; exact k3,
      a1.fr (H.get_set_ne _ (by omega) _), a2.fr (H.get_set_ne _ (by omega) _), a4.fr (H.get_set_ne _ (by omega) _), a3.fr (H.get_set_ne _ (by omega) _), SV.set_ne hsi hvn _, htb.set (by omega) (by omega) a3 _, hfr.set (by omega) _, hnx, hmem, hfs⟩
  · intro q l hh hI
    refine (hBd q l hh hI).mono ?_
    rintro v hh' ⟨hn, ⟨hv, h9⟩ | ⟨hv, d, vd, h9⟩⟩
    · exact ⟨hn, .inl ⟨hv, h9⟩⟩
    · exact ⟨hn, .inr ⟨hv, q, d, vd, h9⟩⟩
  · rw [H.get_new_ne _ (by rw [H.next_new]; omega), ← hnb, H.get_new_same]
  · have hF : Fr h1 ((h1.new (.cells false [.int .i64 (n' : Int)])).new (.loop rc)) := ((Fr.refl h1).new _).new _
    have hgf : ∀ z, z < nb → ((h1.new (.cells false [.int .i64 (n' : Int)])).new (.loop rc)).get z = h1.get z := fun z hz => hF.get z (by omega)
    refine ⟨?_, by rw [hgf B (by omega)]; exact hb0, by rw [hgf _ (by omega)]; exact hb1, by rw [hgf _ (by omega)]; exact hb2, by rw [hgf _ (by omega)]; exact hb3, ha1.fr (hgf _ (by omega)), ha2.fr (hgf _ (by omega)), ha4.fr (hgf _ (by omega)), (ht1.avoid (by omega)).fr (hgf _ (by omega)), hc1.mono hF, ht1.fr hF, hf1.trans (hF.toM mid), by simp only [H.next_new]; omega, fun e he => he, rfl⟩
    rw [show nb + 1 = (h1.new (.cells false [.int .i64 (n' : Int)])).next by rw [H.next_new, hnb], H.get_new_same]
  · rintro v5 h5 (⟨hr, k0, k1, k2, k3, a1, a2, a4, a3, hsi, htb, hfr, hnx, hmem, hfs⟩ | ⟨q, d, vd, hr, k0, k1, k2, k3, a1, a2, a4, hsi, htb, hfr, hnx, hmem, hlw, hst, hvd, hvdf⟩)
    · refine ⟨rc, hr, by rw [← hrc]; simp, ?_⟩
      have hobj : ∀ ro vs, h5.get (nb + 1) ≠ some (.cells ro vs) := fun ro vs e => by rw [hr] at e; cases e
      rw [show rc.pend = none by rw [← hrc]]
      generalize hrb : Ob.loop _ = rb
      have d1 : h5.cell (B + 1) 0 = some (.int .i64 (n' : Int)) := by rw [H.cell_of k1]; rfl
      have d2 : h5.cell (B + 2) 0 = some vc' := by rw [H.cell_of k2]; rfl
      have hbl := bldV_two (z1 := .int .i64 0) (z2 := .nils) (v := .int .i64 (n' : Int)) rfl rfl hsi.what.1 hsi.what.2.1
      have hst2 := fun hh => stV_agg2 hh (B + 3) 0 (v := .int .i64 (n' : Int)) rfl hsi.what.2.1
      simp (disch := first | omega | (simp only [List.length_set, List.length_replicate, List.length_append, List.length_take, List.length_drop, List.length_cons, List.length_nil, List.length_map, List.length_range, ints_length] <;> omega)) only [go_sem, Option.getD_none, d1, d2, hbl, hst2, k3]
      have hrow := row_two (h := (h5.set (nb + 1) (some rb)).set (B + 3) (some (.cells false [.int .i64 (n' : Int), vc']))) (H.get_set_same ..)
      simp (disch := first | omega | (simp only [List.length_set, List.length_replicate, List.length_append, List.length_take, List.length_drop, List.length_cons, List.length_nil, List.length_map, List.length_range, ints_length] <;> omega)) only [go_sem, hrow]
      have hst0 : stepF n' c' = none := by rw [← hfs]; rfl
      have hfin2 : leastF n c = (n', c') := by
        rw [← hfin]
        obtain ⟨f', rfl⟩ : ∃ f', f = f' + 1 := ⟨f - 1, by omega⟩
        simp only [leastG, hst0]
      rw [hfin2]
      have ht6 := (htb.set (x := nb + 1) (by omega) (by omega) (htb.avoid_obj hobj) (some rb))
      have hs6 : SI (h5.set (nb + 1) (some rb)) vc' c' := SV.set_obj hsi hobj _
      refine ⟨_, rfl, ?_, ht6.set (by omega) (by omega) (a4.fr (H.get_set_ne _ (by omega) _)) _, (hfr.set (by omega) _).set (by omega) _, (by rw [hB] at hvf; exact hvf)⟩
      exact SV.set_ne hs6 (fun off len cc => hvb (B + 3) off len cc (by omega) (by omega)) _
    · refine ⟨_, hr, by simp, ?_⟩
      have hobj : ∀ ro vs, h5.get (nb + 1) ≠ some (.cells ro vs) := fun ro vs e => by rw [hr] at e; cases e
      simp only [Option.getD_some]
      generalize hrb : Ob.loop _ = rb
      simp (disch := first | omega | (simp only [List.length_set, List.length_replicate, List.length_append, List.length_take, List.length_drop, List.length_cons, List.length_nil, List.length_map, List.length_range, ints_length] <;> omega)) only [go_sem]
      have hok := lowOk hn1' hn2' hmem
      have hlt := hok.lt
      have hq2 := hok.q2
      have hdl := lowerF_len hok hlw
      have hpl := phi_len hlt.1 (show n' / q ≤ 120 by omega)
      obtain ⟨f', rfl⟩ : ∃ f', f = f' + 1 := ⟨f - 1, by omega⟩
      refine ⟨f', by omega, n' / q, d, vd, x, y, ex_junk rfl, k0, k1, k2, k3, a1.fr (H.get_set_ne _ (by omega) _), a2.fr (H.get_set_ne _ (by omega) _), a4.fr (H.get_set_ne _ (by omega) _), SV.set_obj hsi hobj _,
        htb.set (x := nb + 1) (by omega) (by omega) (htb.avoid_obj hobj) _, hfr.set (by omega) _, by omega, hlt.1, by omega, by omega, by omega, ?_, hvd, .inr hvdf⟩
      rw [← hfin]
      simp only [leastG, hst]
end Go.Proofs.Ythfabknpogbcaaa
