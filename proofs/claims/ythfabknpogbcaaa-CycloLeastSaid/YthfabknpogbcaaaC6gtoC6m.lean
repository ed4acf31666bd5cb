/- Contracts: the canonical form. Contracts: made, Check. Contracts: Check, Phi, Make, Root, Int. Contracts: Root, Int, the common order. Contracts: Galois, Conj, Scale. Contracts: Add, Mul. Contracts: Mul. -/
import Derived.Test.YthfabknpogbcaaaC6s0toC6f
/- Contracts: the canonical form. -/
namespace Go.Proofs.Ythfabknpogbcaaa
open Go Go.Ay
set_option maxRecDepth 100000

theorem boxV_ptr (h : H) (id off : Nat) : boxV h (.ptr id off) = some (.ptr h.next 0, h.new (.cells false [.ptr id off])) := boxV_one rfl rfl h

set_option maxHeartbeats 2000000 in
theorem least_ok (tid mid b n : Nat) (vc : V) (c : List Int) (h : H) (hn1 : 1 ≤ n) (hn2 : n ≤ 120) (ht : Tb h tid mid b) (hc : SI h vc c) (hl : c.length ≤ n) :
    Ev T n_cyclo_table_least [.ptr tid 0, .int .i64 (n : Int), vc] h (fun v h' => ∃ u, v = .agg [.int .i64 ((leastF n c).1 : Int), u] ∧ SI h' u (leastF n c).2 ∧ Tb h' tid mid b ∧ FrM mid h h' ∧ (u = vc ∨ ∀ id off len cc, u = .sl id off len cc → h.next ≤ id)) := by
  refine Ev_of t_cyclo_table_least rfl ?_
  simp (disch := first | omega | (simp only [Qn] <;> omega)) only [go_sem, c_cyclo_table_least, initV_eq, boxV_ptr, boxV_one hc.what.1 hc.what.2.1]
  obtain ⟨B, hB⟩ : ∃ B, h.next = B := ⟨_, rfl⟩
  rw [hB]
  have htl := ht.tlt
  have hml := ht.mlt
  refine Wp_loop (fun f vars h1 => ∃ (n' : Nat) (c' : List Int) (vc' x y : V), (∃ g : Nat → V, vars = [g 0, g 1, g 2, .ptr B 0, .ptr (B + 1) 0, .ptr (B + 2) 0, .ptr (B + 3) 0, g 7, g 8, g 9, g 10, g 11, g 12]) ∧
    h1.get B = some (.cells false [.ptr tid 0]) ∧ h1.get (B + 1) = some (.cells false [.int .i64 (n' : Int)]) ∧ h1.get (B + 2) = some (.cells false [vc']) ∧ h1.get (B + 3) = some (.cells false [x, y]) ∧
    Avoid h1 mid (B + 1) ∧ Avoid h1 mid (B + 2) ∧ Avoid h1 mid (B + 3) ∧ SI h1 vc' c' ∧ Tb h1 tid mid b ∧ FrM mid h h1 ∧ B + 3 < h1.next ∧ 1 ≤ n' ∧ n' ≤ 120 ∧ c'.length ≤ n' ∧ n' ≤ f ∧ leastG f n' c' = leastF n c ∧ (∀ z off len cc, B ≤ z → z ≤ B + 3 → vc' ≠ .sl z off len cc) ∧ (vc' = vc ∨ ∀ id off len cc, vc' = .sl id off len cc → h.next ≤ id)) n
    ⟨n, c, vc, .int .i64 0, .nils, ex_junk rfl, by simp only [H.get_new, H.next_new, hB]; repeat (first | rw [if_pos trivial] | rw [if_pos rfl] | rw [if_neg (by omega)]), by simp only [H.get_new, H.next_new, hB]; repeat (first | rw [if_pos trivial] | rw [if_pos rfl] | rw [if_neg (by omega)]), by simp only [H.get_new, H.next_new, hB]; repeat (first | rw [if_pos trivial] | rw [if_pos rfl] | rw [if_neg (by omega)]), by simp only [H.get_new, H.next_new, hB]; repeat (first | rw [if_pos trivial] | rw [if_pos rfl] | rw [if_neg (by omega)]), (ht.avoid (by omega)).fr ((((((Fr.refl h).new _).new _).new _).new _).get mid hml), (ht.avoid (by omega)).fr ((((((Fr.refl h).new _).new _).new _).new _).get mid hml), (ht.avoid (by omega)).fr ((((((Fr.refl h).new _).new _).new _).new _).get mid hml), hc.mono ((((Fr.refl h).new _).new _).new _ |>.new _), ht.fr ((((Fr.refl h).new _).new _).new _ |>.new _), Fr.toM ((((Fr.refl h).new _).new _).new _ |>.new _) mid, by simp only [H.next_new, hB]; omega, hn1, hn2, hl, Nat.le_refl _, rfl, fun z off len cc h1 h2 e => by (subst e; have := SV.ne_of hc; omega), .inl rfl⟩ ?_
  rintro f vars h1 ⟨n', c', vc', x, y, ⟨g, rfl⟩, hb0, hb1, hb2, hb3, ha1, ha2, ha4, hc1, ht1, hf1, hB1, hn1', hn2', hl', hnf, hfin, hvb, hvf⟩
  have e0 : h1.cell B 0 = some (.ptr tid 0) := by rw [H.cell_of hb0]; rfl
  have e1 : h1.cell (B + 1) 0 = some (.int .i64 (n' : Int)) := by rw [H.cell_of hb1]; rfl
  have e2 : h1.cell (B + 2) 0 = some vc' := by rw [H.cell_of hb2]; rfl
  simp (disch := first | omega | (simp only [Qn] <;> omega)) only [go_sem, e0, e1, e2]
  refine (primes_ok n' h1).mono ?_
  rintro v2 h2 ⟨rfl, rfl⟩
  simp (disch := first | omega | (simp only [Qn] <;> omega)) only [go_sem]
  generalize hrc : LRec.mk _ _ _ _ _ _ = rc
  refine ⟨rfl, ?_⟩
  obtain ⟨nb, hnb⟩ : ∃ nb, h1.next = nb := ⟨_, rfl⟩
  rw [hnb]
  have hBd : ∀ q l hh, (hh.get (nb + 1) = some (.loop rc) ∧ hh.get B = some (.cells false [.ptr tid 0]) ∧ hh.get (B + 1) = some (.cells false [.int .i64 (n' : Int)]) ∧ hh.get (B + 2) = some (.cells false [vc']) ∧ hh.get (B + 3) = some (.cells false [x, y]) ∧
      Avoid hh mid (B + 1) ∧ Avoid hh mid (B + 2) ∧ Avoid hh mid (B + 3) ∧ Avoid hh mid nb ∧ SI hh vc' c' ∧ Tb hh tid mid b ∧ FrM mid h hh ∧ nb + 1 < hh.next ∧ (∀ e ∈ (q :: l : List Nat), e ∈ prOf n') ∧ (q :: l).findSome? (fun q => (lowerF n' q c').map (fun d => (q, d))) = stepF n' c') →
      Ey T (nb + 1) [.int .i64 (q : Int)] hh (fun v hh' => hh'.get nb = hh.get nb ∧ (v = .bool true ∧ (hh'.get (nb + 1) = some (.loop rc) ∧ hh'.get B = some (.cells false [.ptr tid 0]) ∧ hh'.get (B + 1) = some (.cells false [.int .i64 (n' : Int)]) ∧ hh'.get (B + 2) = some (.cells false [vc']) ∧ hh'.get (B + 3) = some (.cells false [x, y]) ∧
      Avoid hh' mid (B + 1) ∧ Avoid hh' mid (B + 2) ∧ Avoid hh' mid (B + 3) ∧ Avoid hh' mid nb ∧ SI hh' vc' c' ∧ Tb hh' tid mid b ∧ FrM mid h hh' ∧ nb + 1 < hh'.next ∧ (∀ e ∈ l, e ∈ prOf n') ∧ l.findSome? (fun q => (lowerF n' q c').map (fun d => (q, d))) = stepF n' c') ∨
      v = .bool false ∧ ∃ d vd, hh'.get (nb + 1) = some (.loop { rc with st := .done, pend := some (.exit 1) }) ∧ hh'.get B = some (.cells false [.ptr tid 0]) ∧ hh'.get (B + 1) = some (.cells false [.int .i64 ((n' / q : Nat) : Int)]) ∧ hh'.get (B + 2) = some (.cells false [vd]) ∧ hh'.get (B + 3) = some (.cells false [x, y]) ∧
      Avoid hh' mid (B + 1) ∧ Avoid hh' mid (B + 2) ∧ Avoid hh' mid (B + 3) ∧ SI hh' vd d ∧ Tb hh' tid mid b ∧ FrM mid h hh' ∧ nb + 1 < hh'.next ∧ q ∈ prOf n' ∧ lowerF n' q c' = some d ∧ stepF n' c' = some (q, d) ∧ (∀ z off len cc, B ≤ z → z ≤ B + 3 → vd ≠ .sl z off len cc) ∧ (∀ id off len cc, vd = .sl id off len cc → h.next ≤ id))) := by
    rintro q l hh ⟨hr, k0, k1, k2, k3, a1, a2, a4, a3, hsi, htb, hfr, hnx, hmem, hfs⟩
    refine Ey_of hr (by rw [← hrc]; rfl) ?_
    have hq := lowOk hn1' hn2' (hmem q (List.mem_cons_self ..))
    have hobj : ∀ ro vs, hh.get (nb + 1) ≠ some (.cells ro vs) := fun ro vs e => by rw [hr] at e; cases e
    subst hrc
    simp (disch := first | omega | (simp only [Qn] <;> omega)) only [go_sem]
    refine ⟨_, hr, rfl, ?_⟩
    have c0 : hh.cell B 0 = some (.ptr tid 0) := by rw [H.cell_of k0]; rfl
    have c1 : hh.cell (B + 1) 0 = some (.int .i64 (n' : Int)) := by rw [H.cell_of k1]; rfl
    have c2 : hh.cell (B + 2) 0 = some vc' := by rw [H.cell_of k2]; rfl
    simp (disch := first | omega | (simp only [Qn] <;> omega)) only [go_sem, c0, c1, c2, List.zip_cons_cons, List.zip_nil_left]
    generalize hrb : Ob.loop _ = rb
    have hne1 : nb + 1 ≠ tid := by omega
    have hne2 : nb + 1 ≠ mid := by omega
    have htb2 := htb.set hne1 hne2 (htb.avoid_obj hobj) (some rb)
    have hsi2 : SI (hh.set (nb + 1) (some rb)) vc' c' := SV.set_obj hsi hobj (some rb)
    have hfr2 : FrM mid h (hh.set (nb + 1) (some rb)) := hfr.set (by omega) (some rb)
    have a1' : Avoid (hh.set (nb + 1) (some rb)) mid (B + 1) := a1.fr (H.get_set_ne _ (by omega) _)
    have a2' : Avoid (hh.set (nb + 1) (some rb)) mid (B + 2) := a2.fr (H.get_set_ne _ (by omega) _)
    have a4' : Avoid (hh.set (nb + 1) (some rb)) mid (B + 3) := a4.fr (H.get_set_ne _ (by omega) _)
    have a3' : Avoid (hh.set (nb + 1) (some rb)) mid nb := a3.fr (H.get_set_ne _ (by omega) _)
    have hr2 : (hh.set (nb + 1) (some rb)).get (nb + 1) = some rb := H.get_set_same ..
    have k0' : (hh.set (nb + 1) (some rb)).get B = some (.cells false [.ptr tid 0]) := by rw [H.get_set_ne _ (by omega)]; exact k0
    have k1' : (hh.set (nb + 1) (some rb)).get (B + 1) = some (.cells false [.int .i64 (n' : Int)]) := by rw [H.get_set_ne _ (by omega)]; exact k1
    have k2' : (hh.set (nb + 1) (some rb)).get (B + 2) = some (.cells false [vc']) := by rw [H.get_set_ne _ (by omega)]; exact k2
    have k3' : (hh.set (nb + 1) (some rb)).get (B + 3) = some (.cells false [x, y]) := by rw [H.get_set_ne _ (by omega)]; exact k3
    have kn : (hh.set (nb + 1) (some rb)).get nb = hh.get nb := H.get_set_ne _ (by omega) _
    have hnx2 : nb + 1 < (hh.set (nb + 1) (some rb)).next := hnx
    generalize hh.set (nb + 1) (some rb) = h3 at *
    refine (lower_ok tid mid b n' q vc' c' h3 hq (by have := htb2.tb; have := htb2.tlt; omega) htb2 hsi2 hl').mono ?_
    rintro v4 h4 ⟨htb4, hfr4, u, t, rfl, hlow⟩
    have nm : ∀ z, z < nb + 2 → z ≠ mid → h4.get z = h3.get z := fun z hz hzm => hfr4.get z (by omega) hzm
    have hmB : mid < B := by omega
    have j0 := (nm B (by omega) (by omega)).trans k0'
    have j1 := (nm (B + 1) (by omega) (by omega)).trans k1'
    have j2 := (nm (B + 2) (by omega) (by omega)).trans k2'
    have j3 := (nm (B + 3) (by omega) (by omega)).trans k3'
    have jr := (nm (nb + 1) (by omega) (by omega)).trans hr2
    have jn := (nm nb (by omega) (by omega)).trans kn
    have a1'' := hfr4.av htb2.mlt (B + 1) (by omega) a1'
    have a2'' := hfr4.av htb2.mlt (B + 2) (by omega) a2'
    have a4'' := hfr4.av htb2.mlt (B + 3) (by omega) a4'
    have a3'' := hfr4.av htb2.mlt nb (by omega) a3'
    have d1 : h4.cell (B + 1) 0 = some (.int .i64 (n' : Int)) := by rw [H.cell_of j1]; rfl
    simp (disch := first | omega | (simp only [Qn] <;> omega)) only [go_sem, List.getElem?_cons_zero, List.getElem?_cons_succ]
    cases hlw : lowerF n' q c' with
    | none =>
      rw [hlw] at hlow
      simp only at hlow
      subst hlow
      simp (disch := first | omega | (simp only [Qn] <;> omega)) only [go_sem]
      refine ⟨_, by rw [jr, ← hrb], ?_⟩
      have hobj4 : ∀ ro vs, h4.get (nb + 1) ≠ some (.cells ro vs) := fun ro vs e => by rw [jr, ← hrb] at e; cases e
      refine ⟨by rw [H.get_set_ne _ (by omega)]; exact jn, .inl ⟨rfl, H.get_set_same .., by rw [H.get_set_ne _ (by omega)]; exact j0, by rw [H.get_set_ne _ (by omega)]; exact j1, by rw [H.get_set_ne _ (by omega)]; exact j2, by rw [H.get_set_ne _ (by omega)]; exact j3,
        a1''.fr (H.get_set_ne _ (by omega) _), a2''.fr (H.get_set_ne _ (by omega) _), a4''.fr (H.get_set_ne _ (by omega) _), a3''.fr (H.get_set_ne _ (by omega) _), SV.set_obj (hsi2.monoM htb2.isMap hfr4) hobj4 _, htb4.set hne1 hne2 (htb4.avoid_obj hobj4) _, (hfr2.trans hfr4).set (by omega) _, by rw [H.next_set]; have := hfr4.next; omega, fun e he => hmem e (List.mem_cons_of_mem _ he), ?_⟩⟩
      rw [← hfs, List.findSome?_cons, hlw]; rfl
    | some d =>
      rw [hlw] at hlow
      simp only at hlow
      obtain ⟨rfl, hu, huf⟩ := hlow
      have hnx3 := hfr4.next
      have ed : (n' : Int).tdiv (q : Int) = ((n' / q : Nat) : Int) := rfl
      have hdl := Nat.div_le_self n' q
      have hq2 := hq.q2
      obtain ⟨m', hm'⟩ : ∃ m', n' / q = m' := ⟨_, rfl⟩
      rw [hm'] at ed hdl
      rw [hm']
      simp (disch := first | omega | (simp only [Qn] <;> omega)) only [go_sem, d1, ed, j1, hu.st1, j2]
      have hstep : stepF n' c' = some (q, d) := by rw [← hfs, List.findSome?_cons, hlw]; rfl
      have hu1 : SI (h4.set (B + 1) (some (.cells false [.int .i64 (m' : Int)]))) u d := SV.set_ne hu (fun off len cc e => by have := huf _ _ _ _ e; omega) _
      have hu2 : SI ((h4.set (B + 1) (some (.cells false [.int .i64 (m' : Int)]))).set (B + 2) (some (.cells false [u]))) u d := SV.set_ne hu1 (fun off len cc e => by have := huf _ _ _ _ e; omega) _
      have ht2' := ((htb4.set (x := B + 1) (by omega) (by omega) a1'' (some (.cells false [.int .i64 (m' : Int)]))).set (x := B + 2) (by omega) (by omega) (a2''.fr (H.get_set_ne _ (by omega) _)) (some (.cells false [u])))
      have hfr5 : FrM mid h ((h4.set (B + 1) (some (.cells false [.int .i64 (m' : Int)]))).set (B + 2) (some (.cells false [u]))) := ((hfr2.trans hfr4).set (by omega) _).set (by omega) _
      have g1 : ((h4.set (B + 1) (some (.cells false [.int .i64 (m' : Int)]))).set (B + 2) (some (.cells false [u]))).get (B + 1) = some (.cells false [.int .i64 (m' : Int)]) := by rw [H.get_set_ne _ (by omega), H.get_set_same]
      have g2 : ((h4.set (B + 1) (some (.cells false [.int .i64 (m' : Int)]))).set (B + 2) (some (.cells false [u]))).get (B + 2) = some (.cells false [u]) := H.get_set_same ..
      have g3 : ∀ z, z ≠ B + 1 → z ≠ B + 2 → ((h4.set (B + 1) (some (.cells false [.int .i64 (m' : Int)]))).set (B + 2) (some (.cells false [u]))).get z = h4.get z := fun z h1 h2 => by rw [H.get_set_ne _ h2, H.get_set_ne _ h1]
      have gn : ((h4.set (B + 1) (some (.cells false [.int .i64 (m' : Int)]))).set (B + 2) (some (.cells false [u]))).next = h4.next := rfl
      have a1f := a1''.fr (g3 mid (by omega) (by omega))
      have a2f := a2''.fr (g3 mid (by omega) (by omega))
      have a4f := a4''.fr (g3 mid (by omega) (by omega))
      generalize ((h4.set (B + 1) (some (.cells false [.int .i64 (m' : Int)]))).set (B + 2) (some (.cells false [u]))) = h5 at *
      have jr5 := (g3 (nb + 1) (by omega) (by omega)).trans jr
      have hobj5 : ∀ ro vs, h5.get (nb + 1) ≠ some (.cells ro vs) := fun ro vs e => by rw [jr5, ← hrb] at e; cases e
      refine ⟨_, by rw [jr5, ← hrb], ?_⟩
      refine ⟨by rw [H.get_set_ne _ (by omega), g3 nb (by omega) (by omega)]; exact jn, .inr ⟨rfl, d, u, H.get_set_same .., by rw [H.get_set_ne _ (by omega), g3 B (by omega) (by omega)]; exact j0, by rw [H.get_set_ne _ (by omega)]; exact g1, by rw [H.get_set_ne _ (by omega)]; exact g2, by rw [H.get_set_ne _ (by omega), g3 _ (by omega) (by omega)]; exact j3,
        a1f.fr (H.get_set_ne _ (by omega) _), a2f.fr (H.get_set_ne _ (by omega) _), a4f.fr (H.get_set_ne _ (by omega) _), SV.set_obj hu2 hobj5 _, ht2'.set hne1 hne2 (ht2'.avoid_obj hobj5) _, hfr5.set (by omega) _, by rw [H.next_set]; omega, hmem q (List.mem_cons_self ..), rfl, hstep, fun z off len cc h1 h2 e => by have := huf _ _ _ _ e; omega, fun id off len cc e => by have := huf _ _ _ _ e; omega⟩⟩
  have hvn : ∀ off len cc, vc' ≠ .sl nb off len cc := fun off len cc e => by
    subst e
    have := SV.ne_of hc1; omega
  refine (primes1_ok (nb + 1) nb (fun l hh => hh.get (nb + 1) = some (.loop rc) ∧ hh.get B = some (.cells false [.ptr tid 0]) ∧ hh.get (B + 1) = some (.cells false [.int .i64 (n' : Int)]) ∧ hh.get (B + 2) = some (.cells false [vc']) ∧ hh.get (B + 3) = some (.cells false [x, y]) ∧
      Avoid hh mid (B + 1) ∧ Avoid hh mid (B + 2) ∧ Avoid hh mid (B + 3) ∧ Avoid hh mid nb ∧ SI hh vc' c' ∧ Tb hh tid mid b ∧ FrM mid h hh ∧ nb + 1 < hh.next ∧ (∀ e ∈ l, e ∈ prOf n') ∧ l.findSome? (fun q => (lowerF n' q c').map (fun d => (q, d))) = stepF n' c')
    (fun hh' => ∃ q d vd, hh'.get (nb + 1) = some (.loop { rc with st := .done, pend := some (.exit 1) }) ∧ hh'.get B = some (.cells false [.ptr tid 0]) ∧ hh'.get (B + 1) = some (.cells false [.int .i64 ((n' / q : Nat) : Int)]) ∧ hh'.get (B + 2) = some (.cells false [vd]) ∧ hh'.get (B + 3) = some (.cells false [x, y]) ∧
      Avoid hh' mid (B + 1) ∧ Avoid hh' mid (B + 2) ∧ Avoid hh' mid (B + 3) ∧ SI hh' vd d ∧ Tb hh' tid mid b ∧ FrM mid h hh' ∧ nb + 1 < hh'.next ∧ q ∈ prOf n' ∧ lowerF n' q c' = some d ∧ stepF n' c' = some (q, d) ∧ (∀ z off len cc, B ≤ z → z ≤ B + 3 → vd ≠ .sl z off len cc) ∧ (∀ id off len cc, vd = .sl id off len cc → h.next ≤ id)) ?_ ?_ n' hn1' hn2' _ ?_ ?_).mono ?_
  · rintro l hh z ⟨hr, k0, k1, k2, k3, a1, a2, a4, a3, hsi, htb, hfr, hnx, hmem, hfs⟩
    refine ⟨by rw [H.get_set_ne _ (by omega)]; exact hr, by rw [H.get_set_ne _ (by omega)]; exact k0, by rw [H.get_set_ne _ (by omega)]; exact k1, by rw [H.get_set_ne _ (by omega)]; exact k2, by rw [H.get_set_ne _ (by omega)]; exact k3,
      a1.fr (H.get_set_ne _ (by omega) _), a2.fr (H.get_set_ne _ (by omega) _), a4.fr (H.get_set_ne _ (by omega) _), a3.fr (H.get_set_ne _ (by omega) _), SV.set_ne hsi hvn _, htb.set (by omega) (by omega) a3 _, hfr.set (by omega) _, hnx, hmem, hfs⟩
  · intro q l hh hI
    refine (hBd q l hh hI).mono ?_
    rintro v hh' ⟨hn, ⟨hv, h9⟩ | ⟨hv, d, vd, h9⟩⟩
    · exact ⟨hn, .inl ⟨hv, h9⟩⟩
    · exact ⟨hn, .inr ⟨hv, q, d, vd, h9⟩⟩
  · rw [H.get_new_ne _ (by rw [H.next_new]; omega), ← hnb, H.get_new_same]
  · have hF : Fr h1 ((h1.new (.cells false [.int .i64 (n' : Int)])).new (.loop rc)) := ((Fr.refl h1).new _).new _
    have hgf : ∀ z, z < nb → ((h1.new (.cells false [.int .i64 (n' : Int)])).new (.loop rc)).get z = h1.get z := fun z hz => hF.get z (by omega)
    refine ⟨?_, by rw [hgf B (by omega)]; exact hb0, by rw [hgf _ (by omega)]; exact hb1, by rw [hgf _ (by omega)]; exact hb2, by rw [hgf _ (by omega)]; exact hb3, ha1.fr (hgf _ (by omega)), ha2.fr (hgf _ (by omega)), ha4.fr (hgf _ (by omega)), (ht1.avoid (by omega)).fr (hgf _ (by omega)), hc1.mono hF, ht1.fr hF, hf1.trans (hF.toM mid), by simp only [H.next_new]; omega, fun e he => he, rfl⟩
    rw [show nb + 1 = (h1.new (.cells false [.int .i64 (n' : Int)])).next by rw [H.next_new, hnb], H.get_new_same]
  · rintro v5 h5 (⟨hr, k0, k1, k2, k3, a1, a2, a4, a3, hsi, htb, hfr, hnx, hmem, hfs⟩ | ⟨q, d, vd, hr, k0, k1, k2, k3, a1, a2, a4, hsi, htb, hfr, hnx, hmem, hlw, hst, hvd, hvdf⟩)
    · refine ⟨rc, hr, by rw [← hrc]; simp, ?_⟩
      have hobj : ∀ ro vs, h5.get (nb + 1) ≠ some (.cells ro vs) := fun ro vs e => by rw [hr] at e; cases e
      rw [show rc.pend = none by rw [← hrc]]
      generalize hrb : Ob.loop _ = rb
      have d1 : h5.cell (B + 1) 0 = some (.int .i64 (n' : Int)) := by rw [H.cell_of k1]; rfl
      have d2 : h5.cell (B + 2) 0 = some vc' := by rw [H.cell_of k2]; rfl
      have hbl := bldV_two (z1 := .int .i64 0) (z2 := .nils) (v := .int .i64 (n' : Int)) rfl rfl hsi.what.1 hsi.what.2.1
      have hst2 := fun hh => stV_agg2 hh (B + 3) 0 (v := .int .i64 (n' : Int)) rfl hsi.what.2.1
      simp (disch := first | omega | (simp only [Qn] <;> omega)) only [go_sem, Option.getD_none, d1, d2, hbl, hst2, k3]
      have hrow := row_two (h := (h5.set (nb + 1) (some rb)).set (B + 3) (some (.cells false [.int .i64 (n' : Int), vc']))) (H.get_set_same ..)
      simp (disch := first | omega | (simp only [Qn] <;> omega)) only [go_sem, hrow]
      have hst0 : stepF n' c' = none := by rw [← hfs]; rfl
      have hfin2 : leastF n c = (n', c') := by
        rw [← hfin]
        obtain ⟨f', rfl⟩ : ∃ f', f = f' + 1 := ⟨f - 1, by omega⟩
        simp only [leastG, hst0]
      rw [hfin2]
      have ht6 := (htb.set (x := nb + 1) (by omega) (by omega) (htb.avoid_obj hobj) (some rb))
      have hs6 : SI (h5.set (nb + 1) (some rb)) vc' c' := SV.set_obj hsi hobj _
      refine ⟨_, rfl, ?_, ht6.set (by omega) (by omega) (a4.fr (H.get_set_ne _ (by omega) _)) _, (hfr.set (by omega) _).set (by omega) _, (by rw [hB] at hvf; exact hvf)⟩
      exact SV.set_ne hs6 (fun off len cc => hvb (B + 3) off len cc (by omega) (by omega)) _
    · refine ⟨_, hr, by simp, ?_⟩
      have hobj : ∀ ro vs, h5.get (nb + 1) ≠ some (.cells ro vs) := fun ro vs e => by rw [hr] at e; cases e
      simp only [Option.getD_some]
      generalize hrb : Ob.loop _ = rb
      simp (disch := first | omega | (simp only [Qn] <;> omega)) only [go_sem]
      have hok := lowOk hn1' hn2' hmem
      have hlt := hok.lt
      have hq2 := hok.q2
      have hdl := lowerF_len hok hlw
      have hpl := phi_len hlt.1 (show n' / q ≤ 120 by omega)
      obtain ⟨f', rfl⟩ : ∃ f', f = f' + 1 := ⟨f - 1, by omega⟩
      refine ⟨f', by omega, n' / q, d, vd, x, y, ex_junk rfl, k0, k1, k2, k3, a1.fr (H.get_set_ne _ (by omega) _), a2.fr (H.get_set_ne _ (by omega) _), a4.fr (H.get_set_ne _ (by omega) _), SV.set_obj hsi hobj _,
        htb.set (x := nb + 1) (by omega) (by omega) (htb.avoid_obj hobj) _, hfr.set (by omega) _, by omega, hlt.1, by omega, by omega, by omega, ?_, hvd, .inr hvdf⟩
      rw [← hfin]
      simp only [leastG, hst]
end Go.Proofs.Ythfabknpogbcaaa
/- Contracts: made, Check. -/
namespace Go.Proofs.Ythfabknpogbcaaa
open Go Go.Ay
set_option maxRecDepth 100000
noncomputable section

/-- A number. -/
def CycV (h : H) (v : V) (a : Int × List Int) : Prop := ∃ u, v = .agg [.int .i64 a.1, u] ∧ SI h u a.2
theorem CycV.mono {h h' : H} {v : V} {a : Int × List Int} (c : CycV h v a) (f : Fr h h') : CycV h' v a := by
  obtain ⟨u, h1, h2⟩ := c; exact ⟨u, h1, h2.mono f⟩
theorem CycV.zero (h : H) : CycV h (.agg [.int .i64 0, .nils]) (0, []) := ⟨_, rfl, SI.nils h⟩

/-- A new number. -/
def Frs (u : V) (b : Nat) : Prop := ∀ id off n c, u = .sl id off n c → b ≤ id
def CycO (h : H) (v : V) (a : Int × List Int) (b : Nat) : Prop := ∃ u, v = .agg [.int .i64 a.1, u] ∧ SI h u a.2 ∧ Frs u b
theorem CycO.cv {h : H} {v : V} {a : Int × List Int} {b : Nat} (c : CycO h v a b) : CycV h v a := by
  obtain ⟨u, h1, h2, _⟩ := c; exact ⟨u, h1, h2⟩
theorem CycO.mono {h h' : H} {v : V} {a : Int × List Int} {b : Nat} (c : CycO h v a b) (f : Fr h h') : CycO h' v a b := by
  obtain ⟨u, h1, h2, h3⟩ := c; exact ⟨u, h1, h2.mono f, h3⟩
theorem CycO.le {h : H} {v : V} {a : Int × List Int} {b b' : Nat} (c : CycO h v a b) (hb : b' ≤ b) : CycO h v a b' := by
  obtain ⟨u, h1, h2, h3⟩ := c; exact ⟨u, h1, h2, fun id off n c e => Nat.le_trans hb (h3 id off n c e)⟩
theorem CycO.set {h : H} {v : V} {a : Int × List Int} {b x : Nat} (c : CycO h v a b) (hx : x < b) (o : Option Ob) : CycO (h.set x o) v a b := by
  obtain ⟨u, h1, h2, h3⟩ := c; exact ⟨u, h1, SV.set_ne h2 (fun off len cc e => by have := h3 _ _ _ _ e; omega) o, h3⟩
theorem CycO.zero (h : H) (b : Nat) : CycO h (.agg [.int .i64 0, .nils]) (0, []) b := ⟨_, rfl, SI.nils h, fun _ _ _ _ e => by cases e⟩

def madeF (n : Nat) (c : List Int) : (Int × List Int) × Int :=
  let r := leastF n (redF n c)
  if r.2.any overF then ((0, []), 5) else (((r.1 : Int), r.2), 0)

theorem leastG_len : ∀ (f n : Nat) (c : List Int), 1 ≤ n → n ≤ 120 → c.length ≤ n → 1 ≤ (leastG f n c).1 ∧ (leastG f n c).1 ≤ 120 ∧ (leastG f n c).2.length ≤ (leastG f n c).1
  | 0, n, c, h1, h2, h3 => ⟨h1, h2, h3⟩
  | f + 1, n, c, h1, h2, h3 => by
    rw [leastG]
    cases hs : stepF n c with
    | none => exact ⟨h1, h2, h3⟩
    | some p =>
      obtain ⟨q, d⟩ := p
      simp only [stepF] at hs
      obtain ⟨q', hq', hl⟩ := List.exists_of_findSome?_eq_some hs
      simp only [Option.map_eq_some_iff] at hl
      obtain ⟨d', hd', he⟩ := hl
      cases he
      have hok := lowOk h1 h2 hq'
      have hlt := hok.lt
      have := lowerF_len hok hd'
      have hp := phi_len hlt.1 (show n / q ≤ 120 by omega)
      exact leastG_len f (n / q) d hlt.1 (by omega) (by omega)

theorem made_ok (n : Nat) (vc : V) (c : List Int) (h : H) (h1 : 1 ≤ n) (h2 : n ≤ 120) (hc : SI h vc c) (hl : c.length < 1000000) :
    Ev T n_cyclo_made [.int .i64 (n : Int), vc] h (fun v h' => ∃ w, v = .tup [w, .int .i64 (madeF n c).2] ∧ CycO h' w (madeF n c).1 h.next ∧ Fr h h') := by
  refine Ev_of t_cyclo_made rfl ?_
  simp (disch := first | omega | (simp only [Qn] <;> omega)) only [go_sem, c_cyclo_made, initV_eq]
  have hfa : Fr h (h.new (.cells false [.int .i64 0, .nils])) := (Fr.refl h).new _
  have hga : (h.new (.cells false [.int .i64 0, .nils])).get h.next = some (.cells false [.int .i64 0, .nils]) := H.get_new_same ..
  have hna : (h.new (.cells false [.int .i64 0, .nils])).next = h.next + 1 := H.next_new ..
  generalize h.new (.cells false [.int .i64 0, .nils]) = ha at *
  refine (begin_ok ha).mono ?_
  rintro v1 hb ⟨tid, mid, rfl, ht, hfb⟩
  simp (disch := first | omega | (simp only [Qn] <;> omega)) only [go_sem]
  have htb := ht.tb
  have hmb := ht.mb
  refine (reduced_ok tid mid _ n vc c hb h1 h2 ht ((hc.mono hfa).mono hfb) hl).mono ?_
  rintro v2 hd ⟨ht2, ho2, hf2, _⟩
  have hrl := redF_len n c
  have hpl := phi_len h1 h2
  simp (disch := first | omega | (simp only [Qn] <;> omega)) only [go_sem]
  refine (least_ok tid mid _ n v2 (redF n c) hd h1 h2 ht2 ho2.sv (by omega)).mono ?_
  rintro v3 he ⟨u, rfl, hu, ht3, hf3, huf⟩
  have hF : Fr ha he := (hfb.thenM hf2 hmb).thenM hf3 hmb
  have hge := (hF.get h.next (by omega)).trans hga
  have hL := leastG_len n n (redF n c) h1 h2 (by omega)
  have hst := fun hh => stV_agg2 hh he.next 0 (v := .int .i64 ((leastF n (redF n c)).1 : Int)) (u := u) rfl hu.what.2.1
  have hst2 := fun hh => stV_agg2 hh h.next 0 (v := .int .i64 0) (u := .nils) rfl rfl
  have hst3 := fun hh => stV_agg2 hh h.next 0 (v := .int .i64 ((leastF n (redF n c)).1 : Int)) (u := u) rfl hu.what.2.1
  have hxn := hF.next
  simp (disch := first | omega | (simp only [Qn] <;> omega)) only [go_sem, hst, List.getElem?_cons_zero, List.getElem?_cons_succ]
  have hu2 : SI ((he.new (.cells false [.int .i64 0, .nils])).set he.next (some (.cells false [.int .i64 ((leastF n (redF n c)).1 : Int), u]))) u (leastF n (redF n c)).2 :=
    SV.set_ne (SV.mono hu ((Fr.refl he).new _)) (fun off len cc e => by subst e; have := SV.ne_of hu; omega) _
  have hF2 : Fr ha ((he.new (.cells false [.int .i64 0, .nils])).set he.next (some (.cells false [.int .i64 ((leastF n (redF n c)).1 : Int), u]))) := (hF.new _).set hxn _
  have hgf : ((he.new (.cells false [.int .i64 0, .nils])).set he.next (some (.cells false [.int .i64 ((leastF n (redF n c)).1 : Int), u]))).get he.next = some (.cells false [.int .i64 ((leastF n (redF n c)).1 : Int), u]) := H.get_set_same ..
  generalize (he.new (.cells false [.int .i64 0, .nils])).set he.next (some (.cells false [.int .i64 ((leastF n (redF n c)).1 : Int), u])) = hg at *
  have hgg := (hF2.get h.next (by omega)).trans hga
  refine (contains_ok u _ (leastF n (redF n c)).2 overF _ hu2 (by have := hL.2.1; have := hL.2.2; unfold leastF; omega) test_over).mono ?_
  rintro v4 h4 ⟨rfl, rfl⟩
  simp (disch := first | omega | (simp only [Qn] <;> omega)) only [go_sem]
  refine iteW_bool (fun hp => ?_) (fun hp => ?_)
  · have hm : madeF n c = ((0, []), 5) := by simp only [madeF]; rw [if_pos hp]
    have hrow := row_two (h := h4.set h.next (some (.cells false [.int .i64 0, .nils]))) (H.get_set_same ..)
    simp (disch := first | omega | (simp only [Qn] <;> omega)) only [go_sem, hst2, hgg, hrow]
    rw [hm]
    exact ⟨_, rfl, CycO.zero _ _, (hfa.trans hF2).set (Nat.le_refl _) _⟩
  · have hm : madeF n c = ((((leastF n (redF n c)).1 : Int), (leastF n (redF n c)).2), 0) := by simp only [madeF]; rw [if_neg (by rw [hp]; simp)]
    have hrow := row_two (h := h4.set h.next (some (.cells false [.int .i64 ((leastF n (redF n c)).1 : Int), u]))) (H.get_set_same ..)
    have hrow4 := row_two hgf
    simp (disch := first | omega | (simp only [Qn] <;> omega)) only [go_sem, hst3, hgg, hrow, hrow4]
    rw [hm]
    exact ⟨_, rfl, ⟨_, rfl, SV.set_ne hu2 (fun off len cc e => by
      rcases huf with h7 | h7
      · rw [h7] at e
        rcases ho2 with ⟨h8, _⟩ | ⟨id', _, _, _, h8, _, _, h9, _⟩
        · rw [h8] at e; cases e
        · rw [h8] at e; cases e; have := hfb.next; omega
      · have := h7 _ _ _ _ e; have := hfb.next; have := hf2.next; omega) _, fun id off n c e => by
      rcases huf with h7 | h7
      · rw [h7] at e
        rcases ho2 with ⟨h8, _⟩ | ⟨id', _, _, _, h8, _, _, h9, _⟩
        · rw [h8] at e; cases e
        · rw [h8] at e; cases e; have := hfb.next; omega
      · have := h7 _ _ _ _ e; have := hfb.next; have := hf2.next; omega⟩, (hfa.trans hF2).set (Nat.le_refl _) _⟩
end
end Go.Proofs.Ythfabknpogbcaaa
/- Contracts: Check, Phi, Make, Root, Int. -/
namespace Go.Proofs.Ythfabknpogbcaaa
open Go Go.Ay
set_option maxRecDepth 100000
noncomputable section

def checkF (a : Int × List Int) : Int :=
  if a.1 < 1 ∨ 120 < a.1 then 2 else if a.2.length ≠ (phiF a.1.toNat).length - 1 then 3 else if a.2.any overF then 5 else if (leastF a.1.toNat a.2).1 < a.1.toNat then 3 else 0

set_option maxHeartbeats 1000000 in
theorem check_ok (v : V) (a : Int × List Int) (h : H) (ha : CycV h v a) (hl : a.2.length < 1000000) :
    Ev T n_cyclo_Check [v] h (fun v h' => v = .int .i64 (checkF a) ∧ Fr h h') := by
  obtain ⟨u, rfl, hu⟩ := ha
  obtain ⟨N, C⟩ := a
  refine Ev_of t_cyclo_Check rfl ?_
  simp (disch := first | omega | (simp only [Qn] <;> omega)) only [go_sem, c_cyclo_Check, initV_eq, boxV_agg2 h (v := .int .i64 N) rfl hu.what.2.1]
  have hfa : Fr h (h.new (.cells false [.int .i64 N, u])) := (Fr.refl h).new _
  have hga : (h.new (.cells false [.int .i64 N, u])).get h.next = some (.cells false [.int .i64 N, u]) := H.get_new_same ..
  have hna : (h.new (.cells false [.int .i64 N, u])).next = h.next + 1 := H.next_new ..
  generalize h.new (.cells false [.int .i64 N, u]) = ha at *
  by_cases h1 : N < 1
  · rw [decide_eq_true h1]
    simp (disch := first | omega | (simp only [Qn] <;> omega)) only [go_sem]
    exact ⟨by rw [checkF, if_pos (.inl h1)], hfa⟩
  rw [decide_eq_false h1]
  have c0 : ha.cell h.next 0 = some (.int .i64 N) := by rw [H.cell_of hga]; rfl
  have c1 : ha.cell h.next 1 = some u := by rw [H.cell_of hga]; rfl
  simp (disch := first | omega | (simp only [Qn] <;> omega)) only [go_sem, c0]
  refine iteW_dec (fun h2 => ?_) (fun h2 => ?_)
  · simp (disch := first | omega | (simp only [Qn] <;> omega)) only [go_sem]
    exact ⟨by rw [checkF, if_pos (.inr h2)], hfa⟩
  obtain ⟨n, hn⟩ : ∃ n : Nat, N = (n : Int) := ⟨N.toNat, by omega⟩
  subst hn
  simp (disch := first | omega | (simp only [Qn] <;> omega)) only [go_sem]
  refine (begin_ok ha).mono ?_
  rintro v1 hb ⟨tid, mid, rfl, ht, hfb⟩
  have htb := ht.tb
  have hmb := ht.mb
  have hab := hfa.trans hfb
  have hgb := (hfb.get h.next (by omega)).trans hga
  have d0 : hb.cell h.next 0 = some (.int .i64 (n : Int)) := by rw [H.cell_of hgb]; rfl
  have d1 : hb.cell h.next 1 = some u := by rw [H.cell_of hgb]; rfl
  have hub := hu.mono hab
  simp (disch := first | omega | (simp only [Qn] <;> omega)) only [go_sem, d0, d1, hub.lens]
  refine (phi_ok tid mid _ n _ (by omega) (by omega) (ht.fr ((Fr.refl hb).bump (by omega)))).mono ?_
  rintro v2 hd ⟨ht2, hp2, hf2⟩
  have hpl := phi_len (n := n) (by omega) (by omega)
  have hbd : Fr ha hd := Fr.thenM (hfb.bump (by omega)) hf2 hmb
  have hgd := (hbd.get h.next (by omega)).trans hga
  have e0 : hd.cell h.next 0 = some (.int .i64 (n : Int)) := by rw [H.cell_of hgd]; rfl
  have e1 : hd.cell h.next 1 = some u := by rw [H.cell_of hgd]; rfl
  simp (disch := first | omega | (simp only [Qn] <;> omega)) only [go_sem, e0, e1, hp2.lens, hub.eqV, if_true, if_false]
  have hN : (n : Int).toNat = n := Int.toNat_natCast n
  have hFd : Fr h hd := hfa.trans hbd
  refine iteW_dec (fun h3 => ?_) (fun h3 => ?_)
  · simp (disch := first | omega | (simp only [Qn] <;> omega)) only [go_sem]
    exact ⟨by rw [checkF, if_neg (by simp only; omega), if_pos (by simp only [hN]; omega)], hFd⟩
  simp (disch := first | omega | (simp only [Qn] <;> omega)) only [go_sem, e1]
  have hud := hu.mono hFd
  refine (contains_ok u _ C overF _ hud hl test_over).mono ?_
  rintro v3 h4 ⟨rfl, rfl⟩
  simp (disch := first | omega | (simp only [Qn] <;> omega)) only [go_sem]
  refine iteW_bool (fun h5 => ?_) (fun h5 => ?_)
  · simp (disch := first | omega | (simp only [Qn] <;> omega)) only [go_sem]
    exact ⟨by rw [checkF, if_neg (by simp only; omega), if_neg (by simp only [hN]; omega), if_pos h5], hFd⟩
  simp (disch := first | omega | (simp only [Qn] <;> omega)) only [go_sem, e0, e1]
  have hlen : C.length ≤ n := by omega
  refine (least_ok tid mid _ n u C _ (by omega) (by omega) (ht2.fr ((Fr.refl h4).bump (by omega))) (hud.mono ((Fr.refl h4).bump (by omega))) hlen).mono ?_
  rintro v5 h5' ⟨w, rfl, hw, ht5, hf5, _⟩
  have hb5 : Fr ha h5' := Fr.thenM (hbd.bump (by omega)) hf5 (by omega)
  have hg5 := (hb5.get h.next (by omega)).trans hga
  have f0 : h5'.cell h.next 0 = some (.int .i64 (n : Int)) := by rw [H.cell_of hg5]; rfl
  simp (disch := first | omega | (simp only [Qn] <;> omega)) only [go_sem, f0]
  refine iteW_dec (fun h6 => ?_) (fun h6 => ?_)
  · simp (disch := first | omega | (simp only [Qn] <;> omega)) only [go_sem]
    exact ⟨by rw [checkF, if_neg (by simp only; omega), if_neg (by simp only [hN]; omega), if_neg (by rw [h5]; simp), if_pos (by simp only [hN]; omega)], hfa.trans hb5⟩
  · simp (disch := first | omega | (simp only [Qn] <;> omega)) only [go_sem]
    exact ⟨by rw [checkF, if_neg (by simp only; omega), if_neg (by simp only [hN]; omega), if_neg (by rw [h5]; simp), if_neg (by simp only [hN]; omega)], hfa.trans hb5⟩

def phiP (n : Int) : List Int × Int := if n < 1 ∨ 120 < n then ([], 2) else (phiF n.toNat, 0)
theorem Phi_ok (n : Int) (h : H) : Ev T n_cyclo_Phi [.int .i64 n] h (fun v h' => ∃ u, v = .tup [u, .int .i64 (phiP n).2] ∧ SI h' u (phiP n).1 ∧ Fr h h') := by
  refine Ev_of t_cyclo_Phi rfl ?_
  simp (disch := first | omega | (simp only [Qn] <;> omega)) only [go_sem, c_cyclo_Phi, initV_eq]
  by_cases h1 : n < 1
  · rw [decide_eq_true h1]
    simp (disch := first | omega | (simp only [Qn] <;> omega)) only [go_sem]
    rw [phiP, if_pos (.inl h1)]
    exact ⟨_, rfl, SI.nils _, Fr.refl h⟩
  rw [decide_eq_false h1]
  simp (disch := first | omega | (simp only [Qn] <;> omega)) only [go_sem]
  refine iteW_dec (fun h2 => ?_) (fun h2 => ?_)
  · simp (disch := first | omega | (simp only [Qn] <;> omega)) only [go_sem]
    rw [phiP, if_pos (.inr h2)]
    exact ⟨_, rfl, SI.nils _, Fr.refl h⟩
  obtain ⟨m, hm⟩ : ∃ m : Nat, n = (m : Int) := ⟨n.toNat, by omega⟩
  subst hm
  simp (disch := first | omega | (simp only [Qn] <;> omega)) only [go_sem]
  refine (begin_ok _).mono ?_
  rintro v1 hb ⟨tid, mid, rfl, ht, hfb⟩
  simp (disch := first | omega | (simp only [Qn] <;> omega)) only [go_sem]
  refine (phi_ok tid mid _ m _ (by omega) (by omega) ht).mono ?_
  rintro v2 hd ⟨ht2, hp2, hf2⟩
  simp (disch := first | omega | (simp only [Qn] <;> omega)) only [go_sem]
  rw [phiP, if_neg (by omega), Int.toNat_natCast]
  exact ⟨_, rfl, hp2, hfb.thenM hf2 ht.mb⟩

def accF (ix : Nat → Nat) (val : Nat → Int) (l0 : List Int) : Nat → List Int
  | 0 => l0
  | k + 1 => (accF ix val l0 k).set (ix k) (W ((accF ix val l0 k).getD (ix k) 0 + val k))
theorem accF_len (ix : Nat → Nat) (val : Nat → Int) (l0 : List Int) : ∀ k, (accF ix val l0 k).length = l0.length
  | 0 => rfl
  | k + 1 => by rw [accF, List.length_set, accF_len ix val l0 k]
def makeF (n : Int) (c : List Int) : (Int × List Int) × Int :=
  if n < 1 ∨ 120 < n then ((0, []), 2) else if 1000 < c.length then ((0, []), 4) else if c.any overF then ((0, []), 5) else madeF n.toNat (accF (fun i => i % n.toNat) (fun i => c.getD i 0) (List.replicate n.toNat 0) c.length)

set_option maxHeartbeats 1000000 in
theorem make_ok (n : Int) (vc : V) (c : List Int) (h : H) (hc : SI h vc c) (hl : c.length < 1000000) :
    Ev T n_cyclo_Make [.int .i64 n, vc] h (fun v h' => ∃ w, v = .tup [w, .int .i64 (makeF n c).2] ∧ CycO h' w (makeF n c).1 h.next ∧ Fr h h') := by
  refine Ev_of t_cyclo_Make rfl ?_
  simp (disch := first | omega | (simp only [Qn] <;> omega)) only [go_sem, c_cyclo_Make, initV_eq]
  have hfa : Fr h (h.new (.cells false [.int .i64 0, .nils])) := (Fr.refl h).new _
  have hga : (h.new (.cells false [.int .i64 0, .nils])).get h.next = some (.cells false [.int .i64 0, .nils]) := H.get_new_same ..
  have hna : (h.new (.cells false [.int .i64 0, .nils])).next = h.next + 1 := H.next_new ..
  have hst2 := fun hh => stV_agg2 hh h.next 0 (v := .int .i64 0) (u := .nils) rfl rfl
  generalize h.new (.cells false [.int .i64 0, .nils]) = ha at *
  have hrow0 := row_two (h := ha.set h.next (some (.cells false [.int .i64 0, .nils]))) (H.get_set_same ..)
  have hzero : Fr h (ha.set h.next (some (.cells false [.int .i64 0, .nils]))) := hfa.set (Nat.le_refl _) _
  by_cases h1 : n < 1
  · rw [decide_eq_true h1]
    simp (disch := first | omega | (simp only [Qn] <;> omega)) only [go_sem, hst2, hga, hrow0]
    rw [makeF, if_pos (.inl h1)]
    exact ⟨_, rfl, CycO.zero _ _, hzero⟩
  rw [decide_eq_false h1]
  simp (disch := first | omega | (simp only [Qn] <;> omega)) only [go_sem]
  refine iteW_dec (fun h2 => ?_) (fun h2 => ?_)
  · simp (disch := first | omega | (simp only [Qn] <;> omega)) only [go_sem, hst2, hga, hrow0]
    rw [makeF, if_pos (.inr h2)]
    exact ⟨_, rfl, CycO.zero _ _, hzero⟩
  simp (disch := first | omega | (simp only [Qn] <;> omega)) only [go_sem, hc.lens]
  refine iteW_dec (fun h3 => ?_) (fun h3 => ?_)
  · simp (disch := first | omega | (simp only [Qn] <;> omega)) only [go_sem, hst2, hga, hrow0]
    rw [makeF, if_neg (by omega), if_pos (by omega)]
    exact ⟨_, rfl, CycO.zero _ _, hzero⟩
  simp (disch := first | omega | (simp only [Qn] <;> omega)) only [go_sem]
  refine (contains_ok vc _ c overF _ (hc.mono hfa) hl test_over).mono ?_
  rintro v3 h4 ⟨rfl, rfl⟩
  simp (disch := first | omega | (simp only [Qn] <;> omega)) only [go_sem]
  refine iteW_bool (fun h5 => ?_) (fun h5 => ?_)
  · simp (disch := first | omega | (simp only [Qn] <;> omega)) only [go_sem, hst2, hga, hrow0]
    rw [makeF, if_neg (by omega), if_neg (by omega), if_pos h5]
    exact ⟨_, rfl, CycO.zero _ _, hzero⟩
  obtain ⟨m, hm⟩ : ∃ m : Nat, n = (m : Int) := ⟨n.toNat, by omega⟩
  subst hm
  have hmk : makeF (m : Int) c = madeF m (accF (fun i => i % m) (fun i => c.getD i 0) (List.replicate m 0) c.length) := by
    rw [makeF, if_neg (by omega), if_neg (by omega), if_neg (by rw [h5]; simp), Int.toNat_natCast]
  rw [hmk]
  simp (disch := first | omega | (simp only [Qn] <;> omega)) only [go_sem, hc.lens]
  obtain ⟨cid, coff, hcs, hcid, hcc⟩ := hc.open
  have hnb : (h4.new (.cells false (ints (List.replicate m 0)))).next = h4.next + 1 := H.next_new ..
  have hgb : (h4.new (.cells false (ints (List.replicate m 0)))).get h4.next = some (.cells false (ints (List.replicate m 0))) := H.get_new_same ..
  have hfb : Fr h4 (h4.new (.cells false (ints (List.replicate m 0)))) := (Fr.refl h4).new _
  generalize h4.new (.cells false (ints (List.replicate m 0))) = hb at *
  refine Wp_loop (fun k' vars h3 => ∃ (k : Nat), (∃ g : Nat → V, vars = [.int .i64 (m : Int), vc, .ptr h.next 0, g 3, .sl h4.next 0 m (.kn m), g 5, g 6, g 7, g 8, g 9, vc, .int .i64 (c.length : Int), .int .i64 (k : Int), g 13]) ∧ k ≤ c.length ∧
    h3.get h4.next = some (.cells false (ints (accF (fun i => i % m) (fun i => c.getD i 0) (List.replicate m 0) k))) ∧ Fr h4 h3 ∧ h4.next < h3.next ∧ k' = c.length - k) c.length
    ⟨0, ex_junk rfl, Nat.zero_le _, hgb, hfb, by omega, rfl⟩ ?_
  rintro k' vars h3 ⟨k, ⟨g, rfl⟩, hk, hg3, hf3, hn3, rfl⟩
  have hal := accF_len (fun i => i % m) (fun i => c.getD i 0) (List.replicate m 0) k
  rw [List.length_replicate] at hal
  simp (disch := first | omega | (simp only [Qn] <;> omega)) only [go_sem]
  by_cases hkc : (k : Int) < (c.length : Int)
  · rw [decide_eq_true hkc]
    have hcc3 := cells_fr (hfa.trans hf3) hcid hcc
    have hkm : k % m < m := Nat.mod_lt _ (by omega)
    have em : (k : Int).tmod (m : Int) = ((k % m : Nat) : Int) := tmod_nat ..
    have hstep : accF (fun i => i % m) (fun i => c.getD i 0) (List.replicate m 0) (k + 1) = (accF (fun i => i % m) (fun i => c.getD i 0) (List.replicate m 0) k).set (k % m) (W ((accF (fun i => i % m) (fun i => c.getD i 0) (List.replicate m 0) k).getD (k % m) 0 + c.getD k 0)) := rfl
    generalize k % m = r at hkm em hstep
    simp (disch := first | omega | (simp only [Qn] <;> omega)) only [go_sem, hcs.ixa, hcc3, em, own_cell hg3, hg3]
    rw [show (k : Int) + 1 = ((k + 1 : Nat) : Int) from by omega]
    refine ⟨c.length - (k + 1), by omega, k + 1, ex_junk rfl, by omega, by rw [hstep], ?_, by omega, rfl⟩
    exact hf3.set (Nat.le_refl _) _
  · rw [decide_eq_false hkc]
    have : c.length = k := by omega
    subst this
    simp (disch := first | omega | (simp only [Qn] <;> omega)) only [go_sem]
    have hsi : SI h3 (.sl h4.next 0 m (.kn m)) (accF (fun i => i % m) (fun i => c.getD i 0) (List.replicate m 0) c.length) := by
      have := SI.own (h := h3) (id := h4.next) (by omega) hg3 (.kn m)
      rw [hal] at this; exact this
    refine (made_ok m _ _ h3 (by omega) (by omega) hsi (by omega)).mono ?_
    rintro v5 h5' ⟨w, rfl, hcy, hf5⟩
    generalize madeF m _ = M at *
    have hf45 : Fr h4 h5' := hf3.trans hf5
    have hg5 := (hf45.get h.next (by omega)).trans hga
    obtain ⟨u, rfl, hu, hfu⟩ := hcy
    have hst3 := fun hh => stV_agg2 hh h.next 0 (v := .int .i64 M.1.1) (u := u) rfl hu.what.2.1
    have hrow := row_two (h := h5'.set h.next (some (.cells false [.int .i64 M.1.1, u]))) (H.get_set_same ..)
    simp (disch := first | omega | (simp only [Qn] <;> omega)) only [go_sem, hst3, hg5, hrow]
    exact ⟨_, rfl, (CycO.set ⟨u, rfl, hu, hfu⟩ (by omega) _).le (by omega), (hfa.trans hf45).set (Nat.le_refl _) _⟩
end
end Go.Proofs.Ythfabknpogbcaaa
/- Contracts: Root, Int, the common order. -/
namespace Go.Proofs.Ythfabknpogbcaaa
open Go Go.Ay
set_option maxRecDepth 100000
noncomputable section

theorem bls_int1 (h : H) (a : Int) : blsV h 1 [.int .i64 0] 1 [(0, 1, .int .i64 a)] = some (.sl h.next 0 1 (.kn 1), h.new (.cells false (ints [a]))) := rfl
theorem bls_int2 (h : H) (a b : Int) : blsV h 1 [.int .i64 0] 2 [(0, 1, .int .i64 a), (1, 1, .int .i64 b)] = some (.sl h.next 0 2 (.kn 2), h.new (.cells false (ints [a, b]))) := rfl

def rootF (n k : Int) : (Int × List Int) × Int :=
  if n < 1 ∨ 120 < n then ((0, []), 2) else madeF n.toNat ((List.replicate n.toNat 0).set (k % n).toNat 1)

theorem Root_ok (n k : Int) (h : H) : Ev T n_cyclo_Root [.int .i64 n, .int .i64 k] h (fun v h' => ∃ w, v = .tup [w, .int .i64 (rootF n k).2] ∧ CycO h' w (rootF n k).1 h.next ∧ Fr h h') := by
  refine Ev_of t_cyclo_Root rfl ?_
  simp (disch := first | omega | (simp only [Qn] <;> omega)) only [go_sem, c_cyclo_Root, initV_eq]
  have hfa : Fr h (h.new (.cells false [.int .i64 0, .nils])) := (Fr.refl h).new _
  have hga : (h.new (.cells false [.int .i64 0, .nils])).get h.next = some (.cells false [.int .i64 0, .nils]) := H.get_new_same ..
  have hna : (h.new (.cells false [.int .i64 0, .nils])).next = h.next + 1 := H.next_new ..
  have hst2 := fun hh => stV_agg2 hh h.next 0 (v := .int .i64 0) (u := .nils) rfl rfl
  generalize h.new (.cells false [.int .i64 0, .nils]) = ha at *
  have hrow0 := row_two (h := ha.set h.next (some (.cells false [.int .i64 0, .nils]))) (H.get_set_same ..)
  have hzero : Fr h (ha.set h.next (some (.cells false [.int .i64 0, .nils]))) := hfa.set (Nat.le_refl _) _
  by_cases h1 : n < 1
  · rw [decide_eq_true h1]
    simp (disch := first | omega | (simp only [Qn] <;> omega)) only [go_sem, hst2, hga, hrow0]
    rw [rootF, if_pos (.inl h1)]
    exact ⟨_, rfl, CycO.zero _ _, hzero⟩
  rw [decide_eq_false h1]
  simp (disch := first | omega | (simp only [Qn] <;> omega)) only [go_sem]
  refine iteW_dec (fun h2 => ?_) (fun h2 => ?_)
  · simp (disch := first | omega | (simp only [Qn] <;> omega)) only [go_sem, hst2, hga, hrow0]
    rw [rootF, if_pos (.inr h2)]
    exact ⟨_, rfl, CycO.zero _ _, hzero⟩
  obtain ⟨m, hm⟩ : ∃ m : Nat, n = (m : Int) := ⟨n.toNat, by omega⟩
  subst hm
  rw [rootF, if_neg (by omega), Int.toNat_natCast]
  simp (disch := first | omega | (simp only [Qn] <;> omega)) only [go_sem]
  have hnb : (ha.new (.cells false (ints (List.replicate m 0)))).next = ha.next + 1 := H.next_new ..
  have hgb : (ha.new (.cells false (ints (List.replicate m 0)))).get ha.next = some (.cells false (ints (List.replicate m 0))) := H.get_new_same ..
  have hfb : Fr ha (ha.new (.cells false (ints (List.replicate m 0)))) := (Fr.refl ha).new _
  generalize ha.new (.cells false (ints (List.replicate m 0))) = hb at *
  refine (residue_ok k m hb (by omega) (by omega)).mono ?_
  rintro v3 h3 ⟨rfl, rfl⟩
  have hr0 := Int.emod_nonneg k (show (m : Int) ≠ 0 by omega)
  have hr1 := Int.emod_lt_of_pos k (show (0 : Int) < m by omega)
  have hre : k % (m : Int) = (((k % (m : Int)).toNat : Nat) : Int) := by omega
  generalize hR : (k % (m : Int)).toNat = r at *
  rw [hre]
  have hrm : r < m := by omega
  clear hre hR hr0 hr1
  simp (disch := first | omega | (simp only [Qn] <;> omega)) only [go_sem, hgb]
  have hsi : SI (h3.set ha.next (some (.cells false (ints ((List.replicate m 0).set r 1))))) (.sl ha.next 0 m (.kn m)) ((List.replicate m 0).set r 1) := by
    have := SI.own (h := (h3.set ha.next (some (.cells false (ints ((List.replicate m 0).set r 1)))))) (id := ha.next) (by rw [H.next_set]; omega) (H.get_set_same ..) (.kn m)
    rw [List.length_set, List.length_replicate] at this; exact this
  refine (made_ok m _ _ _ (by omega) (by omega) hsi (by rw [List.length_set, List.length_replicate]; omega)).mono ?_
  rintro v5 h5' ⟨w, rfl, hcy, hf5⟩
  generalize madeF m _ = M at *
  have hf45 : Fr ha h5' := (hfb.set (Nat.le_refl _) _).trans hf5
  have hg5 := (hf45.get h.next (by omega)).trans hga
  obtain ⟨u, rfl, hu, hfu⟩ := hcy
  have hst3 := fun hh => stV_agg2 hh h.next 0 (v := .int .i64 M.1.1) (u := u) rfl hu.what.2.1
  have hrow := row_two (h := h5'.set h.next (some (.cells false [.int .i64 M.1.1, u]))) (H.get_set_same ..)
  simp (disch := first | omega | (simp only [Qn] <;> omega)) only [go_sem, hst3, hg5, hrow]
  rw [H.next_set] at hfu
  exact ⟨_, rfl, (CycO.set ⟨u, rfl, hu, hfu⟩ (by omega) _).le (by omega), (hfa.trans hf45).set (Nat.le_refl _) _⟩

theorem Int_ok (k : Int) (h : H) : Ev T n_cyclo_Int [.int .i64 k] h (fun v h' => ∃ w, v = .tup [w, .int .i64 (makeF 1 [k]).2] ∧ CycO h' w (makeF 1 [k]).1 h.next ∧ Fr h h') := by
  refine Ev_of t_cyclo_Int rfl ?_
  simp (disch := first | omega | (simp only [Qn] <;> omega)) only [go_sem, c_cyclo_Int, initV_eq]
  have hfa : Fr h (h.new (.cells false [.int .i64 0, .nils])) := (Fr.refl h).new _
  have hga : (h.new (.cells false [.int .i64 0, .nils])).get h.next = some (.cells false [.int .i64 0, .nils]) := H.get_new_same ..
  have hna : (h.new (.cells false [.int .i64 0, .nils])).next = h.next + 1 := H.next_new ..
  generalize h.new (.cells false [.int .i64 0, .nils]) = ha at *
  simp (disch := first | omega | (simp only [Qn] <;> omega)) only [go_sem, bls_int1]
  have hsi : SI (ha.new (.cells false (ints [k]))) (.sl ha.next 0 1 (.kn 1)) [k] := SI.own (h := ha.new (.cells false (ints [k]))) (id := ha.next) (l := [k]) (by rw [H.next_new]; omega) (H.get_new_same ..) (.kn 1)
  refine (make_ok 1 _ [k] _ hsi (by simp)).mono ?_
  rintro v5 h5' ⟨w, rfl, hcy, hf5⟩
  generalize makeF 1 _ = M at *
  have hf45 : Fr ha h5' := ((Fr.refl ha).new _).trans hf5
  have hg5 := (hf45.get h.next (by omega)).trans hga
  obtain ⟨u, rfl, hu, hfu⟩ := hcy
  have hst3 := fun hh => stV_agg2 hh h.next 0 (v := .int .i64 M.1.1) (u := u) rfl hu.what.2.1
  have hrow := row_two (h := h5'.set h.next (some (.cells false [.int .i64 M.1.1, u]))) (H.get_set_same ..)
  simp (disch := first | omega | (simp only [Qn] <;> omega)) only [go_sem, hst3, hg5, hrow]
  rw [H.next_new] at hfu
  exact ⟨_, rfl, (CycO.set ⟨u, rfl, hu, hfu⟩ (by omega) _).le (by omega), (hfa.trans hf45).set (Nat.le_refl _) _⟩

def orF (l : List Int) : Int := (l.find? (fun x => decide (x ≠ 0))).getD 0
theorem or_ok (v : V) (l : List Int) (h : H) (hs : SI h v l) (hl : l.length < 1000000) : Ev T n_cmp_Or_api_Errno [v] h (fun v h' => v = .int .i64 (orF l) ∧ h' = h) := by
  refine Ev_of t_cmp_Or_api_Errno rfl ?_
  obtain ⟨id, off, hsl, hid, hc⟩ := hs.open
  simp (disch := first | omega | (simp only [Qn] <;> omega)) only [go_sem, c_cmp_Or_api_Errno, initV_eq, hs.lens]
  refine Wp_loop (fun k' vars h2 => ∃ (k : Nat), (∃ g : Nat → V, vars = [g 0, g 1, .int .i64 0, g 3, v, .int .i64 (l.length : Int), .int .i64 (k : Int), g 7, g 8]) ∧ k ≤ l.length ∧ h2 = h ∧ orF l = orF (l.drop k) ∧ k' = l.length - k) l.length
    ⟨0, ex_junk rfl, Nat.zero_le _, rfl, rfl, rfl⟩ ?_
  rintro k' vars h2 ⟨k, ⟨g, rfl⟩, hk, rfl, hor, rfl⟩
  simp (disch := first | omega | (simp only [Qn] <;> omega)) only [go_sem]
  refine iteW_dec (fun hlt => ?_) (fun hge => ?_)
  · have hd : l.drop k = l.getD k 0 :: l.drop (k + 1) := by
      rw [List.drop_eq_getElem_cons (by omega), List.getD_eq_getElem?_getD, List.getElem?_eq_getElem (by omega)]; rfl
    simp (disch := first | omega | (simp only [Qn] <;> omega)) only [go_sem, hsl.ixa, hc]
    refine iteW_dec (fun hne => ?_) (fun he => ?_)
    · simp (disch := first | omega | (simp only [Qn] <;> omega)) only [go_sem]
      refine ⟨?_, trivial⟩
      rw [hor, hd, orF, List.find?_cons, decide_eq_true hne]; rfl
    · simp (disch := first | omega | (simp only [Qn] <;> omega)) only [go_sem]
      rw [show (k : Int) + 1 = ((k + 1 : Nat) : Int) from by omega]
      refine ⟨l.length - (k + 1), by omega, k + 1, ex_junk rfl, by omega, ?_, rfl⟩
      rw [hor, hd, orF, List.find?_cons, decide_eq_false he]; rfl
  · simp (disch := first | omega | (simp only [Qn] <;> omega)) only [go_sem]
    refine ⟨?_, trivial⟩
    rw [hor, List.drop_of_length_le (by omega)]; rfl

def commonF (a b : Int × List Int) : Int × Int :=
  if orF [checkF a, checkF b] ≠ 0 then (0, orF [checkF a, checkF b]) else if 120 < a.1 / (Int.gcd a.1 b.1 : Int) * b.1 then (0, 5) else (a.1 / (Int.gcd a.1 b.1 : Int) * b.1, 0)
theorem check_range {a : Int × List Int} (h : checkF a = 0) : 1 ≤ a.1 ∧ a.1 ≤ 120 ∧ a.2.length = (phiF a.1.toNat).length - 1 := by
  unfold checkF at h
  split at h
  · cases h
  · rename_i h1
    split at h
    · cases h
    · rename_i h2
      refine ⟨by omega, by omega, by omega⟩
theorem or_zero {a b : Int} (h : orF [a, b] = 0) : a = 0 ∧ b = 0 := by
  unfold orF at h
  simp only [List.find?_cons, List.find?_nil] at h
  by_cases ha : a = 0
  · subst ha
    simp at h
    by_cases hb : b = 0
    · exact ⟨rfl, hb⟩
    · simp [hb] at h
  · simp [ha] at h

set_option maxHeartbeats 1000000 in
theorem common_ok (va vb : V) (a b : Int × List Int) (h : H) (ha : CycV h va a) (hb : CycV h vb b) (hla : a.2.length < 1000000) (hlb : b.2.length < 1000000) :
    Ev T n_cyclo_common [va, vb] h (fun v h' => v = .tup [.int .i64 (commonF a b).1, .int .i64 (commonF a b).2] ∧ Fr h h') := by
  obtain ⟨u, rfl, hu⟩ := ha
  obtain ⟨w, rfl, hw⟩ := hb
  obtain ⟨N, A⟩ := a
  obtain ⟨M, B⟩ := b
  refine Ev_of t_cyclo_common rfl ?_
  simp (disch := first | omega | (simp only [Qn] <;> omega)) only [go_sem, c_cyclo_common, initV_eq, boxV_agg2 h (v := .int .i64 N) rfl hu.what.2.1]
  have hfa : Fr h (h.new (.cells false [.int .i64 N, u])) := (Fr.refl h).new _
  have hga : (h.new (.cells false [.int .i64 N, u])).get h.next = some (.cells false [.int .i64 N, u]) := H.get_new_same ..
  have hna : (h.new (.cells false [.int .i64 N, u])).next = h.next + 1 := H.next_new ..
  generalize h.new (.cells false [.int .i64 N, u]) = ha at *
  simp (disch := first | omega | (simp only [Qn] <;> omega)) only [go_sem, boxV_agg2 ha (v := .int .i64 M) rfl hw.what.2.1]
  have hfb : Fr ha (ha.new (.cells false [.int .i64 M, w])) := (Fr.refl ha).new _
  have hgb : (ha.new (.cells false [.int .i64 M, w])).get ha.next = some (.cells false [.int .i64 M, w]) := H.get_new_same ..
  have hnb : (ha.new (.cells false [.int .i64 M, w])).next = ha.next + 1 := H.next_new ..
  generalize ha.new (.cells false [.int .i64 M, w]) = hb at *
  have hgab := (hfb.get h.next (by omega)).trans hga
  have r0 : ∀ n, (H.mk hb.tr n).row h.next 0 2 = some [.int .i64 N, u] := fun n => row_two (h := H.mk hb.tr n) hgab
  have r1 : ∀ n, (H.mk hb.tr n).row ha.next 0 2 = some [.int .i64 M, w] := fun n => row_two (h := H.mk hb.tr n) hgb
  rw [← hnb]
  simp (disch := first | omega | (simp only [Qn] <;> omega)) only [go_sem, r0, r1]
  have hF : Fr h (H.mk hb.tr (hb.next + 7)) := (hfa.trans hfb).bump (by omega)
  refine (check_ok _ (N, A) _ ⟨u, rfl, hu.mono hF⟩ hla).mono ?_
  rintro v3 h3 ⟨rfl, hf3⟩
  have hF3 : Fr hb h3 := ((Fr.refl hb).bump (by omega)).trans hf3
  have hg3a := (hF3.get h.next (by omega)).trans hgab
  have hg3b := (hF3.get ha.next (by omega)).trans hgb
  simp (disch := first | omega | (simp only [Qn] <;> omega)) only [go_sem, row_two hg3b, hw.what.1, (show eqV w w = true from SV.eqV hw)]
  refine (check_ok _ (M, B) _ ⟨w, rfl, hw.mono (hF.trans hf3)⟩ hlb).mono ?_
  rintro v4 h4 ⟨rfl, hf4⟩
  have hF4 : Fr hb h4 := hF3.trans hf4
  have hn4 : hb.next + 7 ≤ h4.next := Nat.le_trans hf3.next hf4.next
  simp (disch := first | omega | (simp only [Qn] <;> omega)) only [go_sem, bls_int2]
  obtain ⟨e, he⟩ : ∃ e, [checkF (N, A), checkF (M, B)] = e := ⟨_, rfl⟩
  have hee : orF e = orF [checkF (N, A), checkF (M, B)] := by rw [he]
  rw [he]
  have hel : e.length = 2 := by rw [← he]; rfl
  have hg5 : (H.mk ((H.mk h4.tr (hb.next + 4)).new (.cells false (ints e))).tr h4.next).get (hb.next + 4) = some (.cells false (ints e)) := by
    rw [H.get_next', H.get_new, if_pos rfl]
  have hF5 : Fr hb (H.mk ((H.mk h4.tr (hb.next + 4)).new (.cells false (ints e))).tr h4.next) := ⟨hF4.next, fun id hid => by rw [H.get_next', H.get_new, if_neg (by show id ≠ hb.next + 4; omega)]; exact hF4.get id hid⟩
  have hn5 : (H.mk ((H.mk h4.tr (hb.next + 4)).new (.cells false (ints e))).tr h4.next).next = h4.next := rfl
  generalize H.mk ((H.mk h4.tr (hb.next + 4)).new (.cells false (ints e))).tr h4.next = h5 at *
  have hs5 : SI h5 (.sl (hb.next + 4) 0 2 (.kn 2)) e := by
    have := SI.own (h := h5) (id := hb.next + 4) (by omega) hg5 (.kn 2)
    rw [hel] at this; exact this
  refine (or_ok _ e h5 hs5 (by omega)).mono ?_
  rintro v6 h6 ⟨rfl, rfl⟩
  rw [hee]
  simp (disch := first | omega | (simp only [Qn] <;> omega)) only [go_sem]
  have hF6 : Fr h h6 := (hfa.trans hfb).trans hF5
  refine iteW_dec (fun hne => ?_) (fun hze => ?_)
  · simp (disch := first | omega | (simp only [Qn] <;> omega)) only [go_sem]
    rw [commonF, if_pos hne]
    exact ⟨rfl, hF6⟩
  have hz : orF [checkF (N, A), checkF (M, B)] = 0 := by omega
  obtain ⟨z1, z2⟩ := or_zero hz
  have g1 := check_range z1
  have g2 := check_range z2
  simp only at g1 g2
  rw [commonF, if_neg hze]
  have hg6a := (hF5.get h.next (by omega)).trans hgab
  have hg6b := (hF5.get ha.next (by omega)).trans hgb
  have c0 : ∀ n, (H.mk h6.tr n).cell h.next 0 = some (.int .i64 N) := fun n => by rw [H.cell_of (h := H.mk h6.tr n) hg6a]; rfl
  have c1 : ∀ n, (H.mk h6.tr n).cell ha.next 0 = some (.int .i64 M) := fun n => by rw [H.cell_of (h := H.mk h6.tr n) hg6b]; rfl
  simp (disch := first | omega | (simp only [Qn] <;> omega)) only [go_sem, c0, c1]
  refine (gcd_ok N M _ (by omega) (by omega)).mono ?_
  rintro v7 h7 ⟨rfl, hf7⟩
  have hF7 : Fr hb h7 := (hF5.bump (by omega)).trans hf7
  have hg7a := (hF7.get h.next (by omega)).trans hgab
  have hg7b := (hF7.get ha.next (by omega)).trans hgb
  have d0 : h7.cell h.next 0 = some (.int .i64 N) := by rw [H.cell_of hg7a]; rfl
  have d1 : h7.cell ha.next 0 = some (.int .i64 M) := by rw [H.cell_of hg7b]; rfl
  have hG : 1 ≤ Int.gcd N M := Nat.one_le_iff_ne_zero.2 (fun e => by rw [Int.gcd_eq_zero_iff] at e; omega)
  have hdv : N.tdiv (Int.gcd N M : Int) = N / (Int.gcd N M : Int) := Int.tdiv_eq_ediv_of_nonneg (by omega)
  have hq0 : 0 ≤ N / (Int.gcd N M : Int) := Int.ediv_nonneg (by omega) (by omega)
  have hq1 : N / (Int.gcd N M : Int) ≤ N := Int.ediv_le_self _ (by omega)
  generalize (Int.gcd N M : Nat) = G at *
  generalize hQ : N / (G : Int) = Q at *
  have hp0 : 0 ≤ Q * M := Int.mul_nonneg hq0 (by omega)
  have hp1 : Q * M ≤ 120 * 120 := Int.mul_le_mul (by omega) (by omega) (by omega) (by omega)
  simp (disch := first | omega | (simp only [Qn] <;> omega)) only [go_sem, d0, d1, hdv, arith_quo]
  refine iteW_dec (fun hlt => ?_) (fun hge => ?_)
  · simp (disch := first | omega | (simp only [Qn] <;> omega)) only [go_sem]
    rw [if_pos hlt]
    exact ⟨rfl, (hfa.trans hfb).trans hF7⟩
  · simp (disch := first | omega | (simp only [Qn] <;> omega)) only [go_sem]
    rw [if_neg hge]
    exact ⟨rfl, (hfa.trans hfb).trans hF7⟩
end
end Go.Proofs.Ythfabknpogbcaaa
/- Contracts: Galois, Conj, Scale. -/
namespace Go.Proofs.Ythfabknpogbcaaa
open Go Go.Ay
set_option maxRecDepth 100000
noncomputable section

def galF (a : Int × List Int) (k : Int) : (Int × List Int) × Int :=
  if checkF a ≠ 0 then ((0, []), checkF a) else if 1 < Int.gcd a.1 (k % a.1) then ((0, []), 18)
  else madeF a.1.toNat (accF (fun i => i * (k % a.1).toNat % a.1.toNat) (fun i => a.2.getD i 0) (List.replicate a.1.toNat 0) a.2.length)

set_option maxHeartbeats 1000000 in
theorem gal_ok (v : V) (a : Int × List Int) (k : Int) (h : H) (ha : CycV h v a) (hl : a.2.length < 1000000) :
    Ev T n_cyclo_Galois [v, .int .i64 k] h (fun v h' => ∃ w, v = .tup [w, .int .i64 (galF a k).2] ∧ CycO h' w (galF a k).1 h.next ∧ Fr h h') := by
  obtain ⟨u, rfl, hu⟩ := ha
  obtain ⟨N, A⟩ := a
  refine Ev_of t_cyclo_Galois rfl ?_
  simp (disch := first | omega | (simp only [Qn] <;> omega)) only [go_sem, c_cyclo_Galois, initV_eq, boxV_agg2 h (v := .int .i64 N) rfl hu.what.2.1]
  have hfx : Fr h (h.new (.cells false [.int .i64 N, u])) := (Fr.refl h).new _
  have hgx : (h.new (.cells false [.int .i64 N, u])).get h.next = some (.cells false [.int .i64 N, u]) := H.get_new_same ..
  have hnx : (h.new (.cells false [.int .i64 N, u])).next = h.next + 1 := H.next_new ..
  generalize h.new (.cells false [.int .i64 N, u]) = hx at *
  rw [← hnx]
  have hfa : Fr hx (hx.new (.cells false [.int .i64 0, .nils])) := (Fr.refl hx).new _
  have hga : (hx.new (.cells false [.int .i64 0, .nils])).get hx.next = some (.cells false [.int .i64 0, .nils]) := H.get_new_same ..
  have hna : (hx.new (.cells false [.int .i64 0, .nils])).next = hx.next + 1 := H.next_new ..
  have hst2 := fun hh => stV_agg2 hh hx.next 0 (v := .int .i64 0) (u := .nils) rfl rfl
  generalize hx.new (.cells false [.int .i64 0, .nils]) = ha at *
  have hgxa := (hfa.get h.next (by omega)).trans hgx
  have hfh := hfx.trans hfa
  simp (disch := first | omega | (simp only [Qn] <;> omega)) only [go_sem, row_two hgxa]
  refine (check_ok _ (N, A) ha ⟨u, rfl, hu.mono hfh⟩ hl).mono ?_
  rintro v1 hb ⟨rfl, hfb⟩
  have hgb := (hfb.get hx.next (by omega)).trans hga
  have hgxb := (hfb.get h.next (by omega)).trans hgxa
  have hrow0 := row_two (h := hb.set hx.next (some (.cells false [.int .i64 0, .nils]))) (H.get_set_same ..)
  have hzero : Fr h (hb.set hx.next (some (.cells false [.int .i64 0, .nils]))) := (hfh.trans hfb).set (by omega) _
  simp (disch := first | omega | (simp only [Qn] <;> omega)) only [go_sem]
  refine iteW_dec (fun h1 => ?_) (fun h1 => ?_)
  · simp (disch := first | omega | (simp only [Qn] <;> omega)) only [go_sem, hst2, hgb, hrow0]
    rw [galF, if_pos h1]
    exact ⟨_, rfl, CycO.zero _ _, hzero⟩
  have h1' : checkF (N, A) = 0 := by omega
  have hrg := check_range h1'
  simp only at hrg
  obtain ⟨m, hm⟩ : ∃ m : Nat, N = (m : Int) := ⟨N.toNat, by omega⟩
  subst hm
  rw [galF, if_neg h1]
  have c0 : hb.cell h.next 0 = some (.int .i64 (m : Int)) := by rw [H.cell_of hgxb]; rfl
  have c1 : hb.cell h.next 1 = some u := by rw [H.cell_of hgxb]; rfl
  simp (disch := first | omega | (simp only [Qn] <;> omega)) only [go_sem, c0]
  refine (residue_ok k m hb (by omega) (by omega)).mono ?_
  rintro v3 h3 ⟨rfl, hh3⟩
  obtain rfl := hh3.symm
  have hnb := hfb.next
  have hr0 := Int.emod_nonneg k (show (m : Int) ≠ 0 by omega)
  have hr1 := Int.emod_lt_of_pos k (show (0 : Int) < m by omega)
  obtain ⟨r, hr⟩ : ∃ r : Nat, k % (m : Int) = (r : Int) := ⟨(k % (m : Int)).toNat, by omega⟩
  simp only [hr, Int.toNat_natCast] at hr0 hr1 ⊢
  simp (disch := first | omega | (simp only [Qn] <;> omega)) only [go_sem, c0]
  refine (gcd_ok (m : Int) (r : Int) hb (by omega) (by omega)).mono ?_
  rintro v4 h4 ⟨rfl, hf4⟩
  have hn4 := hf4.next
  have hg4 := (hf4.get hx.next (by omega)).trans hgb
  have hgx4 := (hf4.get h.next (by omega)).trans hgxb
  have hrow4 := row_two (h := h4.set hx.next (some (.cells false [.int .i64 0, .nils]))) (H.get_set_same ..)
  have hzero4 : Fr h (h4.set hx.next (some (.cells false [.int .i64 0, .nils]))) := ((hfh.trans hfb).trans hf4).set (by omega) _
  simp (disch := first | omega | (simp only [Qn] <;> omega)) only [go_sem]
  refine iteW_dec (fun h5 => ?_) (fun h5 => ?_)
  · simp (disch := first | omega | (simp only [Qn] <;> omega)) only [go_sem, hst2, hg4, hrow4]
    rw [if_pos (by omega)]
    exact ⟨_, rfl, CycO.zero _ _, hzero4⟩
  rw [if_neg (by omega)]
  have d0 : h4.cell h.next 0 = some (.int .i64 (m : Int)) := by rw [H.cell_of hgx4]; rfl
  have d1 : h4.cell h.next 1 = some u := by rw [H.cell_of hgx4]; rfl
  have hF : Fr h h4 := (hfh.trans hfb).trans hf4
  simp (disch := first | omega | (simp only [Qn] <;> omega)) only [go_sem, d0, d1, (hu.mono hF).lens]
  have hn5 : (h4.new (.cells false (ints (List.replicate m 0)))).next = h4.next + 1 := H.next_new ..
  have hg5 : (h4.new (.cells false (ints (List.replicate m 0)))).get h4.next = some (.cells false (ints (List.replicate m 0))) := H.get_new_same ..
  have hf5 : Fr h4 (h4.new (.cells false (ints (List.replicate m 0)))) := (Fr.refl h4).new _
  generalize h4.new (.cells false (ints (List.replicate m 0))) = h5' at *
  have e1 : h5'.cell h.next 1 = some u := by rw [hf5.cell (by omega)]; exact d1
  obtain ⟨cid, coff, hcs, hcid, hcc⟩ := hu.open
  have hpl := phi_len (n := m) (by omega) (by omega)
  rw [Int.toNat_natCast] at hrg
  refine Wp_loop (fun k' vars h6 => ∃ (j : Nat), (∃ g : Nat → V, vars = [g 0, .int .i64 (r : Int), .ptr h.next 0, .ptr hx.next 0, g 4, g 5, .sl h4.next 0 m (.kn m), g 7, g 8, g 9, g 10, u, .int .i64 (A.length : Int), .int .i64 (j : Int), g 14]) ∧ j ≤ A.length ∧
    h6.get h4.next = some (.cells false (ints (accF (fun i => i * r % m) (fun i => A.getD i 0) (List.replicate m 0) j))) ∧ Fr h4 h6 ∧ h4.next < h6.next ∧ k' = A.length - j) A.length
    ⟨0, ex_junk rfl, Nat.zero_le _, hg5, hf5, by omega, rfl⟩ ?_
  rintro k' vars h6 ⟨j, ⟨g, rfl⟩, hj, hg6, hf6, hn6, rfl⟩
  have hal := accF_len (fun i => i * r % m) (fun i => A.getD i 0) (List.replicate m 0) j
  rw [List.length_replicate] at hal
  simp (disch := first | omega | (simp only [Qn] <;> omega)) only [go_sem]
  by_cases hjc : (j : Int) < (A.length : Int)
  · rw [decide_eq_true hjc]
    have hcc6 := cells_fr (hF.trans hf6) hcid hcc
    have hjr : j * r ≤ 120 * 120 := Nat.mul_le_mul (by omega) (by omega)
    have hjm : j * r % m < m := Nat.mod_lt _ (by omega)
    have em0 : (j : Int) * (r : Int) = ((j * r : Nat) : Int) := (Int.natCast_mul ..).symm
    have em : ((j * r : Nat) : Int).tmod (m : Int) = ((j * r % m : Nat) : Int) := tmod_nat ..
    have hstep : accF (fun i => i * r % m) (fun i => A.getD i 0) (List.replicate m 0) (j + 1) = (accF (fun i => i * r % m) (fun i => A.getD i 0) (List.replicate m 0) j).set (j * r % m) (W ((accF (fun i => i * r % m) (fun i => A.getD i 0) (List.replicate m 0) j).getD (j * r % m) 0 + A.getD j 0)) := rfl
    generalize j * r % m = z at hjm em hstep
    generalize j * r = y at hjr em0 em
    have f0 : h6.cell h.next 0 = some (.int .i64 (m : Int)) := by rw [hf6.cell (by omega)]; exact d0
    simp (disch := first | omega | (simp only [Qn] <;> omega)) only [go_sem, hcs.ixa, hcc6, em0, em, f0, own_cell hg6, hg6]
    rw [show (j : Int) + 1 = ((j + 1 : Nat) : Int) from by omega]
    refine ⟨A.length - (j + 1), by omega, j + 1, ex_junk rfl, by omega, by rw [hstep], ?_, by omega, rfl⟩
    exact hf6.set (Nat.le_refl _) _
  · rw [decide_eq_false hjc]
    have : A.length = j := by omega
    subst this
    have f0 : h6.cell h.next 0 = some (.int .i64 (m : Int)) := by rw [hf6.cell (by omega)]; exact d0
    simp (disch := first | omega | (simp only [Qn] <;> omega)) only [go_sem, f0]
    have hsi : SI h6 (.sl h4.next 0 m (.kn m)) (accF (fun i => i * r % m) (fun i => A.getD i 0) (List.replicate m 0) A.length) := by
      have := SI.own (h := h6) (id := h4.next) (by omega) hg6 (.kn m)
      rw [hal] at this; exact this
    refine (made_ok m _ _ h6 (by omega) (by omega) hsi (by omega)).mono ?_
    rintro v7 h7 ⟨w, rfl, hcy, hf7⟩
    generalize madeF m _ = M at *
    have hf47 : Fr h4 h7 := hf6.trans hf7
    have hg7 := (hf47.get hx.next (by omega)).trans hg4
    obtain ⟨u', rfl, hu', hfu⟩ := hcy
    have hst3 := fun hh => stV_agg2 hh hx.next 0 (v := .int .i64 M.1.1) (u := u') rfl hu'.what.2.1
    have hrow := row_two (h := h7.set hx.next (some (.cells false [.int .i64 M.1.1, u']))) (H.get_set_same ..)
    simp (disch := first | omega | (simp only [Qn] <;> omega)) only [go_sem, hst3, hg7, hrow]
    exact ⟨_, rfl, (CycO.set ⟨u', rfl, hu', hfu⟩ (by omega) _).le (by omega), (hF.trans hf47).set (by omega) _⟩

theorem conj_ok (v : V) (a : Int × List Int) (h : H) (ha : CycV h v a) (hl : a.2.length < 1000000) :
    Ev T n_cyclo_Conj [v] h (fun v h' => ∃ w, v = .tup [w, .int .i64 (galF a (-1)).2] ∧ CycO h' w (galF a (-1)).1 h.next ∧ Fr h h') := by
  obtain ⟨u, rfl, hu⟩ := ha
  obtain ⟨N, A⟩ := a
  refine Ev_of t_cyclo_Conj rfl ?_
  simp (disch := first | omega | (simp only [Qn] <;> omega)) only [go_sem, c_cyclo_Conj, initV_eq, boxV_agg2 h (v := .int .i64 N) rfl hu.what.2.1]
  have hfx : Fr h (h.new (.cells false [.int .i64 N, u])) := (Fr.refl h).new _
  have hgx : (h.new (.cells false [.int .i64 N, u])).get h.next = some (.cells false [.int .i64 N, u]) := H.get_new_same ..
  have hnx : (h.new (.cells false [.int .i64 N, u])).next = h.next + 1 := H.next_new ..
  generalize h.new (.cells false [.int .i64 N, u]) = hx at *
  rw [← hnx]
  have hfa : Fr hx (hx.new (.cells false [.int .i64 0, .nils])) := (Fr.refl hx).new _
  have hga : (hx.new (.cells false [.int .i64 0, .nils])).get hx.next = some (.cells false [.int .i64 0, .nils]) := H.get_new_same ..
  have hna : (hx.new (.cells false [.int .i64 0, .nils])).next = hx.next + 1 := H.next_new ..
  generalize hx.new (.cells false [.int .i64 0, .nils]) = ha at *
  have hgxa := (hfa.get h.next (by omega)).trans hgx
  have hfh := hfx.trans hfa
  simp (disch := first | omega | (simp only [Qn] <;> omega)) only [go_sem, row_two hgxa]
  refine (gal_ok _ (N, A) (-1) ha ⟨u, rfl, hu.mono hfh⟩ hl).mono ?_
  rintro v7 h7 ⟨w, rfl, hcy, hf7⟩
  generalize galF _ _ = M at *
  have hg7 := (hf7.get hx.next (by omega)).trans hga
  obtain ⟨u', rfl, hu', hfu⟩ := hcy
  have hst3 := fun hh => stV_agg2 hh hx.next 0 (v := .int .i64 M.1.1) (u := u') rfl hu'.what.2.1
  have hrow := row_two (h := h7.set hx.next (some (.cells false [.int .i64 M.1.1, u']))) (H.get_set_same ..)
  simp (disch := first | omega | (simp only [Qn] <;> omega)) only [go_sem, hst3, hg7, hrow]
  exact ⟨_, rfl, (CycO.set ⟨u', rfl, hu', hfu⟩ (by omega) _).le (by omega), (hfh.trans hf7).set (by omega) _⟩
end
end Go.Proofs.Ythfabknpogbcaaa
/- Contracts: Add, Mul. -/
namespace Go.Proofs.Ythfabknpogbcaaa
open Go Go.Ay
set_option maxRecDepth 100000
noncomputable section

theorem bls_cyc2 (h : H) {N M : Int} {u w : V} (hu : u.one = true) (hw : w.one = true) : blsV h 2 [.int .i64 0, .nils] 2 [(0, 2, .agg [.int .i64 N, u]), (2, 2, .agg [.int .i64 M, w])] = some (.sl h.next 0 2 (.kn 2), h.new (.cells false [.int .i64 N, u, .int .i64 M, w])) := by
  have z : zerosV [V.int .i64 0, .nils] (2 * 2) = [.int .i64 0, .nils, .int .i64 0, .nils] := rfl
  have p1 : putAt [V.int .i64 0, .nils, .int .i64 0, .nils] 0 [.int .i64 N, u] = some [.int .i64 N, u, .int .i64 0, .nils] := by simp [putAt]
  have p2 : putAt [V.int .i64 N, u, .int .i64 0, .nils] 2 [.int .i64 M, w] = some [.int .i64 N, u, .int .i64 M, w] := by simp [putAt]
  have o1 : (V.int .i64 N).one = true := rfl
  have o2 : (V.int .i64 M).one = true := rfl
  simp only [blsV, z, fillV, V.cells, List.length_cons, List.length_nil, List.all_cons, List.all_nil, o1, o2, hu, hw, Bool.and_self, Nat.zero_add, Nat.reduceAdd, and_self, if_true, p1, p2]

def addF (a b : Int × List Int) : (Int × List Int) × Int :=
  if (commonF a b).2 ≠ 0 then ((0, []), (commonF a b).2) else
    madeF (commonF a b).1.toNat (accF (fun i => i * ((commonF a b).1.toNat / b.1.toNat)) (fun i => b.2.getD i 0)
      (accF (fun i => i * ((commonF a b).1.toNat / a.1.toNat)) (fun i => a.2.getD i 0) (List.replicate (commonF a b).1.toNat 0) a.2.length) b.2.length)
theorem common_range {a b : Int × List Int} (h : (commonF a b).2 = 0) : checkF a = 0 ∧ checkF b = 0 ∧ 1 ≤ (commonF a b).1 ∧ (commonF a b).1 ≤ 120 := by
  by_cases h1 : orF [checkF a, checkF b] = 0
  · obtain ⟨z1, z2⟩ := or_zero h1
    have g1 := check_range z1
    have g2 := check_range z2
    unfold commonF at h ⊢
    rw [if_neg (by omega)] at h ⊢
    split at h
    · cases h
    · rename_i h3
      rw [if_neg h3]
      refine ⟨z1, z2, ?_, by simp only; omega⟩
      simp only
      have hG : 1 ≤ Int.gcd a.1 b.1 := Nat.one_le_iff_ne_zero.2 (fun e => by rw [Int.gcd_eq_zero_iff] at e; omega)
      obtain ⟨t, ht⟩ := Int.gcd_dvd_left a.1 b.1
      have hq : a.1 / (Int.gcd a.1 b.1 : Int) = t := by
        rw [ht]
        rw [show Int.gcd ((Int.gcd a.1 b.1 : Int) * t) b.1 = Int.gcd a.1 b.1 by rw [← ht]]
        exact Int.mul_ediv_cancel_left _ (by omega)
      rw [hq]
      have ht1 : 1 ≤ t := by
        rcases Int.lt_or_le 0 t with h | h
        · omega
        · have : (Int.gcd a.1 b.1 : Int) * t ≤ 0 := Int.mul_nonpos_of_nonneg_of_nonpos (by omega) h
          omega
      have := Int.mul_le_mul ht1 g2.1 (by omega) (by omega)
      omega
  · unfold commonF at h
    rw [if_pos h1] at h
    exact absurd h h1

theorem idx_lt {i n N : Nat} (hi : i < N) (hn : 1 ≤ n) : i * (n / N) < n := by
  rcases Nat.eq_zero_or_pos (n / N) with h | h
  · rw [h]; omega
  · have h1 : i * (n / N) < N * (n / N) := Nat.mul_lt_mul_of_pos_right hi h
    have h2 : N * (n / N) ≤ n := Nat.mul_div_le n N
    omega

set_option maxHeartbeats 1000000 in
theorem add_ok (va vb : V) (a b : Int × List Int) (h : H) (ha : CycV h va a) (hb : CycV h vb b) (hla : a.2.length < 1000000) (hlb : b.2.length < 1000000) :
    Ev T n_cyclo_Add [va, vb] h (fun v h' => ∃ w, v = .tup [w, .int .i64 (addF a b).2] ∧ CycO h' w (addF a b).1 h.next ∧ Fr h h') := by
  obtain ⟨u, rfl, hu⟩ := ha
  obtain ⟨w, rfl, hw⟩ := hb
  obtain ⟨N, A⟩ := a
  obtain ⟨M, B⟩ := b
  simp only at hu hw hla hlb
  refine Ev_of t_cyclo_Add rfl ?_
  simp (disch := first | omega | (simp only [Qn] <;> omega)) only [go_sem, c_cyclo_Add, initV_eq, boxV_agg2 h (v := .int .i64 N) rfl hu.what.2.1]
  have hfx : Fr h (h.new (.cells false [.int .i64 N, u])) := (Fr.refl h).new _
  have hgx : (h.new (.cells false [.int .i64 N, u])).get h.next = some (.cells false [.int .i64 N, u]) := H.get_new_same ..
  have hnx : (h.new (.cells false [.int .i64 N, u])).next = h.next + 1 := H.next_new ..
  generalize h.new (.cells false [.int .i64 N, u]) = hx at *
  simp (disch := first | omega | (simp only [Qn] <;> omega)) only [go_sem, boxV_agg2 hx (v := .int .i64 M) rfl hw.what.2.1]
  have hfy : Fr hx (hx.new (.cells false [.int .i64 M, w])) := (Fr.refl hx).new _
  have hgy : (hx.new (.cells false [.int .i64 M, w])).get hx.next = some (.cells false [.int .i64 M, w]) := H.get_new_same ..
  have hny : (hx.new (.cells false [.int .i64 M, w])).next = hx.next + 1 := H.next_new ..
  generalize hx.new (.cells false [.int .i64 M, w]) = hy at *
  rw [← hny]
  have hfa : Fr hy (hy.new (.cells false [.int .i64 0, .nils])) := (Fr.refl hy).new _
  have hga : (hy.new (.cells false [.int .i64 0, .nils])).get hy.next = some (.cells false [.int .i64 0, .nils]) := H.get_new_same ..
  have hna : (hy.new (.cells false [.int .i64 0, .nils])).next = hy.next + 1 := H.next_new ..
  have hst2 := fun hh => stV_agg2 hh hy.next 0 (v := .int .i64 0) (u := .nils) rfl rfl
  generalize hy.new (.cells false [.int .i64 0, .nils]) = ha at *
  have hgya := (hfa.get hx.next (by omega)).trans hgy
  have hgxa := (hfa.get h.next (by omega)).trans ((hfy.get h.next (by omega)).trans hgx)
  have hfh := (hfx.trans hfy).trans hfa
  simp (disch := first | omega | (simp only [Qn] <;> omega)) only [go_sem, row_two hgxa, row_two hgya]
  refine (common_ok _ _ (N, A) (M, B) ha ⟨u, rfl, hu.mono hfh⟩ ⟨w, rfl, hw.mono hfh⟩ hla hlb).mono ?_
  rintro v1 hb ⟨rfl, hfb⟩
  have hnb := hfb.next
  have hgb := (hfb.get hy.next (by omega)).trans hga
  have hgxb := (hfb.get h.next (by omega)).trans hgxa
  have hgyb := (hfb.get hx.next (by omega)).trans hgya
  have hrow0 := row_two (h := hb.set hy.next (some (.cells false [.int .i64 0, .nils]))) (H.get_set_same ..)
  have hF : Fr h hb := hfh.trans hfb
  have hzero : Fr h (hb.set hy.next (some (.cells false [.int .i64 0, .nils]))) := hF.set (by omega) _
  simp (disch := first | omega | (simp only [Qn] <;> omega)) only [go_sem]
  refine iteW_dec (fun h1 => ?_) (fun h1 => ?_)
  · simp (disch := first | omega | (simp only [Qn] <;> omega)) only [go_sem, hst2, hgb, hrow0]
    rw [addF, if_pos h1]
    exact ⟨_, rfl, CycO.zero _ _, hzero⟩
  rw [addF, if_neg h1]
  obtain ⟨r1, r2, r3, r4⟩ := common_range (show (commonF (N, A) (M, B)).2 = 0 by omega)
  have g1 := check_range r1
  have g2 := check_range r2
  simp only at g1 g2
  obtain ⟨n, hn⟩ : ∃ n : Nat, (commonF (N, A) (M, B)).1 = (n : Int) := ⟨(commonF (N, A) (M, B)).1.toNat, by omega⟩
  rw [hn] at r3 r4 ⊢
  obtain ⟨N, rfl⟩ : ∃ N' : Nat, N = (N' : Int) := ⟨N.toNat, by omega⟩
  obtain ⟨M, rfl⟩ : ∃ M' : Nat, M = (M' : Int) := ⟨M.toNat, by omega⟩
  simp only [Int.toNat_natCast] at g1 g2 ⊢
  clear hn h1 r1 r2
  have hpN := phi_len (n := N) (by omega) (by omega)
  have hpM := phi_len (n := M) (by omega) (by omega)
  simp (disch := first | omega | (simp only [Qn] <;> omega)) only [go_sem]
  have hf5 : Fr hb (hb.new (.cells false (ints (List.replicate n 0)))) := (Fr.refl hb).new _
  have hg5 : (hb.new (.cells false (ints (List.replicate n 0)))).get hb.next = some (.cells false (ints (List.replicate n 0))) := H.get_new_same ..
  have hn5 : (hb.new (.cells false (ints (List.replicate n 0)))).next = hb.next + 1 := H.next_new ..
  generalize hb.new (.cells false (ints (List.replicate n 0))) = h5 at *
  have hgx5 := (hf5.get h.next (by omega)).trans hgxb
  have hgy5 := (hf5.get hx.next (by omega)).trans hgyb
  simp (disch := first | omega | (simp only [Qn] <;> omega)) only [go_sem, row_two hgx5, row_two hgy5, bls_cyc2 h5 (N := (N : Int)) (M := (M : Int)) hu.what.2.1 hw.what.2.1]
  have hf6 : Fr h5 (h5.new (.cells false [.int .i64 (N : Int), u, .int .i64 (M : Int), w])) := (Fr.refl h5).new _
  have hg6 : (h5.new (.cells false [.int .i64 (N : Int), u, .int .i64 (M : Int), w])).get h5.next = some (.cells false [.int .i64 (N : Int), u, .int .i64 (M : Int), w]) := H.get_new_same ..
  have hn6 : (h5.new (.cells false [.int .i64 (N : Int), u, .int .i64 (M : Int), w])).next = h5.next + 1 := H.next_new ..
  generalize h5.new (.cells false [.int .i64 (N : Int), u, .int .i64 (M : Int), w]) = h6 at *
  obtain ⟨Nf, hNf⟩ : ∃ Nf : Nat → Nat, Nf = fun t => if t = 0 then N else M := ⟨_, rfl⟩
  obtain ⟨Cf, hCf⟩ : ∃ Cf : Nat → List Int, Cf = fun t => if t = 0 then A else B := ⟨_, rfl⟩
  obtain ⟨Uf, hUf⟩ : ∃ Uf : Nat → V, Uf = fun t => if t = 0 then u else w := ⟨_, rfl⟩
  obtain ⟨Sq, hSq⟩ : ∃ Sq : Nat → List Int, Sq = fun t => if t = 0 then List.replicate n 0 else if t = 1 then accF (fun i => i * (n / N)) (fun i => A.getD i 0) (List.replicate n 0) A.length else accF (fun i => i * (n / M)) (fun i => B.getD i 0) (accF (fun i => i * (n / N)) (fun i => A.getD i 0) (List.replicate n 0) A.length) B.length := ⟨_, rfl⟩
  have two : ∀ t, t < 2 → t = 0 ∨ t = 1 := fun t ht => by omega
  have k1 : ∀ t, t < 2 → 1 ≤ Nf t ∧ Nf t ≤ 120 ∧ (Cf t).length ≤ Nf t := fun t ht => by rcases two t ht with rfl | rfl <;> simp [hNf, hCf] <;> omega
  have k2 : ∀ t, t < 2 → SI h (Uf t) (Cf t) := fun t ht => by rcases two t ht with rfl | rfl <;> simp [hUf, hCf] <;> assumption
  have k3 : ∀ t, t < 2 → Sq (t + 1) = accF (fun i => i * (n / Nf t)) (fun i => (Cf t).getD i 0) (Sq t) (Cf t).length := fun t ht => by rcases two t ht with rfl | rfl <;> simp [hNf, hCf, hSq]
  have k4 : ∀ t, t < 2 → ∀ hh : H, hh.get h5.next = some (.cells false [.int .i64 (N : Int), u, .int .i64 (M : Int), w]) → hh.row h5.next (t * 2) 2 = some [.int .i64 (Nf t : Int), Uf t] := fun t ht hh hg => by rcases two t ht with rfl | rfl <;> simp [hNf, hUf, H.row, hg, sub]
  have k5 : Sq 0 = List.replicate n 0 := by simp [hSq]
  have k6 : Sq 2 = accF (fun i => i * (n / M)) (fun i => B.getD i 0) (accF (fun i => i * (n / N)) (fun i => A.getD i 0) (List.replicate n 0) A.length) B.length := by simp [hSq]
  have k7 : ∀ t, (Sq t).length = n := fun t => by simp only [hSq]; split <;> (try split) <;> simp [accF_len]
  rw [← k6]
  clear hNf hCf hUf hSq k6 two
  have hgl := hg6
  refine Wp_loop (fun k' vars h7 => ∃ (t : Nat), (∃ g : Nat → V, vars = [g 0, g 1, .ptr h.next 0, .ptr hx.next 0, .ptr hy.next 0, g 5, .int .i64 (n : Int), g 7, .sl hb.next 0 n (.kn n), g 9, g 10, g 11, g 12, .sl h5.next 0 2 (.kn 2), .int .i64 (2 : Nat), .int .i64 (t : Int), g 16, g 17, g 18, g 19, g 20]) ∧ t ≤ 2 ∧
    h7.get hb.next = some (.cells false (ints (Sq t))) ∧ h7.get h5.next = some (.cells false [.int .i64 (N : Int), u, .int .i64 (M : Int), w]) ∧ Fr hb h7 ∧ h5.next < h7.next ∧ k' = 2 - t) 2
    ⟨0, ex_junk rfl, by omega, by rw [k5, hf6.get _ (by omega)]; exact hg5, hg6, hf5.trans hf6, by omega, rfl⟩ ?_
  rintro k' vars h7 ⟨t, ⟨g, rfl⟩, ht, hg7, hl7, hf7, hn7, rfl⟩
  simp (disch := first | omega | (simp only [Qn] <;> omega)) only [go_sem]
  refine iteW_dec (fun hlt => ?_) (fun hge => ?_)
  · obtain ⟨q1, q2, q3⟩ := k1 t (by omega)
    have hs7 := k2 t (by omega)
    have hstq := fun hh id => stV_agg2 hh id 0 (v := .int .i64 (Nf t : Int)) (u := Uf t) rfl hs7.what.2.1
    simp (disch := first | omega | (simp only [Qn] <;> omega)) only [go_sem, k4 t (by omega) h7 hl7, hstq]
    have hf8 : Fr h7 ((h7.new (.cells false [.int .i64 0, .nils])).set h7.next (some (.cells false [.int .i64 (Nf t : Int), Uf t]))) := ((Fr.refl h7).new _).set (Nat.le_refl _) _
    have hg8 : ((h7.new (.cells false [.int .i64 0, .nils])).set h7.next (some (.cells false [.int .i64 (Nf t : Int), Uf t]))).get h7.next = some (.cells false [.int .i64 (Nf t : Int), Uf t]) := H.get_set_same ..
    have hn8 : ((h7.new (.cells false [.int .i64 0, .nils])).set h7.next (some (.cells false [.int .i64 (Nf t : Int), Uf t]))).next = h7.next + 1 := by rw [H.next_set, H.next_new]
    generalize (h7.new (.cells false [.int .i64 0, .nils])).set h7.next (some (.cells false [.int .i64 (Nf t : Int), Uf t])) = h8 at *
    simp (disch := first | omega | (simp only [Qn] <;> omega)) only [go_sem, hs7.lens]
    obtain ⟨cid, coff, hcs, hcid, hcc⟩ := hs7.open
    have hFb : Fr h h8 := (hF.trans hf7).trans hf8
    have hg87 := (hf8.get hb.next (by omega)).trans hg7
    have hl87 := (hf8.get h5.next (by omega)).trans hl7
    have k3t := k3 t (by omega)
    generalize Nf t = Nt at *
    generalize Cf t = Ct at *
    generalize Uf t = Ut at *
    have hSl := k7 t
    generalize Sq t = St at *
    refine Wp_loop (fun k' vars h9 => ∃ (j : Nat), (∃ g : Nat → V, vars = [g 0, g 1, .ptr h.next 0, .ptr hx.next 0, .ptr hy.next 0, g 5, .int .i64 (n : Int), g 7, .sl hb.next 0 n (.kn n), .ptr h7.next 0, g 10, g 11, g 12, .sl h5.next 0 2 (.kn 2), .int .i64 (2 : Nat), .int .i64 (t : Int), g 16, Ut, .int .i64 (Ct.length : Int), .int .i64 (j : Int), g 20]) ∧ j ≤ Ct.length ∧
      h9.get hb.next = some (.cells false (ints (accF (fun i => i * (n / Nt)) (fun i => Ct.getD i 0) St j))) ∧ h9.get h5.next = some (.cells false [.int .i64 (N : Int), u, .int .i64 (M : Int), w]) ∧ h9.get h7.next = some (.cells false [.int .i64 (Nt : Int), Ut]) ∧ Fr hb h9 ∧ h7.next < h9.next ∧ k' = Ct.length - j) Ct.length
      ⟨0, ex_junk rfl, Nat.zero_le _, hg87, hl87, hg8, hf7.trans hf8, by omega, rfl⟩ ?_
    rintro k' vars h9 ⟨j, ⟨g, rfl⟩, hj, hg9, hl9, hb9, hf9, hn9, rfl⟩
    have hal := accF_len (fun i => i * (n / Nt)) (fun i => Ct.getD i 0) St j
    simp (disch := first | omega | (simp only [Qn] <;> omega)) only [go_sem]
    by_cases hjc : (j : Int) < (Ct.length : Int)
    · rw [decide_eq_true hjc]
      have hcc9 := cells_fr (hF.trans hf9) hcid hcc
      have hjm : j * (n / Nt) < n := idx_lt (by omega) (by omega)
      have hdm : n / Nt ≤ n := Nat.div_le_self ..
      have em : (n : Int).tdiv (Nt : Int) = ((n / Nt : Nat) : Int) := rfl
      have em0 : (j : Int) * ((n / Nt : Nat) : Int) = ((j * (n / Nt) : Nat) : Int) := (Int.natCast_mul ..).symm
      have hstep : accF (fun i => i * (n / Nt)) (fun i => Ct.getD i 0) St (j + 1) = (accF (fun i => i * (n / Nt)) (fun i => Ct.getD i 0) St j).set (j * (n / Nt)) (W ((accF (fun i => i * (n / Nt)) (fun i => Ct.getD i 0) St j).getD (j * (n / Nt)) 0 + Ct.getD j 0)) := rfl
      generalize j * (n / Nt) = z at hjm em0 hstep
      generalize n / Nt = y at *
      have f0 : h9.cell h7.next 0 = some (.int .i64 (Nt : Int)) := by rw [H.cell_of hb9]; rfl
      simp (disch := first | omega | (simp only [Qn] <;> omega)) only [go_sem, hcs.ixa, hcc9, f0, em, em0, own_cell hg9, hg9]
      rw [show (j : Int) + 1 = ((j + 1 : Nat) : Int) from by omega]
      refine ⟨Ct.length - (j + 1), by omega, j + 1, ex_junk rfl, by omega, by rw [hstep], hl9, hb9, ?_, by omega, rfl⟩
      exact hf9.set (Nat.le_refl _) _
    · rw [decide_eq_false hjc]
      have : Ct.length = j := by omega
      subst this
      simp (disch := first | omega | (simp only [Qn] <;> omega)) only [go_sem]
      rw [show (t : Int) + 1 = ((t + 1 : Nat) : Int) from by omega]
      exact ⟨2 - (t + 1), by omega, t + 1, ex_junk rfl, by omega, by rw [k3t]; exact hg9, hl9, hf9, by omega, rfl⟩
  · have : t = 2 := by omega
    subst this
    simp (disch := first | omega | (simp only [Qn] <;> omega)) only [go_sem]
    have hsi : SI h7 (.sl hb.next 0 n (.kn n)) (Sq 2) := by
      have := SI.own (h := h7) (id := hb.next) (by omega) hg7 (.kn n)
      rw [k7] at this; exact this
    refine (made_ok n _ _ h7 (by omega) (by omega) hsi (by rw [k7]; omega)).mono ?_
    rintro v8 h8 ⟨w', rfl, hcy, hf8⟩
    generalize madeF n _ = M at *
    have hf48 : Fr hb h8 := hf7.trans hf8
    have hg8 := (hf48.get hy.next (by omega)).trans hgb
    obtain ⟨u', rfl, hu', hfu⟩ := hcy
    have hst3 := fun hh => stV_agg2 hh hy.next 0 (v := .int .i64 M.1.1) (u := u') rfl hu'.what.2.1
    have hrow := row_two (h := h8.set hy.next (some (.cells false [.int .i64 M.1.1, u']))) (H.get_set_same ..)
    simp (disch := first | omega | (simp only [Qn] <;> omega)) only [go_sem, hst3, hg8, hrow]
    exact ⟨_, rfl, (CycO.set ⟨u', rfl, hu', hfu⟩ (by omega) _).le (by omega), (hF.trans hf48).set (by omega) _⟩
end
end Go.Proofs.Ythfabknpogbcaaa
/- Contracts: Mul. -/
namespace Go.Proofs.Ythfabknpogbcaaa
open Go Go.Ay
set_option maxRecDepth 100000
noncomputable section

def mulR (n N M : Nat) (A B : List Int) (i : Nat) (l : List Int) : List Int := accF (fun k => (i * (n / N) + k * (n / M)) % n) (fun k => W (A.getD i 0 * B.getD k 0)) l B.length
def mulS (n N M : Nat) (A B : List Int) : Nat → List Int
  | 0 => List.replicate n 0
  | i + 1 => mulR n N M A B i (mulS n N M A B i)
theorem mulS_len (n N M : Nat) (A B : List Int) : ∀ i, (mulS n N M A B i).length = n
  | 0 => List.length_replicate
  | i + 1 => by rw [mulS, mulR, accF_len, mulS_len n N M A B i]
def mulF (a b : Int × List Int) : (Int × List Int) × Int :=
  if (commonF a b).2 ≠ 0 then ((0, []), (commonF a b).2) else
    madeF (commonF a b).1.toNat (mulS (commonF a b).1.toNat a.1.toNat b.1.toNat a.2 b.2 a.2.length)

set_option maxHeartbeats 1000000 in
theorem mul_ok (va vb : V) (a b : Int × List Int) (h : H) (ha : CycV h va a) (hb : CycV h vb b) (hla : a.2.length < 1000000) (hlb : b.2.length < 1000000) :
    Ev T n_cyclo_Mul [va, vb] h (fun v h' => ∃ w, v = .tup [w, .int .i64 (mulF a b).2] ∧ CycO h' w (mulF a b).1 h.next ∧ Fr h h') := by
  obtain ⟨u, rfl, hu⟩ := ha
  obtain ⟨w, rfl, hw⟩ := hb
  obtain ⟨N, A⟩ := a
  obtain ⟨M, B⟩ := b
  simp only at hu hw hla hlb
  refine Ev_of t_cyclo_Mul rfl ?_
  simp (disch := first | omega | (simp only [Qn] <;> omega)) only [go_sem, c_cyclo_Mul, initV_eq, boxV_agg2 h (v := .int .i64 N) rfl hu.what.2.1]
  have hfx : Fr h (h.new (.cells false [.int .i64 N, u])) := (Fr.refl h).new _
  have hgx : (h.new (.cells false [.int .i64 N, u])).get h.next = some (.cells false [.int .i64 N, u]) := H.get_new_same ..
  have hnx : (h.new (.cells false [.int .i64 N, u])).next = h.next + 1 := H.next_new ..
  generalize h.new (.cells false [.int .i64 N, u]) = hx at *
  simp (disch := first | omega | (simp only [Qn] <;> omega)) only [go_sem, boxV_agg2 hx (v := .int .i64 M) rfl hw.what.2.1]
  have hfy : Fr hx (hx.new (.cells false [.int .i64 M, w])) := (Fr.refl hx).new _
  have hgy : (hx.new (.cells false [.int .i64 M, w])).get hx.next = some (.cells false [.int .i64 M, w]) := H.get_new_same ..
  have hny : (hx.new (.cells false [.int .i64 M, w])).next = hx.next + 1 := H.next_new ..
  generalize hx.new (.cells false [.int .i64 M, w]) = hy at *
  rw [← hny]
  have hfa : Fr hy (hy.new (.cells false [.int .i64 0, .nils])) := (Fr.refl hy).new _
  have hga : (hy.new (.cells false [.int .i64 0, .nils])).get hy.next = some (.cells false [.int .i64 0, .nils]) := H.get_new_same ..
  have hna : (hy.new (.cells false [.int .i64 0, .nils])).next = hy.next + 1 := H.next_new ..
  have hst2 := fun hh => stV_agg2 hh hy.next 0 (v := .int .i64 0) (u := .nils) rfl rfl
  generalize hy.new (.cells false [.int .i64 0, .nils]) = ha at *
  have hgya := (hfa.get hx.next (by omega)).trans hgy
  have hgxa := (hfa.get h.next (by omega)).trans ((hfy.get h.next (by omega)).trans hgx)
  have hfh := (hfx.trans hfy).trans hfa
  simp (disch := first | omega | (simp only [Qn] <;> omega)) only [go_sem, row_two hgxa, row_two hgya]
  refine (common_ok _ _ (N, A) (M, B) ha ⟨u, rfl, hu.mono hfh⟩ ⟨w, rfl, hw.mono hfh⟩ hla hlb).mono ?_
  rintro v1 hb ⟨rfl, hfb⟩
  have hnb := hfb.next
  have hgb := (hfb.get hy.next (by omega)).trans hga
  have hgxb := (hfb.get h.next (by omega)).trans hgxa
  have hgyb := (hfb.get hx.next (by omega)).trans hgya
  have hrow0 := row_two (h := hb.set hy.next (some (.cells false [.int .i64 0, .nils]))) (H.get_set_same ..)
  have hF : Fr h hb := hfh.trans hfb
  have hzero : Fr h (hb.set hy.next (some (.cells false [.int .i64 0, .nils]))) := hF.set (by omega) _
  simp (disch := first | omega | (simp only [Qn] <;> omega)) only [go_sem]
  refine iteW_dec (fun h1 => ?_) (fun h1 => ?_)
  · simp (disch := first | omega | (simp only [Qn] <;> omega)) only [go_sem, hst2, hgb, hrow0]
    rw [mulF, if_pos h1]
    exact ⟨_, rfl, CycO.zero _ _, hzero⟩
  rw [mulF, if_neg h1]
  obtain ⟨r1, r2, r3, r4⟩ := common_range (show (commonF (N, A) (M, B)).2 = 0 by omega)
  have g1 := check_range r1
  have g2 := check_range r2
  simp only at g1 g2
  obtain ⟨n, hn⟩ : ∃ n : Nat, (commonF (N, A) (M, B)).1 = (n : Int) := ⟨(commonF (N, A) (M, B)).1.toNat, by omega⟩
  rw [hn] at r3 r4 ⊢
  obtain ⟨N, rfl⟩ : ∃ N' : Nat, N = (N' : Int) := ⟨N.toNat, by omega⟩
  obtain ⟨M, rfl⟩ : ∃ M' : Nat, M = (M' : Int) := ⟨M.toNat, by omega⟩
  simp only [Int.toNat_natCast] at g1 g2 ⊢
  clear hn h1 r1 r2
  have hpN := phi_len (n := N) (by omega) (by omega)
  have hpM := phi_len (n := M) (by omega) (by omega)
  have x1 : hb.cell h.next 1 = some u := by rw [H.cell_of hgxb]; rfl
  simp (disch := first | omega | (simp only [Qn] <;> omega)) only [go_sem, x1, (hu.mono hF).lens]
  have hf5 : Fr hb (hb.new (.cells false (ints (List.replicate n 0)))) := (Fr.refl hb).new _
  have hg5 : (hb.new (.cells false (ints (List.replicate n 0)))).get hb.next = some (.cells false (ints (List.replicate n 0))) := H.get_new_same ..
  have hn5 : (hb.new (.cells false (ints (List.replicate n 0)))).next = hb.next + 1 := H.next_new ..
  generalize hb.new (.cells false (ints (List.replicate n 0))) = h5 at *
  have hgx5 := (hf5.get h.next (by omega)).trans hgxb
  have hgy5 := (hf5.get hx.next (by omega)).trans hgyb
  have hF5 := hF.trans hf5
  obtain ⟨cid, coff, hcs, hcid, hcc⟩ := hu.open
  obtain ⟨did, doff, hds, hdid, hdc⟩ := hw.open
  have hml := mulS_len n N M A B
  refine Wp_loop (fun k' vars h7 => ∃ (i : Nat), (∃ g : Nat → V, vars = [g 0, g 1, .ptr h.next 0, .ptr hx.next 0, .ptr hy.next 0, g 5, .int .i64 (n : Int), g 7, .sl hb.next 0 n (.kn n), g 9, g 10, g 11, g 12, g 13, u, .int .i64 (A.length : Int), .int .i64 (i : Int), g 17, g 18, g 19, g 20, g 21]) ∧ i ≤ A.length ∧
    h7.get hb.next = some (.cells false (ints (mulS n N M A B i))) ∧ Fr hb h7 ∧ hb.next < h7.next ∧ k' = A.length - i) A.length
    ⟨0, ex_junk rfl, Nat.zero_le _, hg5, hf5, by omega, rfl⟩ ?_
  rintro k' vars h7 ⟨i, ⟨g, rfl⟩, hi, hg7, hf7, hn7, rfl⟩
  simp (disch := first | omega | (simp only [Qn] <;> omega)) only [go_sem]
  by_cases hic : (i : Int) < (A.length : Int)
  · rw [decide_eq_true hic]
    have hcc7 := cells_fr (hF.trans hf7) hcid hcc
    have y1 : h7.cell hx.next 1 = some w := by rw [hf7.cell (by omega), H.cell_of hgyb]; rfl
    simp (disch := first | omega | (simp only [Qn] <;> omega)) only [go_sem, hcs.ixa, hcc7, y1, (hw.mono (hF.trans hf7)).lens]
    have hst : mulS n N M A B (i + 1) = mulR n N M A B i (mulS n N M A B i) := rfl
    have hSl := hml i
    generalize mulS n N M A B i = St at *
    refine Wp_loop (fun k' vars h9 => ∃ (j : Nat), (∃ g : Nat → V, vars = [g 0, g 1, .ptr h.next 0, .ptr hx.next 0, .ptr hy.next 0, g 5, .int .i64 (n : Int), g 7, .sl hb.next 0 n (.kn n), .int .i64 (i : Int), .int .i64 (A.getD i 0), g 11, g 12, g 13, u, .int .i64 (A.length : Int), .int .i64 (i : Int), g 17, w, .int .i64 (B.length : Int), .int .i64 (j : Int), g 21]) ∧ j ≤ B.length ∧
      h9.get hb.next = some (.cells false (ints (accF (fun k => (i * (n / N) + k * (n / M)) % n) (fun k => W (A.getD i 0 * B.getD k 0)) St j))) ∧ Fr hb h9 ∧ hb.next < h9.next ∧ k' = B.length - j) B.length
      ⟨0, ex_junk rfl, Nat.zero_le _, hg7, hf7, hn7, rfl⟩ ?_
    rintro k' vars h9 ⟨j, ⟨g, rfl⟩, hj, hg9, hf9, hn9, rfl⟩
    have hal := accF_len (fun k => (i * (n / N) + k * (n / M)) % n) (fun k => W (A.getD i 0 * B.getD k 0)) St j
    simp (disch := first | omega | (simp only [Qn] <;> omega)) only [go_sem]
    by_cases hjc : (j : Int) < (B.length : Int)
    · rw [decide_eq_true hjc]
      have hcc9 := cells_fr (hF.trans hf9) hdid hdc
      have hz1 : i * (n / N) ≤ 120 * 120 := Nat.mul_le_mul (by omega) (Nat.le_trans (Nat.div_le_self ..) (by omega))
      have hz2 : j * (n / M) ≤ 120 * 120 := Nat.mul_le_mul (by omega) (Nat.le_trans (Nat.div_le_self ..) (by omega))
      have hd1 : n / N ≤ n := Nat.div_le_self ..
      have hd2 : n / M ≤ n := Nat.div_le_self ..
      have em1 : (n : Int).tdiv (N : Int) = ((n / N : Nat) : Int) := rfl
      have em2 : (n : Int).tdiv (M : Int) = ((n / M : Nat) : Int) := rfl
      have ep1 : (i : Int) * ((n / N : Nat) : Int) = ((i * (n / N) : Nat) : Int) := (Int.natCast_mul ..).symm
      have ep2 : (j : Int) * ((n / M : Nat) : Int) = ((j * (n / M) : Nat) : Int) := (Int.natCast_mul ..).symm
      have es : ((i * (n / N) : Nat) : Int) + ((j * (n / M) : Nat) : Int) = ((i * (n / N) + j * (n / M) : Nat) : Int) := (Int.natCast_add ..).symm
      have er : ((i * (n / N) + j * (n / M) : Nat) : Int).tmod (n : Int) = (((i * (n / N) + j * (n / M)) % n : Nat) : Int) := tmod_nat ..
      have hrn : (i * (n / N) + j * (n / M)) % n < n := Nat.mod_lt _ (by omega)
      have hstep : accF (fun k => (i * (n / N) + k * (n / M)) % n) (fun k => W (A.getD i 0 * B.getD k 0)) St (j + 1) = (accF (fun k => (i * (n / N) + k * (n / M)) % n) (fun k => W (A.getD i 0 * B.getD k 0)) St j).set ((i * (n / N) + j * (n / M)) % n) (W ((accF (fun k => (i * (n / N) + k * (n / M)) % n) (fun k => W (A.getD i 0 * B.getD k 0)) St j).getD ((i * (n / N) + j * (n / M)) % n) 0 + W (A.getD i 0 * B.getD j 0))) := rfl
      have x9 : h9.cell h.next 0 = some (.int .i64 (N : Int)) := by rw [hf9.cell (by omega), H.cell_of hgxb]; rfl
      have y9 : h9.cell hx.next 0 = some (.int .i64 (M : Int)) := by rw [hf9.cell (by omega), H.cell_of hgyb]; rfl
      generalize hrg : (i * (n / N) + j * (n / M)) % n = r at *
      generalize i * (n / N) + j * (n / M) = sm at *
      generalize hp1 : i * (n / N) = p1 at *
      generalize hp2 : j * (n / M) = p2 at *
      generalize n / N = d1 at *
      generalize n / M = d2 at *
      simp (disch := first | omega | (simp only [Qn] <;> omega)) only [go_sem, hds.ixa, hcc9, x9, y9, em1, em2, ep1, ep2, es, er, own_cell hg9, hg9]
      rw [show (j : Int) + 1 = ((j + 1 : Nat) : Int) from by omega]
      refine ⟨B.length - (j + 1), by omega, j + 1, ex_junk rfl, by omega, by rw [hstep], ?_, by omega, rfl⟩
      exact (hf9.bump (by omega)).set (Nat.le_refl _) _
    · rw [decide_eq_false hjc]
      have : B.length = j := by omega
      subst this
      simp (disch := first | omega | (simp only [Qn] <;> omega)) only [go_sem]
      rw [show (i : Int) + 1 = ((i + 1 : Nat) : Int) from by omega]
      exact ⟨A.length - (i + 1), by omega, i + 1, ex_junk rfl, by omega, by rw [hst, mulR]; exact hg9, hf9, by omega, rfl⟩
  · rw [decide_eq_false hic]
    have : A.length = i := by omega
    subst this
    simp (disch := first | omega | (simp only [Qn] <;> omega)) only [go_sem]
    have hsi : SI h7 (.sl hb.next 0 n (.kn n)) (mulS n N M A B A.length) := by
      have := SI.own (h := h7) (id := hb.next) (by omega) hg7 (.kn n)
      rw [hml] at this; exact this
    refine (made_ok n _ _ h7 (by omega) (by omega) hsi (by rw [hml]; omega)).mono ?_
    rintro v8 h8 ⟨w', rfl, hcy, hf8⟩
    generalize madeF n _ = M at *
    have hf48 : Fr hb h8 := hf7.trans hf8
    have hg8 := (hf48.get hy.next (by omega)).trans hgb
    obtain ⟨u', rfl, hu', hfu⟩ := hcy
    have hst3 := fun hh => stV_agg2 hh hy.next 0 (v := .int .i64 M.1.1) (u := u') rfl hu'.what.2.1
    have hrow := row_two (h := h8.set hy.next (some (.cells false [.int .i64 M.1.1, u']))) (H.get_set_same ..)
    simp (disch := first | omega | (simp only [Qn] <;> omega)) only [go_sem, hst3, hg8, hrow]
    exact ⟨_, rfl, (CycO.set ⟨u', rfl, hu', hfu⟩ (by omega) _).le (by omega), (hF.trans hf48).set (by omega) _⟩
end
end Go.Proofs.Ythfabknpogbcaaa
