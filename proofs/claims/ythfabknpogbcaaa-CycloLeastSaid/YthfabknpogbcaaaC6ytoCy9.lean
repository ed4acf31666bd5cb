/- Contracts of the reference: least, made, Check, Make, Root, Int, both. Contracts of the reference: Make, Root, Int, both, Add. Contracts of the reference: both, Add, Mul. Contracts of the reference: Mul, Scale, Galois, Conj, Rational. Contracts of the reference: Quot, sign, Cmp. The program's numbers as sums of powers: made, Make, Check, Add, Mul. -/
import Derived.Test.YthfabknpogbcaaaCy1toC6x
/- Contracts of the reference: least, made, Check, Make, Root, Int, both. -/
namespace Go.Proofs.Ythfabknpogbcaaa
open Go Go.Ay
set_option maxRecDepth 100000
noncomputable section

def isPrU (q d : Nat) : Bool := (List.range d).all fun d => decide (d < 2) || q % d != 0
theorem isPrU_succ (q d : Nat) : isPrU q (d + 1) = (isPrU q d && (decide (d < 2) || q % d != 0)) := by
  rw [isPrU, List.range_succ, List.all_append]; simp [isPrU]
theorem lowerF_ok {n q : Nat} {c d : List Int} (h1 : 1 ≤ n) (h2 : n ≤ 120) (hq : q ∈ prOf n) (h : lowerF n q c = some d) : d.length = (phiF (n / q)).length - 1 := lowerF_len (lowOk h1 h2 hq) h

set_option maxHeartbeats 1000000 in
theorem rleast_ok : ∀ (n : Nat) (vc : V) (c : List Int) (h : H), 1 ≤ n → n ≤ 120 → SI h vc c → c.length = (phiF n).length - 1 → inR c →
    Ev T n_ref06_least [.int .i64 (n : Int), vc] h (fun v h' => ∃ u, v = .agg [.int .i64 ((leastF n c).1 : Int), u] ∧ SI h' u (leastF n c).2 ∧ Fr h h' ∧ (u = vc ∨ Frs u h.next)) := by
  intro n
  induction n using Nat.strongRecOn with
  | ind n ih =>
  intro vc c h hn1 hn2 hc hl hr
  refine Ev_of t_ref06_least rfl ?_
  simp (disch := first | omega | (simp only [Qn] <;> omega)) only [go_sem, c_ref06_least, initV_eq]
  have hfa : Fr h (h.new (.cells false [.int .i64 0, .nils])) := (Fr.refl h).new _
  have hga : (h.new (.cells false [.int .i64 0, .nils])).get h.next = some (.cells false [.int .i64 0, .nils]) := H.get_new_same ..
  have hna : (h.new (.cells false [.int .i64 0, .nils])).next = h.next + 1 := H.next_new ..
  generalize h.new (.cells false [.int .i64 0, .nils]) = ha at *
  have hca := hc.mono hfa
  refine Wp_loop (fun k vars h1 => ∃ (q f : Nat), (∃ g : Nat → V, vars = [.int .i64 (n : Int), vc, .ptr h.next 0, .int .i64 (q : Int), g 4, g 5, g 6, g 7, g 8, g 9, g 10, g 11, g 12]) ∧ 2 ≤ q ∧ q + f = 127 ∧ q ≤ n + 2 ∧ (∀ e ∈ rpF n f q, e ∈ prOf n) ∧ (rpF n f q).findSome? (fun q => (lowerF n q c).map (fun d => (q, d))) = stepF n c ∧ Fr ha h1 ∧ k = f) 125
    ⟨2, 125, ex_junk rfl, Nat.le_refl _, rfl, by omega, fun e he => by rw [rp_eq hn2] at he; exact he, by rw [rp_eq hn2]; rfl, Fr.refl ha, rfl⟩ ?_
  rintro k vars h1 ⟨q, f, ⟨g, rfl⟩, hq2, hqf, hqn, hmem, hfs, hf1, rfl⟩
  have hn1' := hf1.next
  have hg1 := (hf1.get h.next (by omega)).trans hga
  simp (disch := first | omega | (simp only [Qn] <;> omega)) only [go_sem]
  refine iteW_dec (fun hle => ?_) (fun hgt => ?_)
  · obtain ⟨f, rfl⟩ : ∃ f', k = f' + 1 := ⟨k - 1, by omega⟩
    rw [rpF, if_pos (by omega)] at hmem hfs
    have em : (n : Int).tmod (q : Int) = ((n % q : Nat) : Int) := tmod_nat ..
    simp (disch := first | omega | (simp only [Qn] <;> omega)) only [go_sem, em]
    refine iteW_dec (fun hnz => ?_) (fun hz => ?_)
    · have hb : (n % q == 0 && isPr q) = false := by rw [show (n % q == 0) = false by simp; omega]; rfl
      rw [hb] at hmem hfs
      simp (disch := first | omega | (simp only [Qn] <;> omega)) only [go_sem]
      rw [show (q : Int) + 1 = ((q + 1 : Nat) : Int) from by omega]
      exact ⟨f, by omega, q + 1, f, ex_junk rfl, by omega, by omega, by omega, hmem, hfs, hf1, rfl⟩
    have hz' : n % q = 0 := by omega
    simp (disch := first | omega | (simp only [Qn] <;> omega)) only [go_sem]
    refine Wp_loop (fun k2 vars h2 => ∃ (d : Nat), (∃ g : Nat → V, vars = [.int .i64 (n : Int), vc, .ptr h.next 0, .int .i64 (q : Int), .bool (isPrU q d), .int .i64 (d : Int), g 6, g 7, g 8, g 9, g 10, g 11, g 12]) ∧ 2 ≤ d ∧ d ≤ q ∧ h2 = h1 ∧ k2 = q - d) (q - 2)
      ⟨2, ex_junk (by rw [show isPrU q 2 = true from rfl]; rfl), Nat.le_refl _, hq2, rfl, rfl⟩ ?_
    rintro k2 vars h2 ⟨d, ⟨g, rfl⟩, hd2, hdq, rfl, rfl⟩
    simp (disch := first | omega | (simp only [Qn] <;> omega)) only [go_sem]
    refine iteW_dec (fun hlt => ?_) (fun hge => ?_)
    · have hstep := isPrU_succ q d
      rw [show decide (d < 2) = false by simp; omega, Bool.false_or] at hstep
      have em2 : (q : Int).tmod (d : Int) = ((q % d : Nat) : Int) := tmod_nat ..
      cases hp : isPrU q d with
      | false =>
        rw [hp, Bool.false_and] at hstep
        simp (disch := first | omega | (simp only [Qn] <;> omega)) only [go_sem]
        rw [show (d : Int) + 1 = ((d + 1 : Nat) : Int) from by omega]
        exact ⟨q - (d + 1), by omega, d + 1, ex_junk (by rw [hstep]; rfl), by omega, by omega, rfl⟩
      | true =>
        rw [hp, Bool.true_and] at hstep
        have hdec : (q % d != 0) = decide (((q % d : Nat) : Int) ≠ 0) := by
          by_cases h0 : q % d = 0
          · rw [h0]; rfl
          · rw [decide_eq_true (by omega)]; simp [h0]
        simp (disch := first | omega | (simp only [Qn] <;> omega)) only [go_sem, em2]
        rw [show (d : Int) + 1 = ((d + 1 : Nat) : Int) from by omega]
        refine ⟨q - (d + 1), by omega, d + 1, ex_junk (by rw [hstep, hdec]; rfl), by omega, by omega, rfl⟩
    have hdq' : q = d := by omega
    subst hdq'
    have hisPr : isPrU q q = isPr q := rfl
    rw [hisPr]
    simp (disch := first | omega | (simp only [Qn] <;> omega)) only [go_sem]
    refine iteW_bool (fun hp => ?_) (fun hp => ?_)
    · rw [hp, Bool.and_true, show (n % q == 0) = true by simp [hz'], if_pos rfl] at hmem hfs
      have hqm := hmem q (List.mem_cons_self ..)
      rw [List.findSome?_cons] at hfs
      simp (disch := first | omega | (simp only [Qn] <;> omega)) only [go_sem]
      refine (rlower_ok n q vc c h2 hn1 hn2 hqm (hca.mono hf1) hl hr).mono ?_
      rintro v3 h3 ⟨hf3, u, t, rfl, hlow⟩
      have hn3 := hf3.next
      simp (disch := first | omega | (simp only [Qn] <;> omega)) only [go_sem, List.getElem?_cons_zero, List.getElem?_cons_succ]
      cases hlw : lowerF n q c with
      | none =>
        rw [hlw] at hlow hfs
        simp only at hlow
        subst hlow
        simp (disch := first | omega | (simp only [Qn] <;> omega)) only [go_sem]
        rw [show (q : Int) + 1 = ((q + 1 : Nat) : Int) from by omega]
        exact ⟨f, by omega, q + 1, f, ex_junk rfl, by omega, by omega, by omega, fun e he => hmem e (List.mem_cons_of_mem _ he), hfs, hf1.trans hf3, rfl⟩
      | some d =>
        rw [hlw] at hlow hfs
        simp only at hlow
        obtain ⟨rfl, hu, huf⟩ := hlow
        have hs : stepF n c = some (q, d) := hfs.symm
        have hlt := (lowOk hn1 hn2 hqm).lt
        have hdl := lowerF_ok hn1 hn2 hqm hlw
        have hdr := lowerF_in hr hlw
        have ed : (n : Int).tdiv (q : Int) = ((n / q : Nat) : Int) := rfl
        obtain ⟨m, hm⟩ : ∃ m, n / q = m := ⟨_, rfl⟩
        have hls := leastF_step hn1 hn2 hs
        rw [hm] at hlt hdl ed hls
        simp (disch := first | omega | (simp only [Qn] <;> omega)) only [go_sem, ed]
        refine (ih m hlt.2 u d h3 hlt.1 (by omega) hu hdl hdr).mono ?_
        rintro v4 h4 ⟨w, rfl, hw, hf4, hwf⟩
        have hn4 := hf4.next
        have hg4 := (hf4.get h.next (by omega)).trans ((hf3.get h.next (by omega)).trans hg1)
        have hst := fun hh => stV_agg2 hh h.next 0 (v := .int .i64 ((leastF m d).1 : Int)) (u := w) rfl hw.what.2.1
        have hrow := row_two (h := h4.set h.next (some (.cells false [.int .i64 ((leastF m d).1 : Int), w]))) (H.get_set_same ..)
        simp (disch := first | omega | (simp only [Qn] <;> omega)) only [go_sem, hst, hg4, hrow]
        rw [hls]
        have hwF : Frs w (h.next + 1) := by
          rcases hwf with rfl | hwf
          · exact huf.le (by omega)
          · exact hwf.le (by omega)
        exact ⟨_, rfl, SI.set_frs hw hwF (by omega) _, (((hfa.trans hf1).trans hf3).trans hf4).set (Nat.le_refl _) _, .inr (hwF.le (by omega))⟩
    · rw [hp, Bool.and_false] at hmem hfs
      simp (disch := first | omega | (simp only [Qn] <;> omega)) only [go_sem]
      rw [show (q : Int) + 1 = ((q + 1 : Nat) : Int) from by omega]
      exact ⟨f, by omega, q + 1, f, ex_junk rfl, by omega, by omega, by omega, hmem, hfs, hf1, rfl⟩
  · have hst0 : stepF n c = none := by
      rw [← hfs]
      cases k with
      | zero => rfl
      | succ f => rw [rpF, if_neg (by omega)]; rfl
    rw [leastF_stop hn1 hst0]
    have hc1 := hca.mono hf1
    have hst := fun hh => stV_agg2 hh h.next 0 (v := .int .i64 (n : Int)) (u := vc) rfl hc.what.2.1
    have hrow := row_two (h := h1.set h.next (some (.cells false [.int .i64 (n : Int), vc]))) (H.get_set_same ..)
    simp (disch := first | omega | (simp only [Qn] <;> omega)) only [go_sem, bldV_two (v := .int .i64 (n : Int)) rfl rfl hc.what.1 hc.what.2.1, hst, hg1, hrow]
    exact ⟨_, rfl, SV.set_ne hc1 (fun off len cc e => by subst e; have := SV.ne_of hc; omega) _, (hfa.trans hf1).set (Nat.le_refl _) _, .inl rfl⟩

theorem redF_len2 (n : Nat) (c : List Int) : (redF n c).length = (phiF n).length - 1 := redF_len n c

theorem rmade_ok (n : Nat) (vc : V) (c : List Int) (h : H) (h1 : 1 ≤ n) (h2 : n ≤ 120) (hc : SI h vc c) (hl : c.length < 1000000) (hr : inR c) :
    Ev T n_ref06_made [.int .i64 (n : Int), vc] h (fun v h' => ∃ w, v = .tup [w, .int .i64 (madeF n c).2] ∧ CycO h' w (madeF n c).1 h.next ∧ Fr h h') := by
  refine Ev_of t_ref06_made rfl ?_
  simp (disch := first | omega | (simp only [Qn] <;> omega)) only [go_sem, c_ref06_made, initV_eq]
  have hfa : Fr h (h.new (.cells false [.int .i64 0, .nils])) := (Fr.refl h).new _
  have hga : (h.new (.cells false [.int .i64 0, .nils])).get h.next = some (.cells false [.int .i64 0, .nils]) := H.get_new_same ..
  have hna : (h.new (.cells false [.int .i64 0, .nils])).next = h.next + 1 := H.next_new ..
  generalize h.new (.cells false [.int .i64 0, .nils]) = ha at *
  refine (rreduced_ok n vc c ha h1 h2 (hc.mono hfa) hl).mono ?_
  rintro v2 hd ⟨ho2, hf2⟩
  have hrl := redF_len n c
  have hpl := phi_len h1 h2
  simp (disch := first | omega | (simp only [Qn] <;> omega)) only [go_sem]
  refine (rleast_ok n v2 (redF n c) hd h1 h2 ho2.sv hrl (redF_in n hr)).mono ?_
  rintro v3 he ⟨u, rfl, hu, hf3, huf⟩
  have hF : Fr ha he := hf2.trans hf3
  have hge := (hF.get h.next (by omega)).trans hga
  have hL := leastG_len n n (redF n c) h1 h2 (by omega)
  have hn2 := hf2.next
  have hxn := hF.next
  have hufr : Frs u (h.next + 1) := by
    rcases huf with rfl | huf
    · exact (Frs.own ho2).le (by omega)
    · exact huf.le (by omega)
  have hst := fun hh => stV_agg2 hh he.next 0 (v := .int .i64 ((leastF n (redF n c)).1 : Int)) (u := u) rfl hu.what.2.1
  have hst2 := fun hh => stV_agg2 hh h.next 0 (v := .int .i64 0) (u := .nils) rfl rfl
  have hst3 := fun hh => stV_agg2 hh h.next 0 (v := .int .i64 ((leastF n (redF n c)).1 : Int)) (u := u) rfl hu.what.2.1
  simp (disch := first | omega | (simp only [Qn] <;> omega)) only [go_sem, hst, List.getElem?_cons_zero, List.getElem?_cons_succ]
  have hu2 : SI ((he.new (.cells false [.int .i64 0, .nils])).set he.next (some (.cells false [.int .i64 ((leastF n (redF n c)).1 : Int), u]))) u (leastF n (redF n c)).2 :=
    SV.set_ne (SV.mono hu ((Fr.refl he).new _)) (fun off len cc e => by subst e; have := SV.ne_of hu; omega) _
  have hF2 : Fr ha ((he.new (.cells false [.int .i64 0, .nils])).set he.next (some (.cells false [.int .i64 ((leastF n (redF n c)).1 : Int), u]))) := (hF.new _).set hxn _
  have hgf : ((he.new (.cells false [.int .i64 0, .nils])).set he.next (some (.cells false [.int .i64 ((leastF n (redF n c)).1 : Int), u]))).get he.next = some (.cells false [.int .i64 ((leastF n (redF n c)).1 : Int), u]) := H.get_set_same ..
  generalize (he.new (.cells false [.int .i64 0, .nils])).set he.next (some (.cells false [.int .i64 ((leastF n (redF n c)).1 : Int), u])) = hg at *
  have hgg := (hF2.get h.next (by omega)).trans hga
  refine (rover_ok u (leastF n (redF n c)).2 _ hu2 (by have := hL.2.1; have := hL.2.2; unfold leastF; omega)).mono ?_
  rintro v4 h4 ⟨rfl, rfl⟩
  simp (disch := first | omega | (simp only [Qn] <;> omega)) only [go_sem]
  refine iteW_bool (fun hp => ?_) (fun hp => ?_)
  · have hm : madeF n c = ((0, []), 5) := by simp only [madeF]; rw [if_pos hp]
    have hrow := row_two (h := h4.set h.next (some (.cells false [.int .i64 0, .nils]))) (H.get_set_same ..)
    simp (disch := first | omega | (simp only [Qn] <;> omega)) only [go_sem, hst2, hgg, hrow]
    rw [hm]
    exact ⟨_, rfl, CycO.zero _ _, (hfa.trans hF2).set (Nat.le_refl _) _⟩
  · have hm : madeF n c = ((((leastF n (redF n c)).1 : Int), (leastF n (redF n c)).2), 0) := by simp only [madeF]; rw [if_neg (by rw [hp]; simp)]
    have hrow := row_two (h := h4.set h.next (some (.cells false [.int .i64 ((leastF n (redF n c)).1 : Int), u]))) (H.get_set_same ..)
    have hrow4 := row_two hgf
    simp (disch := first | omega | (simp only [Qn] <;> omega)) only [go_sem, hst3, hgg, hrow, hrow4]
    rw [hm]
    exact ⟨_, rfl, ⟨_, rfl, SI.set_frs hu2 hufr (by omega) _, hufr.le (by omega)⟩, (hfa.trans hF2).set (Nat.le_refl _) _⟩

theorem leastG_le : ∀ (f n : Nat) (c : List Int), (leastG f n c).1 ≤ n
  | 0, n, c => Nat.le_refl _
  | f + 1, n, c => by
    rw [leastG]
    cases stepF n c with
    | none => exact Nat.le_refl _
    | some p => exact Nat.le_trans (leastG_le f _ _) (Nat.div_le_self _ _)

set_option maxHeartbeats 1000000 in
theorem rcheck_ok (v : V) (a : Int × List Int) (h : H) (ha : CycV h v a) (hl : a.2.length < 1000000) (hr : inR a.2) :
    Ev T n_ref06_Check [v] h (fun v h' => v = .int .i64 (checkF a) ∧ Fr h h') := by
  obtain ⟨u, rfl, hu⟩ := ha
  obtain ⟨N, C⟩ := a
  refine Ev_of t_ref06_Check rfl ?_
  simp (disch := first | omega | (simp only [Qn] <;> omega)) only [go_sem, c_ref06_Check, initV_eq, boxV_agg2 h (v := .int .i64 N) rfl hu.what.2.1]
  have hfa : Fr h (h.new (.cells false [.int .i64 N, u])) := (Fr.refl h).new _
  have hga : (h.new (.cells false [.int .i64 N, u])).get h.next = some (.cells false [.int .i64 N, u]) := H.get_new_same ..
  have hna : (h.new (.cells false [.int .i64 N, u])).next = h.next + 1 := H.next_new ..
  generalize h.new (.cells false [.int .i64 N, u]) = ha at *
  have c0 : ha.cell h.next 0 = some (.int .i64 N) := by rw [H.cell_of hga]; rfl
  have c1 : ha.cell h.next 1 = some u := by rw [H.cell_of hga]; rfl
  by_cases h1 : N < 1
  · rw [decide_eq_true h1]
    simp (disch := first | omega | (simp only [Qn] <;> omega)) only [go_sem]
    exact ⟨by rw [checkF, if_pos (.inl h1)], hfa⟩
  rw [decide_eq_false h1]
  simp (disch := first | omega | (simp only [Qn] <;> omega)) only [go_sem, c0]
  refine iteW_dec (fun h2 => ?_) (fun h2 => ?_)
  · simp (disch := first | omega | (simp only [Qn] <;> omega)) only [go_sem]
    exact ⟨by rw [checkF, if_pos (.inr h2)], hfa⟩
  obtain ⟨m, hm⟩ : ∃ m : Nat, N = (m : Int) := ⟨N.toNat, by omega⟩
  subst hm
  have hpl := phi_len (n := m) (by omega) (by omega)
  have hCk : checkF ((m : Int), C) = if C.length ≠ (phiF m).length - 1 then 3 else if C.any overF then 5 else if (leastF m C).1 < m then 3 else 0 := by
    rw [checkF, if_neg (by omega)]; rfl
  rw [hCk]
  simp (disch := first | omega | (simp only [Qn] <;> omega)) only [go_sem, c0, c1, (hu.mono hfa).lens]
  refine (rphi_ok m _ (by omega) (by omega)).mono ?_
  rintro v2 hb ⟨hv2, hfb, _⟩
  have hfb' : Fr ha hb := ((Fr.refl ha).bump (by omega)).trans hfb
  have hnb := hfb'.next
  have hgb := (hfb'.get h.next (by omega)).trans hga
  have d0 : hb.cell h.next 0 = some (.int .i64 (m : Int)) := by rw [H.cell_of hgb]; rfl
  have d1 : hb.cell h.next 1 = some u := by rw [H.cell_of hgb]; rfl
  have hub := (hu.mono hfa).mono hfb'
  simp (disch := first | omega | (simp only [Qn] <;> omega)) only [go_sem, hv2.lens, d0, d1, SV.eqV hub, List.getElem?_cons_zero, List.getElem?_cons_succ]
  refine iteW_dec (fun h3 => ?_) (fun h3 => ?_)
  · simp (disch := first | omega | (simp only [Qn] <;> omega)) only [go_sem]
    rw [if_pos (by omega)]
    exact ⟨rfl, hfa.trans hfb'⟩
  rw [if_neg (by omega)]
  have hCl : C.length = (phiF m).length - 1 := by omega
  simp (disch := first | omega | (simp only [Qn] <;> omega)) only [go_sem, d1]
  refine (rover_ok u C hb hub (by omega)).mono ?_
  rintro v3 h3' ⟨rfl, rfl⟩
  simp (disch := first | omega | (simp only [Qn] <;> omega)) only [go_sem]
  refine iteW_bool (fun hp => ?_) (fun hp => ?_)
  · simp (disch := first | omega | (simp only [Qn] <;> omega)) only [go_sem]
    rw [if_pos hp]
    exact ⟨rfl, hfa.trans hfb'⟩
  rw [if_neg (by rw [hp]; simp)]
  simp (disch := first | omega | (simp only [Qn] <;> omega)) only [go_sem, d0, d1]
  refine (rleast_ok m u C _ (by omega) (by omega) (hub.mono ((Fr.refl h3').bump (by omega))) hCl hr).mono ?_
  rintro v4 h4 ⟨w, rfl, hw, hf4, _⟩
  have hf4' : Fr h3' h4 := ((Fr.refl h3').bump (by omega)).trans hf4
  have hg4 := (hf4'.get h.next (by omega)).trans hgb
  have e0 : h4.cell h.next 0 = some (.int .i64 (m : Int)) := by rw [H.cell_of hg4]; rfl
  have hle := leastG_le m m C
  have hle' : (leastF m C).1 ≤ m := hle
  simp (disch := first | omega | (simp only [Qn] <;> omega)) only [go_sem, e0, List.getElem?_cons_zero]
  refine iteW_dec (fun h5 => ?_) (fun h5 => ?_)
  · simp (disch := first | omega | (simp only [Qn] <;> omega)) only [go_sem]
    rw [if_pos (by omega)]
    exact ⟨rfl, (hfa.trans hfb').trans hf4'⟩
  · simp (disch := first | omega | (simp only [Qn] <;> omega)) only [go_sem]
    rw [if_neg (by omega)]
    exact ⟨rfl, (hfa.trans hfb').trans hf4'⟩
end
end Go.Proofs.Ythfabknpogbcaaa
/- Contracts of the reference: Make, Root, Int, both, Add. -/
namespace Go.Proofs.Ythfabknpogbcaaa
open Go Go.Ay
set_option maxRecDepth 100000
noncomputable section

theorem accF_in (ix : Nat → Nat) (val : Nat → Int) {l0 : List Int} (h : inR l0) : ∀ k, inR (accF ix val l0 k)
  | 0 => h
  | k + 1 => by rw [accF]; exact (accF_in ix val h k).set (W_in _) _
theorem mulS_in (n N M : Nat) (A B : List Int) : ∀ i, inR (mulS n N M A B i)
  | 0 => by rw [mulS]; exact inR.zeros _
  | i + 1 => by rw [mulS, mulR]; exact accF_in _ _ (mulS_in n N M A B i) _

/-- 'add', in a list of one's own. -/
theorem radd_acc (id n : Nat) (cap : Cap) (l : List Int) (k x : Int) (z : Nat) (h : H) (hl : l.length = n) (hg : h.get id = some (.cells false (ints l))) (h0 : 0 < n) (h1 : n < 1000000) (hz : k % (n : Int) = (z : Int)) :
    Ev T n_ref06_add [.sl id 0 n cap, .int .i64 k, .int .i64 x] h (fun _ h' => h' = h.set id (some (.cells false (ints (l.set z (W (l.getD z 0 + x))))))) := by
  subst hl
  have := radd_ok id cap l k x h hg h0 h1
  rw [hz, Int.toNat_natCast] at this
  exact this

set_option maxHeartbeats 1000000 in
theorem rmake_ok (n : Int) (vc : V) (c : List Int) (h : H) (hc : SI h vc c) (hl : c.length < 1000000) :
    Ev T n_ref06_Make [.int .i64 n, vc] h (fun v h' => ∃ w, v = .tup [w, .int .i64 (makeF n c).2] ∧ CycO h' w (makeF n c).1 h.next ∧ Fr h h') := by
  refine Ev_of t_ref06_Make rfl ?_
  simp (disch := first | omega | (simp only [Qn] <;> omega)) only [go_sem, c_ref06_Make, initV_eq]
  have hfa : Fr h (h.new (.cells false [.int .i64 0, .nils])) := (Fr.refl h).new _
  have hga : (h.new (.cells false [.int .i64 0, .nils])).get h.next = some (.cells false [.int .i64 0, .nils]) := H.get_new_same ..
  have hna : (h.new (.cells false [.int .i64 0, .nils])).next = h.next + 1 := H.next_new ..
  have hst0 := fun hh => stV_agg2 hh h.next 0 (v := .int .i64 0) (u := .nils) rfl rfl
  generalize h.new (.cells false [.int .i64 0, .nils]) = ha at *
  have hrow0 := row_two (h := ha.set h.next (some (.cells false [.int .i64 0, .nils]))) (H.get_set_same ..)
  have hz : Fr h (ha.set h.next (some (.cells false [.int .i64 0, .nils]))) := hfa.set (Nat.le_refl _) _
  have hca := hc.mono hfa
  by_cases h1 : n < 1
  · rw [decide_eq_true h1]
    simp (disch := first | omega | (simp only [Qn] <;> omega)) only [go_sem, hst0, hga, hrow0]
    rw [makeF, if_pos (.inl h1)]
    exact ⟨_, rfl, CycO.zero _ _, hz⟩
  rw [decide_eq_false h1]
  simp (disch := first | omega | (simp only [Qn] <;> omega)) only [go_sem]
  refine iteW_dec (fun h2 => ?_) (fun h2 => ?_)
  · simp (disch := first | omega | (simp only [Qn] <;> omega)) only [go_sem, hst0, hga, hrow0]
    rw [makeF, if_pos (.inr h2)]
    exact ⟨_, rfl, CycO.zero _ _, hz⟩
  rw [makeF, if_neg (by omega)]
  simp (disch := first | omega | (simp only [Qn] <;> omega)) only [go_sem, hc.lens]
  refine iteW_dec (fun h3 => ?_) (fun h3 => ?_)
  · simp (disch := first | omega | (simp only [Qn] <;> omega)) only [go_sem, hst0, hga, hrow0]
    rw [if_pos (by omega)]
    exact ⟨_, rfl, CycO.zero _ _, hz⟩
  rw [if_neg (by omega)]
  simp (disch := first | omega | (simp only [Qn] <;> omega)) only [go_sem]
  refine (rover_ok vc c ha hca hl).mono ?_
  rintro v2 h2' ⟨rfl, rfl⟩
  simp (disch := first | omega | (simp only [Qn] <;> omega)) only [go_sem]
  refine iteW_bool (fun hp => ?_) (fun hp => ?_)
  · simp (disch := first | omega | (simp only [Qn] <;> omega)) only [go_sem, hst0, hga, hrow0]
    rw [if_pos hp]
    exact ⟨_, rfl, CycO.zero _ _, hz⟩
  rw [if_neg (by rw [hp]; simp)]
  obtain ⟨m, hm⟩ : ∃ m : Nat, n = (m : Int) := ⟨n.toNat, by omega⟩
  subst hm
  rw [Int.toNat_natCast]
  obtain ⟨cid, coff, hcs, hcid, hcc⟩ := hca.open
  simp (disch := first | omega | (simp only [Qn] <;> omega)) only [go_sem]
  have hnb : (h2'.new (.cells false (ints (List.replicate m 0)))).next = h2'.next + 1 := H.next_new ..
  have hgb : (h2'.new (.cells false (ints (List.replicate m 0)))).get h2'.next = some (.cells false (ints (List.replicate m 0))) := H.get_new_same ..
  have hfb : Fr h2' (h2'.new (.cells false (ints (List.replicate m 0)))) := (Fr.refl h2').new _
  generalize h2'.new (.cells false (ints (List.replicate m 0))) = hb at *
  refine Wp_loop (fun k' vars h6 => ∃ (j : Nat), (∃ g : Nat → V, vars = [.int .i64 (m : Int), vc, .ptr h.next 0, g 3, .sl h2'.next 0 m (.kn m), .int .i64 (j : Int), g 6, g 7, g 8, g 9]) ∧ j ≤ c.length ∧
    h6.get h2'.next = some (.cells false (ints (accF (fun i => i % m) (fun i => c.getD i 0) (List.replicate m 0) j))) ∧ Fr h2' h6 ∧ h2'.next < h6.next ∧ k' = c.length - j) c.length
    ⟨0, ex_junk rfl, Nat.zero_le _, hgb, hfb, by omega, rfl⟩ ?_
  rintro k' vars h6 ⟨j, ⟨g, rfl⟩, hj, hg6, hf6, hn6, rfl⟩
  have hal := accF_len (fun i => i % m) (fun i => c.getD i 0) (List.replicate m 0) j
  rw [List.length_replicate] at hal
  simp (disch := first | omega | (simp only [Qn] <;> omega)) only [go_sem, hc.lens]
  refine iteW_dec (fun hjc => ?_) (fun hjc => ?_)
  · have hcc6 := cells_fr hf6 hcid hcc
    simp (disch := first | omega | (simp only [Qn] <;> omega)) only [go_sem, hcs.ixa, hcc6]
    refine (radd_acc h2'.next m (.kn m) _ (j : Int) (c.getD j 0) (j % m) h6 hal hg6 (by omega) (by omega) (by omega)).mono ?_
    rintro v7 h7 rfl
    simp (disch := first | omega | (simp only [Qn] <;> omega)) only [go_sem]
    rw [show (j : Int) + 1 = ((j + 1 : Nat) : Int) from by omega]
    exact ⟨c.length - (j + 1), by omega, j + 1, ex_junk rfl, by omega, rfl, hf6.set (Nat.le_refl _) _, hn6, rfl⟩
  · have : c.length = j := by omega
    subst this
    simp (disch := first | omega | (simp only [Qn] <;> omega)) only [go_sem]
    have hsi : SI h6 (.sl h2'.next 0 m (.kn m)) (accF (fun i => i % m) (fun i => c.getD i 0) (List.replicate m 0) c.length) := by
      have := SI.own (h := h6) (id := h2'.next) (by omega) hg6 (.kn m)
      rw [hal] at this; exact this
    refine (rmade_ok m _ _ h6 (by omega) (by omega) hsi (by omega) (accF_in _ _ (inR.zeros _) _)).mono ?_
    rintro v7 h7 ⟨w, rfl, hcy, hf7⟩
    generalize madeF m _ = M at *
    have hf47 : Fr h2' h7 := hf6.trans hf7
    have hg7 := (hf47.get h.next (by omega)).trans hga
    obtain ⟨u', rfl, hu', hfu⟩ := hcy
    have hst3 := fun hh => stV_agg2 hh h.next 0 (v := .int .i64 M.1.1) (u := u') rfl hu'.what.2.1
    have hrow := row_two (h := h7.set h.next (some (.cells false [.int .i64 M.1.1, u']))) (H.get_set_same ..)
    simp (disch := first | omega | (simp only [Qn] <;> omega)) only [go_sem, hst3, hg7, hrow, List.getElem?_cons_zero, List.getElem?_cons_succ]
    exact ⟨_, rfl, (CycO.set ⟨u', rfl, hu', hfu⟩ (by omega) _).le (by omega), (hfa.trans hf47).set (by omega) _⟩

theorem rRoot_ok (n k : Int) (h : H) : Ev T n_ref06_Root [.int .i64 n, .int .i64 k] h (fun v h' => ∃ w, v = .tup [w, .int .i64 (rootF n k).2] ∧ CycO h' w (rootF n k).1 h.next ∧ Fr h h') := by
  refine Ev_of t_ref06_Root rfl ?_
  simp (disch := first | omega | (simp only [Qn] <;> omega)) only [go_sem, c_ref06_Root, initV_eq]
  have hfa : Fr h (h.new (.cells false [.int .i64 0, .nils])) := (Fr.refl h).new _
  have hga : (h.new (.cells false [.int .i64 0, .nils])).get h.next = some (.cells false [.int .i64 0, .nils]) := H.get_new_same ..
  have hna : (h.new (.cells false [.int .i64 0, .nils])).next = h.next + 1 := H.next_new ..
  have hst0 := fun hh => stV_agg2 hh h.next 0 (v := .int .i64 0) (u := .nils) rfl rfl
  generalize h.new (.cells false [.int .i64 0, .nils]) = ha at *
  have hrow0 := row_two (h := ha.set h.next (some (.cells false [.int .i64 0, .nils]))) (H.get_set_same ..)
  have hz : Fr h (ha.set h.next (some (.cells false [.int .i64 0, .nils]))) := hfa.set (Nat.le_refl _) _
  by_cases h1 : n < 1
  · rw [decide_eq_true h1]
    simp (disch := first | omega | (simp only [Qn] <;> omega)) only [go_sem, hst0, hga, hrow0]
    rw [rootF, if_pos (.inl h1)]
    exact ⟨_, rfl, CycO.zero _ _, hz⟩
  rw [decide_eq_false h1]
  simp (disch := first | omega | (simp only [Qn] <;> omega)) only [go_sem]
  refine iteW_dec (fun h2 => ?_) (fun h2 => ?_)
  · simp (disch := first | omega | (simp only [Qn] <;> omega)) only [go_sem, hst0, hga, hrow0]
    rw [rootF, if_pos (.inr h2)]
    exact ⟨_, rfl, CycO.zero _ _, hz⟩
  rw [rootF, if_neg (by omega)]
  obtain ⟨m, hm⟩ : ∃ m : Nat, n = (m : Int) := ⟨n.toNat, by omega⟩
  subst hm
  rw [Int.toNat_natCast]
  simp (disch := first | omega | (simp only [Qn] <;> omega)) only [go_sem]
  have hnb : (ha.new (.cells false (ints (List.replicate m 0)))).next = ha.next + 1 := H.next_new ..
  have hgb : (ha.new (.cells false (ints (List.replicate m 0)))).get ha.next = some (.cells false (ints (List.replicate m 0))) := H.get_new_same ..
  have hfb : Fr ha (ha.new (.cells false (ints (List.replicate m 0)))) := (Fr.refl ha).new _
  generalize ha.new (.cells false (ints (List.replicate m 0))) = hb at *
  have hr0 := Int.emod_nonneg k (show (m : Int) ≠ 0 by omega)
  have hr1 := Int.emod_lt_of_pos k (show (0 : Int) < m by omega)
  obtain ⟨r, hr⟩ : ∃ r : Nat, k % (m : Int) = (r : Int) := ⟨(k % (m : Int)).toNat, by omega⟩
  refine (radd_acc ha.next m (.kn m) _ k 1 r hb List.length_replicate hgb (by omega) (by omega) hr).mono ?_
  rintro v6 h6 rfl
  simp (disch := first | omega | (simp only [Qn] <;> omega)) only [go_sem]
  have hg6 : (hb.set ha.next (some (.cells false (ints ((List.replicate m 0).set r (W ((List.replicate m 0).getD r 0 + 1))))))).get ha.next = some (.cells false (ints ((List.replicate m 0).set r (W ((List.replicate m 0).getD r 0 + 1))))) := H.get_set_same ..
  have hf6 : Fr ha (hb.set ha.next (some (.cells false (ints ((List.replicate m 0).set r (W ((List.replicate m 0).getD r 0 + 1))))))) := hfb.set (Nat.le_refl _) _
  have hn6 : (hb.set ha.next (some (.cells false (ints ((List.replicate m 0).set r (W ((List.replicate m 0).getD r 0 + 1))))))).next = hb.next := rfl
  have e1 : W ((List.replicate m (0 : Int)).getD r 0 + 1) = 1 := by
    rw [List.getD_eq_getElem?_getD, List.getElem?_replicate, if_pos (by omega)]; decide
  rw [e1] at hg6 hf6 hn6 ⊢
  generalize hb.set ha.next (some (.cells false (ints ((List.replicate m 0).set r 1)))) = h6 at *
  have hsi : SI h6 (.sl ha.next 0 m (.kn m)) ((List.replicate m 0).set r 1) := by
    have := SI.own (h := h6) (id := ha.next) (by omega) hg6 (.kn m)
    rw [List.length_set, List.length_replicate] at this; exact this
  rw [hr, Int.toNat_natCast]
  refine (rmade_ok m _ _ h6 (by omega) (by omega) hsi (by rw [List.length_set, List.length_replicate]; omega) ((inR.zeros m).set (by omega) _)).mono ?_
  rintro v7 h7 ⟨w, rfl, hcy, hf7⟩
  generalize madeF m _ = M at *
  have hf47 : Fr ha h7 := hf6.trans hf7
  have hg7 := (hf47.get h.next (by omega)).trans hga
  obtain ⟨u', rfl, hu', hfu⟩ := hcy
  have hst3 := fun hh => stV_agg2 hh h.next 0 (v := .int .i64 M.1.1) (u := u') rfl hu'.what.2.1
  have hrow := row_two (h := h7.set h.next (some (.cells false [.int .i64 M.1.1, u']))) (H.get_set_same ..)
  simp (disch := first | omega | (simp only [Qn] <;> omega)) only [go_sem, hst3, hg7, hrow, List.getElem?_cons_zero, List.getElem?_cons_succ]
  exact ⟨_, rfl, (CycO.set ⟨u', rfl, hu', hfu⟩ (by omega) _).le (by omega), (hfa.trans hf47).set (by omega) _⟩

theorem rInt_ok (k : Int) (h : H) : Ev T n_ref06_Int [.int .i64 k] h (fun v h' => ∃ w, v = .tup [w, .int .i64 (makeF 1 [k]).2] ∧ CycO h' w (makeF 1 [k]).1 h.next ∧ Fr h h') := by
  refine Ev_of t_ref06_Int rfl ?_
  simp (disch := first | omega | (simp only [Qn] <;> omega)) only [go_sem, c_ref06_Int, initV_eq, bls_int1]
  have hfa : Fr h (h.new (.cells false [.int .i64 0, .nils])) := (Fr.refl h).new _
  have hga : (h.new (.cells false [.int .i64 0, .nils])).get h.next = some (.cells false [.int .i64 0, .nils]) := H.get_new_same ..
  have hna : (h.new (.cells false [.int .i64 0, .nils])).next = h.next + 1 := H.next_new ..
  rw [← hna]
  generalize h.new (.cells false [.int .i64 0, .nils]) = ha at *
  have hfb : Fr ha (ha.new (.cells false (ints [k]))) := (Fr.refl ha).new _
  have hsb : SI (ha.new (.cells false (ints [k]))) (.sl ha.next 0 1 (.kn 1)) [k] := SI.own (l := [k]) (by rw [H.next_new]; omega) (H.get_new_same ..) (.kn 1)
  have hnb : (ha.new (.cells false (ints [k]))).next = ha.next + 1 := H.next_new ..
  generalize ha.new (.cells false (ints [k])) = hb at *
  refine (rmake_ok 1 _ [k] hb hsb (by simp)).mono ?_
  rintro v7 h7 ⟨w, rfl, hcy, hf7⟩
  generalize makeF 1 [k] = M at *
  have hf47 : Fr ha h7 := hfb.trans hf7
  have hg7 := (hf47.get h.next (by omega)).trans hga
  obtain ⟨u', rfl, hu', hfu⟩ := hcy
  have hst3 := fun hh => stV_agg2 hh h.next 0 (v := .int .i64 M.1.1) (u := u') rfl hu'.what.2.1
  have hrow := row_two (h := h7.set h.next (some (.cells false [.int .i64 M.1.1, u']))) (H.get_set_same ..)
  simp (disch := first | omega | (simp only [Qn] <;> omega)) only [go_sem, hst3, hg7, hrow, List.getElem?_cons_zero, List.getElem?_cons_succ]
  exact ⟨_, rfl, (CycO.set ⟨u', rfl, hu', hfu⟩ (by omega) _).le (by omega), (hfa.trans hf47).set (by omega) _⟩
end
end Go.Proofs.Ythfabknpogbcaaa
/- Contracts of the reference: both, Add, Mul. -/
namespace Go.Proofs.Ythfabknpogbcaaa
open Go Go.Ay
set_option maxRecDepth 100000
noncomputable section

theorem orF_first {a b : Int} (h : a ≠ 0) : orF [a, b] = a := by
  rw [orF, List.find?_cons_of_pos (by simpa using h)]; rfl
theorem orF_second {a b : Int} (h : a = 0) : orF [a, b] = b := by
  subst h
  by_cases hb : b = 0
  · subst hb; rfl
  · rw [orF, List.find?_cons_of_neg (by simp), List.find?_cons_of_pos (by simpa using hb)]; rfl

set_option maxHeartbeats 1000000 in
theorem rboth_ok (va vb : V) (a b : Int × List Int) (h : H) (ha : CycV h va a) (hb : CycV h vb b) (hla : a.2.length < 1000000) (hlb : b.2.length < 1000000) (hra : inR a.2) (hrb : inR b.2) :
    Ev T n_ref06_both [va, vb] h (fun v h' => v = .tup [.int .i64 (commonF a b).1, .int .i64 (commonF a b).2] ∧ Fr h h') := by
  obtain ⟨u, rfl, hu⟩ := ha
  obtain ⟨w, rfl, hw⟩ := hb
  obtain ⟨N, A⟩ := a
  obtain ⟨M, B⟩ := b
  refine Ev_of t_ref06_both rfl ?_
  simp (disch := first | omega | (simp only [Qn] <;> omega)) only [go_sem, c_ref06_both, initV_eq, boxV_agg2 h (v := .int .i64 N) rfl hu.what.2.1]
  have hfx : Fr h (h.new (.cells false [.int .i64 N, u])) := (Fr.refl h).new _
  have hgx : (h.new (.cells false [.int .i64 N, u])).get h.next = some (.cells false [.int .i64 N, u]) := H.get_new_same ..
  have hnx : (h.new (.cells false [.int .i64 N, u])).next = h.next + 1 := H.next_new ..
  generalize h.new (.cells false [.int .i64 N, u]) = hx at *
  simp (disch := first | omega | (simp only [Qn] <;> omega)) only [go_sem, boxV_agg2 hx (v := .int .i64 M) rfl hw.what.2.1]
  have hfy : Fr hx (hx.new (.cells false [.int .i64 M, w])) := (Fr.refl hx).new _
  have hgy : (hx.new (.cells false [.int .i64 M, w])).get hx.next = some (.cells false [.int .i64 M, w]) := H.get_new_same ..
  have hny : (hx.new (.cells false [.int .i64 M, w])).next = hx.next + 1 := H.next_new ..
  generalize hx.new (.cells false [.int .i64 M, w]) = hy at *
  have hgxy := (hfy.get h.next (by omega)).trans hgx
  have hF := hfx.trans hfy
  simp (disch := first | omega | (simp only [Qn] <;> omega)) only [go_sem, row_two hgxy]
  refine (rcheck_ok _ (N, A) hy ⟨u, rfl, hu.mono hF⟩ hla hra).mono ?_
  rintro v3 h3 ⟨rfl, hf3⟩
  have hn3 := hf3.next
  have hgx3 := (hf3.get h.next (by omega)).trans hgxy
  have hgy3 := (hf3.get hx.next (by omega)).trans hgy
  simp (disch := first | omega | (simp only [Qn] <;> omega)) only [go_sem]
  refine iteW_dec (fun h1 => ?_) (fun h1 => ?_)
  · simp (disch := first | omega | (simp only [Qn] <;> omega)) only [go_sem]
    rw [commonF, orF_first h1, if_pos h1]
    exact ⟨rfl, hF.trans hf3⟩
  simp (disch := first | omega | (simp only [Qn] <;> omega)) only [go_sem, row_two hgy3]
  refine (rcheck_ok _ (M, B) h3 ⟨w, rfl, (hw.mono hF).mono hf3⟩ hlb hrb).mono ?_
  rintro v4 h4 ⟨rfl, hf4⟩
  have hn4 := hf4.next
  have hgx4 := (hf4.get h.next (by omega)).trans hgx3
  have hgy4 := (hf4.get hx.next (by omega)).trans hgy3
  have z1 : checkF (N, A) = 0 := by omega
  rw [commonF, orF_second z1]
  simp (disch := first | omega | (simp only [Qn] <;> omega)) only [go_sem]
  refine iteW_dec (fun h2 => ?_) (fun h2 => ?_)
  · simp (disch := first | omega | (simp only [Qn] <;> omega)) only [go_sem]
    rw [if_pos h2]
    exact ⟨rfl, (hF.trans hf3).trans hf4⟩
  rw [if_neg h2]
  have z2 : checkF (M, B) = 0 := by omega
  have g1 := check_range z1
  have g2 := check_range z2
  simp only at g1 g2
  have c0 : ∀ n, (H.mk h4.tr n).cell h.next 0 = some (.int .i64 N) := fun n => by rw [H.cell_of (h := H.mk h4.tr n) hgx4]; rfl
  have c1 : ∀ n, (H.mk h4.tr n).cell hx.next 0 = some (.int .i64 M) := fun n => by rw [H.cell_of (h := H.mk h4.tr n) hgy4]; rfl
  have c0' : h4.cell h.next 0 = some (.int .i64 N) := c0 h4.next
  have c1' : h4.cell hx.next 0 = some (.int .i64 M) := c1 h4.next
  simp (disch := first | omega | (simp only [Qn] <;> omega)) only [go_sem, c0', c1']
  refine (rgcd_ok N M (H.mk h4.tr (h4.next + 12)) (by omega) (by omega)).mono ?_
  rintro v5 h5 ⟨rfl, hf5⟩
  have hf5' : Fr h4 h5 := ((Fr.refl h4).bump (by omega)).trans hf5
  have e0 : h5.cell h.next 0 = some (.int .i64 N) := by rw [hf5'.cell (by omega)]; exact c0'
  have e1 : h5.cell hx.next 0 = some (.int .i64 M) := by rw [hf5'.cell (by omega)]; exact c1'
  have hG : 1 ≤ Int.gcd N M := Nat.one_le_iff_ne_zero.2 (fun e => by rw [Int.gcd_eq_zero_iff] at e; omega)
  have hdiv : N.tdiv (Int.gcd N M : Int) = N / (Int.gcd N M : Int) := Int.tdiv_eq_ediv_of_nonneg (by omega)
  have hq0 : 0 ≤ N / (Int.gcd N M : Int) := Int.ediv_nonneg (by omega) (by omega)
  have hq1 : N / (Int.gcd N M : Int) ≤ 120 := Int.le_trans (Int.ediv_le_self _ (by omega)) g1.2.1
  have hm0 : 0 ≤ N / (Int.gcd N M : Int) * M := Int.mul_nonneg hq0 (by omega)
  have hm1 : N / (Int.gcd N M : Int) * M ≤ 120 * 120 := Int.mul_le_mul hq1 g2.2.1 (by omega) (by omega)
  simp (disch := first | omega | (simp only [Qn] <;> omega)) only [go_sem, e0, e1, hdiv]
  refine iteW_dec (fun h6 => ?_) (fun h6 => ?_)
  · simp (disch := first | omega | (simp only [Qn] <;> omega)) only [go_sem]
    rw [if_pos h6]
    exact ⟨rfl, ((hF.trans hf3).trans hf4).trans hf5'⟩
  · simp (disch := first | omega | (simp only [Qn] <;> omega)) only [go_sem]
    rw [if_neg h6]
    exact ⟨rfl, ((hF.trans hf3).trans hf4).trans hf5'⟩

set_option maxHeartbeats 2000000 in
theorem radd'_ok (va vb : V) (a b : Int × List Int) (h : H) (ha : CycV h va a) (hb : CycV h vb b) (hla : a.2.length < 1000000) (hlb : b.2.length < 1000000) (hra : inR a.2) (hrb : inR b.2) :
    Ev T n_ref06_Add [va, vb] h (fun v h' => ∃ w, v = .tup [w, .int .i64 (addF a b).2] ∧ CycO h' w (addF a b).1 h.next ∧ Fr h h') := by
  obtain ⟨u, rfl, hu⟩ := ha
  obtain ⟨w, rfl, hw⟩ := hb
  obtain ⟨N, A⟩ := a
  obtain ⟨M, B⟩ := b
  simp only at hu hw hla hlb
  refine Ev_of t_ref06_Add rfl ?_
  simp (disch := first | omega | (simp only [Qn] <;> omega)) only [go_sem, c_ref06_Add, initV_eq, boxV_agg2 h (v := .int .i64 N) rfl hu.what.2.1]
  have hfx : Fr h (h.new (.cells false [.int .i64 N, u])) := (Fr.refl h).new _
  have hgx : (h.new (.cells false [.int .i64 N, u])).get h.next = some (.cells false [.int .i64 N, u]) := H.get_new_same ..
  have hnx : (h.new (.cells false [.int .i64 N, u])).next = h.next + 1 := H.next_new ..
  generalize h.new (.cells false [.int .i64 N, u]) = hx at *
  simp (disch := first | omega | (simp only [Qn] <;> omega)) only [go_sem, boxV_agg2 hx (v := .int .i64 M) rfl hw.what.2.1]
  have hfy : Fr hx (hx.new (.cells false [.int .i64 M, w])) := (Fr.refl hx).new _
  have hgy : (hx.new (.cells false [.int .i64 M, w])).get hx.next = some (.cells false [.int .i64 M, w]) := H.get_new_same ..
  have hny : (hx.new (.cells false [.int .i64 M, w])).next = hx.next + 1 := H.next_new ..
  generalize hx.new (.cells false [.int .i64 M, w]) = hy at *
  rw [← hny]
  have hfa : Fr hy (hy.new (.cells false [.int .i64 0, .nils])) := (Fr.refl hy).new _
  have hga : (hy.new (.cells false [.int .i64 0, .nils])).get hy.next = some (.cells false [.int .i64 0, .nils]) := H.get_new_same ..
  have hna : (hy.new (.cells false [.int .i64 0, .nils])).next = hy.next + 1 := H.next_new ..
  generalize hy.new (.cells false [.int .i64 0, .nils]) = ha at *
  have hgya := (hfa.get hx.next (by omega)).trans hgy
  have hgxa := (hfa.get h.next (by omega)).trans ((hfy.get h.next (by omega)).trans hgx)
  have hfh := (hfx.trans hfy).trans hfa
  simp (disch := first | omega | (simp only [Qn] <;> omega)) only [go_sem, row_two hgxa, row_two hgya]
  refine (rboth_ok _ _ (N, A) (M, B) ha ⟨u, rfl, hu.mono hfh⟩ ⟨w, rfl, hw.mono hfh⟩ hla hlb hra hrb).mono ?_
  rintro v1 hb ⟨rfl, hfb⟩
  have hnb := hfb.next
  have hgb := (hfb.get hy.next (by omega)).trans hga
  have hgxb := (hfb.get h.next (by omega)).trans hgxa
  have hgyb := (hfb.get hx.next (by omega)).trans hgya
  have hst0 := fun hh => stV_agg2 hh hy.next 0 (v := .int .i64 0) (u := .nils) rfl rfl
  have hrow0 := row_two (h := hb.set hy.next (some (.cells false [.int .i64 0, .nils]))) (H.get_set_same ..)
  have hF : Fr h hb := hfh.trans hfb
  simp (disch := first | omega | (simp only [Qn] <;> omega)) only [go_sem, List.getElem?_cons_zero, List.getElem?_cons_succ]
  refine iteW_dec (fun h1 => ?_) (fun h1 => ?_)
  · simp (disch := first | omega | (simp only [Qn] <;> omega)) only [go_sem, hst0, hgb, hrow0]
    rw [addF, if_pos h1]
    exact ⟨_, rfl, CycO.zero _ _, hF.set (by omega) _⟩
  rw [addF, if_neg h1]
  obtain ⟨r1, r2, r3, r4⟩ := common_range (show (commonF (N, A) (M, B)).2 = 0 by omega)
  have g1 := check_range r1
  have g2 := check_range r2
  simp only at g1 g2
  obtain ⟨n, hn⟩ : ∃ n : Nat, (commonF (N, A) (M, B)).1 = (n : Int) := ⟨(commonF (N, A) (M, B)).1.toNat, by omega⟩
  rw [hn] at r3 r4 ⊢
  obtain ⟨N, rfl⟩ : ∃ N' : Nat, N = (N' : Int) := ⟨N.toNat, by omega⟩
  obtain ⟨M, rfl⟩ : ∃ M' : Nat, M = (M' : Int) := ⟨M.toNat, by omega⟩
  simp only [Int.toNat_natCast] at g1 g2 ⊢
  clear hn h1 r1 r2
  have hpN := phi_len (n := N) (by omega) (by omega)
  have hpM := phi_len (n := M) (by omega) (by omega)
  have exN : (n : Int).tdiv (N : Int) = ((n / N : Nat) : Int) := rfl
  have exM : (n : Int).tdiv (M : Int) = ((n / M : Nat) : Int) := rfl
  have hdN := Nat.div_le_self n N
  have hdM := Nat.div_le_self n M
  simp (disch := first | omega | (simp only [Qn] <;> omega)) only [go_sem]
  have hf5 : Fr hb (hb.new (.cells false (ints (List.replicate n 0)))) := (Fr.refl hb).new _
  have hg5 : (hb.new (.cells false (ints (List.replicate n 0)))).get hb.next = some (.cells false (ints (List.replicate n 0))) := H.get_new_same ..
  have hn5 : (hb.new (.cells false (ints (List.replicate n 0)))).next = hb.next + 1 := H.next_new ..
  generalize hb.new (.cells false (ints (List.replicate n 0))) = h5 at *
  obtain ⟨cid, coff, hcs, hcid, hcc⟩ := hu.open
  obtain ⟨did, doff, hds, hdid, hdc⟩ := hw.open
  refine Wp_loop (fun k' vars h6 => ∃ (j : Nat), (∃ g : Nat → V, vars = [g 0, g 1, .ptr h.next 0, .ptr hx.next 0, .ptr hy.next 0, g 5, .int .i64 (n : Int), g 7, .sl hb.next 0 n (.kn n), .int .i64 (j : Int), g 10, g 11, g 12, g 13]) ∧ j ≤ A.length ∧
    h6.get hb.next = some (.cells false (ints (accF (fun i => i * (n / N)) (fun i => A.getD i 0) (List.replicate n 0) j))) ∧ Fr hb h6 ∧ hb.next < h6.next ∧ k' = A.length - j) A.length
    ⟨0, ex_junk rfl, Nat.zero_le _, hg5, hf5, by omega, rfl⟩ ?_
  rintro k' vars h6 ⟨j, ⟨g, rfl⟩, hj, hg6, hf6, hn6, rfl⟩
  have hal := accF_len (fun i => i * (n / N)) (fun i => A.getD i 0) (List.replicate n 0) j
  rw [List.length_replicate] at hal
  have hgx6 := (hf6.get h.next (by omega)).trans hgxb
  have d0 : h6.cell h.next 0 = some (.int .i64 (N : Int)) := by rw [H.cell_of hgx6]; rfl
  have d1 : h6.cell h.next 1 = some u := by rw [H.cell_of hgx6]; rfl
  simp (disch := first | omega | (simp only [Qn] <;> omega)) only [go_sem, d1, hu.lens]
  refine iteW_dec (fun hjc => ?_) (fun hjc => ?_)
  · have hcc6 := cells_fr (hF.trans hf6) hcid hcc
    have hjm : j * (n / N) < n := idx_lt (by omega) (by omega)
    have hz : ((j * (n / N) : Nat) : Int) % (n : Int) = ((j * (n / N) : Nat) : Int) := Int.emod_eq_of_lt (by omega) (by omega)
    have hstep : accF (fun i => i * (n / N)) (fun i => A.getD i 0) (List.replicate n 0) (j + 1) = (accF (fun i => i * (n / N)) (fun i => A.getD i 0) (List.replicate n 0) j).set (j * (n / N)) (W ((accF (fun i => i * (n / N)) (fun i => A.getD i 0) (List.replicate n 0) j).getD (j * (n / N)) 0 + A.getD j 0)) := rfl
    have em0 : (j : Int) * ((n / N : Nat) : Int) = ((j * (n / N) : Nat) : Int) := (Int.natCast_mul ..).symm
    generalize n / N = tN at *
    generalize j * tN = z at *
    simp (disch := first | omega | (simp only [Qn] <;> omega)) only [go_sem, exN, em0, d0, d1, hcs.ixa, hcc6]
    refine (radd_acc hb.next n (.kn n) _ (z : Int) (A.getD j 0) z (H.mk h6.tr (h6.next + 13)) hal hg6 (by omega) (by omega) hz).mono ?_
    rintro v7 h7 rfl
    simp (disch := first | omega | (simp only [Qn] <;> omega)) only [go_sem]
    rw [show (j : Int) + 1 = ((j + 1 : Nat) : Int) from by omega]
    exact ⟨A.length - (j + 1), by omega, j + 1, ex_junk rfl, by omega, by rw [hstep], (hf6.bump (by omega)).set (Nat.le_refl _) _, by show hb.next < h6.next + 13; omega, rfl⟩
  have : A.length = j := by omega
  subst this
  have hSA : inR (accF (fun i => i * (n / N)) (fun i => A.getD i 0) (List.replicate n 0) A.length) := accF_in _ _ (inR.zeros _) _
  generalize accF (fun i => i * (n / N)) (fun i => A.getD i 0) (List.replicate n 0) A.length = SA at *
  simp (disch := first | omega | (simp only [Qn] <;> omega)) only [go_sem]
  refine Wp_loop (fun k' vars h7 => ∃ (j : Nat), (∃ g : Nat → V, vars = [g 0, g 1, .ptr h.next 0, .ptr hx.next 0, .ptr hy.next 0, g 5, .int .i64 (n : Int), g 7, .sl hb.next 0 n (.kn n), g 9, .int .i64 (j : Int), g 11, g 12, g 13]) ∧ j ≤ B.length ∧
    h7.get hb.next = some (.cells false (ints (accF (fun i => i * (n / M)) (fun i => B.getD i 0) SA j))) ∧ Fr hb h7 ∧ hb.next < h7.next ∧ k' = B.length - j) B.length
    ⟨0, ex_junk rfl, Nat.zero_le _, hg6, hf6, by omega, rfl⟩ ?_
  clear hgx6 d0 d1 hf6 hn6 hg6 hjc
  rintro k' vars h7 ⟨j, ⟨g, rfl⟩, hj, hg7, hf7, hn7, rfl⟩
  have hal7 := accF_len (fun i => i * (n / M)) (fun i => B.getD i 0) SA j
  rw [hal] at hal7
  have hgy7 := (hf7.get hx.next (by omega)).trans hgyb
  have d0 : h7.cell hx.next 0 = some (.int .i64 (M : Int)) := by rw [H.cell_of hgy7]; rfl
  have d1 : h7.cell hx.next 1 = some w := by rw [H.cell_of hgy7]; rfl
  simp (disch := first | omega | (simp only [Qn] <;> omega)) only [go_sem, d1, hw.lens]
  refine iteW_dec (fun hjc => ?_) (fun hjc => ?_)
  · have hcc7 := cells_fr (hF.trans hf7) hdid hdc
    have hjm : j * (n / M) < n := idx_lt (by omega) (by omega)
    have hz : ((j * (n / M) : Nat) : Int) % (n : Int) = ((j * (n / M) : Nat) : Int) := Int.emod_eq_of_lt (by omega) (by omega)
    have hstep : accF (fun i => i * (n / M)) (fun i => B.getD i 0) SA (j + 1) = (accF (fun i => i * (n / M)) (fun i => B.getD i 0) SA j).set (j * (n / M)) (W ((accF (fun i => i * (n / M)) (fun i => B.getD i 0) SA j).getD (j * (n / M)) 0 + B.getD j 0)) := rfl
    have em0 : (j : Int) * ((n / M : Nat) : Int) = ((j * (n / M) : Nat) : Int) := (Int.natCast_mul ..).symm
    generalize n / M = tM at *
    generalize j * tM = z at *
    simp (disch := first | omega | (simp only [Qn] <;> omega)) only [go_sem, exM, em0, d0, d1, hds.ixa, hcc7]
    refine (radd_acc hb.next n (.kn n) _ (z : Int) (B.getD j 0) z (H.mk h7.tr (h7.next + 13)) hal7 hg7 (by omega) (by omega) hz).mono ?_
    rintro v8 h8 rfl
    simp (disch := first | omega | (simp only [Qn] <;> omega)) only [go_sem]
    rw [show (j : Int) + 1 = ((j + 1 : Nat) : Int) from by omega]
    exact ⟨B.length - (j + 1), by omega, j + 1, ex_junk rfl, by omega, by rw [hstep], (hf7.bump (by omega)).set (Nat.le_refl _) _, by show hb.next < h7.next + 13; omega, rfl⟩
  have : B.length = j := by omega
  subst this
  simp (disch := first | omega | (simp only [Qn] <;> omega)) only [go_sem]
  have hsi : SI h7 (.sl hb.next 0 n (.kn n)) (accF (fun i => i * (n / M)) (fun i => B.getD i 0) SA B.length) := by
    have := SI.own (h := h7) (id := hb.next) (by omega) hg7 (.kn n)
    rw [hal7] at this; exact this
  refine (rmade_ok n _ _ h7 (by omega) (by omega) hsi (by omega) (accF_in _ _ hSA _)).mono ?_
  rintro v8 h8 ⟨w8, rfl, hcy, hf8⟩
  generalize madeF n _ = R at *
  have hf78 : Fr hb h8 := hf7.trans hf8
  have hn78 := hf78.next
  have hg8 := (hf78.get hy.next (by omega)).trans hgb
  obtain ⟨u', rfl, hu', hfu⟩ := hcy
  have hst3 := fun hh => stV_agg2 hh hy.next 0 (v := .int .i64 R.1.1) (u := u') rfl hu'.what.2.1
  have hrow := row_two (h := h8.set hy.next (some (.cells false [.int .i64 R.1.1, u']))) (H.get_set_same ..)
  simp (disch := first | omega | (simp only [Qn] <;> omega)) only [go_sem, hst3, hg8, hrow, List.getElem?_cons_zero, List.getElem?_cons_succ]
  exact ⟨_, rfl, (CycO.set ⟨u', rfl, hu', hfu⟩ (by omega) _).le (by omega), (hF.trans hf78).set (by omega) _⟩
end
end Go.Proofs.Ythfabknpogbcaaa
/- Contracts of the reference: Mul, Scale, Galois, Conj, Rational. -/
namespace Go.Proofs.Ythfabknpogbcaaa
open Go Go.Ay
set_option maxRecDepth 100000
noncomputable section

set_option maxHeartbeats 2000000 in
theorem rmul_ok (va vb : V) (a b : Int × List Int) (h : H) (ha : CycV h va a) (hb : CycV h vb b) (hla : a.2.length < 1000000) (hlb : b.2.length < 1000000) (hra : inR a.2) (hrb : inR b.2) :
    Ev T n_ref06_Mul [va, vb] h (fun v h' => ∃ w, v = .tup [w, .int .i64 (mulF a b).2] ∧ CycO h' w (mulF a b).1 h.next ∧ Fr h h') := by
  obtain ⟨u, rfl, hu⟩ := ha
  obtain ⟨w, rfl, hw⟩ := hb
  obtain ⟨N, A⟩ := a
  obtain ⟨M, B⟩ := b
  simp only at hu hw hla hlb
  refine Ev_of t_ref06_Mul rfl ?_
  simp (disch := first | omega | (simp only [Qn] <;> omega)) only [go_sem, c_ref06_Mul, initV_eq, boxV_agg2 h (v := .int .i64 N) rfl hu.what.2.1]
  have hfx : Fr h (h.new (.cells false [.int .i64 N, u])) := (Fr.refl h).new _
  have hgx : (h.new (.cells false [.int .i64 N, u])).get h.next = some (.cells false [.int .i64 N, u]) := H.get_new_same ..
  have hnx : (h.new (.cells false [.int .i64 N, u])).next = h.next + 1 := H.next_new ..
  generalize h.new (.cells false [.int .i64 N, u]) = hx at *
  simp (disch := first | omega | (simp only [Qn] <;> omega)) only [go_sem, boxV_agg2 hx (v := .int .i64 M) rfl hw.what.2.1]
  have hfy : Fr hx (hx.new (.cells false [.int .i64 M, w])) := (Fr.refl hx).new _
  have hgy : (hx.new (.cells false [.int .i64 M, w])).get hx.next = some (.cells false [.int .i64 M, w]) := H.get_new_same ..
  have hny : (hx.new (.cells false [.int .i64 M, w])).next = hx.next + 1 := H.next_new ..
  generalize hx.new (.cells false [.int .i64 M, w]) = hy at *
  rw [← hny]
  have hfa : Fr hy (hy.new (.cells false [.int .i64 0, .nils])) := (Fr.refl hy).new _
  have hga : (hy.new (.cells false [.int .i64 0, .nils])).get hy.next = some (.cells false [.int .i64 0, .nils]) := H.get_new_same ..
  have hna : (hy.new (.cells false [.int .i64 0, .nils])).next = hy.next + 1 := H.next_new ..
  generalize hy.new (.cells false [.int .i64 0, .nils]) = ha at *
  have hgya := (hfa.get hx.next (by omega)).trans hgy
  have hgxa := (hfa.get h.next (by omega)).trans ((hfy.get h.next (by omega)).trans hgx)
  have hfh := (hfx.trans hfy).trans hfa
  simp (disch := first | omega | (simp only [Qn] <;> omega)) only [go_sem, row_two hgxa, row_two hgya]
  refine (rboth_ok _ _ (N, A) (M, B) ha ⟨u, rfl, hu.mono hfh⟩ ⟨w, rfl, hw.mono hfh⟩ hla hlb hra hrb).mono ?_
  rintro v1 hb ⟨rfl, hfb⟩
  have hnb := hfb.next
  have hgb := (hfb.get hy.next (by omega)).trans hga
  have hgxb := (hfb.get h.next (by omega)).trans hgxa
  have hgyb := (hfb.get hx.next (by omega)).trans hgya
  have hst0 := fun hh => stV_agg2 hh hy.next 0 (v := .int .i64 0) (u := .nils) rfl rfl
  have hrow0 := row_two (h := hb.set hy.next (some (.cells false [.int .i64 0, .nils]))) (H.get_set_same ..)
  have hF : Fr h hb := hfh.trans hfb
  simp (disch := first | omega | (simp only [Qn] <;> omega)) only [go_sem, List.getElem?_cons_zero, List.getElem?_cons_succ]
  refine iteW_dec (fun h1 => ?_) (fun h1 => ?_)
  · simp (disch := first | omega | (simp only [Qn] <;> omega)) only [go_sem, hst0, hgb, hrow0]
    rw [mulF, if_pos h1]
    exact ⟨_, rfl, CycO.zero _ _, hF.set (by omega) _⟩
  rw [mulF, if_neg h1]
  obtain ⟨r1, r2, r3, r4⟩ := common_range (show (commonF (N, A) (M, B)).2 = 0 by omega)
  have g1 := check_range r1
  have g2 := check_range r2
  simp only at g1 g2
  obtain ⟨n, hn⟩ : ∃ n : Nat, (commonF (N, A) (M, B)).1 = (n : Int) := ⟨(commonF (N, A) (M, B)).1.toNat, by omega⟩
  rw [hn] at r3 r4 ⊢
  obtain ⟨N, rfl⟩ : ∃ N' : Nat, N = (N' : Int) := ⟨N.toNat, by omega⟩
  obtain ⟨M, rfl⟩ : ∃ M' : Nat, M = (M' : Int) := ⟨M.toNat, by omega⟩
  simp only [Int.toNat_natCast] at g1 g2 ⊢
  clear hn h1 r1 r2
  have hpN := phi_len (n := N) (by omega) (by omega)
  have hpM := phi_len (n := M) (by omega) (by omega)
  have exN : (n : Int).tdiv (N : Int) = ((n / N : Nat) : Int) := rfl
  have exM : (n : Int).tdiv (M : Int) = ((n / M : Nat) : Int) := rfl
  have hdN := Nat.div_le_self n N
  have hdM := Nat.div_le_self n M
  simp (disch := first | omega | (simp only [Qn] <;> omega)) only [go_sem]
  have hf5 : Fr hb (hb.new (.cells false (ints (List.replicate n 0)))) := (Fr.refl hb).new _
  have hg5 : (hb.new (.cells false (ints (List.replicate n 0)))).get hb.next = some (.cells false (ints (List.replicate n 0))) := H.get_new_same ..
  have hn5 : (hb.new (.cells false (ints (List.replicate n 0)))).next = hb.next + 1 := H.next_new ..
  generalize hb.new (.cells false (ints (List.replicate n 0))) = h5 at *
  obtain ⟨cid, coff, hcs, hcid, hcc⟩ := hu.open
  obtain ⟨did, doff, hds, hdid, hdc⟩ := hw.open
  refine Wp_loop (fun k' vars h6 => ∃ (i : Nat), (∃ g : Nat → V, vars = [g 0, g 1, .ptr h.next 0, .ptr hx.next 0, .ptr hy.next 0, g 5, .int .i64 (n : Int), g 7, .sl hb.next 0 n (.kn n), .int .i64 (i : Int), g 10, g 11, g 12, g 13]) ∧ i ≤ A.length ∧
    h6.get hb.next = some (.cells false (ints (mulS n N M A B i))) ∧ Fr hb h6 ∧ hb.next < h6.next ∧ k' = A.length - i) A.length
    ⟨0, ex_junk rfl, Nat.zero_le _, hg5, hf5, by omega, rfl⟩ ?_
  rintro k' vars h6 ⟨i, ⟨g, rfl⟩, hi, hg6, hf6, hn6, rfl⟩
  have hml := mulS_len n N M A B i
  have hgx6 := (hf6.get h.next (by omega)).trans hgxb
  have d1 : h6.cell h.next 1 = some u := by rw [H.cell_of hgx6]; rfl
  simp (disch := first | omega | (simp only [Qn] <;> omega)) only [go_sem, d1, hu.lens]
  refine iteW_dec (fun hjc => ?_) (fun hjc => ?_)
  · have hstep : mulS n N M A B (i + 1) = accF (fun k => (i * (n / N) + k * (n / M)) % n) (fun k => W (A.getD i 0 * B.getD k 0)) (mulS n N M A B i) B.length := rfl
    generalize mulS n N M A B i = S at *
    generalize hS2 : mulS n N M A B (i + 1) = S2 at *
    simp (disch := first | omega | (simp only [Qn] <;> omega)) only [go_sem]
    refine Wp_loop (fun k' vars h7 => ∃ (j : Nat), (∃ g : Nat → V, vars = [g 0, g 1, .ptr h.next 0, .ptr hx.next 0, .ptr hy.next 0, g 5, .int .i64 (n : Int), g 7, .sl hb.next 0 n (.kn n), .int .i64 (i : Int), .int .i64 (j : Int), g 11, g 12, g 13]) ∧ j ≤ B.length ∧
      h7.get hb.next = some (.cells false (ints (accF (fun k => (i * (n / N) + k * (n / M)) % n) (fun k => W (A.getD i 0 * B.getD k 0)) S j))) ∧ Fr hb h7 ∧ hb.next < h7.next ∧ k' = B.length - j) B.length
      ⟨0, ex_junk rfl, Nat.zero_le _, hg6, hf6, hn6, rfl⟩ ?_
    clear hgx6 d1 hf6 hn6 hg6
    rintro k' vars h7 ⟨j, ⟨g, rfl⟩, hj, hg7, hf7, hn7, rfl⟩
    have hal7 := accF_len (fun k => (i * (n / N) + k * (n / M)) % n) (fun k => W (A.getD i 0 * B.getD k 0)) S j
    rw [hml] at hal7
    have hgy7 := (hf7.get hx.next (by omega)).trans hgyb
    have hgx7 := (hf7.get h.next (by omega)).trans hgxb
    have e0 : h7.cell h.next 0 = some (.int .i64 (N : Int)) := by rw [H.cell_of hgx7]; rfl
    have e1 : h7.cell h.next 1 = some u := by rw [H.cell_of hgx7]; rfl
    have d0 : h7.cell hx.next 0 = some (.int .i64 (M : Int)) := by rw [H.cell_of hgy7]; rfl
    have d1 : h7.cell hx.next 1 = some w := by rw [H.cell_of hgy7]; rfl
    simp (disch := first | omega | (simp only [Qn] <;> omega)) only [go_sem, d1, hw.lens]
    refine iteW_dec (fun hkc => ?_) (fun hkc => ?_)
    · have hcc7 := cells_fr (hF.trans hf7) hcid hcc
      have hdc7 := cells_fr (hF.trans hf7) hdid hdc
      have hi1 : i * (n / N) < n := idx_lt (by omega) (by omega)
      have hj1 : j * (n / M) < n := idx_lt (by omega) (by omega)
      have hstep2 : accF (fun k => (i * (n / N) + k * (n / M)) % n) (fun k => W (A.getD i 0 * B.getD k 0)) S (j + 1) = (accF (fun k => (i * (n / N) + k * (n / M)) % n) (fun k => W (A.getD i 0 * B.getD k 0)) S j).set ((i * (n / N) + j * (n / M)) % n) (W ((accF (fun k => (i * (n / N) + k * (n / M)) % n) (fun k => W (A.getD i 0 * B.getD k 0)) S j).getD ((i * (n / N) + j * (n / M)) % n) 0 + W (A.getD i 0 * B.getD j 0))) := rfl
      have em0 : (i : Int) * ((n / N : Nat) : Int) = ((i * (n / N) : Nat) : Int) := (Int.natCast_mul ..).symm
      have em1 : (j : Int) * ((n / M : Nat) : Int) = ((j * (n / M) : Nat) : Int) := (Int.natCast_mul ..).symm
      generalize n / N = tN at *
      generalize n / M = tM at *
      have hz : (((i * tN : Nat) : Int) + ((j * tM : Nat) : Int)) % (n : Int) = (((i * tN + j * tM) % n : Nat) : Int) := by rw [← Int.natCast_add, Int.natCast_emod]
      generalize i * tN = z at *
      generalize j * tM = y at *
      simp (disch := first | omega | (simp only [Qn] <;> omega)) only [go_sem, exN, exM, em0, em1, e0, e1, d0, d1, hcs.ixa, hcc7, hds.ixa, hdc7]
      refine (radd_acc hb.next n (.kn n) _ ((z : Int) + (y : Int)) _ ((z + y) % n) (H.mk h7.tr (h7.next + 26)) hal7 hg7 (by omega) (by omega) hz).mono ?_
      rintro v8 h8 rfl
      simp (disch := first | omega | (simp only [Qn] <;> omega)) only [go_sem]
      rw [show (j : Int) + 1 = ((j + 1 : Nat) : Int) from by omega]
      exact ⟨B.length - (j + 1), by omega, j + 1, ex_junk rfl, by omega, by rw [hstep2], (hf7.bump (by omega)).set (Nat.le_refl _) _, by show hb.next < h7.next + 26; omega, rfl⟩
    have : B.length = j := by omega
    subst this
    simp (disch := first | omega | (simp only [Qn] <;> omega)) only [go_sem]
    rw [show (i : Int) + 1 = ((i + 1 : Nat) : Int) from by omega]
    exact ⟨A.length - (i + 1), by omega, i + 1, ex_junk rfl, by omega, by rw [hS2, hstep]; exact hg7, hf7, hn7, rfl⟩
  have : A.length = i := by omega
  subst this
  simp (disch := first | omega | (simp only [Qn] <;> omega)) only [go_sem]
  have hsi : SI h6 (.sl hb.next 0 n (.kn n)) (mulS n N M A B A.length) := by
    have := SI.own (h := h6) (id := hb.next) (by omega) hg6 (.kn n)
    rw [hml] at this; exact this
  refine (rmade_ok n _ _ h6 (by omega) (by omega) hsi (by omega) (mulS_in n N M A B _)).mono ?_
  rintro v8 h8 ⟨w8, rfl, hcy, hf8⟩
  generalize madeF n _ = R at *
  have hf78 : Fr hb h8 := hf6.trans hf8
  have hn78 := hf78.next
  have hg8 := (hf78.get hy.next (by omega)).trans hgb
  obtain ⟨u', rfl, hu', hfu⟩ := hcy
  have hst3 := fun hh => stV_agg2 hh hy.next 0 (v := .int .i64 R.1.1) (u := u') rfl hu'.what.2.1
  have hrow := row_two (h := h8.set hy.next (some (.cells false [.int .i64 R.1.1, u']))) (H.get_set_same ..)
  simp (disch := first | omega | (simp only [Qn] <;> omega)) only [go_sem, hst3, hg8, hrow, List.getElem?_cons_zero, List.getElem?_cons_succ]
  exact ⟨_, rfl, (CycO.set ⟨u', rfl, hu', hfu⟩ (by omega) _).le (by omega), (hF.trans hf78).set (by omega) _⟩

theorem redF_self (n : Nat) (l : List Int) (hl : l.length = (phiF n).length - 1) (h : inR l) : redF n l = l := by
  have := redF_pad n l 0 hl h
  simpa using this
theorem madeF_pad (n z : Nat) (l : List Int) (hl : l.length = (phiF n).length - 1) (h : inR l) : madeF n (l ++ List.replicate z 0) = madeF n l := by
  simp only [madeF, redF_pad n l z hl h, redF_self n l hl h]

/-- The first numbers of a list, put over zeros. -/
def putF (f : Int → Int) (A : List Int) (n : Nat) : Nat → List Int
  | 0 => List.replicate n 0
  | k + 1 => (putF f A n k).set k (f (A.getD k 0))
theorem putF_len (f : Int → Int) (A : List Int) (n : Nat) : ∀ k, (putF f A n k).length = n
  | 0 => List.length_replicate
  | k + 1 => by rw [putF, List.length_set, putF_len f A n k]
theorem putF_at (f : Int → Int) (A : List Int) (n : Nat) : ∀ k j, j < n → (putF f A n k).getD j 0 = if j < k then f (A.getD j 0) else 0
  | 0, j, hj => by rw [putF, List.getD_eq_getElem?_getD, List.getElem?_replicate, if_pos hj]; rfl
  | k + 1, j, hj => by
    rw [putF, getD_set, putF_len]
    by_cases h1 : k = j
    · subst h1; rw [if_pos rfl, if_pos hj, if_pos (by omega)]
    · rw [if_neg h1, putF_at f A n k j hj]
      by_cases h2 : j < k
      · rw [if_pos h2, if_pos (by omega)]
      · rw [if_neg h2, if_neg (by omega)]
theorem putF_all (f : Int → Int) (A : List Int) (n : Nat) (hA : A.length ≤ n) : putF f A n A.length = A.map f ++ List.replicate (n - A.length) 0 := by
  apply eqD
  · rw [putF_len, List.length_append, List.length_map, List.length_replicate]; omega
  · intro j hj
    rw [putF_len] at hj
    rw [putF_at f A n _ j hj]
    by_cases h : j < A.length
    · rw [if_pos h, List.getD_eq_getElem?_getD, List.getD_eq_getElem?_getD, List.getElem?_append_left (by rw [List.length_map]; exact h), List.getElem?_map, List.getElem?_eq_getElem h]; rfl
    · rw [if_neg h, List.getD_eq_getElem?_getD, List.getElem?_append_right (by rw [List.length_map]; omega), List.getElem?_replicate]
      split <;> rfl

set_option maxHeartbeats 2000000 in
theorem rscale_ok (v : V) (a : Int × List Int) (k : Int) (h : H) (ha : CycV h v a) (hl : a.2.length < 1000000) (hr : inR a.2) :
    Ev T n_ref06_Scale [v, .int .i64 k] h (fun v h' => ∃ w, v = .tup [w, .int .i64 (scaleF a k).2] ∧ CycO h' w (scaleF a k).1 h.next ∧ Fr h h') := by
  obtain ⟨u, rfl, hu⟩ := ha
  obtain ⟨N, A⟩ := a
  simp only at hu hl
  refine Ev_of t_ref06_Scale rfl ?_
  simp (disch := first | omega | (simp only [Qn] <;> omega)) only [go_sem, c_ref06_Scale, initV_eq, boxV_agg2 h (v := .int .i64 N) rfl hu.what.2.1]
  have hfx : Fr h (h.new (.cells false [.int .i64 N, u])) := (Fr.refl h).new _
  have hgx : (h.new (.cells false [.int .i64 N, u])).get h.next = some (.cells false [.int .i64 N, u]) := H.get_new_same ..
  have hnx : (h.new (.cells false [.int .i64 N, u])).next = h.next + 1 := H.next_new ..
  generalize h.new (.cells false [.int .i64 N, u]) = hx at *
  rw [← hnx]
  have hfa : Fr hx (hx.new (.cells false [.int .i64 0, .nils])) := (Fr.refl hx).new _
  have hga : (hx.new (.cells false [.int .i64 0, .nils])).get hx.next = some (.cells false [.int .i64 0, .nils]) := H.get_new_same ..
  have hna : (hx.new (.cells false [.int .i64 0, .nils])).next = hx.next + 1 := H.next_new ..
  generalize hx.new (.cells false [.int .i64 0, .nils]) = ha at *
  have hgxa := (hfa.get h.next (by omega)).trans hgx
  have hfh := hfx.trans hfa
  simp (disch := first | omega | (simp only [Qn] <;> omega)) only [go_sem, row_two hgxa]
  refine (rcheck_ok _ (N, A) ha ⟨u, rfl, hu.mono hfh⟩ hl hr).mono ?_
  rintro v1 hb ⟨rfl, hfb⟩
  have hnb := hfb.next
  have hgb := (hfb.get hx.next (by omega)).trans hga
  have hgxb := (hfb.get h.next (by omega)).trans hgxa
  have hst0 := fun hh => stV_agg2 hh hx.next 0 (v := .int .i64 0) (u := .nils) rfl rfl
  have hrow0 := row_two (h := hb.set hx.next (some (.cells false [.int .i64 0, .nils]))) (H.get_set_same ..)
  have hF : Fr h hb := hfh.trans hfb
  simp (disch := first | omega | (simp only [Qn] <;> omega)) only [go_sem]
  refine iteW_dec (fun h1 => ?_) (fun h1 => ?_)
  · simp (disch := first | omega | (simp only [Qn] <;> omega)) only [go_sem, hst0, hgb, hrow0]
    rw [scaleF, if_pos h1]
    exact ⟨_, rfl, CycO.zero _ _, hF.set (by omega) _⟩
  rw [scaleF, if_neg h1]
  have g1 := check_range (show checkF (N, A) = 0 by omega)
  simp only at g1
  obtain ⟨N, rfl⟩ : ∃ N' : Nat, N = (N' : Int) := ⟨N.toNat, by omega⟩
  simp only [Int.toNat_natCast] at g1 ⊢
  have hpN := phi_len (n := N) (by omega) (by omega)
  clear hst0 hrow0
  simp (disch := first | omega | (simp only [Qn] <;> omega)) only [go_sem, bls_int1]
  have hsk : SI (hb.new (.cells false (ints [k]))) (.sl hb.next 0 1 (.kn 1)) [k] := SI.own (l := [k]) (by rw [H.next_new]; omega) (H.get_new_same ..) (.kn 1)
  have hfc : Fr hb (hb.new (.cells false (ints [k]))) := (Fr.refl hb).new _
  have hgc : (hb.new (.cells false (ints [k]))).get hb.next = some (.cells false (ints [k])) := H.get_new_same ..
  have hnc : (hb.new (.cells false (ints [k]))).next = hb.next + 1 := H.next_new ..
  generalize hb.new (.cells false (ints [k])) = hc at *
  refine (rover_ok _ [k] hc hsk (by simp)).mono ?_
  rintro v2 h2 ⟨rfl, rfl⟩
  have hgc2 := (hfc.get hx.next (by omega)).trans hgb
  have hgxc := (hfc.get h.next (by omega)).trans hgxb
  have hFc := hF.trans hfc
  have hst0 := fun hh => stV_agg2 hh hx.next 0 (v := .int .i64 0) (u := .nils) rfl rfl
  have hrow0 := row_two (h := h2.set hx.next (some (.cells false [.int .i64 0, .nils]))) (H.get_set_same ..)
  rw [show [k].any overF = overF k by simp]
  simp (disch := first | omega | (simp only [Qn] <;> omega)) only [go_sem]
  refine iteW_bool (fun hp => ?_) (fun hp => ?_)
  · simp (disch := first | omega | (simp only [Qn] <;> omega)) only [go_sem, hst0, hgc2, hrow0]
    rw [if_pos hp]
    exact ⟨_, rfl, CycO.zero _ _, hFc.set (by omega) _⟩
  rw [if_neg (by rw [hp]; simp)]
  have d0 : h2.cell h.next 0 = some (.int .i64 (N : Int)) := by rw [H.cell_of hgxc]; rfl
  simp (disch := first | omega | (simp only [Qn] <;> omega)) only [go_sem, d0]
  have hf5 : Fr h2 (h2.new (.cells false (ints (List.replicate N 0)))) := (Fr.refl h2).new _
  have hg5 : (h2.new (.cells false (ints (List.replicate N 0)))).get h2.next = some (.cells false (ints (List.replicate N 0))) := H.get_new_same ..
  have hn5 : (h2.new (.cells false (ints (List.replicate N 0)))).next = h2.next + 1 := H.next_new ..
  generalize h2.new (.cells false (ints (List.replicate N 0))) = h5 at *
  obtain ⟨cid, coff, hcs, hcid, hcc⟩ := hu.open
  refine Wp_loop (fun k' vars h6 => ∃ (j : Nat), (∃ g : Nat → V, vars = [g 0, .int .i64 k, .ptr h.next 0, .ptr hx.next 0, g 4, g 5, .sl h2.next 0 N (.kn N), .int .i64 (j : Int), g 8, g 9, g 10]) ∧ j ≤ A.length ∧
    h6.get h2.next = some (.cells false (ints (putF (fun x => W (x * k)) A N j))) ∧ Fr h2 h6 ∧ h2.next < h6.next ∧ k' = A.length - j) A.length
    ⟨0, ex_junk rfl, Nat.zero_le _, hg5, hf5, by omega, rfl⟩ ?_
  rintro k' vars h6 ⟨j, ⟨g, rfl⟩, hj, hg6, hf6, hn6, rfl⟩
  have hpl := putF_len (fun x => W (x * k)) A N j
  have hgx6 := (hf6.get h.next (by omega)).trans hgxc
  have e0 : h6.cell h.next 0 = some (.int .i64 (N : Int)) := by rw [H.cell_of hgx6]; rfl
  have e1 : h6.cell h.next 1 = some u := by rw [H.cell_of hgx6]; rfl
  simp (disch := first | omega | (simp only [Qn] <;> omega)) only [go_sem, e1, hu.lens]
  refine iteW_dec (fun hjc => ?_) (fun hjc => ?_)
  · have hcc6 := cells_fr (hFc.trans hf6) hcid hcc
    simp (disch := first | omega | (simp only [Qn] <;> omega)) only [go_sem, e1, hcs.ixa, hcc6, hg6]
    rw [show (j : Int) + 1 = ((j + 1 : Nat) : Int) from by omega]
    exact ⟨A.length - (j + 1), by omega, j + 1, ex_junk rfl, by omega, rfl, hf6.set (Nat.le_refl _) _, hn6, rfl⟩
  have : A.length = j := by omega
  subst this
  simp (disch := first | omega | (simp only [Qn] <;> omega)) only [go_sem, e0]
  have hsi : SI h6 (.sl h2.next 0 N (.kn N)) (putF (fun x => W (x * k)) A N A.length) := by
    have := SI.own (h := h6) (id := h2.next) (by omega) hg6 (.kn N)
    rw [hpl] at this; exact this
  have hmi : inR (A.map fun x => W (x * k)) := fun z hz => by obtain ⟨y, _, rfl⟩ := List.mem_map.1 hz; exact W_in _
  have hpin : inR (putF (fun x => W (x * k)) A N A.length) := by
    rw [putF_all _ _ _ (by omega)]; exact hmi.append (inR.zeros _)
  refine (rmade_ok N _ _ h6 (by omega) (by omega) hsi (by omega) hpin).mono ?_
  rw [putF_all _ _ _ (by omega), madeF_pad N _ _ (by rw [List.length_map]; omega) hmi]
  rintro v8 h8 ⟨w8, rfl, hcy, hf8⟩
  generalize madeF N _ = R at *
  have hf78 : Fr h2 h8 := hf6.trans hf8
  have hn78 := hf78.next
  have hg8 := (hf78.get hx.next (by omega)).trans hgc2
  obtain ⟨u', rfl, hu', hfu⟩ := hcy
  have hst3 := fun hh => stV_agg2 hh hx.next 0 (v := .int .i64 R.1.1) (u := u') rfl hu'.what.2.1
  have hrow := row_two (h := h8.set hx.next (some (.cells false [.int .i64 R.1.1, u']))) (H.get_set_same ..)
  simp (disch := first | omega | (simp only [Qn] <;> omega)) only [go_sem, hst3, hg8, hrow, List.getElem?_cons_zero, List.getElem?_cons_succ]
  exact ⟨_, rfl, (CycO.set ⟨u', rfl, hu', hfu⟩ (by omega) _).le (by omega), (hFc.trans hf78).set (by omega) _⟩

set_option maxHeartbeats 1000000 in
theorem rgal_ok (v : V) (a : Int × List Int) (k : Int) (h : H) (ha : CycV h v a) (hl : a.2.length < 1000000) (hr : inR a.2) :
    Ev T n_ref06_Galois [v, .int .i64 k] h (fun v h' => ∃ w, v = .tup [w, .int .i64 (galF a k).2] ∧ CycO h' w (galF a k).1 h.next ∧ Fr h h') := by
  obtain ⟨u, rfl, hu⟩ := ha
  obtain ⟨N, A⟩ := a
  simp only at hu hl
  refine Ev_of t_ref06_Galois rfl ?_
  simp (disch := first | omega | (simp only [Qn] <;> omega)) only [go_sem, c_ref06_Galois, initV_eq, boxV_agg2 h (v := .int .i64 N) rfl hu.what.2.1]
  have hfx : Fr h (h.new (.cells false [.int .i64 N, u])) := (Fr.refl h).new _
  have hgx : (h.new (.cells false [.int .i64 N, u])).get h.next = some (.cells false [.int .i64 N, u]) := H.get_new_same ..
  have hnx : (h.new (.cells false [.int .i64 N, u])).next = h.next + 1 := H.next_new ..
  generalize h.new (.cells false [.int .i64 N, u]) = hx at *
  rw [← hnx]
  have hfa : Fr hx (hx.new (.cells false [.int .i64 0, .nils])) := (Fr.refl hx).new _
  have hga : (hx.new (.cells false [.int .i64 0, .nils])).get hx.next = some (.cells false [.int .i64 0, .nils]) := H.get_new_same ..
  have hna : (hx.new (.cells false [.int .i64 0, .nils])).next = hx.next + 1 := H.next_new ..
  generalize hx.new (.cells false [.int .i64 0, .nils]) = ha at *
  have hgxa := (hfa.get h.next (by omega)).trans hgx
  have hfh := hfx.trans hfa
  simp (disch := first | omega | (simp only [Qn] <;> omega)) only [go_sem, row_two hgxa]
  refine (rcheck_ok _ (N, A) ha ⟨u, rfl, hu.mono hfh⟩ hl hr).mono ?_
  rintro v1 hb ⟨rfl, hfb⟩
  have hnb := hfb.next
  have hgb := (hfb.get hx.next (by omega)).trans hga
  have hgxb := (hfb.get h.next (by omega)).trans hgxa
  have hst0 := fun hh => stV_agg2 hh hx.next 0 (v := .int .i64 0) (u := .nils) rfl rfl
  have hrow0 := row_two (h := hb.set hx.next (some (.cells false [.int .i64 0, .nils]))) (H.get_set_same ..)
  have hF : Fr h hb := hfh.trans hfb
  simp (disch := first | omega | (simp only [Qn] <;> omega)) only [go_sem]
  refine iteW_dec (fun h1 => ?_) (fun h1 => ?_)
  · simp (disch := first | omega | (simp only [Qn] <;> omega)) only [go_sem, hst0, hgb, hrow0]
    rw [galF, if_pos h1]
    exact ⟨_, rfl, CycO.zero _ _, hF.set (by omega) _⟩
  rw [galF, if_neg h1]
  have g1 := check_range (show checkF (N, A) = 0 by omega)
  simp only at g1
  obtain ⟨N, rfl⟩ : ∃ N' : Nat, N = (N' : Int) := ⟨N.toNat, by omega⟩
  simp only [Int.toNat_natCast] at g1 ⊢
  have hpN := phi_len (n := N) (by omega) (by omega)
  clear hst0 hrow0
  have hr0 := Int.emod_nonneg k (show (N : Int) ≠ 0 by omega)
  have hr1 := Int.emod_lt_of_pos k (show (0 : Int) < N by omega)
  obtain ⟨r, hrr⟩ : ∃ r : Nat, k % (N : Int) = (r : Int) := ⟨(k % (N : Int)).toNat, by omega⟩
  have d0 : hb.cell h.next 0 = some (.int .i64 (N : Int)) := by rw [H.cell_of hgxb]; rfl
  simp (disch := first | omega | (simp only [Qn] <;> omega)) only [go_sem, d0]
  refine (pick_ok k N hb (by omega) (by omega)).mono ?_
  rintro v2 h2 ⟨rfl, rfl⟩
  simp only [hrr, Int.toNat_natCast] at hr0 hr1 ⊢
  simp (disch := first | omega | (simp only [Qn] <;> omega)) only [go_sem, d0]
  refine (rgcd_ok (N : Int) (r : Int) h2 (by omega) (by omega)).mono ?_
  rintro v3 h3 ⟨rfl, hf3⟩
  have hn3 := hf3.next
  have hg3 := (hf3.get hx.next (by omega)).trans hgb
  have hgx3 := (hf3.get h.next (by omega)).trans hgxb
  have hF3 := hF.trans hf3
  have hG : 1 ≤ Int.gcd (N : Int) (r : Int) := Nat.one_le_iff_ne_zero.2 (fun e => by rw [Int.gcd_eq_zero_iff] at e; omega)
  have hst0 := fun hh => stV_agg2 hh hx.next 0 (v := .int .i64 0) (u := .nils) rfl rfl
  have hrow0 := row_two (h := h3.set hx.next (some (.cells false [.int .i64 0, .nils]))) (H.get_set_same ..)
  simp (disch := first | omega | (simp only [Qn] <;> omega)) only [go_sem]
  refine iteW_dec (fun h4 => ?_) (fun h4 => ?_)
  · simp (disch := first | omega | (simp only [Qn] <;> omega)) only [go_sem, hst0, hg3, hrow0]
    rw [if_pos (by omega)]
    exact ⟨_, rfl, CycO.zero _ _, hF3.set (by omega) _⟩
  rw [if_neg (by omega)]
  have e0 : h3.cell h.next 0 = some (.int .i64 (N : Int)) := by rw [H.cell_of hgx3]; rfl
  simp (disch := first | omega | (simp only [Qn] <;> omega)) only [go_sem, e0]
  have hf5 : Fr h3 (h3.new (.cells false (ints (List.replicate N 0)))) := (Fr.refl h3).new _
  have hg5 : (h3.new (.cells false (ints (List.replicate N 0)))).get h3.next = some (.cells false (ints (List.replicate N 0))) := H.get_new_same ..
  have hn5 : (h3.new (.cells false (ints (List.replicate N 0)))).next = h3.next + 1 := H.next_new ..
  generalize h3.new (.cells false (ints (List.replicate N 0))) = h5 at *
  obtain ⟨cid, coff, hcs, hcid, hcc⟩ := hu.open
  refine Wp_loop (fun k' vars h6 => ∃ (j : Nat), (∃ g : Nat → V, vars = [g 0, .int .i64 (r : Int), .ptr h.next 0, .ptr hx.next 0, g 4, g 5, .sl h3.next 0 N (.kn N), .int .i64 (j : Int), g 8, g 9, g 10]) ∧ j ≤ A.length ∧
    h6.get h3.next = some (.cells false (ints (accF (fun i => i * r % N) (fun i => A.getD i 0) (List.replicate N 0) j))) ∧ Fr h3 h6 ∧ h3.next < h6.next ∧ k' = A.length - j) A.length
    ⟨0, ex_junk rfl, Nat.zero_le _, hg5, hf5, by omega, rfl⟩ ?_
  rintro k' vars h6 ⟨j, ⟨g, rfl⟩, hj, hg6, hf6, hn6, rfl⟩
  have hal := accF_len (fun i => i * r % N) (fun i => A.getD i 0) (List.replicate N 0) j
  rw [List.length_replicate] at hal
  have hgx6 := (hf6.get h.next (by omega)).trans hgx3
  have f0 : h6.cell h.next 0 = some (.int .i64 (N : Int)) := by rw [H.cell_of hgx6]; rfl
  have f1 : h6.cell h.next 1 = some u := by rw [H.cell_of hgx6]; rfl
  simp (disch := first | omega | (simp only [Qn] <;> omega)) only [go_sem, f1, hu.lens]
  refine iteW_dec (fun hjc => ?_) (fun hjc => ?_)
  · have hcc6 := cells_fr (hF3.trans hf6) hcid hcc
    have hjr : j * r ≤ 120 * 120 := Nat.mul_le_mul (by omega) (by omega)
    have em0 : (j : Int) * (r : Int) = ((j * r : Nat) : Int) := (Int.natCast_mul ..).symm
    have hstep : accF (fun i => i * r % N) (fun i => A.getD i 0) (List.replicate N 0) (j + 1) = (accF (fun i => i * r % N) (fun i => A.getD i 0) (List.replicate N 0) j).set (j * r % N) (W ((accF (fun i => i * r % N) (fun i => A.getD i 0) (List.replicate N 0) j).getD (j * r % N) 0 + A.getD j 0)) := rfl
    have hz : ((j * r : Nat) : Int) % (N : Int) = ((j * r % N : Nat) : Int) := by omega
    generalize j * r % N = z at *
    generalize j * r = y at *
    simp (disch := first | omega | (simp only [Qn] <;> omega)) only [go_sem, em0, f1, hcs.ixa, hcc6]
    refine (radd_acc h3.next N (.kn N) _ (y : Int) (A.getD j 0) z h6 hal hg6 (by omega) (by omega) hz).mono ?_
    rintro v7 h7 rfl
    simp (disch := first | omega | (simp only [Qn] <;> omega)) only [go_sem]
    rw [show (j : Int) + 1 = ((j + 1 : Nat) : Int) from by omega]
    exact ⟨A.length - (j + 1), by omega, j + 1, ex_junk rfl, by omega, by rw [hstep], hf6.set (Nat.le_refl _) _, hn6, rfl⟩
  have : A.length = j := by omega
  subst this
  simp (disch := first | omega | (simp only [Qn] <;> omega)) only [go_sem, f0]
  have hsi : SI h6 (.sl h3.next 0 N (.kn N)) (accF (fun i => i * r % N) (fun i => A.getD i 0) (List.replicate N 0) A.length) := by
    have := SI.own (h := h6) (id := h3.next) (by omega) hg6 (.kn N)
    rw [hal] at this; exact this
  refine (rmade_ok N _ _ h6 (by omega) (by omega) hsi (by omega) (accF_in _ _ (inR.zeros _) _)).mono ?_
  rintro v8 h8 ⟨w8, rfl, hcy, hf8⟩
  generalize madeF N _ = R at *
  have hf78 : Fr h3 h8 := hf6.trans hf8
  have hn78 := hf78.next
  have hg8 := (hf78.get hx.next (by omega)).trans hg3
  obtain ⟨u', rfl, hu', hfu⟩ := hcy
  have hst3 := fun hh => stV_agg2 hh hx.next 0 (v := .int .i64 R.1.1) (u := u') rfl hu'.what.2.1
  have hrow := row_two (h := h8.set hx.next (some (.cells false [.int .i64 R.1.1, u']))) (H.get_set_same ..)
  simp (disch := first | omega | (simp only [Qn] <;> omega)) only [go_sem, hst3, hg8, hrow, List.getElem?_cons_zero, List.getElem?_cons_succ]
  exact ⟨_, rfl, (CycO.set ⟨u', rfl, hu', hfu⟩ (by omega) _).le (by omega), (hF3.trans hf78).set (by omega) _⟩

theorem rconj_ok (v : V) (a : Int × List Int) (h : H) (ha : CycV h v a) (hl : a.2.length < 1000000) (hr : inR a.2) :
    Ev T n_ref06_Conj [v] h (fun v h' => ∃ w, v = .tup [w, .int .i64 (galF a (-1)).2] ∧ CycO h' w (galF a (-1)).1 h.next ∧ Fr h h') := by
  obtain ⟨u, rfl, hu⟩ := ha
  obtain ⟨N, A⟩ := a
  refine Ev_of t_ref06_Conj rfl ?_
  simp (disch := first | omega | (simp only [Qn] <;> omega)) only [go_sem, c_ref06_Conj, initV_eq, boxV_agg2 h (v := .int .i64 N) rfl hu.what.2.1]
  have hfx : Fr h (h.new (.cells false [.int .i64 N, u])) := (Fr.refl h).new _
  have hgx : (h.new (.cells false [.int .i64 N, u])).get h.next = some (.cells false [.int .i64 N, u]) := H.get_new_same ..
  have hnx : (h.new (.cells false [.int .i64 N, u])).next = h.next + 1 := H.next_new ..
  generalize h.new (.cells false [.int .i64 N, u]) = hx at *
  rw [← hnx]
  have hfa : Fr hx (hx.new (.cells false [.int .i64 0, .nils])) := (Fr.refl hx).new _
  have hga : (hx.new (.cells false [.int .i64 0, .nils])).get hx.next = some (.cells false [.int .i64 0, .nils]) := H.get_new_same ..
  have hna : (hx.new (.cells false [.int .i64 0, .nils])).next = hx.next + 1 := H.next_new ..
  generalize hx.new (.cells false [.int .i64 0, .nils]) = ha at *
  have hgxa := (hfa.get h.next (by omega)).trans hgx
  have hfh := hfx.trans hfa
  simp (disch := first | omega | (simp only [Qn] <;> omega)) only [go_sem, row_two hgxa]
  refine (rgal_ok _ (N, A) (-1) ha ⟨u, rfl, hu.mono hfh⟩ hl hr).mono ?_
  rintro v7 h7 ⟨w, rfl, hcy, hf7⟩
  generalize galF _ _ = M at *
  have hn7 := hf7.next
  have hg7 := (hf7.get hx.next (by omega)).trans hga
  obtain ⟨u', rfl, hu', hfu⟩ := hcy
  have hst3 := fun hh => stV_agg2 hh hx.next 0 (v := .int .i64 M.1.1) (u := u') rfl hu'.what.2.1
  have hrow := row_two (h := h7.set hx.next (some (.cells false [.int .i64 M.1.1, u']))) (H.get_set_same ..)
  simp (disch := first | omega | (simp only [Qn] <;> omega)) only [go_sem, hst3, hg7, hrow, List.getElem?_cons_zero, List.getElem?_cons_succ]
  exact ⟨_, rfl, (CycO.set ⟨u', rfl, hu', hfu⟩ (by omega) _).le (by omega), (hfh.trans hf7).set (by omega) _⟩

theorem rrat_ok (v : V) (a : Int × List Int) (h : H) (ha : CycV h v a) (hl : a.2.length < 1000000) (hr : inR a.2) :
    Ev T n_ref06_Rational [v] h (fun v h' => v = .tup [.int .i64 (ratF a).1, .bool (ratF a).2] ∧ Fr h h') := by
  obtain ⟨u, rfl, hu⟩ := ha
  obtain ⟨N, A⟩ := a
  simp only at hu hl
  refine Ev_of t_ref06_Rational rfl ?_
  simp (disch := first | omega | (simp only [Qn] <;> omega)) only [go_sem, c_ref06_Rational, initV_eq, boxV_agg2 h (v := .int .i64 N) rfl hu.what.2.1]
  have hfx : Fr h (h.new (.cells false [.int .i64 N, u])) := (Fr.refl h).new _
  have hgx : (h.new (.cells false [.int .i64 N, u])).get h.next = some (.cells false [.int .i64 N, u]) := H.get_new_same ..
  have hnx : (h.new (.cells false [.int .i64 N, u])).next = h.next + 1 := H.next_new ..
  generalize h.new (.cells false [.int .i64 N, u]) = hx at *
  simp (disch := first | omega | (simp only [Qn] <;> omega)) only [go_sem, row_two hgx]
  refine (rcheck_ok _ (N, A) hx ⟨u, rfl, hu.mono hfx⟩ hl hr).mono ?_
  rintro v1 hb ⟨rfl, hfb⟩
  have hgb := (hfb.get h.next (by omega)).trans hgx
  have d0 : hb.cell h.next 0 = some (.int .i64 N) := by rw [H.cell_of hgb]; rfl
  have d1 : hb.cell h.next 1 = some u := by rw [H.cell_of hgb]; rfl
  by_cases h1 : checkF (N, A) ≠ 0
  · simp (disch := first | omega | (simp only [Qn] <;> omega)) only [go_sem]
    rw [decide_eq_true h1]
    simp (disch := first | omega | (simp only [Qn] <;> omega)) only [go_sem]
    rw [ratF, if_pos (.inr h1)]
    exact ⟨rfl, hfx.trans hfb⟩
  · simp (disch := first | omega | (simp only [Qn] <;> omega)) only [go_sem]
    rw [decide_eq_false h1]
    simp (disch := first | omega | (simp only [Qn] <;> omega)) only [go_sem, d0]
    refine iteW_dec (fun h2 => ?_) (fun h2 => ?_)
    · simp (disch := first | omega | (simp only [Qn] <;> omega)) only [go_sem]
      rw [ratF, if_pos (.inl h2)]
      exact ⟨rfl, hfx.trans hfb⟩
    · have g1 := check_range (show checkF (N, A) = 0 by omega)
      simp only at g1
      have hN : N = 1 := by omega
      subst hN
      have hpl := phi_len (n := 1) (by omega) (by omega)
      have hA : 1 ≤ A.length := by rw [g1.2.2]; show 1 ≤ (phiF 1).length - 1; omega
      obtain ⟨cid, coff, hcs, hcid, hcc⟩ := hu.open
      have hccb := cells_fr (hfx.trans hfb) hcid hcc
      have hc0 : hb.cell cid coff = some (.int .i64 (A.getD 0 0)) := hccb 0 (by omega)
      simp (disch := first | omega | (simp only [Qn] <;> omega)) only [go_sem, d1, hcs.ixa, hc0]
      rw [ratF, if_neg (by omega)]
      exact ⟨rfl, hfx.trans hfb⟩
end
end Go.Proofs.Ythfabknpogbcaaa
/- Contracts of the reference: Quot, sign, Cmp. -/
namespace Go.Proofs.Ythfabknpogbcaaa
open Go Go.Ay
set_option maxRecDepth 100000
noncomputable section

theorem take_map_succ (f : Int → Int) (A : List Int) (j : Nat) (hj : j < A.length) : (A.take (j + 1)).map f = (A.take j).map f ++ [f (A.getD j 0)] := by
  rw [take_succ_getD A j hj, List.map_append]; rfl

set_option maxHeartbeats 2000000 in
theorem rquot_ok (v : V) (a : Int × List Int) (k : Int) (h : H) (ha : CycV h v a) (hl : a.2.length < 1000000) (hr : inR a.2) :
    Ev T n_ref06_Quot [v, .int .i64 k] h (fun v h' => ∃ w, v = .tup [w, .int .i64 (quotF a k).2] ∧ CycO h' w (quotF a k).1 h.next ∧ Fr h h') := by
  obtain ⟨u, rfl, hu⟩ := ha
  obtain ⟨N, A⟩ := a
  simp only at hu hl
  refine Ev_of t_ref06_Quot rfl ?_
  simp (disch := first | omega | (simp only [Qn] <;> omega)) only [go_sem, c_ref06_Quot, initV_eq, boxV_agg2 h (v := .int .i64 N) rfl hu.what.2.1]
  have hfx : Fr h (h.new (.cells false [.int .i64 N, u])) := (Fr.refl h).new _
  have hgx : (h.new (.cells false [.int .i64 N, u])).get h.next = some (.cells false [.int .i64 N, u]) := H.get_new_same ..
  have hnx : (h.new (.cells false [.int .i64 N, u])).next = h.next + 1 := H.next_new ..
  generalize h.new (.cells false [.int .i64 N, u]) = hx at *
  rw [← hnx]
  have hfa : Fr hx (hx.new (.cells false [.int .i64 0, .nils])) := (Fr.refl hx).new _
  have hga : (hx.new (.cells false [.int .i64 0, .nils])).get hx.next = some (.cells false [.int .i64 0, .nils]) := H.get_new_same ..
  have hna : (hx.new (.cells false [.int .i64 0, .nils])).next = hx.next + 1 := H.next_new ..
  generalize hx.new (.cells false [.int .i64 0, .nils]) = ha at *
  have hgxa := (hfa.get h.next (by omega)).trans hgx
  have hfh := hfx.trans hfa
  simp (disch := first | omega | (simp only [Qn] <;> omega)) only [go_sem, row_two hgxa]
  refine (rcheck_ok _ (N, A) ha ⟨u, rfl, hu.mono hfh⟩ hl hr).mono ?_
  rintro v1 hb ⟨rfl, hfb⟩
  have hnb := hfb.next
  have hgb := (hfb.get hx.next (by omega)).trans hga
  have hgxb := (hfb.get h.next (by omega)).trans hgxa
  have hst0 := fun hh => stV_agg2 hh hx.next 0 (v := .int .i64 0) (u := .nils) rfl rfl
  have hrow0 := row_two (h := hb.set hx.next (some (.cells false [.int .i64 0, .nils]))) (H.get_set_same ..)
  have hF : Fr h hb := hfh.trans hfb
  simp (disch := first | omega | (simp only [Qn] <;> omega)) only [go_sem]
  refine iteW_dec (fun h1 => ?_) (fun h1 => ?_)
  · simp (disch := first | omega | (simp only [Qn] <;> omega)) only [go_sem, hst0, hgb, hrow0]
    rw [quotF, if_pos h1]
    exact ⟨_, rfl, CycO.zero _ _, hF.set (by omega) _⟩
  rw [quotF, if_neg h1]
  have g1 := check_range (show checkF (N, A) = 0 by omega)
  simp only at g1
  obtain ⟨N, rfl⟩ : ∃ N' : Nat, N = (N' : Int) := ⟨N.toNat, by omega⟩
  simp only [Int.toNat_natCast] at g1 ⊢
  have hpN := phi_len (n := N) (by omega) (by omega)
  simp (disch := first | omega | (simp only [Qn] <;> omega)) only [go_sem]
  refine iteW_dec (fun h2 => ?_) (fun h2 => ?_)
  · simp (disch := first | omega | (simp only [Qn] <;> omega)) only [go_sem, hst0, hgb, hrow0]
    rw [if_pos h2]
    exact ⟨_, rfl, CycO.zero _ _, hF.set (by omega) _⟩
  rw [if_neg h2]
  clear hrow0
  have d0 : hb.cell h.next 0 = some (.int .i64 (N : Int)) := by rw [H.cell_of hgxb]; rfl
  have hbl : bldV [V.int .i64 0, .nils] [(0, 1, .int .i64 (N : Int))] = some (.agg [.int .i64 (N : Int), .nils]) := by
    have e1 : putAt [V.int .i64 0, .nils] 0 [.int .i64 (N : Int)] = some [.int .i64 (N : Int), .nils] := by simp [putAt]
    have o1 : (V.int .i64 (N : Int)).one = true := rfl
    simp only [bldV, fillV, V.cells, List.length_singleton, List.all_cons, List.all_nil, o1, Bool.and_self, and_self, if_true, e1, Option.map_some]
  have hstN := fun hh id => stV_agg2 hh id 0 (v := .int .i64 (N : Int)) (u := .nils) rfl rfl
  simp (disch := first | omega | (simp only [Qn] <;> omega)) only [go_sem, d0, hbl, hstN]
  obtain ⟨O, hO⟩ : ∃ O, hb.next = O := ⟨_, rfl⟩
  rw [hO]
  have hgc : ((hb.new (.cells false [.int .i64 0, .nils])).set O (some (.cells false [.int .i64 (N : Int), .nils]))).get O = some (.cells false [.int .i64 (N : Int), .nils]) := H.get_set_same ..
  have hfc : Fr hb ((hb.new (.cells false [.int .i64 0, .nils])).set O (some (.cells false [.int .i64 (N : Int), .nils]))) := ((Fr.refl hb).new _).set (by omega) _
  have hnc : ((hb.new (.cells false [.int .i64 0, .nils])).set O (some (.cells false [.int .i64 (N : Int), .nils]))).next = O + 1 := by rw [H.next_set, H.next_new, hO]
  generalize (hb.new (.cells false [.int .i64 0, .nils])).set O (some (.cells false [.int .i64 (N : Int), .nils])) = hc at *
  obtain ⟨cid, coff, hcs, hcid, hcc⟩ := hu.open
  refine Wp_loop (fun k' vars h6 => ∃ (j : Nat) (uc : V), (∃ g : Nat → V, vars = [g 0, .int .i64 k, .ptr h.next 0, .ptr hx.next 0, g 4, g 5, .ptr O 0, .int .i64 (j : Int), g 8, g 9, g 10, g 11]) ∧ j ≤ A.length ∧
    h6.get O = some (.cells false [.int .i64 (N : Int), uc]) ∧ Own h6 uc 1 (ints ((A.take j).map fun x => W (x.tdiv k))) (O + 1) ∧ Fr hb h6 ∧ O < h6.next ∧ (∀ i, i < j → (A.getD i 0).tmod k = 0) ∧ k' = A.length - j) A.length
    ⟨0, .nils, ex_junk rfl, Nat.zero_le _, hgc, Own.nils _ _ _, hfc, by omega, fun i hi => by omega, rfl⟩ ?_
  rintro k' vars h6 ⟨j, uc, ⟨g, rfl⟩, hj, hg6, ho6, hf6, hn6, hdv, rfl⟩
  have hgx6 := (hf6.get h.next (by omega)).trans hgxb
  have e0 : h6.cell h.next 0 = some (.int .i64 (N : Int)) := by rw [H.cell_of hgx6]; rfl
  have e1 : h6.cell h.next 1 = some u := by rw [H.cell_of hgx6]; rfl
  have hgr6 := (hf6.get hx.next (by omega)).trans hgb
  simp (disch := first | omega | (simp only [Qn] <;> omega)) only [go_sem, e1, hu.lens]
  refine iteW_dec (fun hjc => ?_) (fun hjc => ?_)
  · have hcc6 := cells_fr (hF.trans hf6) hcid hcc
    simp (disch := first | omega | (simp only [Qn] <;> omega)) only [go_sem, e1, hcs.ixa, hcc6, arith_rem _ _ _ h2]
    refine iteW_dec (fun hnz => ?_) (fun hz => ?_)
    · have hrow7 := row_two (h := h6.set hx.next (some (.cells false [.int .i64 0, .nils]))) (H.get_set_same ..)
      simp (disch := first | omega | (simp only [Qn] <;> omega)) only [go_sem, hst0, hgr6, hrow7]
      have hany : A.any (fun x => decide (x.tmod k ≠ 0)) = true := by
        rw [List.any_eq_true]
        refine ⟨A.getD j 0, ?_, decide_eq_true hnz⟩
        rw [List.getD_eq_getElem?_getD, List.getElem?_eq_getElem (by omega)]
        exact List.getElem_mem _
      rw [if_pos hany]
      exact ⟨_, rfl, CycO.zero _ _, (hF.trans hf6).set (by omega) _⟩
    · have f1 : h6.cell O 1 = some uc := by rw [H.cell_of hg6]; rfl
      simp (disch := first | omega | (simp only [Qn] <;> omega)) only [go_sem, f1, e1, hcs.ixa, hcc6, arith_quo _ _ _ h2, bls_int1]
      have hy1 : (H.mk ((H.mk h6.tr (h6.next + 9)).new (.cells false (ints [W ((A.getD j 0).tdiv k)]))).tr (h6.next + 13)).get (h6.next + 9) = some (.cells false (ints [W ((A.getD j 0).tdiv k)])) := by
        rw [H.get_next', H.get_new, if_pos rfl]
      have hy2 : ∀ z, z < h6.next → (H.mk ((H.mk h6.tr (h6.next + 9)).new (.cells false (ints [W ((A.getD j 0).tdiv k)]))).tr (h6.next + 13)).get z = h6.get z := fun z hz => by
        rw [H.get_next', H.get_new, if_neg (by show z ≠ h6.next + 9; omega)]; rfl
      have hy3 : (H.mk ((H.mk h6.tr (h6.next + 9)).new (.cells false (ints [W ((A.getD j 0).tdiv k)]))).tr (h6.next + 13)).next = h6.next + 13 := rfl
      generalize H.mk ((H.mk h6.tr (h6.next + 9)).new (.cells false (ints [W ((A.getD j 0).tdiv k)]))).tr (h6.next + 13) = h7 at *
      have hf7 : Fr h6 h7 := ⟨by omega, hy2⟩
      have hs7 : SI h7 (.sl (h6.next + 9) 0 1 (.kn 1)) [W ((A.getD j 0).tdiv k)] := SI.own (l := [W ((A.getD j 0).tdiv k)]) (by omega) hy1 (.kn 1)
      obtain ⟨v8, h8, e8, a8⟩ := (ho6.fr hf7).app (bytes := 8) (n := j) (m := 1) (by omega) hs7 (by rw [ints_length, List.length_map, List.length_take]; omega) rfl (by omega) (by omega)
      have ho8 := a8.own
      rw [← ints_append, ← take_map_succ (fun x => W (x.tdiv k)) A j (by omega)] at ho8
      have hn8 := a8.next
      have hap : Apart uc O := by
        rcases ho6 with ⟨r1, _⟩ | ⟨id, _, _, _, r1, _, _, r2, _⟩
        · rw [r1]; exact Apart.nils _
        · rw [r1]; exact Apart.sl (by omega)
      have hg8 : h8.get O = some (.cells false [.int .i64 (N : Int), uc]) := by rw [a8.get O (by omega) hap, hy2 O (by omega)]; exact hg6
      have hsv8 := ho8.sv
      simp (disch := first | omega | (simp only [Qn] <;> omega)) only [go_sem, e8, hsv8.st1, hg8, putO_one]
      rw [show (j : Int) + 1 = ((j + 1 : Nat) : Int) from by omega]
      refine ⟨A.length - (j + 1), by omega, j + 1, v8, ex_junk rfl, by omega, rfl, ho8.set (by omega) _, (a8.fr hb (hf6.trans hf7) (by omega)).set (by omega) _, by omega, fun i hi => ?_, rfl⟩
      by_cases hij : i = j
      · rw [hij]; exact Decidable.byContradiction hz
      · exact hdv i (by omega)
  · have : A.length = j := by omega
    subst this
    rw [List.take_length] at ho6
    have hsv := ho6.sv
    have hst3 := fun hh => stV_agg2 hh hx.next 0 (v := .int .i64 (N : Int)) (u := uc) rfl hsv.what.2.1
    have hrow := row_two (h := h6.set hx.next (some (.cells false [.int .i64 (N : Int), uc]))) (H.get_set_same ..)
    simp (disch := first | omega | (simp only [Qn] <;> omega)) only [go_sem, row_two hg6, hst3, hgr6, hrow]
    have hany : ¬ A.any (fun x => decide (x.tmod k ≠ 0)) = true := by
      rw [List.any_eq_true]
      rintro ⟨x, hx1, hx2⟩
      obtain ⟨i, hi, rfl⟩ := List.getElem_of_mem hx1
      have := hdv i hi
      rw [List.getD_eq_getElem?_getD, List.getElem?_eq_getElem hi] at this
      exact (of_decide_eq_true hx2) this
    rw [if_neg hany]
    have hco : CycO h6 (.agg [.int .i64 (N : Int), uc]) ((N : Int), A.map fun x => W (x.tdiv k)) (hx.next + 1) := ⟨uc, rfl, hsv, (Frs.own ho6).le (by omega)⟩
    exact ⟨_, rfl, (hco.set (by omega) _).le (by omega), (hF.trans hf6).set (by omega) _⟩

theorem rsign_ok (b : Bool) (h : H) : Ev T n_ref06_sign [.bool b] h (fun v h' => v = .int .i64 (if b then -1 else 1) ∧ h' = h) := by
  refine Ev_of t_ref06_sign rfl ?_
  simp (disch := first | omega | (simp only [Qn] <;> omega)) only [go_sem, c_ref06_sign, initV_eq]
  refine iteW_bool (fun hb => ?_) (fun hb => ?_)
  · simp (disch := first | omega | (simp only [Qn] <;> omega)) only [go_sem]; rw [hb]; exact ⟨rfl, trivial⟩
  · simp (disch := first | omega | (simp only [Qn] <;> omega)) only [go_sem]; rw [hb]; exact ⟨rfl, trivial⟩

theorem cmpI_eq (a : Int) : cmpI a a = 0 := by rw [cmpI, if_neg (by omega), if_neg (by omega)]
theorem cmpI_ne {a b : Int} (h : a ≠ b) : cmpI a b = (if decide (a < b) then -1 else 1) := by
  rw [cmpI]
  by_cases h1 : a < b
  · rw [if_pos h1, if_pos (decide_eq_true h1)]
  · rw [if_neg h1, if_pos (by omega), if_neg (by simpa using h1)]
theorem cmpI_nz {a b : Int} (h : a ≠ b) : cmpI a b ≠ 0 := by
  rw [cmpI_ne h]; split <;> omega

set_option maxHeartbeats 1000000 in
theorem rcmp_ok (va vb : V) (a b : Int × List Int) (h : H) (ha : CycV h va a) (hb : CycV h vb b) (hla : a.2.length < 1000000) (hlb : b.2.length < 1000000) :
    Ev T n_ref06_Cmp [va, vb] h (fun v h' => v = .int .i64 (cmpF a b) ∧ Fr h h') := by
  obtain ⟨u, rfl, hu⟩ := ha
  obtain ⟨w, rfl, hw⟩ := hb
  obtain ⟨N, A⟩ := a
  obtain ⟨M, B⟩ := b
  simp only at hu hw hla hlb
  refine Ev_of t_ref06_Cmp rfl ?_
  simp (disch := first | omega | (simp only [Qn] <;> omega)) only [go_sem, c_ref06_Cmp, initV_eq, boxV_agg2 h (v := .int .i64 N) rfl hu.what.2.1]
  have hfx : Fr h (h.new (.cells false [.int .i64 N, u])) := (Fr.refl h).new _
  have hgx : (h.new (.cells false [.int .i64 N, u])).get h.next = some (.cells false [.int .i64 N, u]) := H.get_new_same ..
  have hnx : (h.new (.cells false [.int .i64 N, u])).next = h.next + 1 := H.next_new ..
  generalize h.new (.cells false [.int .i64 N, u]) = hx at *
  simp (disch := first | omega | (simp only [Qn] <;> omega)) only [go_sem, boxV_agg2 hx (v := .int .i64 M) rfl hw.what.2.1]
  have hfy : Fr hx (hx.new (.cells false [.int .i64 M, w])) := (Fr.refl hx).new _
  have hgy : (hx.new (.cells false [.int .i64 M, w])).get hx.next = some (.cells false [.int .i64 M, w]) := H.get_new_same ..
  have hny : (hx.new (.cells false [.int .i64 M, w])).next = hx.next + 1 := H.next_new ..
  generalize hx.new (.cells false [.int .i64 M, w]) = hy at *
  have hgxy := (hfy.get h.next (by omega)).trans hgx
  have hF := hfx.trans hfy
  have c0 : hy.cell h.next 0 = some (.int .i64 N) := by rw [H.cell_of hgxy]; rfl
  have c1 : hy.cell h.next 1 = some u := by rw [H.cell_of hgxy]; rfl
  have d0 : hy.cell hx.next 0 = some (.int .i64 M) := by rw [H.cell_of hgy]; rfl
  have d1 : hy.cell hx.next 1 = some w := by rw [H.cell_of hgy]; rfl
  have c0x : hx.cell h.next 0 = some (.int .i64 N) := by rw [H.cell_of hgx]; rfl
  rw [cmpF]
  simp (disch := first | omega | (simp only [Qn] <;> omega)) only [go_sem, c0x, c0, d0]
  refine iteW_dec (fun hne => ?_) (fun heq => ?_)
  · simp (disch := first | omega | (simp only [Qn] <;> omega)) only [go_sem, c0, d0]
    refine (rsign_ok _ hy).mono ?_
    rintro v2 h2 ⟨rfl, rfl⟩
    simp (disch := first | omega | (simp only [Qn] <;> omega)) only [go_sem]
    rw [orF_first (cmpI_nz hne), cmpI_ne hne]
    exact ⟨rfl, hF⟩
  have hNM : N = M := by omega
  subst hNM
  rw [orF_second (cmpI_eq N)]
  obtain ⟨cid, coff, hcs, hcid, hcc⟩ := hu.open
  obtain ⟨did, doff, hds, hdid, hdc⟩ := hw.open
  simp (disch := first | omega | (simp only [Qn] <;> omega)) only [go_sem]
  refine Wp_loop (fun k' vars h6 => ∃ (j : Nat), (∃ g : Nat → V, vars = [g 0, g 1, .ptr h.next 0, .ptr hx.next 0, g 4, .int .i64 (j : Int), g 6, g 7, g 8, g 9]) ∧ j ≤ A.length ∧ j ≤ B.length ∧ Fr hy h6 ∧ cmpL (A.drop j) (B.drop j) = cmpL A B ∧ k' = A.length - j) A.length
    ⟨0, ex_junk rfl, Nat.zero_le _, Nat.zero_le _, Fr.refl hy, rfl, rfl⟩ ?_
  rintro k' vars h6 ⟨j, ⟨g, rfl⟩, hjA, hjB, hf6, hcm, rfl⟩
  have cx : ∀ n, (H.mk h6.tr n).cell h.next 1 = some u := fun n => by
    rw [H.cell_next, hf6.cell (by omega)]; exact c1
  have dx : ∀ n, (H.mk h6.tr n).cell hx.next 1 = some w := fun n => by
    rw [H.cell_next, hf6.cell (by omega)]; exact d1
  have cx' : h6.cell h.next 1 = some u := cx h6.next
  have dx' : h6.cell hx.next 1 = some w := dx h6.next
  simp (disch := first | omega | (simp only [Qn] <;> omega)) only [go_sem, cx', hu.lens]
  by_cases h1 : (j : Int) < (A.length : Int)
  · rw [decide_eq_true h1]
    simp (disch := first | omega | (simp only [Qn] <;> omega)) only [go_sem, dx', hw.lens]
    refine iteW_dec (fun h2 => ?_) (fun h2 => ?_)
    · have hcc6 := cells_fr (hF.trans hf6) hcid hcc
      have hdc6 := cells_fr (hF.trans hf6) hdid hdc
      rw [drop_getD A j (by omega), drop_getD B j (by omega), cmpL] at hcm
      simp (disch := first | omega | (simp only [Qn] <;> omega)) only [go_sem, cx', dx', hcs.ixa, hcc6, hds.ixa, hdc6]
      refine iteW_dec (fun h3 => ?_) (fun h3 => ?_)
      · simp (disch := first | omega | (simp only [Qn] <;> omega)) only [go_sem, cx', dx', hcs.ixa, hcc6, hds.ixa, hdc6]
        refine (rsign_ok _ _).mono ?_
        rintro v2 h2' ⟨rfl, rfl⟩
        simp (disch := first | omega | (simp only [Qn] <;> omega)) only [go_sem]
        rw [if_pos (cmpI_nz h3), cmpI_ne h3] at hcm
        rw [← hcm]
        exact ⟨rfl, (hF.trans hf6).bump (by omega)⟩
      · have h3' : A.getD j 0 = B.getD j 0 := by omega
        rw [h3', cmpI_eq, if_neg (by omega)] at hcm
        simp (disch := first | omega | (simp only [Qn] <;> omega)) only [go_sem]
        rw [show (j : Int) + 1 = ((j + 1 : Nat) : Int) from by omega]
        exact ⟨A.length - (j + 1), by omega, j + 1, ex_junk rfl, by omega, by omega, hf6.bump (by omega), hcm, rfl⟩
    · have hjb : j = B.length := by omega
      simp (disch := first | omega | (simp only [Qn] <;> omega)) only [go_sem, cx', dx', hu.lens, hw.lens]
      rw [decide_eq_true (show (A.length : Int) ≠ (B.length : Int) by omega)]
      simp (disch := first | omega | (simp only [Qn] <;> omega)) only [go_sem, cx', dx', hu.lens, hw.lens]
      refine (rsign_ok _ _).mono ?_
      rintro v2 h2' ⟨rfl, rfl⟩
      simp (disch := first | omega | (simp only [Qn] <;> omega)) only [go_sem]
      rw [drop_getD A j (by omega), hjb, List.drop_length, cmpL] at hcm
      rw [← hcm, if_neg (by simp; omega)]
      exact ⟨rfl, hF.trans hf6⟩
  · rw [decide_eq_false h1]
    have hja : j = A.length := by omega
    simp (disch := first | omega | (simp only [Qn] <;> omega)) only [go_sem, cx', dx', hu.lens, hw.lens]
    refine iteW_dec (fun h3 => ?_) (fun h3 => ?_)
    · simp (disch := first | omega | (simp only [Qn] <;> omega)) only [go_sem, cx', dx', hu.lens, hw.lens]
      refine (rsign_ok _ _).mono ?_
      rintro v2 h2' ⟨rfl, rfl⟩
      simp (disch := first | omega | (simp only [Qn] <;> omega)) only [go_sem]
      rw [hja, List.drop_length, drop_getD B A.length (by omega), cmpL] at hcm
      rw [← hcm, if_pos (by simp; omega)]
      exact ⟨rfl, hF.trans hf6⟩
    · simp (disch := first | omega | (simp only [Qn] <;> omega)) only [go_sem]
      rw [hja, List.drop_length, show A.length = B.length by omega, List.drop_length, cmpL] at hcm
      rw [← hcm]
      exact ⟨rfl, hF.trans hf6⟩
end
end Go.Proofs.Ythfabknpogbcaaa
/- The program's numbers as sums of powers: made, Make, Check, Add, Mul. -/
namespace Go.Proofs.Ythfabknpogbcaaa
open Go Go.Ay
set_option maxRecDepth 100000
noncomputable section

/-- The canonical number. -/
def numF (n : Nat) (c : Nat → Int) : Int × List Int := (((leastF n (VV n c)).1 : Int), (leastF n (VV n c)).2)
theorem num_congr {n : Nat} {c c' : Nat → Int} (h : ∀ j, j < fi n → val (phiF n) n c j = val (phiF n) n c' j) : numF n c = numF n c' := by
  rw [numF, numF, VV_congr h]
theorem num_same {n : Nat} {c c' : Nat → Int} (h : ∀ k, k < n → c k = c' k) : numF n c = numF n c' := num_congr fun j _ => sm_congr fun k hk => by rw [h k hk]
theorem Canon.num {n : Nat} {c : Nat → Int} {N : Nat} {c' : Nat → Int} (k : Canon n c N c') : numF n c = ((N : Int), VV N c') := by rw [numF, k.eq]
theorem Canon.num' {n : Nat} {c : Nat → Int} {N : Nat} {c' : Nat → Int} (k : Canon n c N c') : numF N c' = ((N : Int), VV N c') := by rw [numF, leastF_stop k.pos k.irr]
theorem num_fac {r n : Nat} {c : Nat → Int} (hr : 1 ≤ r) (hn : 1 ≤ n) (h : n * r ≤ 120) (hb : L1 n c ≤ 100000000000) : numF (n * r) (wid r c) = numF n c := by
  rw [numF, numF, (least_fac r n c hr hn h hb).1]
theorem val_small {n : Nat} (h1 : 1 ≤ n) (h2 : n ≤ 120) {c : Nat → Int} {B : Int} (hb : L1 n c ≤ B) (j : Nat) : ab (val (phiF n) n c j) ≤ 3 * B := by
  have := val_bound h1 h2 n c j
  rw [L1] at hb; omega
theorem VV_over {n : Nat} (h1 : 1 ≤ n) (h2 : n ≤ 120) {c : Nat → Int} (hb : L1 n c ≤ 3000000) : (VV n c).any overF = false := by
  rw [List.any_eq_false]
  intro x hx
  obtain ⟨j, hj, rfl⟩ := List.mem_map.1 hx
  have := ab_le.1 (val_small h1 h2 hb j)
  rw [overF]
  simp
  omega
/-- 'made', for coefficients that are right modulo 2^64. -/
theorem made_num {n : Nat} (h1 : 1 ≤ n) (h2 : n ≤ 120) {l : List Int} (hl : inR l) {x c : Nat → Int} (hx : ∀ k, k < l.length → cg (l.getD k 0) (x k))
    (hv : ∀ j, j < fi n → val (phiF n) l.length x j = val (phiF n) n c j) (hb : L1 n c ≤ 3000000) : madeF n l = (numF n c, 0) := by
  have hred : redF n l = VV n c := by
    apply eqD
    · rw [redF_len, VV, vecL_len]; rfl
    · intro j hj
      rw [redF_len] at hj
      have hj' : j < fi n := hj
      rw [VV, vecL_at, if_pos hj']
      have := ab_le.1 (val_small h1 h2 hb j)
      refine cg_eq ((redF_cg h1 h2 l hj').trans ?_) ((redF_in n hl).getD j) (by omega)
      rw [← hv j hj']
      exact cg_sm fun k hk => (hx k hk).mulr _
  obtain ⟨N, c', k⟩ := canon n c h1 h2 (by omega)
  simp only [madeF]
  rw [hred, k.num, k.eq, VV_over k.pos (Nat.le_trans k.le h2) (Int.le_trans k.l1 hb)]
  rfl
theorem num_check {n : Nat} (h1 : 1 ≤ n) (h2 : n ≤ 120) {c : Nat → Int} (hb : L1 n c ≤ 3000000) : checkF (numF n c) = 0 := by
  obtain ⟨N, c', k⟩ := canon n c h1 h2 (by omega)
  have hp := k.pos
  have hle := k.le
  rw [k.num, checkF, if_neg (by simp only; omega), if_neg (by simp only [Int.toNat_natCast, VV, vecL_len]; exact fun h => h rfl), if_neg (by simp only; rw [VV_over hp (by omega) (Int.le_trans k.l1 hb)]; simp), Int.toNat_natCast, leastF_stop hp k.irr, if_neg (by simp)]

/-! sums in a list -/
theorem accF_cg (ix : Nat → Nat) (vl : Nat → Int) (l0 : List Int) (t : Nat) (ht : t < l0.length) : ∀ k, cg ((accF ix vl l0 k).getD t 0) (l0.getD t 0 + sm k (fun i => if ix i = t then vl i else 0))
  | 0 => by rw [accF, sm_zero, Int.add_zero]; exact cg.refl _
  | k + 1 => by
    rw [accF, getD_set, accF_len, sm_succ]
    have ih := accF_cg ix vl l0 t ht k
    by_cases h : ix k = t
    · rw [if_pos h, if_pos (by omega), if_pos h, h, ← Int.add_assoc]
      exact (cg_W _).trans (ih.add (cg.refl _))
    · rw [if_neg h, if_neg h, Int.add_zero]; exact ih
/-- Coefficients that are spread, in a sum. -/
theorem sm_wid {N r : Nat} (hr : 1 ≤ r) (c g : Nat → Int) : sm (N * r) (fun k => wid r c k * g k) = sm N (fun t => c t * g (r * t)) := by
  have e : sm (N * r) (fun k => wid r c k * g k) = sm (N * r) (fun k => sm N (fun t => if r * t = k then c t else 0) * g k) := sm_congr fun k hk => by
    congr 1
    rw [wid]
    by_cases hz : k % r = 0
    · have hd : r * (k / r) = k := Nat.mul_div_cancel' (Nat.dvd_of_mod_eq_zero hz)
      have hlt : k / r < N := Nat.div_lt_of_lt_mul (by rw [Nat.mul_comm]; exact hk)
      rw [if_pos hz, sm_one hlt fun t _ hne => if_neg fun h => hne (by rw [← h, Nat.mul_div_cancel_left _ (by omega)]), if_pos hd]
    · rw [if_neg hz, sm_zeros fun t _ => if_neg fun h => hz (by rw [← h]; exact Nat.mul_mod_right r t)]
  rw [e]
  exact sm_group (fun t => r * t) (fun t ht => by
    have := Nat.mul_lt_mul_of_pos_left ht (show 0 < r by omega)
    rw [Nat.mul_comm r N] at this; exact this) c g
theorem val_widr {N r : Nat} (hr : 1 ≤ r) (c : Nat → Int) (j : Nat) : val (phiF (N * r)) (N * r) (wid r c) j = sm N (fun t => c t * rr (phiF (N * r)) (r * t) j) := sm_wid hr c _
/-- The same number stays the same when it is written with a multiple. -/
theorem wid_wd : ∀ (r N : Nat) (c c' : Nat → Int), 1 ≤ r → 1 ≤ N → N * r ≤ 120 → (∀ j, j < fi N → val (phiF N) N c j = val (phiF N) N c' j) → ∀ j, val (phiF (N * r)) (N * r) (wid r c) j = val (phiF (N * r)) (N * r) (wid r c') j := by
  intro r
  induction r using Nat.strongRecOn with
  | ind r ih =>
  intro N c c' hr hN hNr h j
  by_cases h1 : r = 1
  · subst h1
    rw [Nat.mul_one, wid_one, wid_one]
    by_cases hj : j < fi N
    · exact h j hj
    · rw [val_ge (mon hN (by omega)) _ _ (by omega), val_ge (mon hN (by omega)) _ _ (by omega)]
  have hnr1 : 1 ≤ N * r := Nat.mul_pos hN hr
  obtain ⟨q, hq, hd⟩ := fac hnr1 hNr (show 2 ≤ r by omega) (Nat.dvd_mul_left r N)
  have P : Pq (N * r) q := ⟨hnr1, hNr, hq⟩
  have hq2 := P.q2
  obtain ⟨s, rfl⟩ := hd
  have hs : 1 ≤ s := by
    rcases Nat.eq_zero_or_pos s with h | h
    · subst h; simp at hr
    · exact h
  have e1 : N * (q * s) / q = N * s := by rw [Nat.mul_left_comm, Nat.mul_div_cancel_left _ (by omega)]
  have hlt : s < q * s := by
    have := Nat.mul_le_mul_right s hq2
    omega
  have hle : N * s ≤ 120 := by rw [← e1]; exact P.m2
  rw [← wid_wid (by omega), ← wid_wid (by omega), P.val_wid, P.val_wid, e1]
  refine sm_congr fun i _ => ?_
  rw [ih s hlt N c c' hs hN hle h i]

/-! products -/
def conv (n : Nat) (a b : Nat → Int) (t : Nat) : Int := sm n (fun i => sm n (fun k => if (i + k) % n = t then a i * b k else 0))
theorem val_conv {n : Nat} (h1 : 1 ≤ n) (h2 : n ≤ 120) (a b : Nat → Int) (j : Nat) : val (phiF n) n (conv n a b) j = sm n (fun i => a i * sm n (fun k => b k * rr (phiF n) (i + k) j)) := by
  have e : val (phiF n) n (conv n a b) j = sm n (fun t => sm n (fun i => sm n (fun k => if (i + k) % n = t then a i * b k else 0) * rr (phiF n) t j)) := sm_congr fun t _ => by rw [conv, sm_mulr]
  rw [e, sm_swap]
  refine sm_congr fun i _ => ?_
  rw [sm_group (fun k => (i + k) % n) (fun k _ => Nat.mod_lt _ (by omega)) (fun k => a i * b k), ← sm_mul]
  exact sm_congr fun k _ => by rw [rr_mod h1 h2, Int.mul_assoc]
theorem conv_wd {n : Nat} (h1 : 1 ≤ n) (h2 : n ≤ 120) {a a' b b' : Nat → Int} (ha : ∀ j, j < fi n → val (phiF n) n a j = val (phiF n) n a' j) (hb : ∀ j, j < fi n → val (phiF n) n b j = val (phiF n) n b' j) (j : Nat) :
    val (phiF n) n (conv n a b) j = val (phiF n) n (conv n a' b') j := by
  have m := mon h1 h2
  have hrec : ∀ i, Rec (phiF n) (fi n) (fun k => rr (phiF n) (i + k) j) := fun i s => by
    refine Eq.trans ?_ (rr_rec m (i + s) j)
    exact sm_congr fun k _ => by rw [Nat.add_assoc]
  have e1 : ∀ i, sm n (fun k => b k * rr (phiF n) (i + k) j) = sm n (fun k => b' k * rr (phiF n) (i + k) j) := fun i => by
    rw [val_rec m (hrec i) n b, val_rec m (hrec i) n b']
    exact sm_congr fun u hu => by rw [hb u hu]
  have e2 : ∀ k, sm n (fun i => a i * rr (phiF n) (i + k) j) = sm n (fun i => a' i * rr (phiF n) (i + k) j) := fun k => by
    have c : ∀ x : Nat → Int, sm n (fun i => x i * rr (phiF n) (i + k) j) = sm n (fun i => x i * rr (phiF n) (k + i) j) := fun x => sm_congr fun i _ => by rw [Nat.add_comm]
    rw [c, c, val_rec m (hrec k) n a, val_rec m (hrec k) n a']
    exact sm_congr fun u hu => by rw [ha u hu]
  rw [val_conv h1 h2, val_conv h1 h2]
  have e3 : sm n (fun i => a i * sm n (fun k => b k * rr (phiF n) (i + k) j)) = sm n (fun k => b' k * sm n (fun i => a i * rr (phiF n) (i + k) j)) := by
    rw [sm_congr fun i _ => by rw [e1 i, ← sm_mul], sm_swap]
    refine sm_congr fun k _ => ?_
    rw [← sm_mul]
    exact sm_congr fun i _ => by rw [Int.mul_left_comm]
  have e4 : sm n (fun i => a' i * sm n (fun k => b' k * rr (phiF n) (i + k) j)) = sm n (fun k => b' k * sm n (fun i => a' i * rr (phiF n) (i + k) j)) := by
    rw [sm_congr fun i _ => by rw [← sm_mul], sm_swap]
    refine sm_congr fun k _ => ?_
    rw [← sm_mul]
    exact sm_congr fun i _ => by rw [Int.mul_left_comm]
  rw [e3, e4]
  exact sm_congr fun k _ => by rw [e2 k]
theorem conv_L1 {n : Nat} (h1 : 1 ≤ n) (a b : Nat → Int) : L1 n (conv n a b) ≤ L1 n a * L1 n b := by
  have e1 : L1 n (conv n a b) ≤ sm n (fun t => sm n (fun i => sm n (fun k => if (i + k) % n = t then ab (a i * b k) else 0))) := sm_le fun t _ => by
    refine Int.le_trans (sm_ab _ _) (sm_le fun i _ => ?_)
    refine Int.le_trans (sm_ab _ _) (sm_le fun k _ => ?_)
    split
    · exact Int.le_refl _
    · exact Int.le_refl _
  have e2 : sm n (fun t => sm n (fun i => sm n (fun k => if (i + k) % n = t then ab (a i * b k) else 0))) = L1 n a * L1 n b := by
    rw [sm_swap, L1, ← sm_mulr]
    refine sm_congr fun i _ => ?_
    have := sm_group (n := n) (m := n) (fun k => (i + k) % n) (fun k _ => Nat.mod_lt _ (by omega)) (fun k => ab (a i * b k)) (fun _ => 1)
    simp only [Int.mul_one] at this
    rw [this, L1, ← sm_mul]
    exact sm_congr fun k _ => by rw [ab_mul]
  rw [e2] at e1; exact e1
end
end Go.Proofs.Ythfabknpogbcaaa
