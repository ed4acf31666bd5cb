/- Layer 5: the reference's Solve. Layer 5: the law LinearMaps, walked. -/
import Derived.Test.YtlhebmcnjgagjaaL4tctoM5ve
/- Layer 5: the reference's Solve. -/
namespace Go.Proofs.Ytlhebmcnjgagjaa
open Go Go.Ay
set_option maxRecDepth 100000
set_option maxHeartbeats 32000000 in
theorem ref_Solve_ok (va vb : V) (a : Mat) (b : List Int) (h : H) (ha : MatV h va a) (la : (a.2.length : Int) ≤ 2 ^ 63 - 1) (hb : SI h vb b) (lb : (b.length : Int) ≤ 2 ^ 63 - 1) :
    Ev T n_ref05_Solve [va, vb] h (fun w h' => ∃ u, w = .tup [u, .int .i64 (SolveF a b).2] ∧ SI h' u (SolveF a b).1 ∧ Fr h h') := by
  obtain ⟨ua, rfl, hua⟩ := ha
  refine Ev_of t_ref05_Solve rfl ?_
  have wa := SV.what hua.choose_spec.1
  have wb := SV.what hb
  simp (disch := first | omega | (simp only [Qn] <;> omega)) only [go_sem, c_ref05_Solve, initV_eq, boxV_agg2 h (v := .int .i64 a.1) rfl wa.2.1]
  have hf1 : Fr h (h.new (.cells false [.int .i64 a.1, ua])) := (Fr.refl h).new _
  have hg1 : (h.new (.cells false [.int .i64 a.1, ua])).get h.next = some (.cells false [.int .i64 a.1, ua]) := H.get_new_same ..
  have hn1 : (h.new (.cells false [.int .i64 a.1, ua])).next = h.next + 1 := H.next_new ..
  generalize h.new (.cells false [.int .i64 a.1, ua]) = h1 at *
  obtain ⟨X, hX⟩ : ∃ X, h.next = X := ⟨_, rfl⟩
  rw [hX] at hg1
  rw [hX]
  simp (disch := first | omega | (simp only [Qn] <;> omega)) only [go_sem, row_two hg1]
  refine (ref_check_ok _ a h1 ⟨ua, rfl, hua.mono hf1⟩ la).mono ?_
  rintro w h2 ⟨rfl, f2⟩
  have F2 := hf1.trans f2
  simp (disch := first | omega | (simp only [Qn] <;> omega)) only [go_sem]
  refine iteW_dec (fun hz => ?_) (fun hz => ?_)
  · simp (disch := first | omega | (simp only [Qn] <;> omega)) only [go_sem]
    rw [SolveF, if_pos hz]
    exact ⟨_, rfl, SV.nils _ _, F2⟩
  have hz : checkM a = 0 := Classical.byContradiction hz
  have da := check_vd hz
  have hp := fieldF_range da.p
  have hP : isP a.1 = true := by have := da.p; simp only [fieldF, Bool.and_eq_true] at this; exact this.2
  have hp1 := isP_gt hP
  have r1 := da.r1
  have r2 := da.r2
  have c1 := da.c1
  have c2 := da.c2
  have gX := (f2.get X (by omega)).trans hg1
  have x0 : h2.cell X 0 = some (.int .i64 a.1) := by rw [H.cell_of gX]; rfl
  have x1 : h2.cell X 1 = some ua := by rw [H.cell_of gX]; rfl
  obtain ⟨ida, offa, wsa, sa, hida, hwla, hca, halla⟩ := (hua.mono F2).open
  have c0 := hca 0 r1
  rw [Nat.add_zero] at c0
  have l0 := (row_at halla (i := 0) r1).lens
  have n2 := f2.next
  have i0 : ixaV 1 ua (.int .i64 0) = some (.ptr ida offa) := by rw [sa.ixa .i64 0 (by omega) (by omega)]; rfl
  have fb : Fr h2 (H.mk h2.tr (h2.next + 9)) := (Fr.refl h2).bump (by omega)
  simp (disch := first | omega | (simp only [Qn] <;> omega)) only [go_sem, x0, x1, i0, c0, l0, hb.lens]
  obtain ⟨n, hn⟩ : ∃ n, (a.2.getD 0 []).length = n := ⟨_, rfl⟩
  rw [hn] at c1 c2
  have drow := da.row
  rw [hn] at drow
  rw [hn]
  refine iteW_dec (fun hl => ?_) (fun hl => ?_)
  · simp (disch := first | omega | (simp only [Qn] <;> omega)) only [go_sem]
    rw [SolveF, if_neg (by simp [hz]), if_pos (by omega)]
    exact ⟨_, rfl, SV.nils _ _, F2.trans fb⟩
  have hbl : b.length = n := by omega
  have eY : InS a.1 n a.2.length (vw a.2) (fun j => b.getD j 0) → SolveF a b = (solF a.1 n a.2.length (vw a.2) (fun j => b.getD j 0), 0) := fun e => by
    rw [← hbl] at e ⊢
    rw [SolveF, if_neg (by simp [hz]), if_neg (by omega), if_pos e]
  have eN : ¬ InS a.1 n a.2.length (vw a.2) (fun j => b.getD j 0) → SolveF a b = ([], 18) := fun e => by
    rw [← hbl] at e
    rw [SolveF, if_neg (by simp [hz]), if_neg (by omega), if_neg e]
  obtain ⟨p, hpe⟩ : ∃ p, a.1 = p := ⟨_, rfl⟩
  obtain ⟨A, hA⟩ : ∃ A, a.2 = A := ⟨_, rfl⟩
  obtain ⟨m, hm⟩ : ∃ m, A.length = m := ⟨_, rfl⟩
  rw [hpe] at hp hP hp1 x0
  rw [hA] at drow sa hida hwla hca halla r1 r2
  rw [hm] at sa hida hwla hca drow r1 r2
  rw [hpe, hA, hm] at eY eN
  obtain ⟨SF, hSF⟩ : ∃ SF, SolveF a b = SF := ⟨_, rfl⟩
  rw [hSF] at eY eN ⊢
  rw [hpe]
  clear hn hl c0 l0 i0 gX
  replace F2 := F2.trans fb
  replace x0 : (H.mk h2.tr (h2.next + 9)).cell X 0 = some (.int .i64 p) := x0
  replace x1 : (H.mk h2.tr (h2.next + 9)).cell X 1 = some ua := x1
  replace hca : ∀ i, i < m → (H.mk h2.tr (h2.next + 9)).cell ida (offa + i) = some (wsa.getD i .undef) := hca
  replace halla := halla.mono fun _ _ r => SI.mono r fb
  have lX : X < (H.mk h2.tr (h2.next + 9)).next := by show X < h2.next + 9; omega
  replace hida : 0 < m → ida < (H.mk h2.tr (h2.next + 9)).next := fun q => Nat.lt_of_lt_of_le (hida q) fb.next
  replace hb := hb.mono F2
  clear fb f2 hg1
  generalize H.mk h2.tr (h2.next + 9) = h3 at *
  simp (disch := first | omega | (simp only [Qn] <;> omega)) only [go_sem]
  refine Wp_loop (fun k' vars hh => ∃ (i : Nat) (l : List Nat) (u z : V), (∃ g : Nat → V, vars = [g 0, vb, .ptr X 0, g 3, g 4, g 5, .int .i64 p, .int .i64 (n : Int), u, z, .int .i64 (i : Int), g 11, g 12, g 13, g 14, g 15, g 16, g 17, g 18, g 19, g 20, g 21, g 22]) ∧ i ≤ m ∧ l.length ≤ i ∧ Own hh u 1 (l.map fun q => wsa.getD q .undef) h3.next ∧ Own hh z 1 (ints (l.map fun q : Nat => (q : Int))) h3.next ∧ Dis u z ∧ Gy p n A i l ∧ Fr h3 hh ∧ k' = m - i) m
    ⟨0, [], .nils, .nils, ex_junk rfl, Nat.zero_le _, Nat.zero_le _, Own.nils _ _ _, Own.nils _ _ _, dis_nils, Gy.start p n A, Fr.refl _, rfl⟩ ?_
  rintro k' vars hh ⟨i, l, u, z, ⟨jk, rfl⟩, hi, hli, ou, oz, dz, gy, F, rfl⟩
  have x1h : hh.cell X 1 = some ua := by rw [F.cell lX]; exact x1
  simp (disch := first | omega | (simp only [Qn] <;> omega)) only [go_sem, x1h, sa.lens]
  have rows : ∀ {h' : H}, Fr h3 h' → ∀ q, q < m → SI h' (wsa.getD q .undef) (A.getD q []) := fun f q hq => (row_at halla (i := q) (by omega)).mono f
  have al : ∀ {h' : H}, Fr h3 h' → ∀ l : List Nat, (∀ q ∈ l, q < m) → All2 (SI h') (l.map fun q => wsa.getD q .undef) (rl A l) := fun {h'} f l hq => by
    induction l with
    | nil => trivial
    | cons q l ih => exact ⟨rows f q (hq q (List.mem_cons_self ..)), ih fun x hx => hq x (List.mem_cons_of_mem _ hx)⟩
  have lm : ∀ q ∈ l, q < i := fun q hq => by
    obtain ⟨t, ht, e⟩ := List.mem_iff_getElem.1 hq
    have := gy.lt t ht
    rw [List.getD_eq_getElem?_getD, List.getElem?_eq_getElem ht, Option.getD_some, e] at this
    exact this
  have rlw : ∀ l : List Nat, (∀ q ∈ l, q < m) → ∀ t, t < (rl A l).length → ((rl A l).getD t []).length = n := fun l hq t ht => by
    rw [rl_len] at ht
    rw [rl_get ht]
    exact drow _ (hq _ (getD_mem ht))
  have lensu : lensV u = some (.int .i64 (l.length : Int)) := by
    unfold lensV; rw [ou.sv.len (n := l.length) (by simp) (by omega)]; rfl
  by_cases hlt : (i : Int) < (m : Int)
  · rw [decide_eq_true hlt]
    have hi' : i < m := by omega
    have ci : hh.cell ida (offa + i) = some (wsa.getD i .undef) := by rw [F.cell (hida (by omega))]; exact hca i hi'
    have wi := SV.what (rows F i hi')
    have fb : Fr hh (H.mk hh.tr (hh.next + 17)) := (Fr.refl hh).bump (by omega)
    simp (disch := first | omega | (simp only [Qn] <;> omega)) only [go_sem, x1h, sa.ixa, ci]
    refine (ownr_ok u _ _ (SV.mono ou.sv fb) (by rw [List.length_map]; omega)).mono ?_
    rintro w h4 ⟨o4, f4⟩
    have F4 := fb.trans f4
    have x14 : h4.cell X 1 = some ua := by rw [(F.trans F4).cell lX]; exact x1
    have ci4 : h4.cell ida (offa + i) = some (wsa.getD i .undef) := by rw [(F.trans F4).cell (hida (by omega))]; exact hca i hi'
    have eU : eqV ua ua = true := SV.eqV hua.choose_spec.1
    have eW : eqV (wsa.getD i .undef) (wsa.getD i .undef) = true := SV.eqV (rows F i hi')
    simp (disch := first | omega | (simp only [Qn] <;> omega)) only [go_sem, x14, ci4, eU, eW, litV_eq, fun h => bls_row h wi.1 wi.2.1]
    have n4 := f4.next
    have hn4 : (H.mk hh.tr (hh.next + 17)).next = hh.next + 17 := rfl
    have f5 : Fr hh (litV h4 (hh.next + 9) [wsa.getD i .undef] h4.next) := litV_fr F4 (by omega) (by omega) _
    have o5 : Own (litV h4 (hh.next + 9) [wsa.getD i .undef] h4.next) w 1 (l.map fun q => wsa.getD q .undef) (hh.next + 17) := o4.mono (by rw [litV_next]; exact Nat.le_refl _) fun id _ _ _ _ h1 _ => litV_ne _ _ _ (by omega)
    have hy : SV (litV h4 (hh.next + 9) [wsa.getD i .undef] h4.next) (.sl (hh.next + 9) 0 1 (.kn 1)) 1 [wsa.getD i .undef] := SV.all rfl (by rw [litV_next]; omega) (litV_get ..) _
    obtain ⟨u6, h6, e6, a6⟩ := o5.app (bytes := 24) (n := l.length) (m := 1) (by rw [litV_next]; omega) hy (by simp) rfl (by omega) (by omega)
    have f6 := a6.fr hh f5 (by omega)
    have F6 := F.trans f6
    have o6 := a6.own
    have li : ∀ q ∈ l ++ [i], q < m := fun q hq => by
      rcases List.mem_append.1 hq with q1 | q1
      · have := lm q q1; omega
      · rw [List.mem_singleton.1 q1]; exact hi'
    have e7 : (l.map fun q => wsa.getD q .undef) ++ [wsa.getD i .undef] = (l ++ [i]).map fun q => wsa.getD q .undef := by rw [List.map_append]; rfl
    rw [e7] at o6
    have s6 : SR h6 u6 (rl A (l ++ [i])) := ⟨_, o6.sv, al F6 _ li⟩
    have lri : (rl A (l ++ [i])).length = l.length + 1 := by rw [rl_len, List.length_append]; rfl
    simp (disch := first | omega | (simp only [Qn] <;> omega)) only [go_sem, e6]
    refine (ref_basis_ok p n u6 (rl A (l ++ [i])) h6 s6 (by omega) (rlw _ li) (by omega) (by omega) hP hp.2).mono ?_
    rintro w8 h8 ⟨u8, z8, S, f, k, rfl, s, sr, _, ⟨_, hk⟩, f8⟩
    have F8 := f6.trans f8
    have lk : (rwF n n S f).length = k := by rw [rwF_len, s.cn]
    have l8 := sr.sr.lens
    rw [lk] at l8
    rw [lri] at s hk
    have rk := gy.rank hP s hk
    simp (disch := first | omega | (simp only [Qn] <;> omega)) only [go_sem, List.getElem?_cons_zero, List.getElem?_cons_succ, l8, lensu]
    have ci8 : h8.cell ida (offa + i) = some (wsa.getD i .undef) := by rw [(F.trans F8).cell (hida (by omega))]; exact hca i hi'
    have x18 : h8.cell X 1 = some ua := by rw [(F.trans F8).cell lX]; exact x1
    have ou8 := ou.fr F8
    have oz8 := oz.fr F8
    rcases rk with ⟨hin, rfl⟩ | ⟨hno, rfl⟩
    · rw [decide_eq_false (show ¬ (l.length : Int) < (l.length : Int) by omega)]
      simp (disch := first | omega | (simp only [Qn] <;> omega)) only [go_sem]
      rw [show (i : Int) + 1 = ((i + 1 : Nat) : Int) from by omega]
      exact ⟨m - (i + 1), by omega, i + 1, l, u, z, ex_junk rfl, by omega, by omega, ou8, oz8, dz, gy.skip hin, F.trans F8, rfl⟩
    · rw [decide_eq_true (show (l.length : Int) < ((l.length + 1 : Nat) : Int) by omega)]
      have f9 : Fr h8 (h8.new (.cells false [wsa.getD i .undef])) := (Fr.refl h8).new _
      have hy9 : SV (h8.new (.cells false [wsa.getD i .undef])) (.sl h8.next 0 1 (.kn 1)) 1 [wsa.getD i .undef] := SV.all rfl (by rw [H.next_new]; omega) (H.get_new_same ..) _
      have lo8 : h3.next ≤ h8.next := (F.trans F8).next
      obtain ⟨u10, h10, e10, a10⟩ := (ou8.fr f9).app (bytes := 24) (n := l.length) (m := 1) (by have := f9.next; omega) hy9 (by simp) rfl (by omega) (by omega)
      have ev10 := app_at (ou8.fr f9) (n := l.length) (by simp) (m := 1) (by omega) (by omega) hy9 rfl e10
      have f10 := a10.fr h3 ((F.trans F8).trans f9) (Nat.le_refl _)
      have oz10 : Own h10 z 1 (ints (l.map fun q : Nat => (q : Int))) h3.next := (oz8.fr f9).mono a10.next fun id _ _ _ e _ hid => a10.get id hid fun id' _ _ _ e' => (dz _ _ _ _ e' _ _ _ _ e).symm
      have f11 : Fr h10 (h10.new (.cells false (ints [(i : Int)]))) := (Fr.refl h10).new _
      have hy11 : SV (h10.new (.cells false (ints [(i : Int)]))) (.sl h10.next 0 1 (.kn 1)) 1 (ints [(i : Int)]) := SV.all rfl (by rw [H.next_new]; omega) (H.get_new_same ..) _
      obtain ⟨z12, h12, e12, a12⟩ := (oz10.fr f11).app (bytes := 8) (n := l.length) (m := 1) (by have := f10.next; have := f11.next; omega) hy11 (by rw [ints_length, List.length_map, Nat.mul_one]) rfl (by omega) (by omega)
      have ev12 := app_at (oz10.fr f11) (n := l.length) (by rw [ints_length, List.length_map, Nat.mul_one]) (m := 1) (by omega) (by omega) hy11 rfl e12
      have f12 := a12.fr h3 (f10.trans f11) (Nat.le_refl _)
      have o10 := a10.own
      have hlt10 : (h8.new (.cells false [wsa.getD i .undef])).next < h10.next := (own_low o10 (by rw [ev10])).2
      have o12 : Own h12 u10 1 ((l ++ [i]).map fun q => wsa.getD q .undef) h3.next := by
        rw [← e7]
        refine (o10.fr f11).mono a12.next fun id _ _ _ e _ hid => a12.get id hid ?_
        intro id' _ _ _ e' e2
        have q1 := own_low oz10 e'
        rw [ev10] at e
        cases e
        have := own_low (oz8.fr f9) e'
        omega
      have oz12 := a12.own
      rw [← ints_append] at oz12
      simp (disch := first | omega | (simp only [Qn] <;> omega)) only [go_sem, x18, sa.ixa, ci8, bls_row h8 wi.1 wi.2.1, e10, bls_int, e12]
      rw [show (i : Int) + 1 = ((i + 1 : Nat) : Int) from by omega]
      refine ⟨m - (i + 1), by omega, i + 1, l ++ [i], u10, z12, ex_junk rfl, by omega, by rw [List.length_append, List.length_singleton]; omega, o12, by rw [List.map_append]; exact oz12, ?_, gy.take hP hno s, f12, rfl⟩
      intro i1 _ _ _ q1 i2 _ _ _ q2
      rw [ev10] at q1
      rw [ev12] at q2
      cases q1
      cases q2
      have := f11.next
      omega
  rw [decide_eq_false hlt]
  obtain rfl : i = m := by omega
  simp (disch := first | omega | (simp only [Qn] <;> omega)) only [go_sem]
  refine (ownr_ok u _ hh ou.sv (by rw [List.length_map]; omega)).mono ?_
  rintro w h4 ⟨o4, f4⟩
  have f5 : Fr h4 (h4.new (.cells false [vb])) := (Fr.refl h4).new _
  have hy : SV (h4.new (.cells false [vb])) (.sl h4.next 0 1 (.kn 1)) 1 [vb] := SV.all rfl (by rw [H.next_new]; omega) (H.get_new_same ..) _
  obtain ⟨u6, h6, e6, a6⟩ := (o4.fr f5).app (bytes := 24) (n := l.length) (m := 1) (by have := f4.next; have := f5.next; omega) hy (by simp) rfl (by omega) (by omega)
  have f6 := a6.fr hh (f4.trans f5) (Nat.le_refl _)
  have F6 := F.trans f6
  have o6 := a6.own
  obtain ⟨L, hL⟩ : ∃ L, l.length = L := ⟨_, rfl⟩
  have s6 : SR h6 u6 (rl A l ++ [b]) := ⟨_, o6.sv, All2.snoc (al F6 l lm) (hb.mono F6)⟩
  have llb : (rl A l ++ [b]).length = L + 1 := by rw [List.length_append, rl_len, List.length_singleton, hL]
  simp (disch := first | omega | (simp only [Qn] <;> omega)) only [go_sem, bls_row h4 wb.1 wb.2.1, e6]
  refine (ref_kernel_ok p n u6 (rl A l ++ [b]) h6 s6 (by omega) (by omega) (by omega) (getD_app (rlw l lm) fun i hi => by simp at hi; subst hi; simpa using hbl) hP hp.2).mono ?_
  rintro vk h7 ⟨S, f, kk, sk, rk, f7⟩
  rw [llb] at sk rk
  have F7 := F6.trans f7
  obtain ⟨K, hK⟩ : ∃ K, krF n (L + 1) S f (n + (L + 1)) = K := ⟨_, rfl⟩
  rw [hK] at rk
  have sK := rk.sr
  have Uo : ∀ t, t < L → vw (rl A l ++ [b]) t = vw (rl A l) t := fun t ht => by
    funext j; rw [vw_app, rl_len, hL, if_pos ht]
  have Un : vw (rl A l ++ [b]) L = fun j => b.getD j 0 := by
    funext j; rw [vw_app, rl_len, hL, if_neg (by omega), Nat.sub_self]; rfl
  have lK : ∀ q, q < K.length → (K.getD q []).length = L + 1 := fun q hq => by
    rw [← hK, krF_rwF rfl] at hq ⊢
    rw [(piv_at hq).2.2, mkV_len]
  have kl : K.length ≤ n + (L + 1) := by rw [← hK]; exact krF_len
  simp (disch := first | omega | (simp only [Qn] <;> omega)) only [go_sem, sK.lens]
  refine iteW_dec (fun h0 => ?_) (fun h0 => ?_)
  · simp (disch := first | omega | (simp only [Qn] <;> omega)) only [go_sem]
    have hKn : krF n (L + 1) S f (n + (L + 1)) = [] := by rw [hK]; exact List.eq_nil_of_length_eq_zero (by omega)
    have no := ker_empty hp1 sk hKn
    rw [Un] at no
    rw [eN fun q => no ((q.trans gy.all).trans fun t ht => by rw [← Uo t (by omega)]; exact InS.row (by omega))]
    exact ⟨_, rfl, SV.nils _ _, F2.trans F7⟩
  have hK0 : 0 < K.length := by omega
  have I' : Ind p n L (vw (rl A l ++ [b])) := fun κ hκ => by
    rw [← hL]
    refine gy.ind κ fun j hj => ?_
    rw [hL, ← hκ j hj]
    exact congrArg (· % p) (sm_congr fun t ht => by rw [Uo t ht])
  obtain ⟨w1, w2, w3, w4⟩ := ker_one hP I' sk (by rw [hK]; exact hK0)
  rw [hK] at w1 w2 w3 w4
  obtain ⟨idk, offk, wsk, ρk, ok, RK⟩ := SR.rd sK lK
  have ck0 := RK.at_ 0 hK0
  rw [Nat.add_zero] at ck0
  have x17 : h7.cell X 1 = some ua := by rw [F7.cell lX]; exact x1
  have emk := mks_ints h7 i (by omega)
  have ik0 : ∀ kk : IntKind, ixaV 1 vk (.int kk 0) = some (.ptr idk offk) := fun kk => by rw [RK.sl.ixa kk 0 (by omega) (by omega)]; rfl
  have f8 : Fr h7 (h7.new (.cells false (ints (mkV i fun _ => 0)))) := (Fr.refl h7).new _
  have ck8 : (h7.new (.cells false (ints (mkV i fun _ => 0)))).cell idk offk = some (wsk.getD 0 .undef) := by rw [f8.cell (RK.lt 0 hK0)]; exact ck0
  have rs := RK.rsl 0 hK0
  have cL := (RK.fr f8).ent 0 L hK0 (by omega)
  have w1' : 0 < ent K 0 L := w1
  have w2' : ent K 0 L < p := w2
  simp (disch := first | omega | (simp only [Qn] <;> omega)) only [go_sem, x17, sa.lens, emk, ik0, ck8, lensu, hL, rs.ixa, cL]
  obtain ⟨h8, hh8⟩ : ∃ h8, h7.new (.cells false (ints (mkV i fun _ => 0))) = h8 := ⟨_, rfl⟩
  have n8 : h8.next = h7.next + 1 := by rw [← hh8, H.next_new]
  have g8 : h8.get h7.next = some (.cells false (ints (mkV i fun _ => 0))) := by rw [← hh8]; exact H.get_new_same ..
  rw [hh8] at f8 ⊢
  obtain ⟨N, hN⟩ : ∃ N, h7.next = N := ⟨_, rfl⟩
  rw [hN] at g8 n8 ⊢
  refine (ref_inv_ok (p - ent K 0 L) p h8 hP hp.2 (by omega)).mono ?_
  rintro w h9 ⟨x, rfl, x1', x2', x3', rfl⟩
  have F9 := F7.trans f8
  obtain ⟨y, hy2⟩ : ∃ y : Nat → Int, (fun t => vw K 0 t * x % p) = y := ⟨_, rfl⟩
  have yt : ∀ t, y t = vw K 0 t * x % p := fun t => by rw [← hy2]
  have ry : ∀ t, 0 ≤ y t ∧ y t < p := fun t => by rw [yt]; exact tmod_range _ (by omega)
  have eqs := w4 x x3'
  have inj' := gy.inj
  have lt' := gy.lt
  rw [hL] at inj' lt'
  have lz : lensV z = some (.int .i64 (L : Int)) := by
    unfold lensV; rw [oz.sv.len (n := L) (by rw [ints_length, List.length_map, hL, Nat.mul_one]) (by omega)]; rfl
  obtain ⟨idz, offz, slz, hidz, hcz⟩ := SI.open (h := hh) (v := z) (l := l.map fun q : Nat => (q : Int)) oz.sv
  rw [List.length_map, hL] at slz hidz hcz
  simp (disch := first | omega | (simp only [Qn] <;> omega)) only [go_sem, List.getElem?_cons_zero, List.getElem?_cons_succ]
  refine Wp_loop (fun k' vars h10 => ∃ (s : Nat), (∃ g : Nat → V, vars = [g 0, g 1, g 2, g 3, g 4, g 5, .int .i64 p, g 7, u, z, g 10, g 11, g 12, .sl N 0 i (.kn i), wsk.getD 0 .undef, .int .i64 x, .int .i64 (s : Int), g 17, g 18, g 19, g 20, g 21, g 22]) ∧ s ≤ L ∧ Bk h10 N i (fun q => sm s fun t => if l.getD t 0 = q then y t else 0) ∧ N < h10.next ∧ Fr h7 h10 ∧ k' = L - s) L
    ⟨0, ex_junk rfl, Nat.zero_le _, g8, by omega, f8, rfl⟩ ?_
  clear jk
  rintro k' vars h10 ⟨s, ⟨jk, rfl⟩, hs, bN, lN, f10, rfl⟩
  simp (disch := first | omega | (simp only [Qn] <;> omega)) only [go_sem, lensu, hL]
  by_cases hsl : (s : Int) < (L : Int)
  · rw [decide_eq_true hsl]
    have hs' : s < L := by omega
    have cz : h10.cell idz (offz + s) = some (.int .i64 (l.getD s 0 : Int)) := by
      rw [(f6.trans (f7.trans f10)).cell (hidz (by omega)), hcz s hs', List.getD_eq_getElem?_getD, List.getElem?_map, List.getD_eq_getElem?_getD, List.getElem?_eq_getElem (by omega)]
      rfl
    have cw := (RK.fr f10).ent 0 s hK0 (by omega)
    have ls := lt' s hs'
    obtain ⟨q, hq⟩ : ∃ q, l.getD s 0 = q := ⟨_, rfl⟩
    rw [hq] at cz ls
    have rw0 := w3 s (by omega)
    have r1' : 0 ≤ ent K 0 s := rw0.1
    have r2' : ent K 0 s < p := rw0.2
    have b1 := Int.mul_nonneg r1' x1'
    have b2 := Int.mul_le_mul (show ent K 0 s ≤ 10000 by omega) (show x ≤ 10000 by omega) x1' (by omega)
    have em := nonneg_tmod (a := ent K 0 s * x) (p := p) (by omega)
    have ey : ent K 0 s * x % p = y s := (yt s).symm
    have pt := bN.put ls (H.mk h10.tr (h10.next + 15)) (y s)
    simp (disch := first | omega | (simp only [Qn] <;> omega)) only [go_sem, slz.ixa, cz, rs.ixa, cw, em, ey, pt]
    rw [show (s : Int) + 1 = ((s + 1 : Nat) : Int) from by omega]
    refine ⟨L - (s + 1), by omega, s + 1, ex_junk rfl, by omega, (Bk.set ..).congr fun j hj => ?_, by show N < h10.next + 15; omega, (f10.bump (by omega)).set (by omega) _, rfl⟩
    rw [sm_succ, hq]
    by_cases e : j = q
    · rw [if_pos e, if_pos e.symm, sm_zeros fun t ht => if_neg fun e2 => ?_, Int.zero_add]
      have := inj' t s (by omega) hs' (by rw [e2, hq, e])
      omega
    · rw [if_neg e, if_neg (fun h => e h.symm), Int.add_zero]
  rw [decide_eq_false hsl]
  obtain rfl : s = L := by omega
  simp (disch := first | omega | (simp only [Qn] <;> omega)) only [go_sem]
  have hin : InS p n i (vw A) (fun j => b.getD j 0) := by
    refine gy.back ⟨y, fun j hj => ?_⟩
    have := eqs j hj
    rw [Un] at this
    rw [hL, ← this]
    exact congrArg (· % p) (sm_congr fun t ht => by rw [Uo t ht, yt])
  have sol := gy.sol hP (b := fun j => b.getD j 0) (y := y) (fun t _ => ry t) (fun j hj => by
    have := eqs j hj
    rw [Un] at this
    rw [hL, ← this]
    exact congrArg (· % p) (sm_congr fun t ht => by rw [Uo t ht, yt]))
  rw [hL] at sol
  rw [eY hin, solF_eq hP sol]
  exact ⟨_, rfl, bN.si lN _, (F2.trans F7).trans f10⟩
end Go.Proofs.Ytlhebmcnjgagjaa

/- Layer 5: the law LinearMaps, walked. -/
namespace Go.Proofs.Ytlhebmcnjgagjaa
open Go Go.Ay
set_option maxRecDepth 100000
theorem kerF_bd (p : Int) (n : Nat) (ll : List (List Int)) : (kerF p n ll).length ≤ n + ll.length ∧ ∀ i, i < (kerF p n ll).length → ((kerF p n ll).getD i []).length = ll.length := by
  unfold kerF
  split
  · refine ⟨krF_len, fun i hi => ?_⟩
    rw [krF_rwF rfl] at hi ⊢
    rw [(piv_at hi).2.2, mkV_len]
  · exact ⟨Nat.zero_le _, fun i hi => absurd hi (Nat.not_lt_zero i)⟩
theorem bd_kernel (a : Mat) : (KernelF a).1.length < 1000000 ∧ ∀ i, i < (KernelF a).1.length → ((KernelF a).1.getD i []).length < 1000000 := by
  by_cases hz : checkM a = 0
  · have da := check_vd hz
    have r2 := da.r2
    have c2 := da.c2
    rw [KernelF, if_neg (by simp [hz])]
    have k := kerF_bd a.1 (a.2.getD 0 []).length a.2
    refine ⟨by show (kerF _ _ _).length < _; omega, fun i hi => ?_⟩
    rw [k.2 i hi]; omega
  · rw [KernelF, if_pos hz]
    exact ⟨by simp, fun i hi => absurd hi (Nat.not_lt_zero i)⟩
theorem bd_eigen (a : Mat) (x : Int) : (EigenF a x).1.length < 1000000 ∧ ∀ i, i < (EigenF a x).1.length → ((EigenF a x).1.getD i []).length < 1000000 := by
  by_cases hz : checkM a = 0
  · have da := check_vd hz
    have r2 := da.r2
    have c2 := da.c2
    rw [EigenF, if_neg (by simp [hz])]
    split
    · exact ⟨by simp, fun i hi => absurd hi (Nat.not_lt_zero i)⟩
    · have k := kerF_bd a.1 a.2.length (egL a.1 x a.2.length a.2)
      rw [show (egL a.1 x a.2.length a.2).length = a.2.length from mkR_len ..] at k
      refine ⟨by show (kerF _ _ _).length < _; omega, fun i hi => ?_⟩
      rw [k.2 i hi]; omega
  · rw [EigenF, if_pos hz]
    exact ⟨by simp, fun i hi => absurd hi (Nat.not_lt_zero i)⟩
theorem bd_solve (a : Mat) (b : List Int) : (SolveF a b).1.length < 1000000 := by
  unfold SolveF
  split
  · simp
  · rename_i hz
    split
    · simp
    · split
      · have hz : checkM a = 0 := Classical.byContradiction hz
        have r2 := (check_vd hz).r2
        have := solF_len a.1 b.length a.2.length (vw a.2) (fun j => b.getD j 0)
        show (solF _ _ _ _ _).length < _
        omega
      · simp
theorem bd_values (a : Mat) : (ValuesF a).1.length < 1000000 := by
  unfold ValuesF
  split
  · simp
  · rename_i hz
    have hp := fieldF_range (check_vd (polyF_good hz).1).p
    have := rtF_len a.1 (PolyF a).1 a.1.toNat
    show (rtF _ _ _).length < _
    omega
set_option maxHeartbeats 32000000 in
theorem maps_ok (va vb : V) (a : Mat) (b : List Int) (x : Int) (h : H) (ha : MatK h va a) (hb : SI h vb b) (la : (a.2.length : Int) ≤ 2 ^ 63 - 1) (lb : (b.length : Int) ≤ 2 ^ 63 - 1) : Ev T n_law05_LinearMaps [va, vb, .int .i64 x] h (fun v _ => v = .bool true) := by
  obtain ⟨ua, rfl, hua⟩ := ha
  refine Ev_of t_law05_LinearMaps rfl ?_
  have wa := SV.what hua.sr.choose_spec.1
  have wb := SV.what hb
  simp (disch := first | omega | (simp only [Qn] <;> omega)) only [go_sem, c_law05_LinearMaps, initV_eq, boxV_agg2 h (v := .int .i64 a.1) rfl wa.2.1]
  have hfx : Fr h (h.new (.cells false [.int .i64 a.1, ua])) := (Fr.refl h).new _
  have hgx : (h.new (.cells false [.int .i64 a.1, ua])).get h.next = some (.cells false [.int .i64 a.1, ua]) := H.get_new_same ..
  have hnx : (h.new (.cells false [.int .i64 a.1, ua])).next = h.next + 1 := H.next_new ..
  generalize h.new (.cells false [.int .i64 a.1, ua]) = hx at *
  obtain ⟨X, hX⟩ : ∃ X, h.next = X := ⟨_, rfl⟩
  rw [hX] at hgx
  rw [hX]
  refine (lives_ok hx).mono ?_
  rintro v h0 ⟨rfl, g⟩
  have gX := (g.get X (by omega)).trans hgx
  have x1 : h0.cell X 1 = some ua := by rw [H.cell_of gX]; rfl
  have ha0 : MatK h0 (.agg [.int .i64 a.1, ua]) a := ⟨ua, rfl, hua.mono (hfx.trans g)⟩
  have hb0 := hb.mono (hfx.trans g)
  have lX : X < h0.next := by have := g.next; omega
  clear hgx g hfx hnx hua hb
  simp (disch := first | omega | (simp only [Qn] <;> omega)) only [go_sem, x1, bls_row h0 wb.1 wb.2.1]
  have hf1 : Fr h0 (h0.new (.cells false [vb])) := (Fr.refl h0).new _
  have hg1 : (h0.new (.cells false [vb])).get h0.next = some (.cells false [vb]) := H.get_new_same ..
  have hn1 : (h0.new (.cells false [vb])).next = h0.next + 1 := H.next_new ..
  generalize h0.new (.cells false [vb]) = h1 at *
  simp (disch := first | omega | (simp only [Qn] <;> omega)) only [go_sem, bls_two h1 (x := ua) (u := V.sl h0.next 0 1 (.kn 1)) wa.1 wa.2.1 rfl rfl]
  have hf2 : Fr h1 (h1.new (.cells false [ua, V.sl h0.next 0 1 (.kn 1)])) := (Fr.refl h1).new _
  have hg2 : (h1.new (.cells false [ua, V.sl h0.next 0 1 (.kn 1)])).get h1.next = some (.cells false [ua, V.sl h0.next 0 1 (.kn 1)]) := H.get_new_same ..
  have hn2 : (h1.new (.cells false [ua, V.sl h0.next 0 1 (.kn 1)])).next = h1.next + 1 := H.next_new ..
  generalize h1.new (.cells false [ua, V.sl h0.next 0 1 (.kn 1)]) = h2 at *
  have F2 := hf1.trans hf2
  have gX2 := (F2.get X lX).trans gX
  have mk : ∀ {h' : H}, Fr h0 h' → MatK h' (.agg [.int .i64 a.1, ua]) a := fun f => by
    obtain ⟨u, e, s⟩ := ha0
    exact ⟨u, e, s.mono f⟩
  have mv : ∀ {h' : H}, Fr h0 h' → MatV h' (.agg [.int .i64 a.1, ua]) a := fun f => by
    obtain ⟨u, e, s⟩ := mk f
    exact ⟨u, e, s.sr⟩
  have rX : ∀ {h' : H}, Fr h0 h' → h'.row X 0 2 = some [.int .i64 a.1, ua] := fun f => row_two ((f.get X lX).trans gX)
  have sa : SR h2 ua a.2 := by
    obtain ⟨u, e, s⟩ := mk F2
    cases e
    exact s.sr
  have sl : SR h2 (V.sl h0.next 0 1 (.kn 1)) [b] := ⟨[vb], SV.mono (SV.all rfl (by omega) hg1 _) hf2, hb0.mono F2, trivial⟩
  have cc : ∀ i, i < 2 → h2.cell h1.next (0 + i) = some (if i = 0 then ua else V.sl h0.next 0 1 (.kn 1)) := fun i hi => by
    rw [H.cell_of hg2]
    rcases i with _ | _ | i
    · rfl
    · rfl
    · omega
  refine (large5_ok _ h1.next 0 2 (fun i => if i = 0 then ua else V.sl h0.next 0 1 (.kn 1)) (fun i => if i = 0 then a.2 else [b]) h2 (sl1 ..) cc (fun i hi => by
    by_cases e : i = 0
    · simp only [if_pos e]; exact sa
    · simp only [if_neg e]; exact sl) (fun i hi => by
    by_cases e : i = 0
    · simp only [if_pos e]; exact la
    · simp only [if_neg e]; simp) (by omega)).mono ?_
  rintro v h3 ⟨rfl, bb, rfl, _⟩
  clear cc sl hg2 hg1 hn1 hn2 hf1 hf2 sa
  simp (disch := first | omega | (simp only [Qn] <;> omega)) only [go_sem]
  refine iteW_bool (fun _ => ?_) (fun _ => ?_)
  · simp (disch := first | omega | (simp only [Qn] <;> omega)) only [go_sem]
  simp (disch := first | omega | (simp only [Qn] <;> omega)) only [go_sem, rX F2]
  refine (Kernel_ok _ a h3 (mv F2) la).mono ?_
  rintro w h4 ⟨x1, rfl, s1, f4⟩
  have F4 := F2.trans f4
  simp (disch := first | omega | (simp only [Qn] <;> omega)) only [go_sem, List.getElem?_cons_zero, List.getElem?_cons_succ, rX F4]
  refine (ref_Kernel_ok _ a h4 (mv F4) la).mono ?_
  rintro w h5 ⟨y1, rfl, t1, f5⟩
  have F5 := F4.trans f5
  simp (disch := first | omega | (simp only [Qn] <;> omega)) only [go_sem, List.getElem?_cons_zero, List.getElem?_cons_succ, rX F5]
  refine (Solve_ok _ vb a b h5 (mv F5) la (hb0.mono F5) lb).mono ?_
  rintro w h6 ⟨x2, rfl, s2, f6⟩
  have F6 := F5.trans f6
  simp (disch := first | omega | (simp only [Qn] <;> omega)) only [go_sem, List.getElem?_cons_zero, List.getElem?_cons_succ, rX F6]
  refine (ref_Solve_ok _ vb a b h6 (mv F6) la (hb0.mono F6) lb).mono ?_
  rintro w h7 ⟨y2, rfl, t2, f7⟩
  have F7 := F6.trans f7
  simp (disch := first | omega | (simp only [Qn] <;> omega)) only [go_sem, List.getElem?_cons_zero, List.getElem?_cons_succ, rX F7]
  refine (Eigen_ok _ a x h7 (mv F7) la).mono ?_
  rintro w h8 ⟨x3, rfl, s3, f8⟩
  have F8 := F7.trans f8
  simp (disch := first | omega | (simp only [Qn] <;> omega)) only [go_sem, List.getElem?_cons_zero, List.getElem?_cons_succ, rX F8]
  refine (ref_Eigen_ok _ a x h8 (mv F8) la).mono ?_
  rintro w h9 ⟨y3, rfl, t3, f9⟩
  have F9 := F8.trans f9
  simp (disch := first | omega | (simp only [Qn] <;> omega)) only [go_sem, List.getElem?_cons_zero, List.getElem?_cons_succ, rX F9]
  refine (Values_ok _ a h9 (mv F9) la).mono ?_
  rintro w h10 ⟨x4, rfl, s4, f10⟩
  have F10 := F9.trans f10
  simp (disch := first | omega | (simp only [Qn] <;> omega)) only [go_sem, List.getElem?_cons_zero, List.getElem?_cons_succ, rX F10]
  refine (ref_Values_ok _ a h10 (mk F10) la).mono ?_
  rintro w h11 ⟨y4, rfl, t4, f11⟩
  have b1 := bd_kernel a
  have b2 := bd_solve a b
  have b3 := bd_eigen a x
  have b4 := bd_values a
  have g58 := (f6.trans f7).trans f8
  have g911 := (f9.trans f10).trans f11
  simp (disch := first | omega | (simp only [Qn] <;> omega)) only [go_sem, List.getElem?_cons_zero, List.getElem?_cons_succ]
  refine (sameLists_ok x1 y1 _ _ h11 (s1.mono ((f5.trans g58).trans g911)) (t1.mono (g58.trans g911)) b1.1 b1.1 b1.2 b1.2).mono ?_
  rintro w h12 ⟨rfl, f12⟩
  simp only [decide_true]
  simp (disch := first | omega | (simp only [Qn] <;> omega)) only [go_sem, decide_true, beq_self_eq_true]
  refine (same_ok x2 y2 _ _ h12 (s2.mono (((f7.trans f8).trans g911).trans f12)) (t2.mono ((f8.trans g911).trans f12)) b2 b2).mono ?_
  rintro w h13 ⟨rfl, f13⟩
  simp (disch := first | omega | (simp only [Qn] <;> omega)) only [go_sem, decide_true, beq_self_eq_true]
  refine (sameLists_ok x3 y3 _ _ h13 (s3.mono ((g911.trans f12).trans f13)) (t3.mono (((f10.trans f11).trans f12).trans f13)) b3.1 b3.1 b3.2 b3.2).mono ?_
  rintro w h14 ⟨rfl, f14⟩
  simp (disch := first | omega | (simp only [Qn] <;> omega)) only [go_sem, decide_true, beq_self_eq_true]
  refine (same_ok x4 y4 _ _ h14 (s4.mono (((f11.trans f12).trans f13).trans f14)) (t4.mono ((f12.trans f13).trans f14)) b4 b4).mono ?_
  rintro w h15 ⟨rfl, f15⟩
  simp (disch := first | omega | (simp only [Qn] <;> omega)) only [go_sem, decide_true, beq_self_eq_true]
end Go.Proofs.Ytlhebmcnjgagjaa

