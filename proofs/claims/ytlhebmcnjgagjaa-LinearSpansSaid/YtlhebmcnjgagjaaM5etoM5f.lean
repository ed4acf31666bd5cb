/- Layer 5: insert, walked. Layer 5: each with insert, span, list. -/
import Derived.Test.YtlhebmcnjgagjaaL4ytoM5d
/- Layer 5: insert, walked. -/
namespace Go.Proofs.Ytlhebmcnjgagjaa
open Go Go.Ay
set_option maxRecDepth 100000
theorem r1E {h : H} {E n M : Nat} {p : Int} (g : h.get E = some (.cells false [.int .i64 p, .int .i64 (n : Int), .mp M])) : h.row E 0 1 = some [.int .i64 p] := by
  unfold H.row; rw [g]; rfl
theorem mkV_split (n m : Nat) (u : Nat → Int) : mkV (n + m) u = mkV n u ++ mkV m (fun i => u (n + i)) := by
  refine (mkV_eq (by rw [List.length_append, mkV_len, mkV_len]) fun k hk => ?_).symm
  by_cases e : k < n
  · rw [List.getD_eq_getElem?_getD, List.getElem?_append_left (by rw [mkV_len]; exact e), ← List.getD_eq_getElem?_getD, mkV_get _ e]
  · rw [List.getD_eq_getElem?_getD, List.getElem?_append_right (by rw [mkV_len]; omega), ← List.getD_eq_getElem?_getD, mkV_len, mkV_get _ (by omega), show n + (k - n) = k by omega]
theorem Bk.pre {h : H} {N W n : Nat} {u : Nat → Int} (b : Bk h N W u) (hn : n ≤ W) (hl : N < h.next) (cap : Cap) : SI h (.sl N 0 n cap) (mkV n u) := by
  obtain ⟨m, rfl⟩ := Nat.le.dest hn
  have : Bt h N n u (ints (mkV m fun i => u (n + i))) := by
    rw [Bt, ← ints_append, ← mkV_split]; exact b
  exact this.si hl cap
set_option maxHeartbeats 32000000 in
theorem insert_fr (p : Int) (E M n W : Nat) (S : Nat → Bool) (ρ : Nat → Nat) (f : Nat → Nat → Int) (lo : Nat) (v : V) (l : List Int) (u : Nat → Int) (h : H) (k : Ec h E M n W p S ρ f lo) (hlo : lo ≤ h.next) (hv : SI h v l) (hl : l.length = W) (hW : W ≤ 1000) (hnW : n ≤ W) (hp : isP p = true) (hp2 : p < 10000)
    (hf : ∀ c j, c < n → S c = true → j < W → 0 ≤ f c j ∧ f c j < p)
    (hu : u = rdF p S f (fun i => l.getD i 0 % p) n) (hz : ∀ c, c < n → S c = true → u c = 0) :
    Ev T n_linear_echelon_insert [.ptr E 0, v] h (fun w h' => (∀ b0, Fr b0 h → b0.next ≤ lo → Fr b0 h') ∧ h.next ≤ h'.next ∧ (∀ id, id < h.next → id ≠ M → (∀ c, c < n → S c = true → id ≠ ρ c) → h'.get id = h.get id) ∧ ((w = .bool false ∧ (∀ i, i < n → u i = 0) ∧ Ec h' E M n W p S ρ f lo) ∨
      (w = .bool true ∧ ∃ at_ x N, at_ < n ∧ (∀ i, i < at_ → u i = 0) ∧ 0 < u at_ ∧ 0 ≤ x ∧ x < p ∧ x * u at_ % p = 1 ∧ h.next ≤ N ∧
        Ec h' E M n W p (fun c => if c = at_ then true else S c) (upN ρ at_ N) (fun c => if c = at_ then (fun j => (u j + (x + p - 1) * u j) % p) else nwF p f at_ (fun j => (u j + (x + p - 1) * u j) % p) c) lo))) := by
  subst hl
  have hp1 : 0 < p ∧ p < 10000 := ⟨by have := isP_pr hp; have := this.two; omega, hp2⟩
  have ur : ∀ j, j < l.length → 0 ≤ u j ∧ u j < p := fun j hj => by rw [hu]; exact rdF_range hp1.1 (tmod_range _ hp1.1) n
  refine Ev_of t_linear_echelon_insert rfl ?_
  have wv := SV.what hv
  have k1 := k.ltE
  have k2 := k.ltM
  have k3 := k.ltR
  have hst1 := fun hh (id x : Nat) => stV_one (y := V.sl x 0 l.length (.kn l.length)) rfl rfl hh id 0
  simp (disch := first | omega | (simp only [Qn] <;> omega)) only [go_sem, c_linear_echelon_insert, initV_eq, box_ptr, fun hh => box_one hh wv.1 wv.2.1]
  have hf1 : Fr h (h.new (.cells false [.ptr E 0])) := (Fr.refl h).new _
  have hg1 : (h.new (.cells false [.ptr E 0])).get h.next = some (.cells false [.ptr E 0]) := H.get_new_same ..
  have hn1 : (h.new (.cells false [.ptr E 0])).next = h.next + 1 := H.next_new ..
  generalize h.new (.cells false [.ptr E 0]) = h1 at *
  rw [← hn1]
  have hf2 : Fr h1 (h1.new (.cells false [v])) := (Fr.refl h1).new _
  have hg2 : (h1.new (.cells false [v])).get h1.next = some (.cells false [v]) := H.get_new_same ..
  have hn2 : (h1.new (.cells false [v])).next = h1.next + 1 := H.next_new ..
  generalize h1.new (.cells false [v]) = h2 at *
  obtain ⟨X2, hX2⟩ : ∃ X, h.next = X := ⟨_, rfl⟩
  obtain ⟨X3, hX3⟩ : ∃ X, h1.next = X := ⟨_, rfl⟩
  have F2 := hf1.trans hf2
  have q2 : h2.get X2 = some (.cells false [.ptr E 0]) := by rw [← hX2]; exact (hf2.get _ (by omega)).trans hg1
  have q3 : h2.get X3 = some (.cells false [v]) := by rw [← hX3]; exact hg2
  have c2 : h2.cell X2 0 = some (.ptr E 0) := by rw [H.cell_of q2]; rfl
  have c3 : h2.cell X3 0 = some v := by rw [H.cell_of q3]; rfl
  rw [hX2, hX3]
  try simp (disch := first | omega | (simp only [Qn] <;> omega)) only [go_sem, c2, c3]
  refine (reduced_ok p E M n l.length S ρ f lo v l h2 (k.fr F2) (hv.mono F2) rfl hW hnW hp1 hf).mono ?_
  rintro w h4 ⟨N, rfl, N1, N2, bN, f4⟩
  rw [← hu] at bN
  have q34 := f4.get X3 (by omega)
  rw [q3] at q34
  have pt := fun hh : H => putO_one (vs := [v]) (off := 0) (by simp) hh X3 (.sl N 0 l.length (.kn l.length))
  have q24 := f4.get X2 (by omega)
  rw [q2] at q24
  have F4 := F2.trans f4
  have k4 := k.fr F4
  have F5 : Fr h (h4.set X3 (some (.cells false [.sl N 0 l.length (.kn l.length)]))) := F4.set (by omega) _
  have k5 : Ec (h4.set X3 (some (.cells false [.sl N 0 l.length (.kn l.length)]))) E M n l.length p S ρ f lo := k.fr F5
  have b5 : Bk (h4.set X3 (some (.cells false [.sl N 0 l.length (.kn l.length)]))) N l.length u := bN.ne (by omega) _
  have g35 : (h4.set X3 (some (.cells false [.sl N 0 l.length (.kn l.length)]))).get X3 = some (.cells false [.sl N 0 l.length (.kn l.length)]) := H.get_set_same ..
  have g25 : (h4.set X3 (some (.cells false [.sl N 0 l.length (.kn l.length)]))).get X2 = some (.cells false [.ptr E 0]) := by rw [H.get_set_ne _ (by omega)]; exact q24
  have n5 : (h4.set X3 (some (.cells false [.sl N 0 l.length (.kn l.length)]))).next = h4.next := rfl
  have c24 : h4.cell X2 0 = some (.ptr E 0) := by rw [H.cell_of q24]; rfl
  have e14 := k4.e1
  have sk := fun kk : IntKind => slc_kn (id := N) (off := 0) (len := l.length) (c := l.length) (hi := (n : Int)) (k := kk) (by omega) (by omega)
  simp only [Int.toNat_natCast] at sk
  simp (disch := first | omega | (simp only [Qn] <;> omega)) only [go_sem, hst1, q34, pt, c24, e14, sk]
  generalize h4.set X3 (some (.cells false [.sl N 0 l.length (.kn l.length)])) = h5 at *
  have fb : Fr h5 (H.mk h5.tr (h4.next + 9)) := (Fr.refl h5).bump (by omega)
  have nb : (H.mk h5.tr (h4.next + 9)).next = h4.next + 9 := rfl
  generalize H.mk h5.tr (h4.next + 9) = h6 at *
  refine (index_ok _ n u h6 ((b5.fr fb (by omega)).pre hnW (by omega) _) (by omega)).mono ?_
  rintro w h6' ⟨rfl, hw⟩
  obtain ⟨X5, hX5⟩ : ∃ X, h4.next + 7 = X := ⟨_, rfl⟩
  obtain ⟨z, hzz⟩ : ∃ z : Int, w = .int .i64 z := by
    rcases hw with ⟨rfl, _⟩ | ⟨q, rfl, _⟩
    · exact ⟨_, rfl⟩
    · exact ⟨_, rfl⟩
  subst hzz
  have gl := litV_get h6' X5 [.int .i64 0] h6'.next
  have pt5 := fun hh : H => putO_one (vs := [.int .i64 0]) (off := 0) (by simp) hh X5 (.int .i64 z)
  simp (disch := first | omega | (simp only [Qn] <;> omega)) only [go_sem, litV_eq]
  rw [hX5]
  try simp (disch := first | omega | (simp only [Qn] <;> omega)) only [go_sem, gl, pt5]
  have F7 : Fr h5 ((litV h6' X5 [.int .i64 0] h6'.next).set X5 (some (.cells false [.int .i64 z]))) := (litV_fr fb (by omega) (by omega) _).set (by omega) _
  have g5 : ((litV h6' X5 [.int .i64 0] h6'.next).set X5 (some (.cells false [.int .i64 z]))).get X5 = some (.cells false [.int .i64 z]) := H.get_set_same ..
  have n7 : ((litV h6' X5 [.int .i64 0] h6'.next).set X5 (some (.cells false [.int .i64 z]))).next = h4.next + 9 := nb
  generalize (litV h6' X5 [.int .i64 0] h6'.next).set X5 (some (.cells false [.int .i64 z])) = h7 at *
  clear gl pt5
  have F57 := F5.trans F7
  rcases hw with ⟨hw, hall⟩ | ⟨q, hw, hq1, hq2, hq3⟩
  · simp only [V.int.injEq, true_and] at hw
    subst hw
    have dm : decide ((-1 : Int) < 0) = true := by decide
    simp (disch := first | omega | (simp only [Qn] <;> omega)) only [go_sem, dm]
    refine ⟨fun b0 f0 _ => f0.trans F57, by have := F57.next; omega, fun id q1 _ _ => F57.get id (by omega), .inl ⟨fun i hi => ?_, k.fr F57⟩⟩
    have := ur i (by omega)
    have := hall i hi
    omega
  simp only [V.int.injEq, true_and] at hw
  subst hw
  rw [decide_eq_false (show ¬ (q : Int) < 0 by omega)]
  have g37 := (F7.get X3 (by omega)).trans g35
  have g27 := (F7.get X2 (by omega)).trans g25
  have b7 := b5.fr F7 (by omega)
  have c27 : h7.cell X2 0 = some (.ptr E 0) := by rw [H.cell_of g27]; rfl
  have c37 : h7.cell X3 0 = some (.sl N 0 l.length (.kn l.length)) := by rw [H.cell_of g37]; rfl
  have c57 : h7.cell X5 0 = some (.int .i64 (q : Int)) := by rw [H.cell_of g5]; rfl
  have cN := b7.cell (i := q) (by omega)
  have k7 := k.fr F57
  have e07 := k7.e0
  have fb8 : Fr h7 (H.mk h7.tr (h7.next + 15)) := (Fr.refl h7).bump (by omega)
  simp (disch := first | omega | (simp only [Qn] <;> omega)) only [go_sem, c27, c37, c57, cN, e07]
  generalize H.mk h7.tr (h7.next + 15) = h8 at *
  refine (inv_ok (u q) p h8 hp hp2 ⟨hq2, (ur q (by omega)).2⟩).mono ?_
  rintro w h9 ⟨x, rfl, x1, x2, x3, f9⟩
  have F79 := fb8.trans f9
  have g39 := (F79.get X3 (by omega)).trans g37
  have g29 := (F79.get X2 (by omega)).trans g27
  have g59 := (F79.get X5 (by omega)).trans g5
  have b9 := b7.fr F79 (by omega)
  have k9 := k7.fr F79
  have c29 : h9.cell X2 0 = some (.ptr E 0) := by rw [H.cell_of g29]; rfl
  have c39 : h9.cell X3 0 = some (.sl N 0 l.length (.kn l.length)) := by rw [H.cell_of g39]; rfl
  have e09 := k9.e0
  have rE9 := r1E k9.gE
  have rE9b : (H.mk h9.tr (h9.next + 15)).row E 0 1 = some [.int .i64 p] := rE9
  have fb10 : Fr h9 (H.mk h9.tr (h9.next + 15)) := (Fr.refl h9).bump (by omega)
  have n9 := F79.next
  simp (disch := first | omega | (simp only [Qn] <;> omega)) only [go_sem, c29, c39, e09, rE9, rE9b, List.getElem?_cons_zero, List.getElem?_cons_succ]
  generalize H.mk h9.tr (h9.next + 15) = h10 at *
  have b10 := b9.fr fb10 (by omega)
  have n10 := fb10.next
  refine (add_ok p (x + p - 1) N l.length l.length N 0 (.kn l.length) (.sl N 0 l.length (.kn l.length)) u u [] h10 b10.bt (by omega) ⟨rfl, fun k i h1 h2 => ixaV_sl h1 h2, rfl, rfl⟩ (fun _ => by omega) (fun j hj => by rw [Nat.zero_add]; exact b10.cell hj) (.inr rfl) (Nat.le_refl _) (by omega) hp1 (by omega) (fun j hj => by have := ur j hj; omega) (fun j hj => by have := ur j hj; omega)).mono ?_
  rintro w h11 ⟨b11, F11⟩
  obtain ⟨vv, hvv⟩ : ∃ vv : Nat → Int, vv = fun j => (u j + (x + p - 1) * u j) % p := ⟨_, rfl⟩
  have b11' : Bk h11 N l.length vv := b11.bk.congr fun j hj => by rw [if_pos hj, hvv]
  have vr : ∀ j, 0 ≤ vv j ∧ vv j < p := fun j => by rw [hvv]; exact tmod_range _ hp1.1
  have F9 : Fr h h9 := F57.trans F79
  have F10 := F9.trans fb10
  have F11h : Fr h h11 := Fx.fr F10 (by omega) F11
  have g311 := (F11.get X3 (by omega) (by omega)).trans ((fb10.get X3 (by omega)).trans g39)
  have g211 := (F11.get X2 (by omega) (by omega)).trans ((fb10.get X2 (by omega)).trans g29)
  have g511 := (F11.get X5 (by omega) (by omega)).trans ((fb10.get X5 (by omega)).trans g59)
  have c211 : h11.cell X2 0 = some (.ptr E 0) := by rw [H.cell_of g211]; rfl
  have n11 := F11.next
  simp (disch := first | omega | (simp only [Qn] <;> omega)) only [go_sem, c211]
  refine (pivots_ok E h11).mono ?_
  rintro w h12 ⟨rfl, rfl⟩
  have hf13 : Fr h11 (h11.new (.cells false [.ptr E 0])) := (Fr.refl h11).new _
  have hg13 : (h11.new (.cells false [.ptr E 0])).get h11.next = some (.cells false [.ptr E 0]) := H.get_new_same ..
  have hn13 : (h11.new (.cells false [.ptr E 0])).next = h11.next + 1 := H.next_new ..
  generalize h11.new (.cells false [.ptr E 0]) = h13 at *
  obtain ⟨X4, hX4⟩ : ∃ X, h11.next = X := ⟨_, rfl⟩
  rw [hX4] at hg13
  rw [hX4]
  obtain ⟨LID, hLID⟩ : ∃ X, h13.next = X := ⟨_, rfl⟩
  simp (disch := first | omega | (simp only [Qn] <;> omega)) only [go_sem]
  rw [hLID]
  generalize hrc : LRec.mk _ _ _ _ _ _ = rc
  refine ⟨rfl, ?_⟩
  have hs : h.next ≤ X2 ∧ X2 < X3 ∧ X3 < N ∧ N < X5 ∧ X5 < X4 ∧ X4 < LID := ⟨by omega, by omega, by omega, by omega, by omega, by omega⟩
  have f14 : Fr h11 (h13.new (.loop rc)) := hf13.new _
  obtain ⟨g, hg⟩ : ∃ g : Nat → Nat → Nat → Int, g = fun c a => if a < c then nwF p f q vv a else f a := ⟨_, rfl⟩
  have J0 : IJ p E M n l.length N X2 X3 X4 X5 LID q S ρ (g 0) lo vv h rc (h13.new (.loop rc)) :=
    ⟨(f14.get _ (by omega)).trans g211, (f14.get _ (by omega)).trans g311, by rw [H.get_new_ne _ (by omega)]; exact hg13, (f14.get _ (by omega)).trans g511, by rw [← hLID]; exact H.get_new_same .., b11'.fr f14 (by omega), ((k.fr F11h).fr f14).congr (fun c j _ _ _ => by rw [hg]; simp only [if_neg (Nat.not_lt_zero c)]), fun b0 f0 _ => f0.trans (F11h.trans f14), by rw [H.next_new]; have := F11h.next; omega, by rw [H.next_new]; omega, fun id q1 _ _ => (F11h.trans f14).get id (by omega)⟩
  have loop : Ev T 94 [.yl LID, .ptr X4 0] (h13.new (.loop rc)) (fun _ hh => IJ p E M n l.length N X2 X3 X4 X5 LID q S ρ (g n) lo vv h rc hh) := by
    refine pivots_loop LID X4 E M n l.length p S ρ (fun c hh => IJ p E M n l.length N X2 X3 X4 X5 LID q S ρ (g c) lo vv h rc hh)
      (fun c hh J => ⟨J.g4, J.k.gE, J.k.gM⟩) (fun c hh hc hs2 J => ?_) (fun c hh hc hs2 J => ?_) _ J0 (by omega)
    · refine Ey_of J.gL (by rw [← hrc]; rfl) ?_
      have lt := J.lt
      have Jb := fun rc' => J.fl k1 k2 k3 hlo hs (h' := hh.set LID (some (.loop rc'))) (rc' := rc') ((Fx.refl LID hh).set _) (H.get_set_same ..)
      subst hrc
      simp (disch := first | omega | (simp only [Qn] <;> omega)) only [go_sem, List.zip_cons_cons, List.zip_nil_left]
      refine ⟨_, J.gL, rfl, ?_⟩
      generalize hrb : LRec.mk _ _ _ _ LSt.busy _ = rb
      have J2 := Jb rb
      clear Jb
      obtain ⟨h20, h20e⟩ : ∃ q, hh.set LID (some (.loop rb)) = q := ⟨_, rfl⟩
      rw [h20e] at J2
      rw [h20e]
      have c2 : hh.cell X2 0 = some (.ptr E 0) := by rw [H.cell_of J.g2]; rfl
      have c3 : hh.cell X3 0 = some (.sl N 0 l.length (.kn l.length)) := by rw [H.cell_of J.g3]; rfl
      have c5 : hh.cell X5 0 = some (.int .i64 (q : Int)) := by rw [H.cell_of J.g5]; rfl
      have e0 := J.k.e0
      have rE0 := r1E J.k.gE
      have rE := r1E J2.k.gE
      have gc : g c c = f c := by rw [hg]; simp only [if_neg (Nat.lt_irrefl c)]
      have cR := (J.k.row c hc hs2).cell (i := q) (by omega)
      have cR' := (J2.k.row c hc hs2).cell (i := q) (by omega)
      have c2' : h20.cell X2 0 = some (.ptr E 0) := by rw [H.cell_of J2.g2]; rfl
      have c3' : h20.cell X3 0 = some (.sl N 0 l.length (.kn l.length)) := by rw [H.cell_of J2.g3]; rfl
      have c5' : h20.cell X5 0 = some (.int .i64 (q : Int)) := by rw [H.cell_of J2.g5]; rfl
      have e0' := J2.k.e0
      have kr := k3 c hc hs2
      have fq := hf c q hc hs2 (by omega)
      have nh : h20.next = hh.next := by rw [← h20e]; rfl
      have fb : Fr h20 (H.mk h20.tr (hh.next + 17)) := (Fr.refl h20).bump (by omega)
      have rEb : (H.mk h20.tr (hh.next + 17)).row E 0 1 = some [.int .i64 p] := rE
      have J3 := J2.fl k1 k2 k3 hlo hs (Fx.of (x := LID) fb) ((fb.get LID J2.lt).trans J2.gL)
      rw [gc] at cR cR'
      simp (disch := first | omega | (simp only [Qn] <;> omega)) only [go_sem, c2, c3, c5, e0, rE0, rE, rEb, cR, c2', c3', c5', e0', cR']
      generalize H.mk h20.tr (hh.next + 17) = h21 at *
      have b21 := J3.b
      have r21 := J3.k.row c hc hs2
      rw [gc] at r21
      have lr3 := J3.k.ltR c hc hs2
      have lN : N < h21.next := by have := J3.lt; omega
      refine (add_ok p (p - f c q) (ρ c) l.length l.length N 0 (.kn l.length) (.sl N 0 l.length (.kn l.length)) (f c) vv [] h21 r21.bt lr3 ⟨rfl, fun k i h1 h2 => ixaV_sl h1 h2, rfl, rfl⟩ (fun _ => lN) (fun j hj => by rw [Nat.zero_add]; exact b21.cell hj) (.inr rfl) (Nat.le_refl _) (by omega) hp1 (by omega) (fun j hj => by have := hf c j hc hs2 hj; omega) (fun j hj => by have := vr j; omega)).mono ?_
      rintro w h22 ⟨b22, F22⟩
      have b23 : Bk h22 (ρ c) l.length (nwF p f q vv c) := b22.bk.congr fun j hj => by rw [if_pos hj, nwF]
      have J4 := J3.row k3 hlo hs hc hs2 F22 b23
      have eg : (fun a => if a = c then nwF p f q vv c else g c a) = g (c + 1) := by
        funext a
        rw [hg]
        simp only
        by_cases e : a = c
        · rw [if_pos e, if_pos (by omega), e]
        · rw [if_neg e]
          by_cases e2 : a < c
          · rw [if_pos e2, if_pos (by omega)]
          · rw [if_neg e2, if_neg (by omega)]
      rw [eg] at J4
      try simp (disch := first | omega | (simp only [Qn] <;> omega)) only [go_sem]
      refine ⟨rb, J4.gL, rfl, ?_⟩
      subst hrb
      exact J4.fl k1 k2 k3 hlo hs ((Fx.refl LID h22).set _) (H.get_set_same ..)
    · refine { J with k := J.k.congr fun a j _ hsa _ => ?_ }
      rw [hg]
      simp only
      by_cases e : a = c
      · rw [e] at hsa
        rw [hs2] at hsa; cases hsa
      · by_cases e2 : a < c
        · rw [if_pos e2, if_pos (by omega)]
        · rw [if_neg e2, if_neg (by omega)]
  refine loop.mono ?_
  rintro _ h30 J
  refine ⟨_, J.gL, by rw [← hrc]; simp, ?_⟩
  have hpe : rc.pend = none := by rw [← hrc]
  simp only [hpe, Option.getD_none]
  have lt := J.lt
  have J' := fun rc' => J.fl k1 k2 k3 hlo hs (h' := h30.set LID (some (.loop rc'))) (rc' := rc') ((Fx.refl LID h30).set _) (H.get_set_same ..)
  generalize hrb2 : LRec.mk _ _ _ _ _ _ = rb2
  have J5 := J' rb2
  clear J' J
  generalize h30.set LID (some (.loop rb2)) = h31 at *
  have c2 : h31.cell X2 0 = some (.ptr E 0) := by rw [H.cell_of J5.g2]; rfl
  have c3 : h31.cell X3 0 = some (.sl N 0 l.length (.kn l.length)) := by rw [H.cell_of J5.g3]; rfl
  have c5 : h31.cell X5 0 = some (.int .i64 (q : Int)) := by rw [H.cell_of J5.g5]; rfl
  have e2 := J5.k.e2
  obtain ⟨es, m1, m2, m3⟩ := J5.k.gM.set (at_ := q) (N := N)
  simp (disch := first | omega | (simp only [Qn] <;> omega)) only [go_sem, c2, c3, c5, e2, msetP_mp, m1, msetO_map m2]
  have m4 := m3 (H.mk h31.tr (h31.next + 7))
  have EM := k.EM
  have lE := k.loE
  have lM := k.loM
  have l31 := J5.lt
  have nx := J5.nx
  refine ⟨fun b0 f0 l0 => ((J5.fr b0 f0 l0).bump (by have := (J5.fr b0 f0 l0).next; omega)).set (by omega) _, by show X2 ≤ h31.next + 7; omega, fun id q1 q2 q3 => (H.get_set_ne _ q2 _).trans (J5.oth id (by omega) q2 q3), .inr ⟨q, x, N, hq1, fun i hi => ?_, hq2, x1, x2, x3, by omega, ?_⟩⟩
  · have := ur i (by omega)
    have := hq3 i hi
    omega
  rw [← hvv]
  have cs : ∀ c, (fun c => if c = q then true else S c) c = true → c = q ∨ (c ≠ q ∧ S c = true) := fun c hcs => by
    by_cases e : c = q
    · exact .inl e
    · simp only [if_neg e] at hcs
      exact .inr ⟨e, hcs⟩
  have uq : upN ρ q N q = N := by simp [upN]
  have un : ∀ c, c ≠ q → upN ρ q N c = ρ c := fun c e => by simp only [upN, if_neg e]
  refine ⟨by rw [H.get_set_ne _ EM]; exact J5.k.gE, m4, fun c hc hcs => ?_, fun a b ha hb hsa hsb e => ?_, fun c hc hcs => ?_, fun c hc hcs => ?_, EM, lE, lM, fun c hc hcs => ?_, by show E < h31.next + 7; omega, by show M < h31.next + 7; omega, fun c hc hcs => ?_⟩
  · rcases cs c hcs with e | ⟨e, hsc⟩
    · subst e
      rw [uq]
      simp only [if_true]
      exact Bk.ne J5.b (by omega) _
    · rw [un c e]
      simp only [if_neg e]
      have := J5.k.row c hc hsc
      rw [hg] at this
      simp only [if_pos hc] at this
      exact Bk.ne this (J5.k.neM c hc hsc) _
  · rcases cs a hsa with ea | ⟨ea, hsa⟩
    · rcases cs b hsb with eb | ⟨eb, hsb⟩
      · rw [ea, eb]
      · rw [ea, uq, un b eb] at e
        have := k3 b hb hsb
        omega
    · rcases cs b hsb with eb | ⟨eb, hsb⟩
      · rw [eb, uq, un a ea] at e
        have := k3 a ha hsa
        omega
      · rw [un a ea, un b eb] at e
        exact k.inj a b ha hb hsa hsb e
  · rcases cs c hcs with e | ⟨e, hsc⟩
    · rw [e, uq]; omega
    · rw [un c e]; exact k.neE c hc hsc
  · rcases cs c hcs with e | ⟨e, hsc⟩
    · rw [e, uq]; omega
    · rw [un c e]; exact k.neM c hc hsc
  · rcases cs c hcs with e | ⟨e, hsc⟩
    · rw [e, uq]; omega
    · rw [un c e]; exact k.loR c hc hsc
  · rcases cs c hcs with e | ⟨e, hsc⟩
    · rw [e, uq]; show N < h31.next + 7; omega
    · rw [un c e]; show ρ c < h31.next + 7; have := k3 c hc hsc; omega
theorem insert_ok (p : Int) (E M n W : Nat) (S : Nat → Bool) (ρ : Nat → Nat) (f : Nat → Nat → Int) (lo : Nat) (v : V) (l : List Int) (u : Nat → Int) (h : H) (k : Ec h E M n W p S ρ f lo) (hlo : lo ≤ h.next) (hv : SI h v l) (hl : l.length = W) (hW : W ≤ 1000) (hnW : n ≤ W) (hp : isP p = true) (hp2 : p < 10000)
    (hf : ∀ c j, c < n → S c = true → j < W → 0 ≤ f c j ∧ f c j < p)
    (hu : u = rdF p S f (fun i => l.getD i 0 % p) n) (hz : ∀ c, c < n → S c = true → u c = 0) :
    Ev T n_linear_echelon_insert [.ptr E 0, v] h (fun w h' => (∀ b0, Fr b0 h → b0.next ≤ lo → Fr b0 h') ∧ h.next ≤ h'.next ∧ ((w = .bool false ∧ (∀ i, i < n → u i = 0) ∧ Ec h' E M n W p S ρ f lo) ∨
      (w = .bool true ∧ ∃ at_ x N, at_ < n ∧ (∀ i, i < at_ → u i = 0) ∧ 0 < u at_ ∧ 0 ≤ x ∧ x < p ∧ x * u at_ % p = 1 ∧ h.next ≤ N ∧
        Ec h' E M n W p (fun c => if c = at_ then true else S c) (upN ρ at_ N) (fun c => if c = at_ then (fun j => (u j + (x + p - 1) * u j) % p) else nwF p f at_ (fun j => (u j + (x + p - 1) * u j) % p) c) lo))) := (insert_fr p E M n W S ρ f lo v l u h k hlo hv hl hW hnW hp hp2 hf hu hz).mono fun _ _ q => ⟨q.1, q.2.1, q.2.2.2⟩
end Go.Proofs.Ytlhebmcnjgagjaa

/- Layer 5: each with insert, span, list. -/
namespace Go.Proofs.Ytlhebmcnjgagjaa
open Go Go.Ay
set_option maxRecDepth 100000
/-- What is kept while rows are inserted. -/
structure Kp (p : Int) (n W : Nat) (ll : List (List Int)) (Φ : Nat → (Nat → Bool) → (Nat → Nat → Int) → Nat → Prop) : Prop where
  rng : ∀ i S f k, Φ i S f k → ∀ c j, c < n → S c = true → j < W → 0 ≤ f c j ∧ f c j < p
  red : ∀ i S f k, i < ll.length → Φ i S f k → ∀ c, c < n → S c = true → rdF p S f (fun j => (ll.getD i []).getD j 0 % p) n c = 0
  no : ∀ i S f k, i < ll.length → Φ i S f k → (∀ j, j < n → rdF p S f (fun j => (ll.getD i []).getD j 0 % p) n j = 0) → Φ (i + 1) S f k
  yes : ∀ i S f k u, i < ll.length → Φ i S f k → u = rdF p S f (fun j => (ll.getD i []).getD j 0 % p) n → ∀ at_ x, at_ < n → (∀ j, j < at_ → u j = 0) → 0 < u at_ → 0 ≤ x → x < p → x * u at_ % p = 1 →
    Φ (i + 1) (fun c => if c = at_ then true else S c) (fun c => if c = at_ then (fun j => (u j + (x + p - 1) * u j) % p) else nwF p f at_ (fun j => (u j + (x + p - 1) * u j) % p) c) (k + 1)
set_option maxHeartbeats 16000000 in
theorem each_ok (p : Int) (E M n W lo : Nat) (ll : List (List Int)) (v : V) (Φ : Nat → (Nat → Bool) → (Nat → Nat → Int) → Nat → Prop) (hΦ : Kp p n W ll Φ) (b0 h : H) (S : Nat → Bool) (ρ : Nat → Nat) (f : Nat → Nat → Int)
    (k0 : Ec h E M n W p S ρ f lo) (hlo : lo ≤ h.next) (h0 : Φ 0 S f 0) (hb : Fr b0 h) (hbl : b0.next ≤ lo) (hv : SR b0 v ll) (hln : ll.length < 1000000) (hl : ∀ i, i < ll.length → (ll.getD i []).length = W) (hW : W ≤ 1000) (hnW : n ≤ W) (hp : isP p = true) (hp2 : p < 10000) :
    Ev T n_linear_each_int [v, .fn 50 [.ptr E 0] []] h (fun w h' => ∃ (k : Nat) (S : Nat → Bool) (ρ : Nat → Nat) (f : Nat → Nat → Int), w = .int .i64 (k : Int) ∧ Φ ll.length S f k ∧ k ≤ ll.length ∧ Ec h' E M n W p S ρ f lo ∧ (∀ b, Fr b h → b.next ≤ lo → Fr b h') ∧ h.next ≤ h'.next) := by
  refine Ev_of t_linear_each_int rfl ?_
  obtain ⟨id, off, ws, sl, hid, hwl, hc, hall⟩ := hv.open
  simp (disch := first | omega | (simp only [Qn] <;> omega)) only [go_sem, c_linear_each_int, initV_eq, hv.lens]
  refine Wp_loop (fun k' vars hh => ∃ (i k : Nat) (S : Nat → Bool) (ρ : Nat → Nat) (f : Nat → Nat → Int), (∃ j : Nat → V, vars = [j 0, .fn 50 [.ptr E 0] [], j 2, .int .i64 (k : Int), j 4, v, .int .i64 (ll.length : Int), .int .i64 (i : Int), j 8, j 9]) ∧ i ≤ ll.length ∧ k ≤ i ∧ Φ i S f k ∧ Ec hh E M n W p S ρ f lo ∧ (∀ b, Fr b h → b.next ≤ lo → Fr b hh) ∧ h.next ≤ hh.next ∧ k' = ll.length - i) ll.length
    ⟨0, 0, S, ρ, f, ex_junk rfl, Nat.zero_le _, Nat.le_refl _, h0, k0, fun b f _ => f, Nat.le_refl _, rfl⟩ ?_
  clear h0 k0 S ρ f
  rintro k' vars hh ⟨i, k, S, ρ, f, ⟨jk, rfl⟩, hi, hki, hφ, kE, hF, hnx, rfl⟩
  simp (disch := first | omega | (simp only [Qn] <;> omega)) only [go_sem]
  by_cases hlt : (i : Int) < (ll.length : Int)
  · rw [decide_eq_true hlt]
    have hi' : i < ll.length := by omega
    have F0 := hF b0 hb hbl
    have ci : hh.cell id (off + i) = some (ws.getD i .undef) := by rw [F0.cell (hid (by omega))]; exact hc i (by omega)
    have ri := (row_at hall (i := i) hi').mono F0
    simp (disch := first | omega | (simp only [Qn] <;> omega)) only [go_sem, sl.ixa, ci]
    obtain ⟨u, hu⟩ : ∃ u, u = rdF p S f (fun j => (ll.getD i []).getD j 0 % p) n := ⟨_, rfl⟩
    refine (insert_ok p E M n W S ρ f lo _ (ll.getD i []) u hh kE (by omega) ri (hl i hi') hW hnW hp hp2 (hΦ.rng i S f k hφ) hu (by rw [hu]; exact hΦ.red i S f k hi' hφ)).mono ?_
    rintro w h2 ⟨hF2, hn2, ⟨rfl, hz, kE2⟩ | ⟨rfl, at_, x, N, a1, a2, a3, a4, a5, a6, a7, kE2⟩⟩
    · simp (disch := first | omega | (simp only [Qn] <;> omega)) only [go_sem]
      rw [show (i : Int) + 1 = ((i + 1 : Nat) : Int) from by omega]
      exact ⟨ll.length - (i + 1), by omega, i + 1, k, S, ρ, f, ex_junk rfl, by omega, by omega, hΦ.no i S f k hi' hφ (by rw [← hu]; exact hz), kE2, fun b fb lb => hF2 b (hF b fb lb) lb, by omega, rfl⟩
    · simp (disch := first | omega | (simp only [Qn] <;> omega)) only [go_sem]
      rw [show (i : Int) + 1 = ((i + 1 : Nat) : Int) from by omega, show (k : Int) + 1 = ((k + 1 : Nat) : Int) from by omega]
      exact ⟨ll.length - (i + 1), by omega, i + 1, k + 1, _, _, _, ex_junk rfl, by omega, by omega, hΦ.yes i S f k u hi' hφ hu at_ x a1 a2 a3 a4 a5 a6, kE2, fun b fb lb => hF2 b (hF b fb lb) lb, by omega, rfl⟩
  rw [decide_eq_false hlt]
  obtain ⟨rfl⟩ : i = ll.length := by omega
  simp (disch := first | omega | (simp only [Qn] <;> omega)) only [go_sem]
  exact ⟨k, S, ρ, f, rfl, hφ, hki, kE, hF, hnx⟩
theorem span_ok (p : Int) (n W : Nat) (ll : List (List Int)) (v : V) (Φ : Nat → (Nat → Bool) → (Nat → Nat → Int) → Nat → Prop) (hΦ : Kp p n W ll Φ) (h : H)
    (h0 : Φ 0 (fun _ => false) (fun _ _ => 0) 0) (hv : SR h v ll) (hln : ll.length < 1000000) (hl : ∀ i, i < ll.length → (ll.getD i []).length = W) (hW : W ≤ 1000) (hnW : n ≤ W) (hp : isP p = true) (hp2 : p < 10000) :
    Ev T n_linear_span [.int .i64 p, .int .i64 (n : Int), v] h (fun w h' => ∃ (E M k : Nat) (S : Nat → Bool) (ρ : Nat → Nat) (f : Nat → Nat → Int), w = .ptr E 0 ∧ Φ ll.length S f k ∧ k ≤ ll.length ∧ Ec h' E M n W p S ρ f h.next ∧ Fr h h') := by
  refine Ev_of t_linear_span rfl ?_
  simp (disch := first | omega | (simp only [Qn] <;> omega)) only [go_sem, c_linear_span, initV_eq]
  refine (begin_ok p n W (fun _ _ => 0) h).mono ?_
  rintro w h1 ⟨E, M, ρ, rfl, k1, f1⟩
  simp (disch := first | omega | (simp only [Qn] <;> omega)) only [go_sem]
  refine (each_ok p E M n W h.next ll v Φ hΦ h h1 _ ρ _ k1 f1.next h0 f1 (Nat.le_refl _) hv hln hl hW hnW hp hp2).mono ?_
  rintro w h2 ⟨k, S, ρ, f, rfl, hφ, hk, kE, hF, hnx⟩
  simp (disch := first | omega | (simp only [Qn] <;> omega)) only [go_sem]
  exact ⟨E, M, k, S, ρ, f, rfl, hφ, hk, kE, hF h f1 (Nat.le_refl _)⟩
/-- The rows of an echelon list. -/
def rwF (n W : Nat) (S : Nat → Bool) (f : Nat → Nat → Int) : List (List Int) := ((List.range n).filter S).map fun c => mkV W (f c)
theorem rwF_succ {c W : Nat} {S : Nat → Bool} {f : Nat → Nat → Int} : rwF (c + 1) W S f = rwF c W S f ++ (if S c then [mkV W (f c)] else []) := by
  simp only [rwF, List.range_succ, List.filter_append, List.map_append]
  congr 1
  cases hs : S c <;> simp [List.filter, hs]
end Go.Proofs.Ytlhebmcnjgagjaa

