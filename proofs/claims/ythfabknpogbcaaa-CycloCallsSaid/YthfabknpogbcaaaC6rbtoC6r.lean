/- Contracts of the reference: Mul, Scale, Galois, Conj, Rational. Contracts of the reference: Quot, sign, Cmp. Contracts: the laws' own helpers. Literals and boxes for straight walks. Contracts: the chapter's examples. -/
import Derived.Test.YthfabknpogbcaaaC6wtoC6ra
import Derived.Test.YthfabknpogbcaaaC6ktoC6v
/- Contracts of the reference: Mul, Scale, Galois, Conj, Rational. -/
namespace Go.Proofs.Ythfabknpogbcaaa
open Go Go.Ay
set_option maxRecDepth 100000
noncomputable section

set_option maxHeartbeats 2000000 in
theorem rmul_ok (va vb : V) (a b : Int × List Int) (h : H) (ha : CycV h va a) (hb : CycV h vb b) (hla : a.2.length < 1000000) (hlb : b.2.length < 1000000) (hra : inR a.2) (hrb : inR b.2) :
    Ev T n_ref06_Mul [va, vb] h (fun v h' => ∃ w, v = .tup [w, .int .i64 (mulF a b).2] ∧ CycO h' w (mulF a b).1 h.next ∧ Fr h h') := by
  obtain ⟨u, rfl, hu⟩ := ha
  obtain ⟨w, rfl, hw⟩ := hb
  obtain ⟨N, A⟩ := a
  obtain ⟨M, B⟩ := b
  simp only at hu hw hla hlb
  refine Ev_of t_ref06_Mul rfl ?_
  simp (disch := first | omega | (simp only [List.length_set, List.length_replicate, List.length_append, List.length_take, List.length_drop, List.length_cons, List.length_nil, List.length_map, List.length_range, ints_length] <;> omega)) only [go_sem, c_ref06_Mul, initV_eq, boxV_agg2 h (v := .int .i64 N) rfl hu.what.2.1]
  have hfx : Fr h (h.new (.cells false [.int .i64 N, u])) := (Fr.refl h).new _
  have hgx : (h.new (.cells false [.int .i64 N, u])).get h.next = some (.cells false [.int .i64 N, u]) := H.get_new_same ..
  have hnx : (h.new (.cells false [.int .i64 N, u])).next = h.next + 1 := H.next_new ..
  generalize h.new (.cells false [.int .i64 N, u]) = hx at *
  simp (disch := first | omega | (simp only [List.length_set, List.length_replicate, List.length_append, List.length_take, List.length_drop, List.length_cons, List.length_nil, List.length_map, List.length_range, ints_length] <;> omega)) only [go_sem, boxV_agg2 hx (v := .int .i64 M) rfl hw.what.2.1]
  have hfy : Fr hx (hx.new (.cells false [.int .i64 M, w])) := (Fr.refl hx).new _
  have hgy : (hx.new (.cells false [.int .i64 M, w])).get hx.next = some (.cells false [.int .i64 M, w]) := H.get_new_same ..
  have hny : (hx.new (.cells false [.int .i64 M, w])).next = hx.next + 1 := H.next_new ..
  generalize hx.new (.cells false [.int .i64 M, w]) = hy at *
  rw [← hny]
  have hfa : Fr hy (hy.new (.cells false [.int .i64 0, .nils])) := (Fr.refl hy).new _
  have hga : (hy.new (.cells false [.int .i64 0, .nils])).get hy.next = some (.cells false [.int .i64 0, .nils]) := H.get_new_same ..
  have hna : (hy.new (.cells false [.int .i64 0, .nils])).next = hy.next + 1 := H.next_new ..
  generalize hy.new (.cells false [.int .i64 0, .nils]) = ha at *
  have hgya := (hfa.get hx.next (by omega)).trans hgy
  have hgxa := (hfa.get h.next (by omega)).trans ((hfy.get h.next (by omega)).trans hgx)
  have hfh := (hfx.trans hfy).trans hfa
  simp (disch := first | omega | (simp only [List.length_set, List.length_replicate, List.length_append, List.length_take, List.length_drop, List.length_cons, List.length_nil, List.length_map, List.length_range, ints_length] <;> omega)) only [go_sem, row_two hgxa, row_two hgya]
  refine (rboth_ok _ _ (N, A) (M, B) ha ⟨u, rfl, hu.mono hfh⟩ ⟨w, rfl, hw.mono hfh⟩ hla hlb hra hrb).mono ?_
  rintro v1 hb ⟨rfl, hfb⟩
  have hnb := hfb.next
  have hgb := (hfb.get hy.next (by omega)).trans hga
  have hgxb := (hfb.get h.next (by omega)).trans hgxa
  have hgyb := (hfb.get hx.next (by omega)).trans hgya
  have hst0 := fun hh => stV_agg2 hh hy.next 0 (v := .int .i64 0) (u := .nils) rfl rfl
  have hrow0 := row_two (h := hb.set hy.next (some (.cells false [.int .i64 0, .nils]))) (H.get_set_same ..)
  have hF : Fr h hb := hfh.trans hfb
  simp (disch := first | omega | (simp only [List.length_set, List.length_replicate, List.length_append, List.length_take, List.length_drop, List.length_cons, List.length_nil, List.length_map, List.length_range, ints_length] <;> omega)) only [go_sem, List.getElem?_cons_zero, List.getElem?_cons_succ]
  refine iteW_dec (fun h1 => ?_) (fun h1 => ?_)
  · simp (disch := first | omega | (simp only [List.length_set, List.length_replicate, List.length_append, List.length_take, List.length_drop, List.length_cons, List.length_nil, List.length_map, List.length_range, ints_length] <;> omega)) only [go_sem, hst0, hgb, hrow0]
    rw [mulF, if_pos h1]
    exact ⟨_, rfl, CycO.zero _ _, hF.set (by omega) _⟩
  rw [mulF, if_neg h1]
  obtain ⟨r1, r2, r3, r4⟩ := common_range (show (commonF (N, A) (M, B)).2 = 0 by omega)
  have g1 := check_range r1
  have g2 := check_range r2
  simp only at g1 g2
  obtain ⟨n, hn⟩ : ∃ n : Nat, (commonF (N, A) (M, B)).1 = (n : Int) := ⟨(commonF (N, A) (M, B)).1.toNat, by omega⟩
  rw [hn] at r3 r4 ⊢
  obtain ⟨N, rfl⟩ : ∃ N' : Nat, N = (N' : Int) := ⟨N.toNat, by omega⟩
  obtain ⟨M, rfl⟩ : ∃ M' : Nat, M = (M' : Int) := ⟨M.toNat, by omega⟩
  simp only [Int.toNat_natCast] at g1 g2 ⊢
  clear hn h1 r1 r2
  have hpN := phi_len (n := N) (by omega) (by omega)
  have hpM := phi_len (n := M) (by omega) (by omega)
  have exN : (n : Int).tdiv (N : Int) = ((n / N : Nat) : Int) := rfl
  have exM : (n : Int).tdiv (M : Int) = ((n / M : Nat) : Int) := rfl
  have hdN := Nat.div_le_self n N
  have hdM := Nat.div_le_self n M
  simp (disch := first | omega | (simp only [List.length_set, List.length_replicate, List.length_append, List.length_take, List.length_drop, List.length_cons, List.length_nil, List.length_map, List.length_range, ints_length] <;> omega)) only [go_sem]
  have hf5 : Fr hb (hb.new (.cells false (ints (List.replicate n 0)))) := (Fr.refl hb).new _
  have hg5 : (hb.new (.cells false (ints (List.replicate n 0)))).get hb.next = some (.cells false (ints (List.replicate n 0))) := H.get_new_same ..
  have hn5 : (hb.new (.cells false (ints (List.replicate n 0)))).next = hb.next + 1 := H.next_new ..
  generalize hb.new (.cells false (ints (List.replicate n 0))) = h5 at *
  obtain ⟨cid, coff, hcs, hcid, hcc⟩ := hu.open
  obtain ⟨did, doff, hds, hdid, hdc⟩ := hw.open
  refine Wp_loop (fun k' vars h6 => ∃ (i : Nat), (∃ g : Nat → V, vars = [g 0, g 1, .ptr h.next 0, .ptr hx.next 0, .ptr hy.next 0, g 5, .int .i64 (n : Int), g 7, .sl hb.next 0 n (.kn n), .int .i64 (i : Int), g 10, g 11, g 12, g 13]) ∧ i ≤ A.length ∧
    h6.get hb.next = some (.cells false (ints (mulS n N M A B i))) ∧ Fr hb h6 ∧ hb.next < h6.next ∧ k' = A.length - i) A.length
    ⟨0, ex_junk rfl, Nat.zero_le _, hg5, hf5, by omega, rfl⟩ ?_
  rintro k' vars h6 ⟨i, ⟨g, rfl⟩, hi, hg6, hf6, hn6, rfl⟩
  have hml := mulS_len n N M A B i
  have hgx6 := (hf6.get h.next (by omega)).trans hgxb
  have d1 : h6.cell h.next 1 = some u := by rw [H.cell_of hgx6]; rfl
  simp (disch := first | omega | (simp only [List.length_set, List.length_replicate, List.length_append, List.length_take, List.length_drop, List.length_cons, List.length_nil, List.length_map, List.length_range, ints_length] <;> omega)) only [go_sem, d1, hu.lens]
  refine iteW_dec (fun hjc => ?_) (fun hjc => ?_)
  · have hstep : mulS n N M A B (i + 1) = accF (fun k => (i * (n / N) + k * (n / M)) % n) (fun k => W (A.getD i 0 * B.getD k 0)) (mulS n N M A B i) B.length := rfl
    generalize mulS n N M A B i = S at *
    generalize hS2 : mulS n N M A B (i + 1) = S2 at *
    simp (disch := first | omega | (simp only [List.length_set, List.length_replicate, List.length_append, List.length_take, List.length_drop, List.length_cons, List.length_nil, List.length_map, List.length_range, ints_length] <;> omega)) only [go_sem]
    refine Wp_loop (fun k' vars h7 => ∃ (j : Nat), (∃ g : Nat → V, vars = [g 0, g 1, .ptr h.next 0, .ptr hx.next 0, .ptr hy.next 0, g 5, .int .i64 (n : Int), g 7, .sl hb.next 0 n (.kn n), .int .i64 (i : Int), .int .i64 (j : Int), g 11, g 12, g 13]) ∧ j ≤ B.length ∧
      h7.get hb.next = some (.cells false (ints (accF (fun k => (i * (n / N) + k * (n / M)) % n) (fun k => W (A.getD i 0 * B.getD k 0)) S j))) ∧ Fr hb h7 ∧ hb.next < h7.next ∧ k' = B.length - j) B.length
      ⟨0, ex_junk rfl, Nat.zero_le _, hg6, hf6, hn6, rfl⟩ ?_
    clear hgx6 d1 hf6 hn6 hg6
    rintro k' vars h7 ⟨j, ⟨g, rfl⟩, hj, hg7, hf7, hn7, rfl⟩
    have hal7 := accF_len (fun k => (i * (n / N) + k * (n / M)) % n) (fun k => W (A.getD i 0 * B.getD k 0)) S j
    rw [hml] at hal7
    have hgy7 := (hf7.get hx.next (by omega)).trans hgyb
    have hgx7 := (hf7.get h.next (by omega)).trans hgxb
    have e0 : h7.cell h.next 0 = some (.int .i64 (N : Int)) := by rw [H.cell_of hgx7]; rfl
    have e1 : h7.cell h.next 1 = some u := by rw [H.cell_of hgx7]; rfl
    have d0 : h7.cell hx.next 0 = some (.int .i64 (M : Int)) := by rw [H.cell_of hgy7]; rfl
    have d1 : h7.cell hx.next 1 = some w := by rw [H.cell_of hgy7]; rfl
    simp (disch := first | omega | (simp only [List.length_set, List.length_replicate, List.length_append, List.length_take, List.length_drop, List.length_cons, List.length_nil, List.length_map, List.length_range, ints_length] <;> omega)) only [go_sem, d1, hw.lens]
    refine iteW_dec (fun hkc => ?_) (fun hkc => ?_)
    · have hcc7 := cells_fr (hF.trans hf7) hcid hcc
      have hdc7 := cells_fr (hF.trans hf7) hdid hdc
      have hi1 : i * (n / N) < n := idx_lt (by omega) (by omega)
      have hj1 : j * (n / M) < n := idx_lt (by omega) (by omega)
      have hstep2 : accF (fun k => (i * (n / N) + k * (n / M)) % n) (fun k => W (A.getD i 0 * B.getD k 0)) S (j + 1) = (accF (fun k => (i * (n / N) + k * (n / M)) % n) (fun k => W (A.getD i 0 * B.getD k 0)) S j).set ((i * (n / N) + j * (n / M)) % n) (W ((accF (fun k => (i * (n / N) + k * (n / M)) % n) (fun k => W (A.getD i 0 * B.getD k 0)) S j).getD ((i * (n / N) + j * (n / M)) % n) 0 + W (A.getD i 0 * B.getD j 0))) := rfl
      have em0 : (i : Int) * ((n / N : Nat) : Int) = ((i * (n / N) : Nat) : Int) := (Int.natCast_mul ..).symm
      have em1 : (j : Int) * ((n / M : Nat) : Int) = ((j * (n / M) : Nat) : Int) := (Int.natCast_mul ..).symm
      generalize n / N = tN at *
      generalize n / M = tM at *
      have hz : (((i * tN : Nat) : Int) + ((j * tM : Nat) : Int)) % (n : Int) = (((i * tN + j * tM) % n : Nat) : Int) := by rw [← Int.natCast_add, Int.natCast_emod]
      generalize i * tN = z at *
      generalize j * tM = y at *
      simp (disch := first | omega | (simp only [List.length_set, List.length_replicate, List.length_append, List.length_take, List.length_drop, List.length_cons, List.length_nil, List.length_map, List.length_range, ints_length] <;> omega)) only [go_sem, exN, exM, em0, em1, e0, e1, d0, d1, hcs.ixa, hcc7, hds.ixa, hdc7]
      refine (radd_acc hb.next n (.kn n) _ ((z : Int) + (y : Int)) _ ((z + y) % n) (H.mk h7.tr (h7.next + 26)) hal7 hg7 (by omega) (by omega) hz).mono ?_
      rintro v8 h8 rfl
      simp (disch := first | omega | (simp only [List.length_set, List.length_replicate, List.length_append, List.length_take, List.length_drop, List.length_cons, List.length_nil, List.length_map, List.length_range, ints_length] <;> omega)) only [go_sem]
      rw [show (j : Int) + 1 = ((j + 1 : Nat) : Int) from by omega]
      exact ⟨B.length - (j + 1), by omega, j + 1, ex_junk rfl, by omega, by rw [hstep2], (hf7.bump (by omega)).set (Nat.le_refl _) _, by show hb.next < h7.next + 26; omega, rfl⟩
    have : B.length = j := by omega
    subst this
    simp (disch := first | omega | (simp only [List.length_set, List.length_replicate, List.length_append, List.length_take, List.length_drop, List.length_cons, List.length_nil, List.length_map, List.length_range, ints_length] <;> omega)) only [go_sem]
    rw [show (i : Int) + 1 = ((i + 1 : Nat) : Int) from by omega]
    exact ⟨A.length - (i + 1), by omega, i + 1, ex_junk rfl, by omega, by rw [hS2, hstep]; exact hg7, hf7, hn7, rfl⟩
  have : A.length = i := by omega
  subst this
  simp (disch := first | omega | (simp only [List.length_set, List.length_replicate, List.length_append, List.length_take, List.length_drop, List.length_cons, List.length_nil, List.length_map, List.length_range, ints_length] <;> omega)) only [go_sem]
  have hsi : SI h6 (.sl hb.next 0 n (.kn n)) (mulS n N M A B A.length) := by
    have := SI.own (h := h6) (id := hb.next) (by omega) hg6 (.kn n)
    rw [hml] at this; exact this
  refine (rmade_ok n _ _ h6 (by omega) (by omega) hsi (by omega) (mulS_in n N M A B _)).mono ?_
  rintro v8 h8 ⟨w8, rfl, hcy, hf8⟩
  generalize madeF n _ = R at *
  have hf78 : Fr hb h8 := hf6.trans hf8
  have hn78 := hf78.next
  have hg8 := (hf78.get hy.next (by omega)).trans hgb
  obtain ⟨u', rfl, hu', hfu⟩ := hcy
  have hst3 := fun hh => stV_agg2 hh hy.next 0 (v := .int .i64 R.1.1) (u := u') rfl hu'.what.2.1
  have hrow := row_two (h := h8.set hy.next (some (.cells false [.int .i64 R.1.1, u']))) (H.get_set_same ..)
  simp (disch := first | omega | (simp only [List.length_set, List.length_replicate, List.length_append, List.length_take, List.length_drop, List.length_cons, List.length_nil, List.length_map, List.length_range, ints_length] <;> omega)) only [go_sem, hst3, hg8, hrow, List.getElem?_cons_zero, List.getElem?_cons_succ]
  exact ⟨_, rfl, (CycO.set ⟨u', rfl, hu', hfu⟩ (by omega) _).le (by omega), (hF.trans hf78).set (by omega) _⟩

theorem redF_self (n : Nat) (l : List Int) (hl : l.length = (phiF n).length - 1) (h : inR l) : redF n l = l := by
  have := redF_pad n l 0 hl h
  simpa using this
theorem madeF_pad (n z : Nat) (l : List Int) (hl : l.length = (phiF n).length - 1) (h : inR l) : madeF n (l ++ List.replicate z 0) = madeF n l := by
  simp only [madeF, redF_pad n l z hl h, redF_self n l hl h]

/-- The first numbers of a list, put over zeros. -/
def putF (f : Int → Int) (A : List Int) (n : Nat) : Nat → List Int
  | 0 => List.replicate n 0
  | k + 1 => (putF f A n k).set k (f (A.getD k 0))
theorem putF_len (f : Int → Int) (A : List Int) (n : Nat) : ∀ k, (putF f A n k).length = n
  | 0 => List.length_replicate
  | k + 1 => by rw [putF, List.length_set, putF_len f A n k]
theorem putF_at (f : Int → Int) (A : List Int) (n : Nat) : ∀ k j, j < n → (putF f A n k).getD j 0 = if j < k then f (A.getD j 0) else 0
  | 0, j, hj => by rw [putF, List.getD_eq_getElem?_getD, List.getElem?_replicate, if_pos hj]; rfl
  | k + 1, j, hj => by
    rw [putF, getD_set, putF_len]
    by_cases h1 : k = j
    · subst h1; rw [if_pos rfl, if_pos hj, if_pos (by omega)]
    · rw [if_neg h1, putF_at f A n k j hj]
      by_cases h2 : j < k
      · rw [if_pos h2, if_pos (by omega)]
      · rw [if_neg h2, if_neg (by omega)]
theorem putF_all (f : Int → Int) (A : List Int) (n : Nat) (hA : A.length ≤ n) : putF f A n A.length = A.map f ++ List.replicate (n - A.length) 0 := by
  apply eqD
  · rw [putF_len, List.length_append, List.length_map, List.length_replicate]; omega
  · intro j hj
    rw [putF_len] at hj
    rw [putF_at f A n _ j hj]
    by_cases h : j < A.length
    · rw [if_pos h, List.getD_eq_getElem?_getD, List.getD_eq_getElem?_getD, List.getElem?_append_left (by rw [List.length_map]; exact h), List.getElem?_map, List.getElem?_eq_getElem h]; rfl
    · rw [if_neg h, List.getD_eq_getElem?_getD, List.getElem?_append_right (by rw [List.length_map]; omega), List.getElem?_replicate]
      split <;> rfl

set_option maxHeartbeats 2000000 in
theorem rscale_ok (v : V) (a : Int × List Int) (k : Int) (h : H) (ha : CycV h v a) (hl : a.2.length < 1000000) (hr : inR a.2) :
    Ev T n_ref06_Scale [v, .int .i64 k] h (fun v h' => ∃ w, v = .tup [w, .int .i64 (scaleF a k).2] ∧ CycO h' w (scaleF a k).1 h.next ∧ Fr h h') := by
  obtain ⟨u, rfl, hu⟩ := ha
  obtain ⟨N, A⟩ := a
  simp only at hu hl
  refine Ev_of t_ref06_Scale rfl ?_
  simp (disch := first | omega | (simp only [List.length_set, List.length_replicate, List.length_append, List.length_take, List.length_drop, List.length_cons, List.length_nil, List.length_map, List.length_range, ints_length] <;> omega)) only [go_sem, c_ref06_Scale, initV_eq, boxV_agg2 h (v := .int .i64 N) rfl hu.what.2.1]
  have hfx : Fr h (h.new (.cells false [.int .i64 N, u])) := (Fr.refl h).new _
  have hgx : (h.new (.cells false [.int .i64 N, u])).get h.next = some (.cells false [.int .i64 N, u]) := H.get_new_same ..
  have hnx : (h.new (.cells false [.int .i64 N, u])).next = h.next + 1 := H.next_new ..
  generalize h.new (.cells false [.int .i64 N, u]) = hx at *
  rw [← hnx]
  have hfa : Fr hx (hx.new (.cells false [.int .i64 0, .nils])) := (Fr.refl hx).new _
  have hga : (hx.new (.cells false [.int .i64 0, .nils])).get hx.next = some (.cells false [.int .i64 0, .nils]) := H.get_new_same ..
  have hna : (hx.new (.cells false [.int .i64 0, .nils])).next = hx.next + 1 := H.next_new ..
  generalize hx.new (.cells false [.int .i64 0, .nils]) = ha at *
  have hgxa := (hfa.get h.next (by omega)).trans hgx
  have hfh := hfx.trans hfa
  simp (disch := first | omega | (simp only [List.length_set, List.length_replicate, List.length_append, List.length_take, List.length_drop, List.length_cons, List.length_nil, List.length_map, List.length_range, ints_length] <;> omega)) only [go_sem, row_two hgxa]
  refine (rcheck_ok _ (N, A) ha ⟨u, rfl, hu.mono hfh⟩ hl hr).mono ?_
  rintro v1 hb ⟨rfl, hfb⟩
  have hnb := hfb.next
  have hgb := (hfb.get hx.next (by omega)).trans hga
  have hgxb := (hfb.get h.next (by omega)).trans hgxa
  have hst0 := fun hh => stV_agg2 hh hx.next 0 (v := .int .i64 0) (u := .nils) rfl rfl
  have hrow0 := row_two (h := hb.set hx.next (some (.cells false [.int .i64 0, .nils]))) (H.get_set_same ..)
  have hF : Fr h hb := hfh.trans hfb
  simp (disch := first | omega | (simp only [List.length_set, List.length_replicate, List.length_append, List.length_take, List.length_drop, List.length_cons, List.length_nil, List.length_map, List.length_range, ints_length] <;> omega)) only [go_sem]
  refine iteW_dec (fun h1 => ?_) (fun h1 => ?_)
  · simp (disch := first | omega | (simp only [List.length_set, List.length_replicate, List.length_append, List.length_take, List.length_drop, List.length_cons, List.length_nil, List.length_map, List.length_range, ints_length] <;> omega)) only [go_sem, hst0, hgb, hrow0]
    rw [scaleF, if_pos h1]
    exact ⟨_, rfl, CycO.zero _ _, hF.set (by omega) _⟩
  rw [scaleF, if_neg h1]
  have g1 := check_range (show checkF (N, A) = 0 by omega)
  simp only at g1
  obtain ⟨N, rfl⟩ : ∃ N' : Nat, N = (N' : Int) := ⟨N.toNat, by omega⟩
  simp only [Int.toNat_natCast] at g1 ⊢
  have hpN := phi_len (n := N) (by omega) (by omega)
  clear hst0 hrow0
  simp (disch := first | omega | (simp only [List.length_set, List.length_replicate, List.length_append, List.length_take, List.length_drop, List.length_cons, List.length_nil, List.length_map, List.length_range, ints_length] <;> omega)) only [go_sem, bls_int1]
  have hsk : SI (hb.new (.cells false (ints [k]))) (.sl hb.next 0 1 (.kn 1)) [k] := SI.own (l := [k]) (by rw [H.next_new]; omega) (H.get_new_same ..) (.kn 1)
  have hfc : Fr hb (hb.new (.cells false (ints [k]))) := (Fr.refl hb).new _
  have hgc : (hb.new (.cells false (ints [k]))).get hb.next = some (.cells false (ints [k])) := H.get_new_same ..
  have hnc : (hb.new (.cells false (ints [k]))).next = hb.next + 1 := H.next_new ..
  generalize hb.new (.cells false (ints [k])) = hc at *
  refine (rover_ok _ [k] hc hsk (by simp)).mono ?_
  rintro v2 h2 ⟨rfl, rfl⟩
  have hgc2 := (hfc.get hx.next (by omega)).trans hgb
  have hgxc := (hfc.get h.next (by omega)).trans hgxb
  have hFc := hF.trans hfc
  have hst0 := fun hh => stV_agg2 hh hx.next 0 (v := .int .i64 0) (u := .nils) rfl rfl
  have hrow0 := row_two (h := h2.set hx.next (some (.cells false [.int .i64 0, .nils]))) (H.get_set_same ..)
  rw [show [k].any overF = overF k by simp]
  simp (disch := first | omega | (simp only [List.length_set, List.length_replicate, List.length_append, List.length_take, List.length_drop, List.length_cons, List.length_nil, List.length_map, List.length_range, ints_length] <;> omega)) only [go_sem]
  refine iteW_bool (fun hp => ?_) (fun hp => ?_)
  · simp (disch := first | omega | (simp only [List.length_set, List.length_replicate, List.length_append, List.length_take, List.length_drop, List.length_cons, List.length_nil, List.length_map, List.length_range, ints_length] <;> omega)) only [go_sem, hst0, hgc2, hrow0]
    rw [if_pos hp]
    exact ⟨_, rfl, CycO.zero _ _, hFc.set (by omega) _⟩
  rw [if_neg (by rw [hp]; simp)]
  have d0 : h2.cell h.next 0 = some (.int .i64 (N : Int)) := by rw [H.cell_of hgxc]; rfl
  simp (disch := first | omega | (simp only [List.length_set, List.length_replicate, List.length_append, List.length_take, List.length_drop, List.length_cons, List.length_nil, List.length_map, List.length_range, ints_length] <;> omega)) only [go_sem, d0]
  have hf5 : Fr h2 (h2.new (.cells false (ints (List.replicate N 0)))) := (Fr.refl h2).new _
  have hg5 : (h2.new (.cells false (ints (List.replicate N 0)))).get h2.next = some (.cells false (ints (List.replicate N 0))) := H.get_new_same ..
  have hn5 : (h2.new (.cells false (ints (List.replicate N 0)))).next = h2.next + 1 := H.next_new ..
  generalize h2.new (.cells false (ints (List.replicate N 0))) = h5 at *
  obtain ⟨cid, coff, hcs, hcid, hcc⟩ := hu.open
  refine Wp_loop (fun k' vars h6 => ∃ (j : Nat), (∃ g : Nat → V, vars = [g 0, .int .i64 k, .ptr h.next 0, .ptr hx.next 0, g 4, g 5, .sl h2.next 0 N (.kn N), .int .i64 (j : Int), g 8, g 9, g 10]) ∧ j ≤ A.length ∧
    h6.get h2.next = some (.cells false (ints (putF (fun x => W (x * k)) A N j))) ∧ Fr h2 h6 ∧ h2.next < h6.next ∧ k' = A.length - j) A.length
    ⟨0, ex_junk rfl, Nat.zero_le _, hg5, hf5, by omega, rfl⟩ ?_
  rintro k' vars h6 ⟨j, ⟨g, rfl⟩, hj, hg6, hf6, hn6, rfl⟩
  have hpl := putF_len (fun x => W (x * k)) A N j
  have hgx6 := (hf6.get h.next (by omega)).trans hgxc
  have e0 : h6.cell h.next 0 = some (.int .i64 (N : Int)) := by rw [H.cell_of hgx6]; rfl
  have e1 : h6.cell h.next 1 = some u := by rw [H.cell_of hgx6]; rfl
  simp (disch := first | omega | (simp only [List.length_set, List.length_replicate, List.length_append, List.length_take, List.length_drop, List.length_cons, List.length_nil, List.length_map, List.length_range, ints_length] <;> omega)) only [go_sem, e1, hu.lens]
  refine iteW_dec (fun hjc => ?_) (fun hjc => ?_)
  · have hcc6 := cells_fr (hFc.trans hf6) hcid hcc
    simp (disch := first | omega | (simp only [List.length_set, List.length_replicate, List.length_append, List.length_take, List.length_drop, List.length_cons, List.length_nil, List.length_map, List.length_range, ints_length] <;> omega)) only [go_sem, e1, hcs.ixa, hcc6, hg6]
    rw [show (j : Int) + 1 = ((j + 1 : Nat) : Int) from by omega]
    exact ⟨A.length - (j + 1), by omega, j + 1, ex_junk rfl, by omega, rfl, hf6.set (Nat.le_refl _) _, hn6, rfl⟩
  have : A.length = j := by omega
  subst this
  simp (disch := first | omega | (simp only [List.length_set, List.length_replicate, List.length_append, List.length_take, List.length_drop, List.length_cons, List.length_nil, List.length_map, List.length_range, ints_length] <;> omega)) only [go_sem, e0]
  have hsi : SI h6 (.sl h2.next 0 N (.kn N)) (putF (fun x => W (x * k)) A N A.length) := by
    have := SI.own (h := h6) (id := h2.next) (by omega) hg6 (.kn N)
    rw [hpl] at this; exact this
  have hmi : inR (A.map fun x => W (x * k)) := fun z hz => by obtain ⟨y, _, rfl⟩ := List.mem_map.1 hz; exact W_in _
  have hpin : inR (putF (fun x => W (x * k)) A N A.length) := by
    rw [putF_all _ _ _ (by omega)]; exact hmi.append (inR.zeros _)
  refine (rmade_ok N _ _ h6 (by omega) (by omega) hsi (by omega) hpin).mono ?_
  rw [putF_all _ _ _ (by omega), madeF_pad N _ _ (by rw [List.length_map]; omega) hmi]
  rintro v8 h8 ⟨w8, rfl, hcy, hf8⟩
  generalize madeF N _ = R at *
  have hf78 : Fr h2 h8 := hf6.trans hf8
  have hn78 := hf78.next
  have hg8 := (hf78.get hx.next (by omega)).trans hgc2
  obtain ⟨u', rfl, hu', hfu⟩ := hcy
  have hst3 := fun hh => stV_agg2 hh hx.next 0 (v := .int .i64 R.1.1) (u := u') rfl hu'.what.2.1
  have hrow := row_two (h := h8.set hx.next (some (.cells false [.int .i64 R.1.1, u']))) (H.get_set_same ..)
  simp (disch := first | omega | (simp only [List.length_set, List.length_replicate, List.length_append, List.length_take, List.length_drop, List.length_cons, List.length_nil, List.length_map, List.length_range, ints_length] <;> omega)) only [go_sem, hst3, hg8, hrow, List.getElem?_cons_zero, List.getElem?_cons_succ]
  exact ⟨_, rfl, (CycO.set ⟨u', rfl, hu', hfu⟩ (by omega) _).le (by omega), (hFc.trans hf78).set (by omega) _⟩

set_option maxHeartbeats 1000000 in
theorem rgal_ok (v : V) (a : Int × List Int) (k : Int) (h : H) (ha : CycV h v a) (hl : a.2.length < 1000000) (hr : inR a.2) :
    Ev T n_ref06_Galois [v, .int .i64 k] h (fun v h' => ∃ w, v = .tup [w, .int .i64 (galF a k).2] ∧ CycO h' w (galF a k).1 h.next ∧ Fr h h') := by
  obtain ⟨u, rfl, hu⟩ := ha
  obtain ⟨N, A⟩ := a
  simp only at hu hl
  refine Ev_of t_ref06_Galois rfl ?_
  simp (disch := first | omega | (simp only [List.length_set, List.length_replicate, List.length_append, List.length_take, List.length_drop, List.length_cons, List.length_nil, List.length_map, List.length_range, ints_length] <;> omega)) only [go_sem, c_ref06_Galois, initV_eq, boxV_agg2 h (v := .int .i64 N) rfl hu.what.2.1]
  have hfx : Fr h (h.new (.cells false [.int .i64 N, u])) := (Fr.refl h).new _
  have hgx : (h.new (.cells false [.int .i64 N, u])).get h.next = some (.cells false [.int .i64 N, u]) := H.get_new_same ..
  have hnx : (h.new (.cells false [.int .i64 N, u])).next = h.next + 1 := H.next_new ..
  generalize h.new (.cells false [.int .i64 N, u]) = hx at *
  rw [← hnx]
  have hfa : Fr hx (hx.new (.cells false [.int .i64 0, .nils])) := (Fr.refl hx).new _
  have hga : (hx.new (.cells false [.int .i64 0, .nils])).get hx.next = some (.cells false [.int .i64 0, .nils]) := H.get_new_same ..
  have hna : (hx.new (.cells false [.int .i64 0, .nils])).next = hx.next + 1 := H.next_new ..
  generalize hx.new (.cells false [.int .i64 0, .nils]) = ha at *
  have hgxa := (hfa.get h.next (by omega)).trans hgx
  have hfh := hfx.trans hfa
  simp (disch := first | omega | (simp only [List.length_set, List.length_replicate, List.length_append, List.length_take, List.length_drop, List.length_cons, List.length_nil, List.length_map, List.length_range, ints_length] <;> omega)) only [go_sem, row_two hgxa]
  refine (rcheck_ok _ (N, A) ha ⟨u, rfl, hu.mono hfh⟩ hl hr).mono ?_
  rintro v1 hb ⟨rfl, hfb⟩
  have hnb := hfb.next
  have hgb := (hfb.get hx.next (by omega)).trans hga
  have hgxb := (hfb.get h.next (by omega)).trans hgxa
  have hst0 := fun hh => stV_agg2 hh hx.next 0 (v := .int .i64 0) (u := .nils) rfl rfl
  have hrow0 := row_two (h := hb.set hx.next (some (.cells false [.int .i64 0, .nils]))) (H.get_set_same ..)
  have hF : Fr h hb := hfh.trans hfb
  simp (disch := first | omega | (simp only [List.length_set, List.length_replicate, List.length_append, List.length_take, List.length_drop, List.length_cons, List.length_nil, List.length_map, List.length_range, ints_length] <;> omega)) only [go_sem]
  refine iteW_dec (fun h1 => ?_) (fun h1 => ?_)
  · simp (disch := first | omega | (simp only [List.length_set, List.length_replicate, List.length_append, List.length_take, List.length_drop, List.length_cons, List.length_nil, List.length_map, List.length_range, ints_length] <;> omega)) only [go_sem, hst0, hgb, hrow0]
    rw [galF, if_pos h1]
    exact ⟨_, rfl, CycO.zero _ _, hF.set (by omega) _⟩
  rw [galF, if_neg h1]
  have g1 := check_range (show checkF (N, A) = 0 by omega)
  simp only at g1
  obtain ⟨N, rfl⟩ : ∃ N' : Nat, N = (N' : Int) := ⟨N.toNat, by omega⟩
  simp only [Int.toNat_natCast] at g1 ⊢
  have hpN := phi_len (n := N) (by omega) (by omega)
  clear hst0 hrow0
  have hr0 := Int.emod_nonneg k (show (N : Int) ≠ 0 by omega)
  have hr1 := Int.emod_lt_of_pos k (show (0 : Int) < N by omega)
  obtain ⟨r, hrr⟩ : ∃ r : Nat, k % (N : Int) = (r : Int) := ⟨(k % (N : Int)).toNat, by omega⟩
  have d0 : hb.cell h.next 0 = some (.int .i64 (N : Int)) := by rw [H.cell_of hgxb]; rfl
  simp (disch := first | omega | (simp only [List.length_set, List.length_replicate, List.length_append, List.length_take, List.length_drop, List.length_cons, List.length_nil, List.length_map, List.length_range, ints_length] <;> omega)) only [go_sem, d0]
  refine (pick_ok k N hb (by omega) (by omega)).mono ?_
  rintro v2 h2 ⟨rfl, rfl⟩
  simp only [hrr, Int.toNat_natCast] at hr0 hr1 ⊢
  simp (disch := first | omega | (simp only [List.length_set, List.length_replicate, List.length_append, List.length_take, List.length_drop, List.length_cons, List.length_nil, List.length_map, List.length_range, ints_length] <;> omega)) only [go_sem, d0]
  refine (rgcd_ok (N : Int) (r : Int) h2 (by omega) (by omega)).mono ?_
  rintro v3 h3 ⟨rfl, hf3⟩
  have hn3 := hf3.next
  have hg3 := (hf3.get hx.next (by omega)).trans hgb
  have hgx3 := (hf3.get h.next (by omega)).trans hgxb
  have hF3 := hF.trans hf3
  have hG : 1 ≤ Int.gcd (N : Int) (r : Int) := Nat.one_le_iff_ne_zero.2 (fun e => by rw [Int.gcd_eq_zero_iff] at e; omega)
  have hst0 := fun hh => stV_agg2 hh hx.next 0 (v := .int .i64 0) (u := .nils) rfl rfl
  have hrow0 := row_two (h := h3.set hx.next (some (.cells false [.int .i64 0, .nils]))) (H.get_set_same ..)
  simp (disch := first | omega | (simp only [List.length_set, List.length_replicate, List.length_append, List.length_take, List.length_drop, List.length_cons, List.length_nil, List.length_map, List.length_range, ints_length] <;> omega)) only [go_sem]
  refine iteW_dec (fun h4 => ?_) (fun h4 => ?_)
  · simp (disch := first | omega | (simp only [List.length_set, List.length_replicate, List.length_append, List.length_take, List.length_drop, List.length_cons, List.length_nil, List.length_map, List.length_range, ints_length] <;> omega)) only [go_sem, hst0, hg3, hrow0]
    rw [if_pos (by omega)]
    exact ⟨_, rfl, CycO.zero _ _, hF3.set (by omega) _⟩
  rw [if_neg (by omega)]
  have e0 : h3.cell h.next 0 = some (.int .i64 (N : Int)) := by rw [H.cell_of hgx3]; rfl
  simp (disch := first | omega | (simp only [List.length_set, List.length_replicate, List.length_append, List.length_take, List.length_drop, List.length_cons, List.length_nil, List.length_map, List.length_range, ints_length] <;> omega)) only [go_sem, e0]
  have hf5 : Fr h3 (h3.new (.cells false (ints (List.replicate N 0)))) := (Fr.refl h3).new _
  have hg5 : (h3.new (.cells false (ints (List.replicate N 0)))).get h3.next = some (.cells false (ints (List.replicate N 0))) := H.get_new_same ..
  have hn5 : (h3.new (.cells false (ints (List.replicate N 0)))).next = h3.next + 1 := H.next_new ..
  generalize h3.new (.cells false (ints (List.replicate N 0))) = h5 at *
  obtain ⟨cid, coff, hcs, hcid, hcc⟩ := hu.open
  refine Wp_loop (fun k' vars h6 => ∃ (j : Nat), (∃ g : Nat → V, vars = [g 0, .int .i64 (r : Int), .ptr h.next 0, .ptr hx.next 0, g 4, g 5, .sl h3.next 0 N (.kn N), .int .i64 (j : Int), g 8, g 9, g 10]) ∧ j ≤ A.length ∧
    h6.get h3.next = some (.cells false (ints (accF (fun i => i * r % N) (fun i => A.getD i 0) (List.replicate N 0) j))) ∧ Fr h3 h6 ∧ h3.next < h6.next ∧ k' = A.length - j) A.length
    ⟨0, ex_junk rfl, Nat.zero_le _, hg5, hf5, by omega, rfl⟩ ?_
  rintro k' vars h6 ⟨j, ⟨g, rfl⟩, hj, hg6, hf6, hn6, rfl⟩
  have hal := accF_len (fun i => i * r % N) (fun i => A.getD i 0) (List.replicate N 0) j
  rw [List.length_replicate] at hal
  have hgx6 := (hf6.get h.next (by omega)).trans hgx3
  have f0 : h6.cell h.next 0 = some (.int .i64 (N : Int)) := by rw [H.cell_of hgx6]; rfl
  have f1 : h6.cell h.next 1 = some u := by rw [H.cell_of hgx6]; rfl
  simp (disch := first | omega | (simp only [List.length_set, List.length_replicate, List.length_append, List.length_take, List.length_drop, List.length_cons, List.length_nil, List.length_map, List.length_range, ints_length] <;> omega)) only [go_sem, f1, hu.lens]
  refine iteW_dec (fun hjc => ?_) (fun hjc => ?_)
  · have hcc6 := cells_fr (hF3.trans hf6) hcid hcc
    have hjr : j * r ≤ 120 * 120 := Nat.mul_le_mul (by omega) (by omega)
    have em0 : (j : Int) * (r : Int) = ((j * r : Nat) : Int) := (Int.natCast_mul ..).symm
    have hstep : accF (fun i => i * r % N) (fun i => A.getD i 0) (List.replicate N 0) (j + 1) = (accF (fun i => i * r % N) (fun i => A.getD i 0) (List.replicate N 0) j).set (j * r % N) (W ((accF (fun i => i * r % N) (fun i => A.getD i 0) (List.replicate N 0) j).getD (j * r % N) 0 + A.getD j 0)) := rfl
    have hz : ((j * r : Nat) : Int) % (N : Int) = ((j * r % N : Nat) : Int) := by omega
    generalize j * r % N = z at *
    generalize j * r = y at *
    simp (disch := first | omega | (simp only [List.length_set, List.length_replicate, List.length_append, List.length_take, List.length_drop, List.length_cons, List.length_nil, List.length_map, List.length_range, ints_length] <;> omega)) only [go_sem, em0, f1, hcs.ixa, hcc6]
    refine (radd_acc h3.next N (.kn N) _ (y : Int) (A.getD j 0) z h6 hal hg6 (by omega) (by omega) hz).mono ?_
    rintro v7 h7 rfl
    simp (disch := first | omega | (simp only [List.length_set, List.length_replicate, List.length_append, List.length_take, List.length_drop, List.length_cons, List.length_nil, List.length_map, List.length_range, ints_length] <;> omega)) only [go_sem]
    rw [show (j : Int) + 1 = ((j + 1 : Nat) : Int) from by omega]
    exact ⟨A.length - (j + 1), by omega, j + 1, ex_junk rfl, by omega, by rw [hstep], hf6.set (Nat.le_refl _) _, hn6, rfl⟩
  have : A.length = j := by omega
  subst this
  simp (disch := first | omega | (simp only [List.length_set, List.length_replicate, List.length_append, List.length_take, List.length_drop, List.length_cons, List.length_nil, List.length_map, List.length_range, ints_length] <;> omega)) only [go_sem, f0]
  have hsi : SI h6 (.sl h3.next 0 N (.kn N)) (accF (fun i => i * r % N) (fun i => A.getD i 0) (List.replicate N 0) A.length) := by
    have := SI.own (h := h6) (id := h3.next) (by omega) hg6 (.kn N)
    rw [hal] at this; exact this
  refine (rmade_ok N _ _ h6 (by omega) (by omega) hsi (by omega) (accF_in _ _ (inR.zeros _) _)).mono ?_
  rintro v8 h8 ⟨w8, rfl, hcy, hf8⟩
  generalize madeF N _ = R at *
  have hf78 : Fr h3 h8 := hf6.trans hf8
  have hn78 := hf78.next
  have hg8 := (hf78.get hx.next (by omega)).trans hg3
  obtain ⟨u', rfl, hu', hfu⟩ := hcy
  have hst3 := fun hh => stV_agg2 hh hx.next 0 (v := .int .i64 R.1.1) (u := u') rfl hu'.what.2.1
  have hrow := row_two (h := h8.set hx.next (some (.cells false [.int .i64 R.1.1, u']))) (H.get_set_same ..)
  simp (disch := first | omega | (simp only [List.length_set, List.length_replicate, List.length_append, List.length_take, List.length_drop, List.length_cons, List.length_nil, List.length_map, List.length_range, ints_length] <;> omega)) only [go_sem, hst3, hg8, hrow, List.getElem?_cons_zero, List.getElem?_cons_succ]
  exact ⟨_, rfl, (CycO.set ⟨u', rfl, hu', hfu⟩ (by omega) _).le (by omega), (hF3.trans hf78).set (by omega) _⟩

theorem rconj_ok (v : V) (a : Int × List Int) (h : H) (ha : CycV h v a) (hl : a.2.length < 1000000) (hr : inR a.2) :
    Ev T n_ref06_Conj [v] h (fun v h' => ∃ w, v = .tup [w, .int .i64 (galF a (-1)).2] ∧ CycO h' w (galF a (-1)).1 h.next ∧ Fr h h') := by
  obtain ⟨u, rfl, hu⟩ := ha
  obtain ⟨N, A⟩ := a
  refine Ev_of t_ref06_Conj rfl ?_
  simp (disch := first | omega | (simp only [List.length_set, List.length_replicate, List.length_append, List.length_take, List.length_drop, List.length_cons, List.length_nil, List.length_map, List.length_range, ints_length] <;> omega)) only [go_sem, c_ref06_Conj, initV_eq, boxV_agg2 h (v := .int .i64 N) rfl hu.what.2.1]
  have hfx : Fr h (h.new (.cells false [.int .i64 N, u])) := (Fr.refl h).new _
  have hgx : (h.new (.cells false [.int .i64 N, u])).get h.next = some (.cells false [.int .i64 N, u]) := H.get_new_same ..
  have hnx : (h.new (.cells false [.int .i64 N, u])).next = h.next + 1 := H.next_new ..
  generalize h.new (.cells false [.int .i64 N, u]) = hx at *
  rw [← hnx]
  have hfa : Fr hx (hx.new (.cells false [.int .i64 0, .nils])) := (Fr.refl hx).new _
  have hga : (hx.new (.cells false [.int .i64 0, .nils])).get hx.next = some (.cells false [.int .i64 0, .nils]) := H.get_new_same ..
  have hna : (hx.new (.cells false [.int .i64 0, .nils])).next = hx.next + 1 := H.next_new ..
  generalize hx.new (.cells false [.int .i64 0, .nils]) = ha at *
  have hgxa := (hfa.get h.next (by omega)).trans hgx
  have hfh := hfx.trans hfa
  simp (disch := first | omega | (simp only [List.length_set, List.length_replicate, List.length_append, List.length_take, List.length_drop, List.length_cons, List.length_nil, List.length_map, List.length_range, ints_length] <;> omega)) only [go_sem, row_two hgxa]
  refine (rgal_ok _ (N, A) (-1) ha ⟨u, rfl, hu.mono hfh⟩ hl hr).mono ?_
  rintro v7 h7 ⟨w, rfl, hcy, hf7⟩
  generalize galF _ _ = M at *
  have hn7 := hf7.next
  have hg7 := (hf7.get hx.next (by omega)).trans hga
  obtain ⟨u', rfl, hu', hfu⟩ := hcy
  have hst3 := fun hh => stV_agg2 hh hx.next 0 (v := .int .i64 M.1.1) (u := u') rfl hu'.what.2.1
  have hrow := row_two (h := h7.set hx.next (some (.cells false [.int .i64 M.1.1, u']))) (H.get_set_same ..)
  simp (disch := first | omega | (simp only [List.length_set, List.length_replicate, List.length_append, List.length_take, List.length_drop, List.length_cons, List.length_nil, List.length_map, List.length_range, ints_length] <;> omega)) only [go_sem, hst3, hg7, hrow, List.getElem?_cons_zero, List.getElem?_cons_succ]
  exact ⟨_, rfl, (CycO.set ⟨u', rfl, hu', hfu⟩ (by omega) _).le (by omega), (hfh.trans hf7).set (by omega) _⟩

theorem rrat_ok (v : V) (a : Int × List Int) (h : H) (ha : CycV h v a) (hl : a.2.length < 1000000) (hr : inR a.2) :
    Ev T n_ref06_Rational [v] h (fun v h' => v = .tup [.int .i64 (ratF a).1, .bool (ratF a).2] ∧ Fr h h') := by
  obtain ⟨u, rfl, hu⟩ := ha
  obtain ⟨N, A⟩ := a
  simp only at hu hl
  refine Ev_of t_ref06_Rational rfl ?_
  simp (disch := first | omega | (simp only [List.length_set, List.length_replicate, List.length_append, List.length_take, List.length_drop, List.length_cons, List.length_nil, List.length_map, List.length_range, ints_length] <;> omega)) only [go_sem, c_ref06_Rational, initV_eq, boxV_agg2 h (v := .int .i64 N) rfl hu.what.2.1]
  have hfx : Fr h (h.new (.cells false [.int .i64 N, u])) := (Fr.refl h).new _
  have hgx : (h.new (.cells false [.int .i64 N, u])).get h.next = some (.cells false [.int .i64 N, u]) := H.get_new_same ..
  have hnx : (h.new (.cells false [.int .i64 N, u])).next = h.next + 1 := H.next_new ..
  generalize h.new (.cells false [.int .i64 N, u]) = hx at *
  simp (disch := first | omega | (simp only [List.length_set, List.length_replicate, List.length_append, List.length_take, List.length_drop, List.length_cons, List.length_nil, List.length_map, List.length_range, ints_length] <;> omega)) only [go_sem, row_two hgx]
  refine (rcheck_ok _ (N, A) hx ⟨u, rfl, hu.mono hfx⟩ hl hr).mono ?_
  rintro v1 hb ⟨rfl, hfb⟩
  have hgb := (hfb.get h.next (by omega)).trans hgx
  have d0 : hb.cell h.next 0 = some (.int .i64 N) := by rw [H.cell_of hgb]; rfl
  have d1 : hb.cell h.next 1 = some u := by rw [H.cell_of hgb]; rfl
  by_cases h1 : checkF (N, A) ≠ 0
  · simp (disch := first | omega | (simp only [List.length_set, List.length_replicate, List.length_append, List.length_take, List.length_drop, List.length_cons, List.length_nil, List.length_map, List.length_range, ints_length] <;> omega)) only [go_sem]
    rw [decide_eq_true h1]
    simp (disch := first | omega | (simp only [List.length_set, List.length_replicate, List.length_append, List.length_take, List.length_drop, List.length_cons, List.length_nil, List.length_map, List.length_range, ints_length] <;> omega)) only [go_sem]
    rw [ratF, if_pos (.inr h1)]
    exact ⟨rfl, hfx.trans hfb⟩
  · simp (disch := first | omega | (simp only [List.length_set, List.length_replicate, List.length_append, List.length_take, List.length_drop, List.length_cons, List.length_nil, List.length_map, List.length_range, ints_length] <;> omega)) only [go_sem]
    rw [decide_eq_false h1]
    simp (disch := first | omega | (simp only [List.length_set, List.length_replicate, List.length_append, List.length_take, List.length_drop, List.length_cons, List.length_nil, List.length_map, List.length_range, ints_length] <;> omega)) only [go_sem, d0]
    refine iteW_dec (fun h2 => ?_) (fun h2 => ?_)
    · simp (disch := first | omega | (simp only [List.length_set, List.length_replicate, List.length_append, List.length_take, List.length_drop, List.length_cons, List.length_nil, List.length_map, List.length_range, ints_length] <;> omega)) only [go_sem]
      rw [ratF, if_pos (.inl h2)]
      exact ⟨rfl, hfx.trans hfb⟩
    · have g1 := check_range (show checkF (N, A) = 0 by omega)
      simp only at g1
      have hN : N = 1 := by omega
      subst hN
      have hpl := phi_len (n := 1) (by omega) (by omega)
      have hA : 1 ≤ A.length := by rw [g1.2.2]; show 1 ≤ (phiF 1).length - 1; omega
      obtain ⟨cid, coff, hcs, hcid, hcc⟩ := hu.open
      have hccb := cells_fr (hfx.trans hfb) hcid hcc
      have hc0 : hb.cell cid coff = some (.int .i64 (A.getD 0 0)) := hccb 0 (by omega)
      simp (disch := first | omega | (simp only [List.length_set, List.length_replicate, List.length_append, List.length_take, List.length_drop, List.length_cons, List.length_nil, List.length_map, List.length_range, ints_length] <;> omega)) only [go_sem, d1, hcs.ixa, hc0]
      rw [ratF, if_neg (by omega)]
      exact ⟨rfl, hfx.trans hfb⟩
end
end Go.Proofs.Ythfabknpogbcaaa
/- Contracts of the reference: Quot, sign, Cmp. -/
namespace Go.Proofs.Ythfabknpogbcaaa
open Go Go.Ay
set_option maxRecDepth 100000
noncomputable section

theorem take_map_succ (f : Int → Int) (A : List Int) (j : Nat) (hj : j < A.length) : (A.take (j + 1)).map f = (A.take j).map f ++ [f (A.getD j 0)] := by
  rw [take_succ_getD A j hj, List.map_append]; rfl

set_option maxHeartbeats 2000000 in
theorem rquot_ok (v : V) (a : Int × List Int) (k : Int) (h : H) (ha : CycV h v a) (hl : a.2.length < 1000000) (hr : inR a.2) :
    Ev T n_ref06_Quot [v, .int .i64 k] h (fun v h' => ∃ w, v = .tup [w, .int .i64 (quotF a k).2] ∧ CycO h' w (quotF a k).1 h.next ∧ Fr h h') := by
  obtain ⟨u, rfl, hu⟩ := ha
  obtain ⟨N, A⟩ := a
  simp only at hu hl
  refine Ev_of t_ref06_Quot rfl ?_
  simp (disch := first | omega | (simp only [List.length_set, List.length_replicate, List.length_append, List.length_take, List.length_drop, List.length_cons, List.length_nil, List.length_map, List.length_range, ints_length] <;> omega)) only [go_sem, c_ref06_Quot, initV_eq, boxV_agg2 h (v := .int .i64 N) rfl hu.what.2.1]
  have hfx : Fr h (h.new (.cells false [.int .i64 N, u])) := (Fr.refl h).new _
  have hgx : (h.new (.cells false [.int .i64 N, u])).get h.next = some (.cells false [.int .i64 N, u]) := H.get_new_same ..
  have hnx : (h.new (.cells false [.int .i64 N, u])).next = h.next + 1 := H.next_new ..
  generalize h.new (.cells false [.int .i64 N, u]) = hx at *
  rw [← hnx]
  have hfa : Fr hx (hx.new (.cells false [.int .i64 0, .nils])) := (Fr.refl hx).new _
  have hga : (hx.new (.cells false [.int .i64 0, .nils])).get hx.next = some (.cells false [.int .i64 0, .nils]) := H.get_new_same ..
  have hna : (hx.new (.cells false [.int .i64 0, .nils])).next = hx.next + 1 := H.next_new ..
  generalize hx.new (.cells false [.int .i64 0, .nils]) = ha at *
  have hgxa := (hfa.get h.next (by omega)).trans hgx
  have hfh := hfx.trans hfa
  simp (disch := first | omega | (simp only [List.length_set, List.length_replicate, List.length_append, List.length_take, List.length_drop, List.length_cons, List.length_nil, List.length_map, List.length_range, ints_length] <;> omega)) only [go_sem, row_two hgxa]
  refine (rcheck_ok _ (N, A) ha ⟨u, rfl, hu.mono hfh⟩ hl hr).mono ?_
  rintro v1 hb ⟨rfl, hfb⟩
  have hnb := hfb.next
  have hgb := (hfb.get hx.next (by omega)).trans hga
  have hgxb := (hfb.get h.next (by omega)).trans hgxa
  have hst0 := fun hh => stV_agg2 hh hx.next 0 (v := .int .i64 0) (u := .nils) rfl rfl
  have hrow0 := row_two (h := hb.set hx.next (some (.cells false [.int .i64 0, .nils]))) (H.get_set_same ..)
  have hF : Fr h hb := hfh.trans hfb
  simp (disch := first | omega | (simp only [List.length_set, List.length_replicate, List.length_append, List.length_take, List.length_drop, List.length_cons, List.length_nil, List.length_map, List.length_range, ints_length] <;> omega)) only [go_sem]
  refine iteW_dec (fun h1 => ?_) (fun h1 => ?_)
  · simp (disch := first | omega | (simp only [List.length_set, List.length_replicate, List.length_append, List.length_take, List.length_drop, List.length_cons, List.length_nil, List.length_map, List.length_range, ints_length] <;> omega)) only [go_sem, hst0, hgb, hrow0]
    rw [quotF, if_pos h1]
    exact ⟨_, rfl, CycO.zero _ _, hF.set (by omega) _⟩
  rw [quotF, if_neg h1]
  have g1 := check_range (show checkF (N, A) = 0 by omega)
  simp only at g1
  obtain ⟨N, rfl⟩ : ∃ N' : Nat, N = (N' : Int) := ⟨N.toNat, by omega⟩
  simp only [Int.toNat_natCast] at g1 ⊢
  have hpN := phi_len (n := N) (by omega) (by omega)
  simp (disch := first | omega | (simp only [List.length_set, List.length_replicate, List.length_append, List.length_take, List.length_drop, List.length_cons, List.length_nil, List.length_map, List.length_range, ints_length] <;> omega)) only [go_sem]
  refine iteW_dec (fun h2 => ?_) (fun h2 => ?_)
  · simp (disch := first | omega | (simp only [List.length_set, List.length_replicate, List.length_append, List.length_take, List.length_drop, List.length_cons, List.length_nil, List.length_map, List.length_range, ints_length] <;> omega)) only [go_sem, hst0, hgb, hrow0]
    rw [if_pos h2]
    exact ⟨_, rfl, CycO.zero _ _, hF.set (by omega) _⟩
  rw [if_neg h2]
  clear hrow0
  have d0 : hb.cell h.next 0 = some (.int .i64 (N : Int)) := by rw [H.cell_of hgxb]; rfl
  have hbl : bldV [V.int .i64 0, .nils] [(0, 1, .int .i64 (N : Int))] = some (.agg [.int .i64 (N : Int), .nils]) := by
    have e1 : putAt [V.int .i64 0, .nils] 0 [.int .i64 (N : Int)] = some [.int .i64 (N : Int), .nils] := by simp [putAt]
    have o1 : (V.int .i64 (N : Int)).one = true := rfl
    simp only [bldV, fillV, V.cells, List.length_singleton, List.all_cons, List.all_nil, o1, Bool.and_self, and_self, if_true, e1, Option.map_some]
  have hstN := fun hh id => stV_agg2 hh id 0 (v := .int .i64 (N : Int)) (u := .nils) rfl rfl
  simp (disch := first | omega | (simp only [List.length_set, List.length_replicate, List.length_append, List.length_take, List.length_drop, List.length_cons, List.length_nil, List.length_map, List.length_range, ints_length] <;> omega)) only [go_sem, d0, hbl, hstN]
  obtain ⟨O, hO⟩ : ∃ O, hb.next = O := ⟨_, rfl⟩
  rw [hO]
  have hgc : ((hb.new (.cells false [.int .i64 0, .nils])).set O (some (.cells false [.int .i64 (N : Int), .nils]))).get O = some (.cells false [.int .i64 (N : Int), .nils]) := H.get_set_same ..
  have hfc : Fr hb ((hb.new (.cells false [.int .i64 0, .nils])).set O (some (.cells false [.int .i64 (N : Int), .nils]))) := ((Fr.refl hb).new _).set (by omega) _
  have hnc : ((hb.new (.cells false [.int .i64 0, .nils])).set O (some (.cells false [.int .i64 (N : Int), .nils]))).next = O + 1 := by rw [H.next_set, H.next_new, hO]
  generalize (hb.new (.cells false [.int .i64 0, .nils])).set O (some (.cells false [.int .i64 (N : Int), .nils])) = hc at *
  obtain ⟨cid, coff, hcs, hcid, hcc⟩ := hu.open
  refine Wp_loop (fun k' vars h6 => ∃ (j : Nat) (uc : V), (∃ g : Nat → V, vars = [g 0, .int .i64 k, .ptr h.next 0, .ptr hx.next 0, g 4, g 5, .ptr O 0, .int .i64 (j : Int), g 8, g 9, g 10, g 11]) ∧ j ≤ A.length ∧
    h6.get O = some (.cells false [.int .i64 (N : Int), uc]) ∧ Own h6 uc 1 (ints ((A.take j).map fun x => W (x.tdiv k))) (O + 1) ∧ Fr hb h6 ∧ O < h6.next ∧ (∀ i, i < j → (A.getD i 0).tmod k = 0) ∧ k' = A.length - j) A.length
    ⟨0, .nils, ex_junk rfl, Nat.zero_le _, hgc, Own.nils _ _ _, hfc, by omega, fun i hi => by omega, rfl⟩ ?_
  rintro k' vars h6 ⟨j, uc, ⟨g, rfl⟩, hj, hg6, ho6, hf6, hn6, hdv, rfl⟩
  have hgx6 := (hf6.get h.next (by omega)).trans hgxb
  have e0 : h6.cell h.next 0 = some (.int .i64 (N : Int)) := by rw [H.cell_of hgx6]; rfl
  have e1 : h6.cell h.next 1 = some u := by rw [H.cell_of hgx6]; rfl
  have hgr6 := (hf6.get hx.next (by omega)).trans hgb
  simp (disch := first | omega | (simp only [List.length_set, List.length_replicate, List.length_append, List.length_take, List.length_drop, List.length_cons, List.length_nil, List.length_map, List.length_range, ints_length] <;> omega)) only [go_sem, e1, hu.lens]
  refine iteW_dec (fun hjc => ?_) (fun hjc => ?_)
  · have hcc6 := cells_fr (hF.trans hf6) hcid hcc
    simp (disch := first | omega | (simp only [List.length_set, List.length_replicate, List.length_append, List.length_take, List.length_drop, List.length_cons, List.length_nil, List.length_map, List.length_range, ints_length] <;> omega)) only [go_sem, e1, hcs.ixa, hcc6, arith_rem _ _ _ h2]
    refine iteW_dec (fun hnz => ?_) (fun hz => ?_)
    · have hrow7 := row_two (h := h6.set hx.next (some (.cells false [.int .i64 0, .nils]))) (H.get_set_same ..)
      simp (disch := first | omega | (simp only [List.length_set, List.length_replicate, List.length_append, List.length_take, List.length_drop, List.length_cons, List.length_nil, List.length_map, List.length_range, ints_length] <;> omega)) only [go_sem, hst0, hgr6, hrow7]
      have hany : A.any (fun x => decide (x.tmod k ≠ 0)) = true := by
        rw [List.any_eq_true]
        refine ⟨A.getD j 0, ?_, decide_eq_true hnz⟩
        rw [List.getD_eq_getElem?_getD, List.getElem?_eq_getElem (by omega)]
        exact List.getElem_mem _
      rw [if_pos hany]
      exact ⟨_, rfl, CycO.zero _ _, (hF.trans hf6).set (by omega) _⟩
    · have f1 : h6.cell O 1 = some uc := by rw [H.cell_of hg6]; rfl
      simp (disch := first | omega | (simp only [List.length_set, List.length_replicate, List.length_append, List.length_take, List.length_drop, List.length_cons, List.length_nil, List.length_map, List.length_range, ints_length] <;> omega)) only [go_sem, f1, e1, hcs.ixa, hcc6, arith_quo _ _ _ h2, bls_int1]
      have hy1 : (H.mk ((H.mk h6.tr (h6.next + 9)).new (.cells false (ints [W ((A.getD j 0).tdiv k)]))).tr (h6.next + 13)).get (h6.next + 9) = some (.cells false (ints [W ((A.getD j 0).tdiv k)])) := by
        rw [H.get_next', H.get_new, if_pos rfl]
      have hy2 : ∀ z, z < h6.next → (H.mk ((H.mk h6.tr (h6.next + 9)).new (.cells false (ints [W ((A.getD j 0).tdiv k)]))).tr (h6.next + 13)).get z = h6.get z := fun z hz => by
        rw [H.get_next', H.get_new, if_neg (by show z ≠ h6.next + 9; omega)]; rfl
      have hy3 : (H.mk ((H.mk h6.tr (h6.next + 9)).new (.cells false (ints [W ((A.getD j 0).tdiv k)]))).tr (h6.next + 13)).next = h6.next + 13 := rfl
      generalize H.mk ((H.mk h6.tr (h6.next + 9)).new (.cells false (ints [W ((A.getD j 0).tdiv k)]))).tr (h6.next + 13) = h7 at *
      have hf7 : Fr h6 h7 := ⟨by omega, hy2⟩
      have hs7 : SI h7 (.sl (h6.next + 9) 0 1 (.kn 1)) [W ((A.getD j 0).tdiv k)] := SI.own (l := [W ((A.getD j 0).tdiv k)]) (by omega) hy1 (.kn 1)
      obtain ⟨v8, h8, e8, a8⟩ := (ho6.fr hf7).app (bytes := 8) (n := j) (m := 1) (by omega) hs7 (by rw [ints_length, List.length_map, List.length_take]; omega) rfl (by omega) (by omega)
      have ho8 := a8.own
      rw [← ints_append, ← take_map_succ (fun x => W (x.tdiv k)) A j (by omega)] at ho8
      have hn8 := a8.next
      have hap : Apart uc O := by
        rcases ho6 with ⟨r1, _⟩ | ⟨id, _, _, _, r1, _, _, r2, _⟩
        · rw [r1]; exact Apart.nils _
        · rw [r1]; exact Apart.sl (by omega)
      have hg8 : h8.get O = some (.cells false [.int .i64 (N : Int), uc]) := by rw [a8.get O (by omega) hap, hy2 O (by omega)]; exact hg6
      have hsv8 := ho8.sv
      simp (disch := first | omega | (simp only [List.length_set, List.length_replicate, List.length_append, List.length_take, List.length_drop, List.length_cons, List.length_nil, List.length_map, List.length_range, ints_length] <;> omega)) only [go_sem, e8, hsv8.st1, hg8, putO_one]
      rw [show (j : Int) + 1 = ((j + 1 : Nat) : Int) from by omega]
      refine ⟨A.length - (j + 1), by omega, j + 1, v8, ex_junk rfl, by omega, rfl, ho8.set (by omega) _, (a8.fr hb (hf6.trans hf7) (by omega)).set (by omega) _, by omega, fun i hi => ?_, rfl⟩
      by_cases hij : i = j
      · rw [hij]; exact Decidable.byContradiction hz
      · exact hdv i (by omega)
  · have : A.length = j := by omega
    subst this
    rw [List.take_length] at ho6
    have hsv := ho6.sv
    have hst3 := fun hh => stV_agg2 hh hx.next 0 (v := .int .i64 (N : Int)) (u := uc) rfl hsv.what.2.1
    have hrow := row_two (h := h6.set hx.next (some (.cells false [.int .i64 (N : Int), uc]))) (H.get_set_same ..)
    simp (disch := first | omega | (simp only [List.length_set, List.length_replicate, List.length_append, List.length_take, List.length_drop, List.length_cons, List.length_nil, List.length_map, List.length_range, ints_length] <;> omega)) only [go_sem, row_two hg6, hst3, hgr6, hrow]
    have hany : ¬ A.any (fun x => decide (x.tmod k ≠ 0)) = true := by
      rw [List.any_eq_true]
      rintro ⟨x, hx1, hx2⟩
      obtain ⟨i, hi, rfl⟩ := List.getElem_of_mem hx1
      have := hdv i hi
      rw [List.getD_eq_getElem?_getD, List.getElem?_eq_getElem hi] at this
      exact (of_decide_eq_true hx2) this
    rw [if_neg hany]
    have hco : CycO h6 (.agg [.int .i64 (N : Int), uc]) ((N : Int), A.map fun x => W (x.tdiv k)) (hx.next + 1) := ⟨uc, rfl, hsv, (Frs.own ho6).le (by omega)⟩
    exact ⟨_, rfl, (hco.set (by omega) _).le (by omega), (hF.trans hf6).set (by omega) _⟩

theorem rsign_ok (b : Bool) (h : H) : Ev T n_ref06_sign [.bool b] h (fun v h' => v = .int .i64 (if b then -1 else 1) ∧ h' = h) := by
  refine Ev_of t_ref06_sign rfl ?_
  simp (disch := first | omega | (simp only [List.length_set, List.length_replicate, List.length_append, List.length_take, List.length_drop, List.length_cons, List.length_nil, List.length_map, List.length_range, ints_length] <;> omega)) only [go_sem, c_ref06_sign, initV_eq]
  refine iteW_bool (fun hb => ?_) (fun hb => ?_)
  · simp (disch := first | omega | (simp only [List.length_set, List.length_replicate, List.length_append, List.length_take, List.length_drop, List.length_cons, List.length_nil, List.length_map, List.length_range, ints_length] <;> omega)) only [go_sem]; rw [hb]; exact ⟨rfl, trivial⟩
  · simp (disch := first | omega | (simp only [List.length_set, List.length_replicate, List.length_append, List.length_take, List.length_drop, List.length_cons, List.length_nil, List.length_map, List.length_range, ints_length] <;> omega)) only [go_sem]; rw [hb]; exact ⟨rfl, trivial⟩

theorem cmpI_eq (a : Int) : cmpI a a = 0 := by rw [cmpI, if_neg (by omega), if_neg (by omega)]
theorem cmpI_ne {a b : Int} (h : a ≠ b) : cmpI a b = (if decide (a < b) then -1 else 1) := by
  rw [cmpI]
  by_cases h1 : a < b
  · rw [if_pos h1, if_pos (decide_eq_true h1)]
  · rw [if_neg h1, if_pos (by omega), if_neg (by simpa using h1)]
theorem cmpI_nz {a b : Int} (h : a ≠ b) : cmpI a b ≠ 0 := by
  rw [cmpI_ne h]; split <;> omega

set_option maxHeartbeats 1000000 in
theorem rcmp_ok (va vb : V) (a b : Int × List Int) (h : H) (ha : CycV h va a) (hb : CycV h vb b) (hla : a.2.length < 1000000) (hlb : b.2.length < 1000000) :
    Ev T n_ref06_Cmp [va, vb] h (fun v h' => v = .int .i64 (cmpF a b) ∧ Fr h h') := by
  obtain ⟨u, rfl, hu⟩ := ha
  obtain ⟨w, rfl, hw⟩ := hb
  obtain ⟨N, A⟩ := a
  obtain ⟨M, B⟩ := b
  simp only at hu hw hla hlb
  refine Ev_of t_ref06_Cmp rfl ?_
  simp (disch := first | omega | (simp only [List.length_set, List.length_replicate, List.length_append, List.length_take, List.length_drop, List.length_cons, List.length_nil, List.length_map, List.length_range, ints_length] <;> omega)) only [go_sem, c_ref06_Cmp, initV_eq, boxV_agg2 h (v := .int .i64 N) rfl hu.what.2.1]
  have hfx : Fr h (h.new (.cells false [.int .i64 N, u])) := (Fr.refl h).new _
  have hgx : (h.new (.cells false [.int .i64 N, u])).get h.next = some (.cells false [.int .i64 N, u]) := H.get_new_same ..
  have hnx : (h.new (.cells false [.int .i64 N, u])).next = h.next + 1 := H.next_new ..
  generalize h.new (.cells false [.int .i64 N, u]) = hx at *
  simp (disch := first | omega | (simp only [List.length_set, List.length_replicate, List.length_append, List.length_take, List.length_drop, List.length_cons, List.length_nil, List.length_map, List.length_range, ints_length] <;> omega)) only [go_sem, boxV_agg2 hx (v := .int .i64 M) rfl hw.what.2.1]
  have hfy : Fr hx (hx.new (.cells false [.int .i64 M, w])) := (Fr.refl hx).new _
  have hgy : (hx.new (.cells false [.int .i64 M, w])).get hx.next = some (.cells false [.int .i64 M, w]) := H.get_new_same ..
  have hny : (hx.new (.cells false [.int .i64 M, w])).next = hx.next + 1 := H.next_new ..
  generalize hx.new (.cells false [.int .i64 M, w]) = hy at *
  have hgxy := (hfy.get h.next (by omega)).trans hgx
  have hF := hfx.trans hfy
  have c0 : hy.cell h.next 0 = some (.int .i64 N) := by rw [H.cell_of hgxy]; rfl
  have c1 : hy.cell h.next 1 = some u := by rw [H.cell_of hgxy]; rfl
  have d0 : hy.cell hx.next 0 = some (.int .i64 M) := by rw [H.cell_of hgy]; rfl
  have d1 : hy.cell hx.next 1 = some w := by rw [H.cell_of hgy]; rfl
  have c0x : hx.cell h.next 0 = some (.int .i64 N) := by rw [H.cell_of hgx]; rfl
  rw [cmpF]
  simp (disch := first | omega | (simp only [List.length_set, List.length_replicate, List.length_append, List.length_take, List.length_drop, List.length_cons, List.length_nil, List.length_map, List.length_range, ints_length] <;> omega)) only [go_sem, c0x, c0, d0]
  refine iteW_dec (fun hne => ?_) (fun heq => ?_)
  · simp (disch := first | omega | (simp only [List.length_set, List.length_replicate, List.length_append, List.length_take, List.length_drop, List.length_cons, List.length_nil, List.length_map, List.length_range, ints_length] <;> omega)) only [go_sem, c0, d0]
    refine (rsign_ok _ hy).mono ?_
    rintro v2 h2 ⟨rfl, rfl⟩
    simp (disch := first | omega | (simp only [List.length_set, List.length_replicate, List.length_append, List.length_take, List.length_drop, List.length_cons, List.length_nil, List.length_map, List.length_range, ints_length] <;> omega)) only [go_sem]
    rw [orF_first (cmpI_nz hne), cmpI_ne hne]
    exact ⟨rfl, hF⟩
  have hNM : N = M := by omega
  subst hNM
  rw [orF_second (cmpI_eq N)]
  obtain ⟨cid, coff, hcs, hcid, hcc⟩ := hu.open
  obtain ⟨did, doff, hds, hdid, hdc⟩ := hw.open
  simp (disch := first | omega | (simp only [List.length_set, List.length_replicate, List.length_append, List.length_take, List.length_drop, List.length_cons, List.length_nil, List.length_map, List.length_range, ints_length] <;> omega)) only [go_sem]
  refine Wp_loop (fun k' vars h6 => ∃ (j : Nat), (∃ g : Nat → V, vars = [g 0, g 1, .ptr h.next 0, .ptr hx.next 0, g 4, .int .i64 (j : Int), g 6, g 7, g 8, g 9]) ∧ j ≤ A.length ∧ j ≤ B.length ∧ Fr hy h6 ∧ cmpL (A.drop j) (B.drop j) = cmpL A B ∧ k' = A.length - j) A.length
    ⟨0, ex_junk rfl, Nat.zero_le _, Nat.zero_le _, Fr.refl hy, rfl, rfl⟩ ?_
  rintro k' vars h6 ⟨j, ⟨g, rfl⟩, hjA, hjB, hf6, hcm, rfl⟩
  have cx : ∀ n, (H.mk h6.tr n).cell h.next 1 = some u := fun n => by
    rw [H.cell_next, hf6.cell (by omega)]; exact c1
  have dx : ∀ n, (H.mk h6.tr n).cell hx.next 1 = some w := fun n => by
    rw [H.cell_next, hf6.cell (by omega)]; exact d1
  have cx' : h6.cell h.next 1 = some u := cx h6.next
  have dx' : h6.cell hx.next 1 = some w := dx h6.next
  simp (disch := first | omega | (simp only [List.length_set, List.length_replicate, List.length_append, List.length_take, List.length_drop, List.length_cons, List.length_nil, List.length_map, List.length_range, ints_length] <;> omega)) only [go_sem, cx', hu.lens]
  by_cases h1 : (j : Int) < (A.length : Int)
  · rw [decide_eq_true h1]
    simp (disch := first | omega | (simp only [List.length_set, List.length_replicate, List.length_append, List.length_take, List.length_drop, List.length_cons, List.length_nil, List.length_map, List.length_range, ints_length] <;> omega)) only [go_sem, dx', hw.lens]
    refine iteW_dec (fun h2 => ?_) (fun h2 => ?_)
    · have hcc6 := cells_fr (hF.trans hf6) hcid hcc
      have hdc6 := cells_fr (hF.trans hf6) hdid hdc
      rw [drop_getD A j (by omega), drop_getD B j (by omega), cmpL] at hcm
      simp (disch := first | omega | (simp only [List.length_set, List.length_replicate, List.length_append, List.length_take, List.length_drop, List.length_cons, List.length_nil, List.length_map, List.length_range, ints_length] <;> omega)) only [go_sem, cx', dx', hcs.ixa, hcc6, hds.ixa, hdc6]
      refine iteW_dec (fun h3 => ?_) (fun h3 => ?_)
      · simp (disch := first | omega | (simp only [List.length_set, List.length_replicate, List.length_append, List.length_take, List.length_drop, List.length_cons, List.length_nil, List.length_map, List.length_range, ints_length] <;> omega)) only [go_sem, cx', dx', hcs.ixa, hcc6, hds.ixa, hdc6]
        refine (rsign_ok _ _).mono ?_
        rintro v2 h2' ⟨rfl, rfl⟩
        simp (disch := first | omega | (simp only [List.length_set, List.length_replicate, List.length_append, List.length_take, List.length_drop, List.length_cons, List.length_nil, List.length_map, List.length_range, ints_length] <;> omega)) only [go_sem]
        rw [if_pos (cmpI_nz h3), cmpI_ne h3] at hcm
        rw [← hcm]
        exact ⟨rfl, (hF.trans hf6).bump (by omega)⟩
      · have h3' : A.getD j 0 = B.getD j 0 := by omega
        rw [h3', cmpI_eq, if_neg (by omega)] at hcm
        simp (disch := first | omega | (simp only [List.length_set, List.length_replicate, List.length_append, List.length_take, List.length_drop, List.length_cons, List.length_nil, List.length_map, List.length_range, ints_length] <;> omega)) only [go_sem]
        rw [show (j : Int) + 1 = ((j + 1 : Nat) : Int) from by omega]
        exact ⟨A.length - (j + 1), by omega, j + 1, ex_junk rfl, by omega, by omega, hf6.bump (by omega), hcm, rfl⟩
    · have hjb : j = B.length := by omega
      simp (disch := first | omega | (simp only [List.length_set, List.length_replicate, List.length_append, List.length_take, List.length_drop, List.length_cons, List.length_nil, List.length_map, List.length_range, ints_length] <;> omega)) only [go_sem, cx', dx', hu.lens, hw.lens]
      rw [decide_eq_true (show (A.length : Int) ≠ (B.length : Int) by omega)]
      simp (disch := first | omega | (simp only [List.length_set, List.length_replicate, List.length_append, List.length_take, List.length_drop, List.length_cons, List.length_nil, List.length_map, List.length_range, ints_length] <;> omega)) only [go_sem, cx', dx', hu.lens, hw.lens]
      refine (rsign_ok _ _).mono ?_
      rintro v2 h2' ⟨rfl, rfl⟩
      simp (disch := first | omega | (simp only [List.length_set, List.length_replicate, List.length_append, List.length_take, List.length_drop, List.length_cons, List.length_nil, List.length_map, List.length_range, ints_length] <;> omega)) only [go_sem]
      rw [drop_getD A j (by omega), hjb, List.drop_length, cmpL] at hcm
      rw [← hcm, if_neg (by simp; omega)]
      exact ⟨rfl, hF.trans hf6⟩
  · rw [decide_eq_false h1]
    have hja : j = A.length := by omega
    simp (disch := first | omega | (simp only [List.length_set, List.length_replicate, List.length_append, List.length_take, List.length_drop, List.length_cons, List.length_nil, List.length_map, List.length_range, ints_length] <;> omega)) only [go_sem, cx', dx', hu.lens, hw.lens]
    refine iteW_dec (fun h3 => ?_) (fun h3 => ?_)
    · simp (disch := first | omega | (simp only [List.length_set, List.length_replicate, List.length_append, List.length_take, List.length_drop, List.length_cons, List.length_nil, List.length_map, List.length_range, ints_length] <;> omega)) only [go_sem, cx', dx', hu.lens, hw.lens]
      refine (rsign_ok _ _).mono ?_
      rintro v2 h2' ⟨rfl, rfl⟩
      simp (disch := first | omega | (simp only [List.length_set, List.length_replicate, List.length_append, List.length_take, List.length_drop, List.length_cons, List.length_nil, List.length_map, List.length_range, ints_length] <;> omega)) only [go_sem]
      rw [hja, List.drop_length, drop_getD B A.length (by omega), cmpL] at hcm
      rw [← hcm, if_pos (by simp; omega)]
      exact ⟨rfl, hF.trans hf6⟩
    · simp (disch := first | omega | (simp only [List.length_set, List.length_replicate, List.length_append, List.length_take, List.length_drop, List.length_cons, List.length_nil, List.length_map, List.length_range, ints_length] <;> omega)) only [go_sem]
      rw [hja, List.drop_length, show A.length = B.length by omega, List.drop_length, cmpL] at hcm
      rw [← hcm]
      exact ⟨rfl, hF.trans hf6⟩
end
end Go.Proofs.Ythfabknpogbcaaa
/- Contracts: the laws' own helpers. -/
namespace Go.Proofs.Ythfabknpogbcaaa
open Go Go.Ay
set_option maxRecDepth 100000
noncomputable section

theorem lawroot_ok (n k : Int) (h : H) : Ev T n_law06_root [.int .i64 n, .int .i64 k] h (fun v h' => CycO h' v (rootF n k).1 h.next ∧ Fr h h') := by
  refine Ev_of t_law06_root rfl ?_
  simp (disch := first | omega | (simp only [List.length_set, List.length_replicate, List.length_append, List.length_take, List.length_drop, List.length_cons, List.length_nil, List.length_map, List.length_range, ints_length] <;> omega)) only [go_sem, c_law06_root, initV_eq]
  have hfa : Fr h (h.new (.cells false [.int .i64 0, .nils])) := (Fr.refl h).new _
  have hga : (h.new (.cells false [.int .i64 0, .nils])).get h.next = some (.cells false [.int .i64 0, .nils]) := H.get_new_same ..
  have hna : (h.new (.cells false [.int .i64 0, .nils])).next = h.next + 1 := H.next_new ..
  generalize h.new (.cells false [.int .i64 0, .nils]) = ha at *
  refine (Root_ok n k ha).mono ?_
  rintro v1 h1 ⟨w, rfl, ⟨u, rfl, hu, hfu⟩, hf1⟩
  generalize rootF n k = R at *
  have hst := fun hh id => stV_agg2 hh id 0 (v := .int .i64 R.1.1) (u := u) rfl hu.what.2.1
  have hn1 := hf1.next
  have hg1 := (hf1.get h.next (by omega)).trans hga
  have hr1 := row_two (h := (h1.new (.cells false [.int .i64 0, .nils])).set h1.next (some (.cells false [.int .i64 R.1.1, u]))) (H.get_set_same ..)
  have hr2 := row_two (h := ((h1.new (.cells false [.int .i64 0, .nils])).set h1.next (some (.cells false [.int .i64 R.1.1, u]))).set h.next (some (.cells false [.int .i64 R.1.1, u]))) (H.get_set_same ..)
  simp (disch := first | omega | (simp only [List.length_set, List.length_replicate, List.length_append, List.length_take, List.length_drop, List.length_cons, List.length_nil, List.length_map, List.length_range, ints_length] <;> omega)) only [go_sem, hst, hr1, hg1, hr2]
  have f2 : Fr h1 ((h1.new (.cells false [.int .i64 0, .nils])).set h1.next (some (.cells false [.int .i64 R.1.1, u]))) := ((Fr.refl h1).new _).set (Nat.le_refl _) _
  have hc : CycO h1 (.agg [.int .i64 R.1.1, u]) R.1 ha.next := ⟨u, rfl, hu, hfu⟩
  exact ⟨((hc.mono f2).set (x := h.next) (by omega) _).le (by omega), ((hfa.trans hf1).trans f2).set (Nat.le_refl _) _⟩

theorem lawsame_ok (va vb : V) (a b : Int × List Int) (h : H) (ha : CycV h va a) (hb : CycV h vb b) (hla : a.2.length < 1000000) (hlb : b.2.length < 1000000) :
    Ev T n_law06_same [va, vb] h (fun v h' => v = .bool (decide (a = b)) ∧ Fr h h') := by
  obtain ⟨u, rfl, hu⟩ := ha
  obtain ⟨w, rfl, hw⟩ := hb
  obtain ⟨N, A⟩ := a
  obtain ⟨M, B⟩ := b
  simp only at hu hw hla hlb
  refine Ev_of t_law06_same rfl ?_
  simp (disch := first | omega | (simp only [List.length_set, List.length_replicate, List.length_append, List.length_take, List.length_drop, List.length_cons, List.length_nil, List.length_map, List.length_range, ints_length] <;> omega)) only [go_sem, c_law06_same, initV_eq, boxV_agg2 h (v := .int .i64 N) rfl hu.what.2.1]
  have hfx : Fr h (h.new (.cells false [.int .i64 N, u])) := (Fr.refl h).new _
  have hgx : (h.new (.cells false [.int .i64 N, u])).get h.next = some (.cells false [.int .i64 N, u]) := H.get_new_same ..
  have hnx : (h.new (.cells false [.int .i64 N, u])).next = h.next + 1 := H.next_new ..
  generalize h.new (.cells false [.int .i64 N, u]) = hx at *
  have x0 : hx.cell h.next 0 = some (.int .i64 N) := by rw [H.cell_of hgx]; rfl
  have x1 : hx.cell h.next 1 = some u := by rw [H.cell_of hgx]; rfl
  simp (disch := first | omega | (simp only [List.length_set, List.length_replicate, List.length_append, List.length_take, List.length_drop, List.length_cons, List.length_nil, List.length_map, List.length_range, ints_length] <;> omega)) only [go_sem, boxV_agg2 hx (v := .int .i64 M) rfl hw.what.2.1, x0, x1]
  have hfy : Fr hx (hx.new (.cells false [.int .i64 M, w])) := (Fr.refl hx).new _
  have hgy : (hx.new (.cells false [.int .i64 M, w])).get hx.next = some (.cells false [.int .i64 M, w]) := H.get_new_same ..
  have c1 : (hx.new (.cells false [.int .i64 M, w])).cell hx.next 1 = some w := by rw [H.cell_of hgy]; rfl
  generalize hx.new (.cells false [.int .i64 M, w]) = hy at *
  have y1 : hy.cell h.next 1 = some u := by rw [hfy.cell (by omega)]; exact x1
  have hF := hfx.trans hfy
  by_cases hNM : N = M
  · rw [decide_eq_true hNM]
    simp (disch := first | omega | (simp only [List.length_set, List.length_replicate, List.length_append, List.length_take, List.length_drop, List.length_cons, List.length_nil, List.length_map, List.length_range, ints_length] <;> omega)) only [go_sem, y1, c1]
    refine (same_ok u w A B hy (hu.mono hF) (hw.mono hF) hla hlb).mono ?_
    rintro v3 h3 ⟨rfl, hf3⟩
    simp (disch := first | omega | (simp only [List.length_set, List.length_replicate, List.length_append, List.length_take, List.length_drop, List.length_cons, List.length_nil, List.length_map, List.length_range, ints_length] <;> omega)) only [go_sem]
    exact ⟨by simp [hNM], hF.trans hf3⟩
  · rw [decide_eq_false hNM]
    simp (disch := first | omega | (simp only [List.length_set, List.length_replicate, List.length_append, List.length_take, List.length_drop, List.length_cons, List.length_nil, List.length_map, List.length_range, ints_length] <;> omega)) only [go_sem]
    exact ⟨by simp [hNM], hF⟩

theorem is_ok (va vc : V) (a : Int × List Int) (e n : Int) (c : List Int) (h : H) (ha : CycV h va a) (hc : SI h vc c) (hla : a.2.length < 1000000) (hlc : c.length < 1000000) :
    Ev T n_law06_is [va, .int .i64 e, .int .i64 n, vc] h (fun v h' => v = .bool (decide (e = 0 ∧ a = (n, c))) ∧ Fr h h') := by
  obtain ⟨u, rfl, hu⟩ := ha
  obtain ⟨N, A⟩ := a
  simp only at hu hla
  refine Ev_of t_law06_is rfl ?_
  simp (disch := first | omega | (simp only [List.length_set, List.length_replicate, List.length_append, List.length_take, List.length_drop, List.length_cons, List.length_nil, List.length_map, List.length_range, ints_length] <;> omega)) only [go_sem, c_law06_is, initV_eq, boxV_agg2 h (v := .int .i64 N) rfl hu.what.2.1]
  have hfx : Fr h (h.new (.cells false [.int .i64 N, u])) := (Fr.refl h).new _
  have hgx : (h.new (.cells false [.int .i64 N, u])).get h.next = some (.cells false [.int .i64 N, u]) := H.get_new_same ..
  generalize h.new (.cells false [.int .i64 N, u]) = hx at *
  by_cases he : e = 0
  · rw [decide_eq_true he]
    have hbl := bldV_two (z1 := .int .i64 0) (z2 := .nils) (v := .int .i64 n) (u := vc) rfl rfl hc.what.1 hc.what.2.1
    simp (disch := first | omega | (simp only [List.length_set, List.length_replicate, List.length_append, List.length_take, List.length_drop, List.length_cons, List.length_nil, List.length_map, List.length_range, ints_length] <;> omega)) only [go_sem, row_two hgx, hbl]
    refine (lawsame_ok _ _ (N, A) (n, c) hx ⟨u, rfl, hu.mono hfx⟩ ⟨vc, rfl, hc.mono hfx⟩ hla hlc).mono ?_
    rintro v3 h3 ⟨rfl, hf3⟩
    simp (disch := first | omega | (simp only [List.length_set, List.length_replicate, List.length_append, List.length_take, List.length_drop, List.length_cons, List.length_nil, List.length_map, List.length_range, ints_length] <;> omega)) only [go_sem]
    exact ⟨by simp [he], hfx.trans hf3⟩
  · rw [decide_eq_false he]
    simp (disch := first | omega | (simp only [List.length_set, List.length_replicate, List.length_append, List.length_take, List.length_drop, List.length_cons, List.length_nil, List.length_map, List.length_range, ints_length] <;> omega)) only [go_sem]
    exact ⟨by simp [he], hfx⟩

theorem bad_ok (va : V) (a : Int × List Int) (e w : Int) (h : H) (ha : CycV h va a) (hla : a.2.length < 1000000) :
    Ev T n_law06_bad [va, .int .i64 e, .int .i64 w] h (fun v h' => v = .bool (decide (e = w ∧ a = (0, []))) ∧ Fr h h') := by
  obtain ⟨u, rfl, hu⟩ := ha
  obtain ⟨N, A⟩ := a
  simp only at hu hla
  refine Ev_of t_law06_bad rfl ?_
  simp (disch := first | omega | (simp only [List.length_set, List.length_replicate, List.length_append, List.length_take, List.length_drop, List.length_cons, List.length_nil, List.length_map, List.length_range, ints_length] <;> omega)) only [go_sem, c_law06_bad, initV_eq, boxV_agg2 h (v := .int .i64 N) rfl hu.what.2.1]
  have hfx : Fr h (h.new (.cells false [.int .i64 N, u])) := (Fr.refl h).new _
  have hgx : (h.new (.cells false [.int .i64 N, u])).get h.next = some (.cells false [.int .i64 N, u]) := H.get_new_same ..
  generalize h.new (.cells false [.int .i64 N, u]) = hx at *
  have x0 : hx.cell h.next 0 = some (.int .i64 N) := by rw [H.cell_of hgx]; rfl
  have x1 : hx.cell h.next 1 = some u := by rw [H.cell_of hgx]; rfl
  by_cases he : e = w
  · rw [decide_eq_true he]
    simp (disch := first | omega | (simp only [List.length_set, List.length_replicate, List.length_append, List.length_take, List.length_drop, List.length_cons, List.length_nil, List.length_map, List.length_range, ints_length] <;> omega)) only [go_sem, x0]
    by_cases hN : N = 0
    · rw [decide_eq_true hN]
      simp (disch := first | omega | (simp only [List.length_set, List.length_replicate, List.length_append, List.length_take, List.length_drop, List.length_cons, List.length_nil, List.length_map, List.length_range, ints_length] <;> omega)) only [go_sem, x1, (hu.mono hfx).lens]
      refine ⟨?_, hfx⟩
      congr 1
      rw [Bool.eq_iff_iff]
      simp only [decide_eq_true_eq, he, hN, true_and, Prod.mk.injEq]
      constructor
      · intro h; exact List.eq_nil_of_length_eq_zero (by omega)
      · intro h; rw [h]; rfl
    · rw [decide_eq_false hN]
      simp (disch := first | omega | (simp only [List.length_set, List.length_replicate, List.length_append, List.length_take, List.length_drop, List.length_cons, List.length_nil, List.length_map, List.length_range, ints_length] <;> omega)) only [go_sem]
      exact ⟨by simp [hN], hfx⟩
  · rw [decide_eq_false he]
    simp (disch := first | omega | (simp only [List.length_set, List.length_replicate, List.length_append, List.length_take, List.length_drop, List.length_cons, List.length_nil, List.length_map, List.length_range, ints_length] <;> omega)) only [go_sem]
    exact ⟨by simp [he], hfx⟩

/-! boxes of numbers -/
def Bx (h : H) (id : Nat) (a : Int × List Int) : Prop := ∃ u, h.get id = some (.cells false [.int .i64 a.1, u]) ∧ SI h u a.2 ∧ id < h.next
theorem Bx.mono {h h' : H} {id : Nat} {a : Int × List Int} (b : Bx h id a) (f : Fr h h') : Bx h' id a := by
  obtain ⟨u, h1, h2, h3⟩ := b; exact ⟨u, by rw [f.get id h3]; exact h1, h2.mono f, Nat.lt_of_lt_of_le h3 f.next⟩
def Bxs (h : H) (L : List (Nat × (Int × List Int))) : Prop := ∀ (i : Nat) (p : Nat × (Int × List Int)), L[i]? = some p → Bx h p.1 p.2
theorem Bxs.nil (h : H) : Bxs h [] := fun i p e => by cases e
theorem Bxs.mono {h h' : H} {L : List (Nat × (Int × List Int))} (b : Bxs h L) (f : Fr h h') : Bxs h' L := fun i p e => (b i p e).mono f
theorem Bxs.snoc {h : H} {L : List (Nat × (Int × List Int))} (b : Bxs h L) {id : Nat} {a : Int × List Int} (x : Bx h id a) : Bxs h (L ++ [(id, a)]) := fun i p e => by
  rw [List.getElem?_append] at e
  split at e
  · exact b i p e
  · rename_i hi
    cases hk : i - L.length with
    | zero => rw [hk] at e; cases e; exact x
    | succ k => rw [hk] at e; cases e
/-- A new box, filled. -/
def bxH (h : H) (N : Int) (u : V) : H := (h.new (.cells false [.int .i64 0, .nils])).set h.next (some (.cells false [.int .i64 N, u]))
theorem bxH_eq (h : H) (N : Int) (u : V) : (h.new (.cells false [.int .i64 0, .nils])).set h.next (some (.cells false [.int .i64 N, u])) = bxH h N u := rfl
theorem bxH_fr (h : H) (N : Int) (u : V) : Fr h (bxH h N u) := ((Fr.refl h).new _).set (Nat.le_refl _) _
theorem bxH_bx (h : H) {N : Int} {A : List Int} {u : V} (s : SI h u A) : Bx (bxH h N u) h.next (N, A) := ⟨u, H.get_set_same .., s.mono (bxH_fr h N u), by rw [bxH, H.next_set, H.next_new]; omega⟩
theorem Bx.cv {h : H} {id : Nat} {a : Int × List Int} (b : Bx h id a) : ∃ u, h.row id 0 2 = some [.int .i64 a.1, u] ∧ CycV h (.agg [.int .i64 a.1, u]) a := by
  obtain ⟨u, h1, h2, _⟩ := b; exact ⟨u, row_two h1, u, rfl, h2⟩
end
end Go.Proofs.Ythfabknpogbcaaa
/- Literals and boxes for straight walks. -/
namespace Go.Proofs.Ythfabknpogbcaaa
open Go Go.Ay
set_option maxRecDepth 100000
noncomputable section

theorem bls_one (h : H) (a : Int) : blsV h 1 [.int .i64 0] 1 [(0, 1, .int .i64 a)] = some (.sl h.next 0 1 (.kn 1), h.new (.cells false (ints [a]))) := rfl
theorem bls_two (h : H) (a b : Int) : blsV h 1 [.int .i64 0] 2 [(0, 1, .int .i64 a), (1, 1, .int .i64 b)] = some (.sl h.next 0 2 (.kn 2), h.new (.cells false (ints [a, b]))) := rfl
theorem bls_four (h : H) (a b c d : Int) : blsV h 1 [.int .i64 0] 4 [(0, 1, .int .i64 a), (1, 1, .int .i64 b), (2, 1, .int .i64 c), (3, 1, .int .i64 d)] = some (.sl h.next 0 4 (.kn 4), h.new (.cells false (ints [a, b, c, d]))) := rfl
theorem bls_five (h : H) (a b c d e : Int) : blsV h 1 [.int .i64 0] 5 [(0, 1, .int .i64 a), (1, 1, .int .i64 b), (2, 1, .int .i64 c), (3, 1, .int .i64 d), (4, 1, .int .i64 e)] = some (.sl h.next 0 5 (.kn 5), h.new (.cells false (ints [a, b, c, d, e]))) := rfl
theorem bls_six (h : H) (a b c d e f : Int) : blsV h 1 [.int .i64 0] 6 [(0, 1, .int .i64 a), (1, 1, .int .i64 b), (2, 1, .int .i64 c), (3, 1, .int .i64 d), (4, 1, .int .i64 e), (5, 1, .int .i64 f)] = some (.sl h.next 0 6 (.kn 6), h.new (.cells false (ints [a, b, c, d, e, f]))) := rfl
/-- A literal list. -/
theorem lit_si (h : H) (l : List Int) (n : Nat) (hn : l.length = n) : SI (h.new (.cells false (ints l))) (.sl h.next 0 n (.kn n)) l := by
  subst hn; exact SI.own (h := h.new (.cells false (ints l))) (id := h.next) (by rw [H.next_new]; omega) (H.get_new_same ..) _
theorem lit_fr (h : H) (l : List Int) : Fr h (h.new (.cells false (ints l))) := (Fr.refl h).new _
theorem Bx.cv' {h : H} {id : Nat} {N : Int} {A : List Int} (b : Bx h id (N, A)) : ∃ u, h.row id 0 2 = some [.int .i64 N, u] ∧ CycV h (.agg [.int .i64 N, u]) (N, A) := b.cv
theorem Bxs.at {h : H} {L : List (Nat × (Int × List Int))} (b : Bxs h L) (i id : Nat) (N : Int) (A : List Int) (e : L[i]? = some (id, (N, A))) : ∃ u, h.row id 0 2 = some [.int .i64 N, u] ∧ CycV h (.agg [.int .i64 N, u]) (N, A) := (b i _ e).cv'
/-- A literal struct. -/
theorem lit_bld (n : Int) (vc : V) {h : H} {l : List Int} (hc : SI h vc l) : bldV [.int .i64 0, .nils] [(0, 1, .int .i64 n), (1, 1, vc)] = some (.agg [.int .i64 n, vc]) :=
  bldV_two (z1 := .int .i64 0) (z2 := .nils) (v := .int .i64 n) (u := vc) rfl rfl hc.what.1 hc.what.2.1
theorem nil_bld : bldV [.int .i64 0, .nils] [] = some (.agg [.int .i64 0, .nils]) := rfl
end
end Go.Proofs.Ythfabknpogbcaaa
/- Contracts: the chapter's examples. -/
namespace Go.Proofs.Ythfabknpogbcaaa
open Go Go.Ay
set_option maxRecDepth 100000
noncomputable section
theorem lives_val0 : rootF 6 1 = ((3, [1, 1]), 0) := by decide +kernel
theorem lives_val1 : rootF 8 1 = ((8, [0, 1, 0, 0]), 0) := by decide +kernel
theorem lives_val2 : rootF 8 7 = ((8, [0, 0, 0, -1]), 0) := by decide +kernel
theorem lives_val3 : addF (8, [0, 1, 0, 0]) (8, [0, 0, 0, -1]) = ((8, [0, 1, 0, -1]), 0) := by decide +kernel
theorem lives_val4 : mulF (8, [0, 1, 0, -1]) (8, [0, 1, 0, -1]) = ((1, [2]), 0) := by decide +kernel

set_option maxHeartbeats 8000000 in
theorem lives_ok (h : H) : Ev T n_law06_lives [] h (fun v h' => v = .bool true ∧ Fr h h') := by
  refine Ev_of t_law06_lives rfl ?_
  simp (disch := first | omega | (simp only [List.length_set, List.length_replicate, List.length_append, List.length_take, List.length_drop, List.length_cons, List.length_nil, List.length_map, List.length_range, ints_length] <;> omega)) only [go_sem, c_law06_lives, initV_eq]
  have g := Fr.refl h
  have b := Bxs.nil h
  refine (Root_ok 6 1 h).mono ?_
  rintro v1 h1 ⟨w, rfl, ⟨u1, rfl, hu1, -⟩, f1⟩
  simp only [lives_val0] at hu1 ⊢
  have st := fun hh id => stV_agg2 hh id 0 (v := .int .i64 3) (u := u1) rfl hu1.what.2.1
  simp (disch := first | omega | (simp only [List.length_set, List.length_replicate, List.length_append, List.length_take, List.length_drop, List.length_cons, List.length_nil, List.length_map, List.length_range, ints_length] <;> omega)) only [go_sem, decide_true, st, bxH_eq]
  have fx := f1.trans (bxH_fr h1 3 u1)
  replace b := b.mono (fx)
  replace g := g.trans (fx)
  replace b := b.snoc (bxH_bx h1 (N := 3) hu1)
  clear fx st hu1
  generalize h1.next = i1 at *
  generalize bxH h1 3 u1 = k1 at *
  refine (lawroot_ok 8 1 _).mono ?_
  rintro w2 k2 ⟨c2, f2⟩
  rw [lives_val1] at c2
  replace b := b.mono (f2)
  replace g := g.trans (f2)
  simp (disch := first | omega | (simp only [List.length_set, List.length_replicate, List.length_append, List.length_take, List.length_drop, List.length_cons, List.length_nil, List.length_map, List.length_range, ints_length] <;> omega)) only [go_sem, decide_true]
  refine (lawroot_ok 8 7 _).mono ?_
  rintro w3 k3 ⟨c3, f3⟩
  rw [lives_val2] at c3
  replace b := b.mono (f3)
  replace g := g.trans (f3)
  simp (disch := first | omega | (simp only [List.length_set, List.length_replicate, List.length_append, List.length_take, List.length_drop, List.length_cons, List.length_nil, List.length_map, List.length_range, ints_length] <;> omega)) only [go_sem, decide_true]
  refine (add_ok w2 w3 _ _ k3 (c2.mono f3).cv c3.cv (by decide) (by decide)).mono ?_
  rintro v4 h4 ⟨w, rfl, ⟨u4, rfl, hu4, -⟩, f4⟩
  simp only [lives_val3] at hu4 ⊢
  have st := fun hh id => stV_agg2 hh id 0 (v := .int .i64 8) (u := u4) rfl hu4.what.2.1
  simp (disch := first | omega | (simp only [List.length_set, List.length_replicate, List.length_append, List.length_take, List.length_drop, List.length_cons, List.length_nil, List.length_map, List.length_range, ints_length] <;> omega)) only [go_sem, decide_true, st, bxH_eq]
  have fx := f4.trans (bxH_fr h4 8 u4)
  replace b := b.mono (fx)
  replace g := g.trans (fx)
  replace b := b.snoc (bxH_bx h4 (N := 8) hu4)
  clear fx st hu4
  generalize h4.next = i4 at *
  generalize bxH h4 8 u4 = k4 at *
  obtain ⟨u5, r5, c5⟩ := b.at 1 i4 8 [0, 1, 0, -1] rfl
  simp (disch := first | omega | (simp only [List.length_set, List.length_replicate, List.length_append, List.length_take, List.length_drop, List.length_cons, List.length_nil, List.length_map, List.length_range, ints_length] <;> omega)) only [go_sem, decide_true, r5]
  refine (mul_ok _ _ _ _ _ c5 c5 (by decide) (by decide)).mono ?_
  rintro v6 h6 ⟨w, rfl, ⟨u6, rfl, hu6, -⟩, f6⟩
  simp only [lives_val4] at hu6 ⊢
  have st := fun hh id => stV_agg2 hh id 0 (v := .int .i64 1) (u := u6) rfl hu6.what.2.1
  simp (disch := first | omega | (simp only [List.length_set, List.length_replicate, List.length_append, List.length_take, List.length_drop, List.length_cons, List.length_nil, List.length_map, List.length_range, ints_length] <;> omega)) only [go_sem, decide_true, st, bxH_eq]
  have fx := f6.trans (bxH_fr h6 1 u6)
  replace b := b.mono (fx)
  replace g := g.trans (fx)
  replace b := b.snoc (bxH_bx h6 (N := 1) hu6)
  clear fx st hu6
  generalize h6.next = i6 at *
  generalize bxH h6 1 u6 = k6 at *
  obtain ⟨u7, r7, c7⟩ := b.at 0 i1 3 [1, 1] rfl
  simp (disch := first | omega | (simp only [List.length_set, List.length_replicate, List.length_append, List.length_take, List.length_drop, List.length_cons, List.length_nil, List.length_map, List.length_range, ints_length] <;> omega)) only [go_sem, decide_true, r7, bls_two]
  refine (is_ok _ _ _ 0 3 [1, 1] _ (c7.mono (lit_fr _ [1, 1])) (lit_si _ [1, 1] 2 rfl) (by decide) (by decide)).mono ?_
  rintro v8 k8 ⟨rfl, f8⟩
  rw [show decide ((0 : Int) = 0 ∧ ((3, [1, 1]) : Int × List Int) = (3, [1, 1])) = true from by decide]
  replace b := b.mono ((lit_fr _ [1, 1]).trans f8)
  replace g := g.trans ((lit_fr _ [1, 1]).trans f8)
  obtain ⟨u9, r9, c9⟩ := b.at 1 i4 8 [0, 1, 0, -1] rfl
  simp (disch := first | omega | (simp only [List.length_set, List.length_replicate, List.length_append, List.length_take, List.length_drop, List.length_cons, List.length_nil, List.length_map, List.length_range, ints_length] <;> omega)) only [go_sem, decide_true, r9, bls_four]
  refine (is_ok _ _ _ 0 8 [0, 1, 0, -1] _ (c9.mono (lit_fr _ [0, 1, 0, -1])) (lit_si _ [0, 1, 0, -1] 4 rfl) (by decide) (by decide)).mono ?_
  rintro v10 k10 ⟨rfl, f10⟩
  rw [show decide ((0 : Int) = 0 ∧ ((8, [0, 1, 0, -1]) : Int × List Int) = (8, [0, 1, 0, -1])) = true from by decide]
  replace b := b.mono ((lit_fr _ [0, 1, 0, -1]).trans f10)
  replace g := g.trans ((lit_fr _ [0, 1, 0, -1]).trans f10)
  obtain ⟨u11, r11, c11⟩ := b.at 2 i6 1 [2] rfl
  simp (disch := first | omega | (simp only [List.length_set, List.length_replicate, List.length_append, List.length_take, List.length_drop, List.length_cons, List.length_nil, List.length_map, List.length_range, ints_length] <;> omega)) only [go_sem, decide_true, r11, bls_one]
  refine (is_ok _ _ _ 0 1 [2] _ (c11.mono (lit_fr _ [2])) (lit_si _ [2] 1 rfl) (by decide) (by decide)).mono ?_
  rintro v12 k12 ⟨rfl, f12⟩
  rw [show decide ((0 : Int) = 0 ∧ ((1, [2]) : Int × List Int) = (1, [2])) = true from by decide]
  replace b := b.mono ((lit_fr _ [2]).trans f12)
  replace g := g.trans ((lit_fr _ [2]).trans f12)
  simp (disch := first | omega | (simp only [List.length_set, List.length_replicate, List.length_append, List.length_take, List.length_drop, List.length_cons, List.length_nil, List.length_map, List.length_range, ints_length] <;> omega)) only [go_sem, decide_true]
  exact g
end
end Go.Proofs.Ythfabknpogbcaaa
