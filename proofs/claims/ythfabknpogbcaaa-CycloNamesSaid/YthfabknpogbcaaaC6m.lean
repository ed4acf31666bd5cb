/- Contracts: Mul. -/
import Derived.Test.YthfabknpogbcaaaC6l
namespace Go.Proofs.Ythfabknpogbcaaa
open Go Go.Ay
set_option maxRecDepth 100000
noncomputable section

def mulR (n N M : Nat) (A B : List Int) (i : Nat) (l : List Int) : List Int := accF (fun k => (i * (n / N) + k * (n / M)) % n) (fun k => W (A.getD i 0 * B.getD k 0)) l B.length
def mulS (n N M : Nat) (A B : List Int) : Nat → List Int
  | 0 => List.replicate n 0
  | i + 1 => mulR n N M A B i (mulS n N M A B i)
theorem mulS_len (n N M : Nat) (A B : List Int) : ∀ i, (mulS n N M A B i).length = n
  | 0 => List.length_replicate
  | i + 1 => by rw [mulS, mulR, accF_len, mulS_len n N M A B i]
def mulF (a b : Int × List Int) : (Int × List Int) × Int :=
  if (commonF a b).2 ≠ 0 then ((0, []), (commonF a b).2) else
    madeF (commonF a b).1.toNat (mulS (commonF a b).1.toNat a.1.toNat b.1.toNat a.2 b.2 a.2.length)

set_option maxHeartbeats 1000000 in
theorem mul_ok (va vb : V) (a b : Int × List Int) (h : H) (ha : CycV h va a) (hb : CycV h vb b) (hla : a.2.length < 1000000) (hlb : b.2.length < 1000000) :
    Ev T n_cyclo_Mul [va, vb] h (fun v h' => ∃ w, v = .tup [w, .int .i64 (mulF a b).2] ∧ CycO h' w (mulF a b).1 h.next ∧ Fr h h') := by
  obtain ⟨u, rfl, hu⟩ := ha
  obtain ⟨w, rfl, hw⟩ := hb
  obtain ⟨N, A⟩ := a
  obtain ⟨M, B⟩ := b
  simp only at hu hw hla hlb
  refine Ev_of t_cyclo_Mul rfl ?_
  simp (disch := first | omega | (simp only [List.length_set, List.length_replicate, List.length_append, List.length_take, List.length_drop, List.length_cons, List.length_nil, List.length_map, List.length_range, ints_length] <;> omega)) only [go_sem, c_cyclo_Mul, initV_eq, boxV_agg2 h (v := .int .i64 N) rfl hu.what.2.1]
  have hfx : Fr h (h.new (.cells false [.int .i64 N, u])) := (Fr.refl h).new _
  have hgx : (h.new (.cells false [.int .i64 N, u])).get h.next = some (.cells false [.int .i64 N, u]) := H.get_new_same ..
  have hnx : (h.new (.cells false [.int .i64 N, u])).next = h.next + 1 := H.next_new ..
  generalize h.new (.cells false [.int .i64 N, u]) = hx at *
  simp (disch := first | omega | (simp only [List.length_set, List.length_replicate, List.length_append, List.length_take, List.length_drop, List.length_cons, List.length_nil, List.length_map, List.length_range, ints_length] <;> omega)) only [go_sem, boxV_agg2 hx (v := .int .i64 M) rfl hw.what.2.1]
  have hfy : Fr hx (hx.new (.cells false [.int .i64 M, w])) := (Fr.refl hx).new _
  have hgy : (hx.new (.cells false [.int .i64 M, w])).get hx.next = some (.cells false [.int .i64 M, w]) := H.get_new_same ..
  have hny : (hx.new (.cells false [.int .i64 M, w])).next = hx.next + 1 := H.next_new ..
  generalize hx.new (.cells false [.int .i64 M, w]) = hy at *
  rw [← hny]
  have hfa : Fr hy (hy.new (.cells false [.int .i64 0, .nils])) := (Fr.refl hy).new _
  have hga : (hy.new (.cells false [.int .i64 0, .nils])).get hy.next = some (.cells false [.int .i64 0, .nils]) := H.get_new_same ..
  have hna : (hy.new (.cells false [.int .i64 0, .nils])).next = hy.next + 1 := H.next_new ..
  have hst2 := fun hh => stV_agg2 hh hy.next 0 (v := .int .i64 0) (u := .nils) rfl rfl
  generalize hy.new (.cells false [.int .i64 0, .nils]) = ha at *
  have hgya := (hfa.get hx.next (by omega)).trans hgy
  have hgxa := (hfa.get h.next (by omega)).trans ((hfy.get h.next (by omega)).trans hgx)
  have hfh := (hfx.trans hfy).trans hfa
  simp (disch := first | omega | (simp only [List.length_set, List.length_replicate, List.length_append, List.length_take, List.length_drop, List.length_cons, List.length_nil, List.length_map, List.length_range, ints_length] <;> omega)) only [go_sem, row_two hgxa, row_two hgya]
  refine (common_ok _ _ (N, A) (M, B) ha ⟨u, rfl, hu.mono hfh⟩ ⟨w, rfl, hw.mono hfh⟩ hla hlb).mono ?_
  rintro v1 hb ⟨rfl, hfb⟩
  have hnb := hfb.next
  have hgb := (hfb.get hy.next (by omega)).trans hga
  have hgxb := (hfb.get h.next (by omega)).trans hgxa
  have hgyb := (hfb.get hx.next (by omega)).trans hgya
  have hrow0 := row_two (h := hb.set hy.next (some (.cells false [.int .i64 0, .nils]))) (H.get_set_same ..)
  have hF : Fr h hb := hfh.trans hfb
  have hzero : Fr h (hb.set hy.next (some (.cells false [.int .i64 0, .nils]))) := hF.set (by omega) _
  simp (disch := first | omega | (simp only [List.length_set, List.length_replicate, List.length_append, List.length_take, List.length_drop, List.length_cons, List.length_nil, List.length_map, List.length_range, ints_length] <;> omega)) only [go_sem]
  refine iteW_dec (fun h1 => ?_) (fun h1 => ?_)
  · simp (disch := first | omega | (simp only [List.length_set, List.length_replicate, List.length_append, List.length_take, List.length_drop, List.length_cons, List.length_nil, List.length_map, List.length_range, ints_length] <;> omega)) only [go_sem, hst2, hgb, hrow0]
    rw [mulF, if_pos h1]
    exact ⟨_, rfl, CycO.zero _ _, hzero⟩
  rw [mulF, if_neg h1]
  obtain ⟨r1, r2, r3, r4⟩ := common_range (show (commonF (N, A) (M, B)).2 = 0 by omega)
  have g1 := check_range r1
  have g2 := check_range r2
  simp only at g1 g2
  obtain ⟨n, hn⟩ : ∃ n : Nat, (commonF (N, A) (M, B)).1 = (n : Int) := ⟨(commonF (N, A) (M, B)).1.toNat, by omega⟩
  rw [hn] at r3 r4 ⊢
  obtain ⟨N, rfl⟩ : ∃ N' : Nat, N = (N' : Int) := ⟨N.toNat, by omega⟩
  obtain ⟨M, rfl⟩ : ∃ M' : Nat, M = (M' : Int) := ⟨M.toNat, by omega⟩
  simp only [Int.toNat_natCast] at g1 g2 ⊢
  clear hn h1 r1 r2
  have hpN := phi_len (n := N) (by omega) (by omega)
  have hpM := phi_len (n := M) (by omega) (by omega)
  have x1 : hb.cell h.next 1 = some u := by rw [H.cell_of hgxb]; rfl
  simp (disch := first | omega | (simp only [List.length_set, List.length_replicate, List.length_append, List.length_take, List.length_drop, List.length_cons, List.length_nil, List.length_map, List.length_range, ints_length] <;> omega)) only [go_sem, x1, (hu.mono hF).lens]
  have hf5 : Fr hb (hb.new (.cells false (ints (List.replicate n 0)))) := (Fr.refl hb).new _
  have hg5 : (hb.new (.cells false (ints (List.replicate n 0)))).get hb.next = some (.cells false (ints (List.replicate n 0))) := H.get_new_same ..
  have hn5 : (hb.new (.cells false (ints (List.replicate n 0)))).next = hb.next + 1 := H.next_new ..
  generalize hb.new (.cells false (ints (List.replicate n 0))) = h5 at *
  have hgx5 := (hf5.get h.next (by omega)).trans hgxb
  have hgy5 := (hf5.get hx.next (by omega)).trans hgyb
  have hF5 := hF.trans hf5
  obtain ⟨cid, coff, hcs, hcid, hcc⟩ := hu.open
  obtain ⟨did, doff, hds, hdid, hdc⟩ := hw.open
  have hml := mulS_len n N M A B
  refine Wp_loop (fun k' vars h7 => ∃ (i : Nat), (∃ g : Nat → V, vars = [g 0, g 1, .ptr h.next 0, .ptr hx.next 0, .ptr hy.next 0, g 5, .int .i64 (n : Int), g 7, .sl hb.next 0 n (.kn n), g 9, g 10, g 11, g 12, g 13, u, .int .i64 (A.length : Int), .int .i64 (i : Int), g 17, g 18, g 19, g 20, g 21]) ∧ i ≤ A.length ∧
    h7.get hb.next = some (.cells false (ints (mulS n N M A B i))) ∧ Fr hb h7 ∧ hb.next < h7.next ∧ k' = A.length - i) A.length
    ⟨0, ex_junk rfl, Nat.zero_le _, hg5, hf5, by omega, rfl⟩ ?_
  rintro k' vars h7 ⟨i, ⟨g, rfl⟩, hi, hg7, hf7, hn7, rfl⟩
  simp (disch := first | omega | (simp only [List.length_set, List.length_replicate, List.length_append, List.length_take, List.length_drop, List.length_cons, List.length_nil, List.length_map, List.length_range, ints_length] <;> omega)) only [go_sem]
  by_cases hic : (i : Int) < (A.length : Int)
  · rw [decide_eq_true hic]
    have hcc7 := cells_fr (hF.trans hf7) hcid hcc
    have y1 : h7.cell hx.next 1 = some w := by rw [hf7.cell (by omega), H.cell_of hgyb]; rfl
    simp (disch := first | omega | (simp only [List.length_set, List.length_replicate, List.length_append, List.length_take, List.length_drop, List.length_cons, List.length_nil, List.length_map, List.length_range, ints_length] <;> omega)) only [go_sem, hcs.ixa, hcc7, y1, (hw.mono (hF.trans hf7)).lens]
    have hst : mulS n N M A B (i + 1) = mulR n N M A B i (mulS n N M A B i) := rfl
    have hSl := hml i
    generalize mulS n N M A B i = St at *
    refine Wp_loop (fun k' vars h9 => ∃ (j : Nat), (∃ g : Nat → V, vars = [g 0, g 1, .ptr h.next 0, .ptr hx.next 0, .ptr hy.next 0, g 5, .int .i64 (n : Int), g 7, .sl hb.next 0 n (.kn n), .int .i64 (i : Int), .int .i64 (A.getD i 0), g 11, g 12, g 13, u, .int .i64 (A.length : Int), .int .i64 (i : Int), g 17, w, .int .i64 (B.length : Int), .int .i64 (j : Int), g 21]) ∧ j ≤ B.length ∧
      h9.get hb.next = some (.cells false (ints (accF (fun k => (i * (n / N) + k * (n / M)) % n) (fun k => W (A.getD i 0 * B.getD k 0)) St j))) ∧ Fr hb h9 ∧ hb.next < h9.next ∧ k' = B.length - j) B.length
      ⟨0, ex_junk rfl, Nat.zero_le _, hg7, hf7, hn7, rfl⟩ ?_
    rintro k' vars h9 ⟨j, ⟨g, rfl⟩, hj, hg9, hf9, hn9, rfl⟩
    have hal := accF_len (fun k => (i * (n / N) + k * (n / M)) % n) (fun k => W (A.getD i 0 * B.getD k 0)) St j
    simp (disch := first | omega | (simp only [List.length_set, List.length_replicate, List.length_append, List.length_take, List.length_drop, List.length_cons, List.length_nil, List.length_map, List.length_range, ints_length] <;> omega)) only [go_sem]
    by_cases hjc : (j : Int) < (B.length : Int)
    · rw [decide_eq_true hjc]
      have hcc9 := cells_fr (hF.trans hf9) hdid hdc
      have hz1 : i * (n / N) ≤ 120 * 120 := Nat.mul_le_mul (by omega) (Nat.le_trans (Nat.div_le_self ..) (by omega))
      have hz2 : j * (n / M) ≤ 120 * 120 := Nat.mul_le_mul (by omega) (Nat.le_trans (Nat.div_le_self ..) (by omega))
      have hd1 : n / N ≤ n := Nat.div_le_self ..
      have hd2 : n / M ≤ n := Nat.div_le_self ..
      have em1 : (n : Int).tdiv (N : Int) = ((n / N : Nat) : Int) := rfl
      have em2 : (n : Int).tdiv (M : Int) = ((n / M : Nat) : Int) := rfl
      have ep1 : (i : Int) * ((n / N : Nat) : Int) = ((i * (n / N) : Nat) : Int) := (Int.natCast_mul ..).symm
      have ep2 : (j : Int) * ((n / M : Nat) : Int) = ((j * (n / M) : Nat) : Int) := (Int.natCast_mul ..).symm
      have es : ((i * (n / N) : Nat) : Int) + ((j * (n / M) : Nat) : Int) = ((i * (n / N) + j * (n / M) : Nat) : Int) := (Int.natCast_add ..).symm
      have er : ((i * (n / N) + j * (n / M) : Nat) : Int).tmod (n : Int) = (((i * (n / N) + j * (n / M)) % n : Nat) : Int) := tmod_nat ..
      have hrn : (i * (n / N) + j * (n / M)) % n < n := Nat.mod_lt _ (by omega)
      have hstep : accF (fun k => (i * (n / N) + k * (n / M)) % n) (fun k => W (A.getD i 0 * B.getD k 0)) St (j + 1) = (accF (fun k => (i * (n / N) + k * (n / M)) % n) (fun k => W (A.getD i 0 * B.getD k 0)) St j).set ((i * (n / N) + j * (n / M)) % n) (W ((accF (fun k => (i * (n / N) + k * (n / M)) % n) (fun k => W (A.getD i 0 * B.getD k 0)) St j).getD ((i * (n / N) + j * (n / M)) % n) 0 + W (A.getD i 0 * B.getD j 0))) := rfl
      have x9 : h9.cell h.next 0 = some (.int .i64 (N : Int)) := by rw [hf9.cell (by omega), H.cell_of hgxb]; rfl
      have y9 : h9.cell hx.next 0 = some (.int .i64 (M : Int)) := by rw [hf9.cell (by omega), H.cell_of hgyb]; rfl
      generalize hrg : (i * (n / N) + j * (n / M)) % n = r at *
      generalize i * (n / N) + j * (n / M) = sm at *
      generalize hp1 : i * (n / N) = p1 at *
      generalize hp2 : j * (n / M) = p2 at *
      generalize n / N = d1 at *
      generalize n / M = d2 at *
      simp (disch := first | omega | (simp only [List.length_set, List.length_replicate, List.length_append, List.length_take, List.length_drop, List.length_cons, List.length_nil, List.length_map, List.length_range, ints_length] <;> omega)) only [go_sem, hds.ixa, hcc9, x9, y9, em1, em2, ep1, ep2, es, er, own_cell hg9, hg9]
      rw [show (j : Int) + 1 = ((j + 1 : Nat) : Int) from by omega]
      refine ⟨B.length - (j + 1), by omega, j + 1, ex_junk rfl, by omega, by rw [hstep], ?_, by omega, rfl⟩
      exact (hf9.bump (by omega)).set (Nat.le_refl _) _
    · rw [decide_eq_false hjc]
      have : B.length = j := by omega
      subst this
      simp (disch := first | omega | (simp only [List.length_set, List.length_replicate, List.length_append, List.length_take, List.length_drop, List.length_cons, List.length_nil, List.length_map, List.length_range, ints_length] <;> omega)) only [go_sem]
      rw [show (i : Int) + 1 = ((i + 1 : Nat) : Int) from by omega]
      exact ⟨A.length - (i + 1), by omega, i + 1, ex_junk rfl, by omega, by rw [hst, mulR]; exact hg9, hf9, by omega, rfl⟩
  · rw [decide_eq_false hic]
    have : A.length = i := by omega
    subst this
    simp (disch := first | omega | (simp only [List.length_set, List.length_replicate, List.length_append, List.length_take, List.length_drop, List.length_cons, List.length_nil, List.length_map, List.length_range, ints_length] <;> omega)) only [go_sem]
    have hsi : SI h7 (.sl hb.next 0 n (.kn n)) (mulS n N M A B A.length) := by
      have := SI.own (h := h7) (id := hb.next) (by omega) hg7 (.kn n)
      rw [hml] at this; exact this
    refine (made_ok n _ _ h7 (by omega) (by omega) hsi (by rw [hml]; omega)).mono ?_
    rintro v8 h8 ⟨w', rfl, hcy, hf8⟩
    generalize madeF n _ = M at *
    have hf48 : Fr hb h8 := hf7.trans hf8
    have hg8 := (hf48.get hy.next (by omega)).trans hgb
    obtain ⟨u', rfl, hu', hfu⟩ := hcy
    have hst3 := fun hh => stV_agg2 hh hy.next 0 (v := .int .i64 M.1.1) (u := u') rfl hu'.what.2.1
    have hrow := row_two (h := h8.set hy.next (some (.cells false [.int .i64 M.1.1, u']))) (H.get_set_same ..)
    simp (disch := first | omega | (simp only [List.length_set, List.length_replicate, List.length_append, List.length_take, List.length_drop, List.length_cons, List.length_nil, List.length_map, List.length_range, ints_length] <;> omega)) only [go_sem, hst3, hg8, hrow]
    exact ⟨_, rfl, (CycO.set ⟨u', rfl, hu', hfu⟩ (by omega) _).le (by omega), (hF.trans hf48).set (by omega) _⟩
end
end Go.Proofs.Ythfabknpogbcaaa
