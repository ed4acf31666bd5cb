/- Layer 5: each with insert, span, list. -/
import Derived.Test.YtlhebmcnjgagjaaL4ytoM5e
namespace Go.Proofs.Ytlhebmcnjgagjaa
open Go Go.Ay
set_option maxRecDepth 100000
/-- What is kept while rows are inserted. -/
structure Kp (p : Int) (n W : Nat) (ll : List (List Int)) (Φ : Nat → (Nat → Bool) → (Nat → Nat → Int) → Nat → Prop) : Prop where
  rng : ∀ i S f k, Φ i S f k → ∀ c j, c < n → S c = true → j < W → 0 ≤ f c j ∧ f c j < p
  red : ∀ i S f k, i < ll.length → Φ i S f k → ∀ c, c < n → S c = true → rdF p S f (fun j => (ll.getD i []).getD j 0 % p) n c = 0
  no : ∀ i S f k, i < ll.length → Φ i S f k → (∀ j, j < n → rdF p S f (fun j => (ll.getD i []).getD j 0 % p) n j = 0) → Φ (i + 1) S f k
  yes : ∀ i S f k u, i < ll.length → Φ i S f k → u = rdF p S f (fun j => (ll.getD i []).getD j 0 % p) n → ∀ at_ x, at_ < n → (∀ j, j < at_ → u j = 0) → 0 < u at_ → 0 ≤ x → x < p → x * u at_ % p = 1 →
    Φ (i + 1) (fun c => if c = at_ then true else S c) (fun c => if c = at_ then (fun j => (u j + (x + p - 1) * u j) % p) else nwF p f at_ (fun j => (u j + (x + p - 1) * u j) % p) c) (k + 1)
set_option maxHeartbeats 16000000 in
theorem each_ok (p : Int) (E M n W lo : Nat) (ll : List (List Int)) (v : V) (Φ : Nat → (Nat → Bool) → (Nat → Nat → Int) → Nat → Prop) (hΦ : Kp p n W ll Φ) (b0 h : H) (S : Nat → Bool) (ρ : Nat → Nat) (f : Nat → Nat → Int)
    (k0 : Ec h E M n W p S ρ f lo) (hlo : lo ≤ h.next) (h0 : Φ 0 S f 0) (hb : Fr b0 h) (hbl : b0.next ≤ lo) (hv : SR b0 v ll) (hln : ll.length < 1000000) (hl : ∀ i, i < ll.length → (ll.getD i []).length = W) (hW : W ≤ 1000) (hnW : n ≤ W) (hp : isP p = true) (hp2 : p < 10000) :
    Ev T n_linear_each_int [v, .fn 50 [.ptr E 0] []] h (fun w h' => ∃ (k : Nat) (S : Nat → Bool) (ρ : Nat → Nat) (f : Nat → Nat → Int), w = .int .i64 (k : Int) ∧ Φ ll.length S f k ∧ k ≤ ll.length ∧ Ec h' E M n W p S ρ f lo ∧ (∀ b, Fr b h → b.next ≤ lo → Fr b h') ∧ h.next ≤ h'.next) := by
  refine Ev_of t_linear_each_int rfl ?_
  obtain ⟨id, off, ws, sl, hid, hwl, hc, hall⟩ := hv.open
  simp (disch := first | omega | (simp only [Qn] <;> omega)) only [go_sem, c_linear_each_int, initV_eq, hv.lens]
  refine Wp_loop (fun k' vars hh => ∃ (i k : Nat) (S : Nat → Bool) (ρ : Nat → Nat) (f : Nat → Nat → Int), (∃ j : Nat → V, vars = [j 0, .fn 50 [.ptr E 0] [], j 2, .int .i64 (k : Int), j 4, v, .int .i64 (ll.length : Int), .int .i64 (i : Int), j 8, j 9]) ∧ i ≤ ll.length ∧ k ≤ i ∧ Φ i S f k ∧ Ec hh E M n W p S ρ f lo ∧ (∀ b, Fr b h → b.next ≤ lo → Fr b hh) ∧ h.next ≤ hh.next ∧ k' = ll.length - i) ll.length
    ⟨0, 0, S, ρ, f, ex_junk rfl, Nat.zero_le _, Nat.le_refl _, h0, k0, fun b f _ => f, Nat.le_refl _, rfl⟩ ?_
  clear h0 k0 S ρ f
  rintro k' vars hh ⟨i, k, S, ρ, f, ⟨jk, rfl⟩, hi, hki, hφ, kE, hF, hnx, rfl⟩
  simp (disch := first | omega | (simp only [Qn] <;> omega)) only [go_sem]
  by_cases hlt : (i : Int) < (ll.length : Int)
  · rw [decide_eq_true hlt]
    have hi' : i < ll.length := by omega
    have F0 := hF b0 hb hbl
    have ci : hh.cell id (off + i) = some (ws.getD i .undef) := by rw [F0.cell (hid (by omega))]; exact hc i (by omega)
    have ri := (row_at hall (i := i) hi').mono F0
    simp (disch := first | omega | (simp only [Qn] <;> omega)) only [go_sem, sl.ixa, ci]
    obtain ⟨u, hu⟩ : ∃ u, u = rdF p S f (fun j => (ll.getD i []).getD j 0 % p) n := ⟨_, rfl⟩
    refine (insert_ok p E M n W S ρ f lo _ (ll.getD i []) u hh kE (by omega) ri (hl i hi') hW hnW hp hp2 (hΦ.rng i S f k hφ) hu (by rw [hu]; exact hΦ.red i S f k hi' hφ)).mono ?_
    rintro w h2 ⟨hF2, hn2, ⟨rfl, hz, kE2⟩ | ⟨rfl, at_, x, N, a1, a2, a3, a4, a5, a6, a7, kE2⟩⟩
    · simp (disch := first | omega | (simp only [Qn] <;> omega)) only [go_sem]
      rw [show (i : Int) + 1 = ((i + 1 : Nat) : Int) from by omega]
      exact ⟨ll.length - (i + 1), by omega, i + 1, k, S, ρ, f, ex_junk rfl, by omega, by omega, hΦ.no i S f k hi' hφ (by rw [← hu]; exact hz), kE2, fun b fb lb => hF2 b (hF b fb lb) lb, by omega, rfl⟩
    · simp (disch := first | omega | (simp only [Qn] <;> omega)) only [go_sem]
      rw [show (i : Int) + 1 = ((i + 1 : Nat) : Int) from by omega, show (k : Int) + 1 = ((k + 1 : Nat) : Int) from by omega]
      exact ⟨ll.length - (i + 1), by omega, i + 1, k + 1, _, _, _, ex_junk rfl, by omega, by omega, hΦ.yes i S f k u hi' hφ hu at_ x a1 a2 a3 a4 a5 a6, kE2, fun b fb lb => hF2 b (hF b fb lb) lb, by omega, rfl⟩
  rw [decide_eq_false hlt]
  obtain ⟨rfl⟩ : i = ll.length := by omega
  simp (disch := first | omega | (simp only [Qn] <;> omega)) only [go_sem]
  exact ⟨k, S, ρ, f, rfl, hφ, hki, kE, hF, hnx⟩
theorem span_ok (p : Int) (n W : Nat) (ll : List (List Int)) (v : V) (Φ : Nat → (Nat → Bool) → (Nat → Nat → Int) → Nat → Prop) (hΦ : Kp p n W ll Φ) (h : H)
    (h0 : Φ 0 (fun _ => false) (fun _ _ => 0) 0) (hv : SR h v ll) (hln : ll.length < 1000000) (hl : ∀ i, i < ll.length → (ll.getD i []).length = W) (hW : W ≤ 1000) (hnW : n ≤ W) (hp : isP p = true) (hp2 : p < 10000) :
    Ev T n_linear_span [.int .i64 p, .int .i64 (n : Int), v] h (fun w h' => ∃ (E M k : Nat) (S : Nat → Bool) (ρ : Nat → Nat) (f : Nat → Nat → Int), w = .ptr E 0 ∧ Φ ll.length S f k ∧ k ≤ ll.length ∧ Ec h' E M n W p S ρ f h.next ∧ Fr h h') := by
  refine Ev_of t_linear_span rfl ?_
  simp (disch := first | omega | (simp only [Qn] <;> omega)) only [go_sem, c_linear_span, initV_eq]
  refine (begin_ok p n W (fun _ _ => 0) h).mono ?_
  rintro w h1 ⟨E, M, ρ, rfl, k1, f1⟩
  simp (disch := first | omega | (simp only [Qn] <;> omega)) only [go_sem]
  refine (each_ok p E M n W h.next ll v Φ hΦ h h1 _ ρ _ k1 f1.next h0 f1 (Nat.le_refl _) hv hln hl hW hnW hp hp2).mono ?_
  rintro w h2 ⟨k, S, ρ, f, rfl, hφ, hk, kE, hF, hnx⟩
  simp (disch := first | omega | (simp only [Qn] <;> omega)) only [go_sem]
  exact ⟨E, M, k, S, ρ, f, rfl, hφ, hk, kE, hF h f1 (Nat.le_refl _)⟩
/-- The rows of an echelon list. -/
def rwF (n W : Nat) (S : Nat → Bool) (f : Nat → Nat → Int) : List (List Int) := ((List.range n).filter S).map fun c => mkV W (f c)
theorem rwF_succ {c W : Nat} {S : Nat → Bool} {f : Nat → Nat → Int} : rwF (c + 1) W S f = rwF c W S f ++ (if S c then [mkV W (f c)] else []) := by
  simp only [rwF, List.range_succ, List.filter_append, List.map_append]
  congr 1
  cases hs : S c <;> simp [List.filter, hs]
end Go.Proofs.Ytlhebmcnjgagjaa

