/- Contracts: made, Check. -/
import Derived.Test.YthfabknpogbcaaaC6g
namespace Go.Proofs.Ythfabknpogbcaaa
open Go Go.Ay
set_option maxRecDepth 100000
noncomputable section

/-- A number. -/
def CycV (h : H) (v : V) (a : Int × List Int) : Prop := ∃ u, v = .agg [.int .i64 a.1, u] ∧ SI h u a.2
theorem CycV.mono {h h' : H} {v : V} {a : Int × List Int} (c : CycV h v a) (f : Fr h h') : CycV h' v a := by
  obtain ⟨u, h1, h2⟩ := c; exact ⟨u, h1, h2.mono f⟩
theorem CycV.zero (h : H) : CycV h (.agg [.int .i64 0, .nils]) (0, []) := ⟨_, rfl, SI.nils h⟩

/-- A new number. -/
def Frs (u : V) (b : Nat) : Prop := ∀ id off n c, u = .sl id off n c → b ≤ id
def CycO (h : H) (v : V) (a : Int × List Int) (b : Nat) : Prop := ∃ u, v = .agg [.int .i64 a.1, u] ∧ SI h u a.2 ∧ Frs u b
theorem CycO.cv {h : H} {v : V} {a : Int × List Int} {b : Nat} (c : CycO h v a b) : CycV h v a := by
  obtain ⟨u, h1, h2, _⟩ := c; exact ⟨u, h1, h2⟩
theorem CycO.mono {h h' : H} {v : V} {a : Int × List Int} {b : Nat} (c : CycO h v a b) (f : Fr h h') : CycO h' v a b := by
  obtain ⟨u, h1, h2, h3⟩ := c; exact ⟨u, h1, h2.mono f, h3⟩
theorem CycO.le {h : H} {v : V} {a : Int × List Int} {b b' : Nat} (c : CycO h v a b) (hb : b' ≤ b) : CycO h v a b' := by
  obtain ⟨u, h1, h2, h3⟩ := c; exact ⟨u, h1, h2, fun id off n c e => Nat.le_trans hb (h3 id off n c e)⟩
theorem CycO.set {h : H} {v : V} {a : Int × List Int} {b x : Nat} (c : CycO h v a b) (hx : x < b) (o : Option Ob) : CycO (h.set x o) v a b := by
  obtain ⟨u, h1, h2, h3⟩ := c; exact ⟨u, h1, SV.set_ne h2 (fun off len cc e => by have := h3 _ _ _ _ e; omega) o, h3⟩
theorem CycO.zero (h : H) (b : Nat) : CycO h (.agg [.int .i64 0, .nils]) (0, []) b := ⟨_, rfl, SI.nils h, fun _ _ _ _ e => by cases e⟩

def madeF (n : Nat) (c : List Int) : (Int × List Int) × Int :=
  let r := leastF n (redF n c)
  if r.2.any overF then ((0, []), 5) else (((r.1 : Int), r.2), 0)

theorem leastG_len : ∀ (f n : Nat) (c : List Int), 1 ≤ n → n ≤ 120 → c.length ≤ n → 1 ≤ (leastG f n c).1 ∧ (leastG f n c).1 ≤ 120 ∧ (leastG f n c).2.length ≤ (leastG f n c).1
  | 0, n, c, h1, h2, h3 => ⟨h1, h2, h3⟩
  | f + 1, n, c, h1, h2, h3 => by
    rw [leastG]
    cases hs : stepF n c with
    | none => exact ⟨h1, h2, h3⟩
    | some p =>
      obtain ⟨q, d⟩ := p
      simp only [stepF] at hs
      obtain ⟨q', hq', hl⟩ := List.exists_of_findSome?_eq_some hs
      simp only [Option.map_eq_some_iff] at hl
      obtain ⟨d', hd', he⟩ := hl
      cases he
      have hok := lowOk h1 h2 hq'
      have hlt := hok.lt
      have := lowerF_len hok hd'
      have hp := phi_len hlt.1 (show n / q ≤ 120 by omega)
      exact leastG_len f (n / q) d hlt.1 (by omega) (by omega)

theorem made_ok (n : Nat) (vc : V) (c : List Int) (h : H) (h1 : 1 ≤ n) (h2 : n ≤ 120) (hc : SI h vc c) (hl : c.length < 1000000) :
    Ev T n_cyclo_made [.int .i64 (n : Int), vc] h (fun v h' => ∃ w, v = .tup [w, .int .i64 (madeF n c).2] ∧ CycO h' w (madeF n c).1 h.next ∧ Fr h h') := by
  refine Ev_of t_cyclo_made rfl ?_
  simp (disch := first | omega | (simp only [List.length_set, List.length_replicate, List.length_append, List.length_take, List.length_drop, List.length_cons, List.length_nil, List.length_map, List.length_range, ints_length] <;> omega)) only [go_sem, c_cyclo_made, initV_eq]
  have hfa : Fr h (h.new (.cells false [.int .i64 0, .nils])) := (Fr.refl h).new _
  have hga : (h.new (.cells false [.int .i64 0, .nils])).get h.next = some (.cells false [.int .i64 0, .nils]) := H.get_new_same ..
  have hna : (h.new (.cells false [.int .i64 0, .nils])).next = h.next + 1 := H.next_new ..
  generalize h.new (.cells false [.int .i64 0, .nils]) = ha at *
  refine (begin_ok ha).mono ?_
  rintro v1 hb ⟨tid, mid, rfl, ht, hfb⟩
  simp (disch := first | omega | (simp only [List.length_set, List.length_replicate, List.length_append, List.length_take, List.length_drop, List.length_cons, List.length_nil, List.length_map, List.length_range, ints_length] <;> omega)) only [go_sem]
  have htb := ht.tb
  have hmb := ht.mb
  refine (reduced_ok tid mid _ n vc c hb h1 h2 ht ((hc.mono hfa).mono hfb) hl).mono ?_
  rintro v2 hd ⟨ht2, ho2, hf2, _⟩
  have hrl := redF_len n c
  have hpl := phi_len h1 h2
  simp (disch := first | omega | (simp only [List.length_set, List.length_replicate, List.length_append, List.length_take, List.length_drop, List.length_cons, List.length_nil, List.length_map, List.length_range, ints_length] <;> omega)) only [go_sem]
  refine (least_ok tid mid _ n v2 (redF n c) hd h1 h2 ht2 ho2.sv (by omega)).mono ?_
  rintro v3 he ⟨u, rfl, hu, ht3, hf3, huf⟩
  have hF : Fr ha he := (hfb.thenM hf2 hmb).thenM hf3 hmb
  have hge := (hF.get h.next (by omega)).trans hga
  have hL := leastG_len n n (redF n c) h1 h2 (by omega)
  have hst := fun hh => stV_agg2 hh he.next 0 (v := .int .i64 ((leastF n (redF n c)).1 : Int)) (u := u) rfl hu.what.2.1
  have hst2 := fun hh => stV_agg2 hh h.next 0 (v := .int .i64 0) (u := .nils) rfl rfl
  have hst3 := fun hh => stV_agg2 hh h.next 0 (v := .int .i64 ((leastF n (redF n c)).1 : Int)) (u := u) rfl hu.what.2.1
  have hxn := hF.next
  simp (disch := first | omega | (simp only [List.length_set, List.length_replicate, List.length_append, List.length_take, List.length_drop, List.length_cons, List.length_nil, List.length_map, List.length_range, ints_length] <;> omega)) only [go_sem, hst, List.getElem?_cons_zero, List.getElem?_cons_succ]
  have hu2 : SI ((he.new (.cells false [.int .i64 0, .nils])).set he.next (some (.cells false [.int .i64 ((leastF n (redF n c)).1 : Int), u]))) u (leastF n (redF n c)).2 :=
    SV.set_ne (SV.mono hu ((Fr.refl he).new _)) (fun off len cc e => by subst e; have := SV.ne_of hu; omega) _
  have hF2 : Fr ha ((he.new (.cells false [.int .i64 0, .nils])).set he.next (some (.cells false [.int .i64 ((leastF n (redF n c)).1 : Int), u]))) := (hF.new _).set hxn _
  have hgf : ((he.new (.cells false [.int .i64 0, .nils])).set he.next (some (.cells false [.int .i64 ((leastF n (redF n c)).1 : Int), u]))).get he.next = some (.cells false [.int .i64 ((leastF n (redF n c)).1 : Int), u]) := H.get_set_same ..
  generalize (he.new (.cells false [.int .i64 0, .nils])).set he.next (some (.cells false [.int .i64 ((leastF n (redF n c)).1 : Int), u])) = hg at *
  have hgg := (hF2.get h.next (by omega)).trans hga
  refine (contains_ok u _ (leastF n (redF n c)).2 overF _ hu2 (by have := hL.2.1; have := hL.2.2; unfold leastF; omega) test_over).mono ?_
  rintro v4 h4 ⟨rfl, rfl⟩
  simp (disch := first | omega | (simp only [List.length_set, List.length_replicate, List.length_append, List.length_take, List.length_drop, List.length_cons, List.length_nil, List.length_map, List.length_range, ints_length] <;> omega)) only [go_sem]
  refine iteW_bool (fun hp => ?_) (fun hp => ?_)
  · have hm : madeF n c = ((0, []), 5) := by simp only [madeF]; rw [if_pos hp]
    have hrow := row_two (h := h4.set h.next (some (.cells false [.int .i64 0, .nils]))) (H.get_set_same ..)
    simp (disch := first | omega | (simp only [List.length_set, List.length_replicate, List.length_append, List.length_take, List.length_drop, List.length_cons, List.length_nil, List.length_map, List.length_range, ints_length] <;> omega)) only [go_sem, hst2, hgg, hrow]
    rw [hm]
    exact ⟨_, rfl, CycO.zero _ _, (hfa.trans hF2).set (Nat.le_refl _) _⟩
  · have hm : madeF n c = ((((leastF n (redF n c)).1 : Int), (leastF n (redF n c)).2), 0) := by simp only [madeF]; rw [if_neg (by rw [hp]; simp)]
    have hrow := row_two (h := h4.set h.next (some (.cells false [.int .i64 ((leastF n (redF n c)).1 : Int), u]))) (H.get_set_same ..)
    have hrow4 := row_two hgf
    simp (disch := first | omega | (simp only [List.length_set, List.length_replicate, List.length_append, List.length_take, List.length_drop, List.length_cons, List.length_nil, List.length_map, List.length_range, ints_length] <;> omega)) only [go_sem, hst3, hgg, hrow, hrow4]
    rw [hm]
    exact ⟨_, rfl, ⟨_, rfl, SV.set_ne hu2 (fun off len cc e => by
      rcases huf with h7 | h7
      · rw [h7] at e
        rcases ho2 with ⟨h8, _⟩ | ⟨id', _, _, _, h8, _, _, h9, _⟩
        · rw [h8] at e; cases e
        · rw [h8] at e; cases e; have := hfb.next; omega
      · have := h7 _ _ _ _ e; have := hfb.next; have := hf2.next; omega) _, fun id off n c e => by
      rcases huf with h7 | h7
      · rw [h7] at e
        rcases ho2 with ⟨h8, _⟩ | ⟨id', _, _, _, h8, _, _, h9, _⟩
        · rw [h8] at e; cases e
        · rw [h8] at e; cases e; have := hfb.next; omega
      · have := h7 _ _ _ _ e; have := hfb.next; have := hf2.next; omega⟩, (hfa.trans hF2).set (Nat.le_refl _) _⟩
end
end Go.Proofs.Ythfabknpogbcaaa
