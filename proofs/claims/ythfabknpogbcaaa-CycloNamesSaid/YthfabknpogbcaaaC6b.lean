/- Contracts: cyclotomic polynomials, by the program's table. -/
import Derived.Test.YthfabknpogbcaaaC6a
namespace Go.Proofs.Ythfabknpogbcaaa
open Go Go.Ay
set_option maxRecDepth 100000

structure Tb (h : H) (tid mid b : Nat) : Prop where
  tp : h.cell tid 0 = some (.mp mid)
  ne : tid ≠ mid
  tlt : tid < h.next
  mlt : mid < h.next
  tb : b ≤ tid
  mb : b ≤ mid
  es : ∃ es, h.get mid = some (.map es) ∧ keysV .i64 es = true ∧ ∀ n v, findV .i64 n es = some v → SI h v (phiF n.toNat) ∧ phiF n.toNat ≠ []
theorem Tb.isMap {h : H} {tid mid b : Nat} (t : Tb h tid mid b) : IsMap h mid := by obtain ⟨es, h1, _⟩ := t.es; exact ⟨es, h1⟩
theorem Tb.fr {h h' : H} {tid mid b : Nat} (t : Tb h tid mid b) (f : Fr h h') : Tb h' tid mid b := by
  obtain ⟨es, h1, h2, h3⟩ := t.es
  exact ⟨by rw [f.cell t.tlt]; exact t.tp, t.ne, Nat.lt_of_lt_of_le t.tlt f.next, Nat.lt_of_lt_of_le t.mlt f.next, t.tb, t.mb, es, by rw [f.get _ t.mlt]; exact h1, h2, fun n v hv => ⟨(h3 n v hv).1.mono f, (h3 n v hv).2⟩⟩
theorem Tb.avoid {h : H} {tid mid b x : Nat} (t : Tb h tid mid b) (hx : h.next ≤ x) : Avoid h mid x := by
  obtain ⟨es, h1, h2, h3⟩ := t.es
  intro es' n v h4 h5 off len c e
  rw [h1] at h4; cases h4
  subst e
  rcases (h3 n _ h5).1 with ⟨h6, _⟩ | ⟨id, _, _, _, _, _, h6, _, h7, _⟩
  · cases h6
  · cases h6; omega
theorem SV.ne_of {h : H} {x off len sz : Nat} {c : Cap} {ws : List V} (s : SV h (.sl x off len c) sz ws) : x < h.next := by
  rcases s with ⟨h6, _⟩ | ⟨id, _, _, _, _, _, h6, _, h7, _⟩
  · cases h6
  · cases h6; exact h7
theorem SV.set_ne {h : H} {v : V} {sz x : Nat} {ws : List V} (s : SV h v sz ws) (hx : ∀ off len c, v ≠ .sl x off len c) (o : Option Ob) : SV (h.set x o) v sz ws := by
  rcases s with s | ⟨id, off, len, cap, ro', vs, h1, h2, h3, h4, h5, h6⟩
  · exact .inl s
  · exact .inr ⟨id, off, len, cap, ro', vs, h1, h2, h3, by rw [H.get_set_ne h (fun e => hx off len cap (by rw [h1, e]))]; exact h4, h5, h6⟩
theorem SV.set_obj {h : H} {v : V} {sz x : Nat} {ws : List V} (s : SV h v sz ws) (hx : ∀ ro vs, h.get x ≠ some (.cells ro vs)) (o : Option Ob) : SV (h.set x o) v sz ws :=
  SV.set_ne s (fun off len c e => by
    subst e
    rcases s with ⟨h6, _⟩ | ⟨id, _, _, _, ro, vs, h6, _, h7, h8, _⟩
    · cases h6
    · cases h6; exact hx _ _ h8) o
theorem Tb.avoid_obj {h : H} {tid mid b x : Nat} (t : Tb h tid mid b) (hx : ∀ ro vs, h.get x ≠ some (.cells ro vs)) : Avoid h mid x := by
  obtain ⟨es, h1, h2, h3⟩ := t.es
  intro es' n v h4 h5 off len c e
  rw [h1] at h4; cases h4
  subst e
  rcases (h3 n _ h5).1 with ⟨h6, _⟩ | ⟨id, _, _, _, ro, vs, h6, _, h7, h8, _⟩
  · cases h6
  · cases h6; exact hx _ _ h8
theorem Tb.set {h : H} {tid mid b x : Nat} (t : Tb h tid mid b) (h1 : x ≠ tid) (h2 : x ≠ mid) (ha : Avoid h mid x) (o : Option Ob) : Tb (h.set x o) tid mid b := by
  obtain ⟨es, k1, k2, k3⟩ := t.es
  exact ⟨by rw [H.cell_set_ne _ (Ne.symm h1)]; exact t.tp, t.ne, t.tlt, t.mlt, t.tb, t.mb, es, by rw [H.get_set_ne _ (Ne.symm h2)]; exact k1, k2, fun n v hv => ⟨SV.set_ne (k3 n v hv).1 (ha es n v k1 hv) o, (k3 n v hv).2⟩⟩
theorem tmod_nat (n d : Nat) : (n : Int).tmod (d : Int) = ((n % d : Nat) : Int) := rfl

theorem begin_ok (h : H) : Ev T n_cyclo_begin [] h (fun v h' => ∃ tid mid, v = .ptr tid 0 ∧ Tb h' tid mid h.next ∧ Fr h h') := by
  refine Ev_of t_cyclo_begin rfl ?_
  simp only [c_cyclo_begin, initV_eq, go_sem]
  have e1 : bldV [.nilm] [(0, 1, .mp h.next)] = some (.agg [.mp h.next]) := rfl
  have e2 : boxV (h.new (.map [])) (.agg [.mp h.next]) = some (.ptr (h.next + 1) 0, (h.new (.map [])).new (.cells false [.mp h.next])) := rfl
  simp only [e1, e2, go_sem]
  refine ⟨h.next + 1, h.next, rfl, ⟨?_, by omega, by simp only [H.next_new]; omega, by simp only [H.next_new]; omega, by omega, Nat.le_refl _, [], ?_, rfl, fun n v h => by cases h⟩, ((Fr.refl h).new _).new _⟩
  · rw [← H.next_new h (.map []), H.cell_new_same]; rfl
  · rw [H.get_new_ne _ (by rw [H.next_new]; omega), H.get_new_same]

set_option maxHeartbeats 1000000 in
theorem phi_ok (tid mid b : Nat) : ∀ (n : Nat) (h : H), 1 ≤ n → n ≤ 120 → Tb h tid mid b →
    Ev T n_cyclo_table_phi [.ptr tid 0, .int .i64 (n : Int)] h (fun v h' => Tb h' tid mid b ∧ SI h' v (phiF n) ∧ FrM mid h h') := by
  intro n
  induction n using Nat.strongRecOn with
  | ind n ih =>
  intro h hn1 hn2 ht
  refine Ev_of t_cyclo_table_phi rfl ?_
  obtain ⟨es, hes, hkeys, hfind⟩ := ht.es
  simp (disch := first | omega | (simp only [List.length_set, List.length_replicate, List.length_append, List.length_take, List.length_drop, List.length_cons, List.length_nil, List.length_map, List.length_range, ints_length] <;> omega)) only [go_sem, c_cyclo_table_phi, initV_eq, Nat.add_zero, ht.tp, hes]
  cases hf : findV .i64 (n : Int) es with
  | some v =>
    rw [lkpO_yes hkeys hf]
    simp (disch := omega) only [go_sem, List.getElem?_cons_zero, List.getElem?_cons_succ]
    have := (hfind _ _ hf).1
    rw [Int.toNat_natCast] at this
    exact ⟨ht, this, FrM.refl _ _⟩
  | none =>
    rw [lkpO_no hkeys hf]
    simp (disch := first | omega | (simp only [List.length_set, List.length_replicate, List.length_append, List.length_take, List.length_drop, List.length_cons, List.length_nil, List.length_map, List.length_range, ints_length] <;> omega)) only [go_sem, List.getElem?_cons_zero, List.getElem?_cons_succ, Int.toNat_zero, Int.toNat_natCast]
    have en : ((n : Int) + 1).toNat = n + 1 := by omega
    rw [en]
    refine Wp_loop (fun k vars h2 => ∃ (d : Nat) (p x8 x9 : V), vars = [.ptr tid 0, .int .i64 (n : Int), .nils, .nils, .bool false, p, .int .i64 (d : Int), .bool false, x8, x9] ∧ 1 ≤ d ∧ d ≤ n ∧ SI h2 p (phiAux phiF n (d - 1)) ∧ (∀ id off n c, p = .sl id off n c → h.next ≤ id) ∧ Tb h2 tid mid b ∧ FrM mid h h2 ∧ k = n - d) (n - 1)
      ⟨1, _, _, _, rfl, Nat.le_refl _, hn1, ?_, (fun _ _ _ _ e => by cases e; exact Nat.le_refl _), ?_, ?_, rfl⟩ ?_
    · have := SI.own (h := (((h.new (Ob.cells false (ints (List.replicate (n + 1) 0)))).set h.next (some (Ob.cells false (ints ((List.replicate (n + 1) 0).set 0 (-1)))))).set h.next (some (Ob.cells false (ints (((List.replicate (n + 1) 0).set 0 (-1)).set n 1)))))) (id := h.next) (ro := false) (l := xn1 n) (by simp only [H.next_set, H.next_new]; omega) (H.get_set_same ..) (.kn (n + 1))
      have hl : (xn1 n).length = n + 1 := by simp [xn1]
      rw [hl] at this
      exact this
    · exact ht.fr ((((Fr.refl h).new _).set (Nat.le_refl _) _).set (Nat.le_refl _) _)
    · exact Fr.toM ((((Fr.refl h).new _).set (Nat.le_refl _) _).set (Nat.le_refl _) _) mid
    rintro k vars h2 ⟨d, p, x8, x9, rfl, hd1, hd2, hp, hpf, ht2, hf2, rfl⟩
    simp (disch := first | omega | (simp only [List.length_set, List.length_replicate, List.length_append, List.length_take, List.length_drop, List.length_cons, List.length_nil, List.length_map, List.length_range, ints_length] <;> omega)) only [go_sem]
    have hpl : (phiAux phiF n (d - 1)).length ≤ n + 1 := by
      rw [phiAux_len]
      have : ∀ (f : Nat → Nat) k, lenAux f n k ≤ n + 1 := by
        intro f k
        induction k with
        | zero => exact Nat.le_refl _
        | succ k ih => rw [lenAux]; split <;> omega
      exact this _ _
    refine iteW_dec (fun hlt => ?_) (fun hge => ?_)
    · simp (disch := first | omega | (simp only [List.length_set, List.length_replicate, List.length_append, List.length_take, List.length_drop, List.length_cons, List.length_nil, List.length_map, List.length_range, ints_length] <;> omega)) only [go_sem]
      obtain ⟨e, rfl⟩ : ∃ e, d = e + 1 := ⟨d - 1, by omega⟩
      have hstep : phiAux phiF n (e + 1) = if n % (e + 1) = 0 then (divF (phiAux phiF n e) (phiF (e + 1))).1 else phiAux phiF n e := rfl
      refine iteW_dec (fun hz => ?_) (fun hz => ?_)
      · rw [tmod_nat] at hz
        have hz' : n % (e + 1) = 0 := by omega
        simp (disch := first | omega | (simp only [List.length_set, List.length_replicate, List.length_append, List.length_take, List.length_drop, List.length_cons, List.length_nil, List.length_map, List.length_range, ints_length] <;> omega)) only [go_sem]
        refine (ih (e + 1) (by omega) h2 (by omega) (by omega) ht2).mono ?_
        rintro v3 h3 ⟨ht3, hv3, hf3⟩
        simp (disch := first | omega | (simp only [List.length_set, List.length_replicate, List.length_append, List.length_take, List.length_drop, List.length_cons, List.length_nil, List.length_map, List.length_range, ints_length] <;> omega)) only [go_sem]
        have hl3 := phi_len (n := e + 1) (by omega) (by omega)
        refine (divide_ok p v3 _ _ h3 (hp.monoM ht2.isMap hf3) hv3 (by omega) (by omega) (by omega)).mono ?_
        rintro v4 h4 ⟨q, r, rfl, hf4, hq, hr, hqf⟩
        simp (disch := first | omega | (simp only [List.length_set, List.length_replicate, List.length_append, List.length_take, List.length_drop, List.length_cons, List.length_nil, List.length_map, List.length_range, ints_length] <;> omega)) only [go_sem, List.getElem?_cons_zero, List.getElem?_cons_succ]
        rw [show ((e + 1 : Nat) : Int) + 1 = ((e + 2 : Nat) : Int) from by omega]
        refine ⟨n - (e + 2), by omega, e + 2, _, _, _, rfl, by omega, by omega, ?_, (fun id off n c e => Nat.le_trans (Nat.le_trans hf2.next hf3.next) (hqf id off n c e)), ht3.fr hf4, (hf2.trans hf3).trans (hf4.toM mid), rfl⟩
        · rw [show e + 2 - 1 = e + 1 from rfl, hstep, if_pos hz']
          exact hq
      · rw [tmod_nat] at hz
        have hz' : ¬ n % (e + 1) = 0 := by omega
        simp (disch := first | omega | (simp only [List.length_set, List.length_replicate, List.length_append, List.length_take, List.length_drop, List.length_cons, List.length_nil, List.length_map, List.length_range, ints_length] <;> omega)) only [go_sem]
        rw [show ((e + 1 : Nat) : Int) + 1 = ((e + 2 : Nat) : Int) from by omega]
        refine ⟨n - (e + 2), by omega, e + 2, _, _, _, rfl, by omega, by omega, ?_, hpf, ht2, hf2, rfl⟩
        · rw [show e + 2 - 1 = e + 1 from rfl, hstep, if_neg hz']
          exact hp
    · have : d = n := by omega
      subst this
      obtain ⟨es2, hes2, hkeys2, hfind2⟩ := ht2.es
      simp (disch := first | omega | (simp only [List.length_set, List.length_replicate, List.length_append, List.length_take, List.length_drop, List.length_cons, List.length_nil, List.length_map, List.length_range, ints_length] <;> omega)) only [go_sem, Nat.add_zero, ht2.tp, hes2, msetO_map hkeys2]
      rw [← phiF_eq d hn1] at hp
      have hF : FrM mid h (h2.set mid (some (.map (setV .i64 (d : Int) p es2)))) := hf2.setMap hes2 hkeys2 _ hpf (fun m => findV_set hkeys2)
      have hm := ht2.isMap
      have hne : ∀ v, SI h2 v [] ∨ True → ∀ l, SI h2 v l → SI (h2.set mid (some (.map (setV .i64 (d : Int) p es2)))) v l := fun v _ l hs => SV.set_ne hs (fun off len c e => by
        subst e
        rcases hs with ⟨h6, _⟩ | ⟨id, _, _, _, _, _, h6, _, h7, h8, _⟩
        · cases h6
        · cases h6; rw [hes2] at h8; cases h8) _
      have hp' := hne p (.inr trivial) _ hp
      refine ⟨⟨?_, ht2.ne, ht2.tlt, ht2.mlt, ht2.tb, ht2.mb, _, H.get_set_same .., keysV_set hkeys2, fun m v hv => ?_⟩, hp', hF⟩
      · rw [H.cell_set_ne _ ht2.ne]; exact ht2.tp
      · rw [findV_set hkeys2] at hv
        split at hv
        · rename_i hmd
          cases hv
          rw [hmd, Int.toNat_natCast]
          have hpl := (phi_len hn1 hn2).1
          exact ⟨hp', fun e => by rw [e] at hpl; simp at hpl⟩
        · exact ⟨hne v (.inr trivial) _ (hfind2 m v hv).1, (hfind2 m v hv).2⟩
end Go.Proofs.Ythfabknpogbcaaa
