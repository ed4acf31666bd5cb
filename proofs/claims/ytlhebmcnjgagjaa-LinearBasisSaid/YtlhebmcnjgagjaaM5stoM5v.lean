/- Layer 5: plain laws of bases and ranks. Layer 5: Basis and Rank with the span that they found; a copy of rows. Layer 5: two rows appended; a taker under another's change. The law LinearBasis, walked. -/
import Derived.Test.YtlhebmcnjgagjaaM5gtoM5q
/- Layer 5: plain laws of bases and ranks. -/
namespace Go.Proofs.Ytlhebmcnjgagjaa
open Go Go.Ay
set_option maxRecDepth 100000
theorem Re.same {p : Int} {n : Nat} {S S' : Nat → Bool} {f f' : Nat → Nat → Int} (r : Re p n n S f) (r' : Re p n n S' f') (h : ∀ c, c < n → S c = true → InS p n n (gf S' f') (f c)) (e : ∀ c, c < n → S c = S' c) : ∀ c j, c < n → S c = true → j < n → f c j = f' c j := fun c j hc hs hj => by
  obtain ⟨d, hd⟩ := h c hc hs
  have q := r'.read hd hj
  rw [sm_one (t := c) hc fun a ha hne => ?_, r.one c hc hs, Int.one_mul, gf_yes (by rw [← e c hc]; exact hs)] at q
  · have b1 := r.rng c j hc hs hj
    have b2 := r'.rng c j hc (by rw [← e c hc]; exact hs) hj
    rwa [Int.emod_eq_of_lt b1.1 b1.2, Int.emod_eq_of_lt b2.1 b2.2] at q
  cases hsa : S' a with
  | false => rw [gf_no hsa, Int.mul_zero]
  | true => rw [r.zer c a hc ha hs (by rw [e a ha]; exact hsa) hne, Int.zero_mul]
section
variable {p : Int} {n m m' k k' : Nat} {V V' : Nat → Nat → Int} {S S' : Nat → Bool} {f f' : Nat → Nat → Int}
/-- A larger span of the same rank is the same span. -/
theorem rank_law (hp : 1 < p) (s : Sp p n n V m S f k) (s' : Sp p n n V' m' S' f' k') (h : ∀ i, i < m → InS p n m' V' (V i)) (e : cnt n S = cnt n S') : ∀ i, i < m' → InS p n m V (V' i) := fun i hi => by
  have hin : ∀ c, c < n → S c = true → InS p n n (gf S' f') (f c) := fun c hc hs => s'.mem.1 ((s.out c hc hs).trans h)
  have eS := (cnt_eq fun c hc hs => Re.sub hp s.re s'.re hin hc hs).2 e
  have ef := Re.same s.re s'.re hin eS
  refine s.mem.2 ((s'.inn i hi).rows fun c j hc hj => ?_)
  cases hs : S c with
  | true => rw [gf_yes hs, gf_yes (by rw [← eS c hc]; exact hs), ef c j hc hs hj]
  | false => rw [gf_no hs, gf_no (by rw [← eS c hc]; exact hs)]
theorem piv_at {i : Nat} (hi : i < (rwF n n S f).length) : ((List.range n).filter S).getD i 0 < n ∧ S (((List.range n).filter S).getD i 0) = true ∧ (rwF n n S f).getD i [] = mkV n (f (((List.range n).filter S).getD i 0)) := by
  have hl : (rwF n n S f).length = ((List.range n).filter S).length := by rw [rwF, List.length_map]
  have e : ((List.range n).filter S).getD i 0 = ((List.range n).filter S)[i]'(by omega) := by rw [List.getD_eq_getElem?_getD, List.getElem?_eq_getElem (by omega), Option.getD_some]
  have hm : ((List.range n).filter S)[i]'(by omega) ∈ (List.range n).filter S := List.getElem_mem _
  rw [List.mem_filter, List.mem_range, ← e] at hm
  refine ⟨hm.1, hm.2, ?_⟩
  rw [e, rwF, List.getD_eq_getElem?_getD, List.getElem?_map, List.getElem?_eq_getElem (by omega)]
  rfl
theorem piv_of {c : Nat} (hc : c < n) (hs : S c = true) : ∃ i, i < (rwF n n S f).length ∧ (rwF n n S f).getD i [] = mkV n (f c) := by
  have hm : c ∈ (List.range n).filter S := List.mem_filter.2 ⟨List.mem_range.2 hc, hs⟩
  obtain ⟨i, hi, e⟩ := List.mem_iff_getElem.1 hm
  have hl : (rwF n n S f).length = ((List.range n).filter S).length := by rw [rwF, List.length_map]
  refine ⟨i, by omega, ?_⟩
  rw [rwF, List.getD_eq_getElem?_getD, List.getElem?_map, List.getElem?_eq_getElem hi, e]
  rfl
/-- The rows that span are in the basis's span. -/
theorem Sp.toB (s : Sp p n n V m S f k) (i : Nat) (hi : i < m) : InS p n (rwF n n S f).length (vw (rwF n n S f)) (V i) := by
  refine (s.inn i hi).trans fun c hc => ?_
  cases hs : S c with
  | false => exact InS.zero.congr fun j _ => by rw [gf_no hs]
  | true =>
    obtain ⟨q, hq, e⟩ := piv_of (f := f) hc hs
    exact (InS.row hq).congr fun j hj => by rw [gf_yes hs, vw, e, mkV_get _ hj]
/-- The basis's rows are in the span. -/
theorem Sp.ofB (s : Sp p n n V m S f k) (i : Nat) (hi : i < (rwF n n S f).length) : InS p n m V (vw (rwF n n S f) i) := by
  obtain ⟨h1, h2, h3⟩ := piv_at hi
  exact (s.out _ h1 h2).congr fun j hj => by rw [vw, h3, mkV_get _ hj]
end
theorem ck_of {p : Int} {n : Nat} (hp : fieldF p = true) (h1 : 1 ≤ n) (h2 : n ≤ 64) (ls : List (List (List Int))) (h3 : ∀ l ∈ ls, l.length ≤ 200 ∧ ∀ i, i < l.length → (l.getD i []).length = n) : ckF p n ls = 0 := by
  rw [ckF, if_neg (by simp [hp]), if_neg (by omega)]
  induction ls with
  | nil => rfl
  | cons a r ih =>
    obtain ⟨q1, q2⟩ := h3 a (List.mem_cons_self ..)
    rw [lckF, if_neg (by omega), if_neg ?_]
    · exact ih fun l hl => h3 l (List.mem_cons_of_mem _ hl)
    · intro e
      obtain ⟨x, hx, e⟩ := List.any_eq_true.1 e
      obtain ⟨i, hi, rfl⟩ := List.mem_iff_getElem.1 hx
      have := q2 i hi
      rw [List.getD_eq_getElem?_getD, List.getElem?_eq_getElem hi, Option.getD_some] at this
      simp [this] at e
end Go.Proofs.Ytlhebmcnjgagjaa

/- Layer 5: Basis and Rank with the span that they found; a copy of rows. -/
namespace Go.Proofs.Ytlhebmcnjgagjaa
open Go Go.Ay
set_option maxRecDepth 100000
set_option maxHeartbeats 8000000 in
theorem Basis_sp (p : Int) (n : Nat) (v : V) (ll : List (List Int)) (h : H) (hv : SR h v ll) (hl : (ll.length : Int) ≤ 2 ^ 63 - 1) (hz0 : ckF p n [ll] = 0) :
    Ev T n_linear_Basis [.int .i64 p, .int .i64 (n : Int), v] h (fun w h' => ∃ u S f k, w = .tup [u, .int .i64 0] ∧ Sp p n n (vw ll) ll.length S f k ∧ k ≤ ll.length ∧ SRf h' u (rwF n n S f) h.next ∧ Fr h h') := by
  refine Ev_of t_linear_Basis rfl ?_
  have wv := SV.what hv.choose_spec.1
  simp (disch := first | omega | (simp only [Qn] <;> omega)) only [go_sem, c_linear_Basis, initV_eq, bls_row h wv.1 wv.2.1]
  have hf1 : Fr h (h.new (.cells false [v])) := (Fr.refl h).new _
  have hg1 : (h.new (.cells false [v])).get h.next = some (.cells false [v]) := H.get_new_same ..
  have hn1 : (h.new (.cells false [v])).next = h.next + 1 := H.next_new ..
  generalize h.new (.cells false [v]) = h1 at *
  have c1 : h1.cell h.next 0 = some v := by rw [H.cell_of hg1]; rfl
  refine (check5_ok p (n : Int) (.sl h.next 0 1 (.kn 1)) 1 (fun _ => v) (fun _ => ll) h.next 0 h1 ⟨rfl, fun k i h1 h2 => ixaV_sl h1 h2, rfl, rfl⟩ (fun _ => by omega) (fun i hi => by obtain rfl : i = 0 := (by omega); exact c1) (fun _ _ => hv.mono hf1) (fun _ _ => hl) (by omega)).mono ?_
  rintro w h2 ⟨rfl, f2⟩
  have F2 := hf1.trans f2
  simp only [List.range_one, List.map_cons, List.map_nil]
  simp (disch := first | omega | (simp only [Qn] <;> omega)) only [go_sem]
  refine iteW_dec (fun hz => absurd hz0 hz) (fun _ => ?_)
  have hz := hz0
  obtain ⟨q1, q2, q3, q4, q5⟩ := ck_zero hz
  obtain ⟨q6, q7⟩ := q5 ll (List.mem_singleton.2 rfl)
  simp (disch := first | omega | (simp only [Qn] <;> omega)) only [go_sem]
  refine (span_ok p n n ll v _ (Sp.kp (isP_gt q1) (Nat.le_refl n) ll) h2 (Sp.start p n n _ _) (hv.mono F2) (by omega) (fun i hi => by have := q7 i hi; omega) (by omega) (Nat.le_refl n) q1 q2).mono ?_
  rintro w h3 ⟨E, M, k, S, ρ, f, rfl, s, hk, kE, f3⟩
  simp (disch := first | omega | (simp only [Qn] <;> omega)) only [go_sem]
  refine (list_fr p E M n n S ρ f _ h3 kE (by omega)).mono ?_
  rintro w h4 ⟨_, f4, sl⟩
  simp (disch := first | omega | (simp only [Qn] <;> omega)) only [go_sem]
  exact ⟨_, S, f, k, rfl, s, hk, sl.le F2.next, (F2.trans f3).trans f4⟩
set_option maxHeartbeats 8000000 in
theorem Rank_sp (p : Int) (n : Nat) (v : V) (ll : List (List Int)) (h : H) (hv : SR h v ll) (hl : (ll.length : Int) ≤ 2 ^ 63 - 1) (hz0 : ckF p n [ll] = 0) :
    Ev T n_linear_Rank [.int .i64 p, .int .i64 (n : Int), v] h (fun w h' => ∃ S f, ∃ k : Nat, w = .tup [.int .i64 (k : Int), .int .i64 0] ∧ Sp p n n (vw ll) ll.length S f k ∧ k ≤ ll.length ∧ Fr h h') := by
  refine Ev_of t_linear_Rank rfl ?_
  have wv := SV.what hv.choose_spec.1
  simp (disch := first | omega | (simp only [Qn] <;> omega)) only [go_sem, c_linear_Rank, initV_eq, bls_row h wv.1 wv.2.1]
  have hf1 : Fr h (h.new (.cells false [v])) := (Fr.refl h).new _
  have hg1 : (h.new (.cells false [v])).get h.next = some (.cells false [v]) := H.get_new_same ..
  have hn1 : (h.new (.cells false [v])).next = h.next + 1 := H.next_new ..
  generalize h.new (.cells false [v]) = h1 at *
  have c1 : h1.cell h.next 0 = some v := by rw [H.cell_of hg1]; rfl
  refine (check5_ok p (n : Int) (.sl h.next 0 1 (.kn 1)) 1 (fun _ => v) (fun _ => ll) h.next 0 h1 (sl1 ..) (fun _ => by omega) (fun i hi => by obtain rfl : i = 0 := (by omega); exact c1) (fun _ _ => hv.mono hf1) (fun _ _ => hl) (by omega)).mono ?_
  rintro w h2 ⟨rfl, f2⟩
  have F2 := hf1.trans f2
  simp only [List.range_one, List.map_cons, List.map_nil]
  simp (disch := first | omega | (simp only [Qn] <;> omega)) only [go_sem]
  refine iteW_dec (fun hz => absurd hz0 hz) (fun _ => ?_)
  have hz := hz0
  obtain ⟨q1, q2, q3, q4, q5⟩ := ck_zero hz
  obtain ⟨q6, q7⟩ := q5 ll (List.mem_singleton.2 rfl)
  simp (disch := first | omega | (simp only [Qn] <;> omega)) only [go_sem]
  refine (begin_ok p n n (fun _ _ => 0) h2).mono ?_
  rintro w h3 ⟨E, M, ρ, rfl, k3, f3⟩
  simp (disch := first | omega | (simp only [Qn] <;> omega)) only [go_sem]
  refine (each_ok p E M n n h2.next ll v _ (Sp.kp (isP_gt q1) (Nat.le_refl n) ll) h2 h3 _ ρ _ k3 f3.next (Sp.start p n n _ _) f3 (Nat.le_refl _) (hv.mono F2) (by omega) (fun i hi => by have := q7 i hi; omega) (by omega) (Nat.le_refl n) q1 q2).mono ?_
  rintro w h4 ⟨k, S, ρ, f, rfl, s, hk, kE, hF, hnx⟩
  simp (disch := first | omega | (simp only [Qn] <;> omega)) only [go_sem]
  exact ⟨S, f, k, rfl, s, hk, F2.trans (hF h2 f3 (Nat.le_refl _))⟩
/-- A copy of rows. -/
theorem ownr_ok (v : V) (ws : List V) (h : H) (hs : SV h v 1 ws) (hl : ws.length < 1000000) : Ev T n_kit_Own_int [v] h (fun w h' => Own h' w 1 ws h.next ∧ Fr h h') := by
  refine Ev_of t_kit_Own_int rfl ?_
  have hb : blsV h 1 [.nils] 0 [] = some (.sl h.next 0 0 (.kn 0), h.new (.cells false [])) := rfl
  obtain ⟨v', h', e, a⟩ := (Own.new h 1 0 h.next [] rfl (Nat.le_refl _)).app (bytes := 24) (n := 0) (by rw [H.next_new]; omega) (SV.mono hs ((Fr.refl h).new _)) (m := ws.length) rfl (by omega) (by omega) (by omega)
  simp only [c_kit_Own_int, initV_eq, go_sem, hb, e]
  exact ⟨a.own, a.fr h ((Fr.refl h).new _) (Nat.le_refl _)⟩
end Go.Proofs.Ytlhebmcnjgagjaa

/- Layer 5: two rows appended; a taker under another's change. -/
namespace Go.Proofs.Ytlhebmcnjgagjaa
open Go Go.Ay
set_option maxRecDepth 100000
theorem Rws.app2 {h : H} {u : V} {ws : List V} {ll : List (List Int)} {lo : Nat} (r : Rws h u ws ll lo) (hlo : lo ≤ h.next) {w w2 y : V} {l l2 : List Int} (hy : SV h y 1 [w, w2]) (hw : SI h w l) (hw2 : SI h w2 l2) (dw : Dis u w) (dw2 : Dis u w2) (fw : Frs w lo) (fw2 : Frs w2 lo) (hs : ws.length < 1000000) :
    ∃ v h', appP h 1 24 u y = some (v, h') ∧ Rws h' v (ws ++ [w, w2]) (ll ++ [l, l2]) lo ∧ h.next ≤ h'.next ∧ (∀ k, k < h.next → Apart u k → h'.get k = h.get k) ∧ (∀ a, Fr a h → a.next ≤ lo → Fr a h') ∧ Frs v h.next := by
  obtain ⟨v, h', e, a⟩ := r.own.app (bytes := 24) (n := ws.length) (m := 2) (us := [w, w2]) (y := y) hlo hy (by omega) rfl (by omega) (by omega)
  have ev := app_at r.own (n := ws.length) (by omega) (m := 2) (by omega) (by omega) hy rfl e
  have hg := a.get
  have hn := a.next
  have keep : ∀ x l, SI h x l → Dis u x → SI h' x l := fun x l s d => SI.keep s (by omega) fun id off n c e => hg id (SI.lt s e) fun id' o' n' c' e' h0 => d _ _ _ _ e' _ _ _ _ e h0.symm
  refine ⟨v, h', e, ⟨a.own, All2.append (All2.keep r.row fun x hx b s => keep x b s (r.dis x hx)) ⟨keep w l hw dw, keep w2 l2 hw2 dw2, trivial⟩, fun x hx => ?_, fun x hx => (by
    rcases List.mem_append.1 hx with hx | hx
    · exact r.frs x hx
    · rcases List.mem_cons.1 hx with rfl | hx
      · exact fw
      · rw [List.mem_singleton.1 hx]; exact fw2)⟩, by omega, hg, a.fr, fun id off n c e => by rw [ev] at e; cases e; exact Nat.le_refl _⟩
  have hxl : ∃ l, SI h x l := by
    rcases List.mem_append.1 hx with hx | hx
    · obtain ⟨i, hi, rfl⟩ := List.mem_iff_getElem.1 hx
      have := r.row.length
      exact ⟨_, r.row.get i hi (by omega)⟩
    · rcases List.mem_cons.1 hx with rfl | hx
      · exact ⟨_, hw⟩
      · rw [List.mem_singleton.1 hx]; exact ⟨_, hw2⟩
  obtain ⟨lx, sx⟩ := hxl
  intro i o n c e1 i' o' n' c' e2
  rw [ev] at e1; cases e1
  have := SI.lt sx e2
  omega
theorem vw_mkR {m n : Nat} {A : Mx} {i j : Nat} (hi : i < m) (hj : j < n) : vw (mkR m n A) i j = A i j := by rw [vw, mkR_row _ hi, mkV_get _ hj]
theorem Rws.open {h : H} {u : V} {ws : List V} {ll : List (List Int)} {lo : Nat} (r : Rws h u ws ll lo) : ∃ id off, Sl u 1 ll.length id off ∧ (0 < ll.length → id < h.next ∧ lo ≤ id) ∧ ws.length = ll.length ∧ ∀ i, i < ll.length → h.cell id (off + i) = some (ws.getD i .undef) := by
  have hl := r.row.length
  obtain ⟨id, off, h1, h2, h3⟩ := r.own.sv.shape ll.length (by rw [hl, Nat.mul_one]) (by omega)
  refine ⟨id, off, h1, fun h0 => ⟨h2 h0, ?_⟩, hl, fun i i1 => ?_⟩
  · rcases r.own with ⟨h1', _⟩ | ⟨id', n, cap, rest, h1', _, _, h4, _⟩
    · have := h1.len
      rw [h1'] at this
      simp [lenV] at this
      omega
    · have e := h1.ixa .i64 0 (by omega) (by omega)
      have hn : n = ll.length := by
        have := h1.len
        rw [h1'] at this
        simpa [lenV] using this
      rw [h1', ixaV_sl (by omega) (by omega)] at e
      simp only [Option.some.injEq, V.ptr.injEq] at e
      omega
  · rw [h3 i (by omega), List.getD_eq_getElem?_getD, List.getElem?_eq_getElem (by omega)]; rfl
theorem ap2 {o : List (List Int)} {x y : List Int} {q : Nat} (hq : q < o.length + 2) : (q < o.length ∧ (o ++ [x, y]).getD q [] = o.getD q []) ∨ (q = o.length ∧ (o ++ [x, y]).getD q [] = x) ∨ (q = o.length + 1 ∧ (o ++ [x, y]).getD q [] = y) := by
  rw [List.getD_eq_getElem?_getD]
  rcases Nat.lt_trichotomy q o.length with h | rfl | h
  · exact .inl ⟨h, by rw [List.getElem?_append_left h, ← List.getD_eq_getElem?_getD]⟩
  · exact .inr (.inl ⟨rfl, by simp⟩)
  · obtain rfl : q = o.length + 1 := by omega
    exact .inr (.inr ⟨rfl, by simp⟩)
theorem ap1 {o : List (List Int)} {x : List Int} {q : Nat} (hq : q < o.length + 1) : (q < o.length ∧ (o ++ [x]).getD q [] = o.getD q []) ∨ (q = o.length ∧ (o ++ [x]).getD q [] = x) := by
  rw [List.getD_eq_getElem?_getD]
  rcases Nat.lt_or_ge q o.length with h | h
  · exact .inl ⟨h, by rw [List.getElem?_append_left h, ← List.getD_eq_getElem?_getD]⟩
  · obtain rfl : q = o.length := by omega
    exact .inr ⟨rfl, by simp⟩
theorem InS.vw {p : Int} {n m : Nat} {V : Nat → Nat → Int} {ll ll' : List (List Int)} {q q' : Nat} (h : InS p n m V (vw ll q)) (e : ll'.getD q' [] = ll.getD q []) : InS p n m V (Go.Proofs.Ytlhebmcnjgagjaa.vw ll' q') := by
  unfold Go.Proofs.Ytlhebmcnjgagjaa.vw at h ⊢
  rw [e]; exact h
end Go.Proofs.Ytlhebmcnjgagjaa

/- The law LinearBasis, walked. -/
namespace Go.Proofs.Ytlhebmcnjgagjaa
open Go Go.Ay
set_option maxRecDepth 100000
set_option maxHeartbeats 32000000 in
theorem basis_ok (vl vm : V) (l more : List Int) (pp mm nn : Int) (h : H) (hc : SI h vl l) (hm : SI h vm more) (hcl : (l.length : Int) ≤ 2 ^ 63 - 1) (hml : (more.length : Int) ≤ 2 ^ 63 - 1) : Ev T n_law05_LinearBasis [vl, vm, .int .i64 pp, .int .i64 mm, .int .i64 nn] h (fun v _ => v = .bool true) := by
  refine Ev_of t_law05_LinearBasis rfl ?_
  simp (disch := first | omega | (simp only [Qn] <;> omega)) only [go_sem, c_law05_LinearBasis, initV_eq]
  refine (lives_ok h).mono ?_
  rintro v h0 ⟨rfl, g⟩
  replace hc := hc.mono g
  replace hm := hm.mono g
  clear g
  simp (disch := first | omega | (simp only [Qn] <;> omega)) only [go_sem, hc.lens]
  by_cases hl1 : (l.length : Int) > 80
  · simp (disch := first | omega | (simp only [Qn] <;> omega)) only [go_sem, decide_eq_true hl1]
  simp (disch := first | omega | (simp only [Qn] <;> omega)) only [go_sem, decide_eq_false hl1, hm.lens]
  refine iteW_dec (fun hlong => ?_) (fun hl2 => ?_)
  · simp (disch := first | omega | (simp only [Qn] <;> omega)) only [go_sem]
  have hl : l.length < 1000000 := by omega
  have hlm : more.length < 1000000 := by omega
  simp (disch := first | omega | (simp only [Qn] <;> omega)) only [go_sem]
  refine (lawfield_ok pp _).mono ?_
  rintro v hb ⟨p, rfl, hf, fb⟩
  replace hc := hc.mono fb
  replace hm := hm.mono fb
  clear fb
  have hF := hf
  simp only [fieldF, Bool.and_eq_true, decide_eq_true_eq] at hF
  obtain ⟨hp2, hpr⟩ := hF
  have hp := isP_gt hpr
  simp (disch := first | omega | (simp only [Qn] <;> omega)) only [go_sem]
  refine (pick_ok mm 7 hb (by omega) (by omega)).mono ?_
  rintro v h1 ⟨rfl, rfl⟩
  simp (disch := first | omega | (simp only [Qn] <;> omega)) only [go_sem]
  refine (pick_ok nn 6 h1 (by omega) (by omega)).mono ?_
  rintro v h1 ⟨rfl, rfl⟩
  obtain ⟨n, hn⟩ : ∃ n : Nat, 1 + nn % 6 = (n : Int) := ⟨(1 + nn % 6).toNat, by omega⟩
  obtain ⟨m, hmq⟩ : ∃ m : Nat, mm % 7 = (m : Int) := ⟨(mm % 7).toNat, by omega⟩
  have hn6 : 1 ≤ n ∧ n ≤ 6 := by omega
  have hm6 : m ≤ 6 := by omega
  have vc := SV.what hc
  have vcm := SV.what hm
  have hbl : bldV [.nils, .int .i64 0] [(0, 1, vl)] = some (.agg [vl, .int .i64 0]) := bldV_fst (z1 := .nils) (z2 := .int .i64 0) (v := vl) vc.1 vc.2.1
  have hbo := fun hh => boxV_agg2 hh (v := vl) (u := .int .i64 0) vc.2.1 rfl
  have hbl2 : bldV [.nils, .int .i64 0] [(0, 1, vm)] = some (.agg [vm, .int .i64 0]) := bldV_fst (z1 := .nils) (z2 := .int .i64 0) (v := vm) vcm.1 vcm.2.1
  have hbo2 := fun hh => boxV_agg2 hh (v := vm) (u := .int .i64 0) vcm.2.1 rfl
  simp (disch := first | omega | (simp only [Qn] <;> omega)) only [go_sem, hn, hmq, hbl, hbo, hbl2, hbo2]
  have hfx : Fr h1 (h1.new (.cells false [vl, .int .i64 0])) := (Fr.refl h1).new _
  have hgx : (h1.new (.cells false [vl, .int .i64 0])).get h1.next = some (.cells false [vl, .int .i64 0]) := H.get_new_same ..
  have hnx : (h1.new (.cells false [vl, .int .i64 0])).next = h1.next + 1 := H.next_new ..
  generalize h1.new (.cells false [vl, .int .i64 0]) = hx at *
  rw [← hnx]
  have hfy : Fr hx (hx.new (.cells false [vm, .int .i64 0])) := (Fr.refl hx).new _
  have hgy : (hx.new (.cells false [vm, .int .i64 0])).get hx.next = some (.cells false [vm, .int .i64 0]) := H.get_new_same ..
  have hny : (hx.new (.cells false [vm, .int .i64 0])).next = hx.next + 1 := H.next_new ..
  generalize hx.new (.cells false [vm, .int .i64 0]) = hy at *
  have idl : ∀ id off len c, vl = .sl id off len c → id < h1.next := fun id off len c e => SI.lt hc e
  have idm : ∀ id off len c, vm = .sl id off len c → id < h1.next := fun id off len c e => SI.lt hm e
  have sm2 := hm.mono (hfx.trans hfy)
  obtain ⟨tid, htid⟩ : ∃ t, h1.next = t := ⟨_, rfl⟩
  obtain ⟨uid, huid⟩ : ∃ t, hx.next = t := ⟨_, rfl⟩
  rw [htid] at hgx idl idm
  rw [huid] at hgy
  have ht : Tk hy tid l := ⟨vl, 0, (hfy.get tid (by omega)).trans hgx, hc.mono (hfx.trans hfy), idl, Nat.zero_le _, by omega⟩
  rw [htid, huid]
  refine (drawn_ok tid l m n p hy ht hl (by omega) (by omega) (by omega)).mono ?_
  rintro va k0 ⟨A, wsA, hA, RA, ht0, FX0⟩
  have n0 := FX0.next
  have hu : Tk k0 uid more := ⟨vm, 0, (FX0.get uid (by omega) (by omega)).trans hgy, SI.keep sm2 FX0.next fun id off n c e => FX0.get id (SI.lt sm2 e) (by have := idm _ _ _ _ e; omega), fun id off len c e => by have := idm _ _ _ _ e; omega, Nat.zero_le _, by omega⟩
  clear ht ht0 FX0 sm2 hgy hgx idl idm hc hm vc vcm hbl hbo hbl2 hbo2 hfx hfy
  obtain ⟨lo, hlo⟩ : ∃ t, hy.next = t := ⟨_, rfl⟩
  rw [hlo] at RA
  have hul : uid < lo := by omega
  have hlk : lo ≤ k0.next := by omega
  clear hlo hny hnx htid huid n0
  obtain ⟨aL, haL⟩ : ∃ a, mkR m n A = a := ⟨_, rfl⟩
  have al : aL.length = m := by rw [← haL, mkR_len]
  have ar : ∀ i, i < aL.length → (aL.getD i []).length = n := fun i hi => by rw [← haL, mkR_row _ (by omega), mkV_len]
  have ae : ∀ i j, i < aL.length → j < n → 0 ≤ vw aL i j ∧ vw aL i j < p := fun i j hi hj => by rw [← haL, vw_mkR (by omega) hj]; exact hA i j (by omega) hj
  rw [haL] at RA
  have cka : ckF p n [aL] = 0 := ck_of hf hn6.1 (by omega) _ fun q hq => by
    rw [List.mem_singleton.1 hq]; exact ⟨by omega, ar⟩
  simp (disch := first | omega | (simp only [Qn] <;> omega)) only [go_sem]
  have d00 : decide ((0 : Int) ≠ 0) = false := rfl
  refine (Basis_sp p n va aL k0 RA.sr (by omega) cka).mono ?_
  rintro w k1 ⟨ub, S, f, k, rfl, s, hk, sb, f1⟩
  obtain ⟨bL, hbL⟩ : ∃ b, rwF n n S f = b := ⟨_, rfl⟩
  have bl : bL.length = k := by rw [← hbL, rwF_len, s.cn]
  have br : ∀ i, i < bL.length → (bL.getD i []).length = n := fun i hi => by rw [← hbL] at hi ⊢; rw [(piv_at hi).2.2, mkV_len]
  have kn : k ≤ n := by rw [s.cn]; exact cnt_le n S
  have pv := Re.pv s.re
  rw [hbL] at sb pv
  replace RA := RA.fr f1
  replace hu := hu.mono f1
  have hk1 := f1.next
  replace sb := sb.le (lo' := lo) hlk
  simp (disch := first | omega | (simp only [Qn] <;> omega)) only [go_sem, d00]
  refine (echelon_ok p n ub bL _ _ k1 sb.sr (by omega) (by omega) pv).mono ?_
  rintro w k1' ⟨rfl, rfl⟩
  simp (disch := first | omega | (simp only [Qn] <;> omega)) only [go_sem, sb.sr.lens, bl]
  refine iteW_dec (fun q => absurd q (by omega)) (fun _ => ?_)
  simp (disch := first | omega | (simp only [Qn] <;> omega)) only [go_sem]
  have ckb : ckF p n [bL] = 0 := ck_of hf hn6.1 (by omega) _ fun q hq => by
    rw [List.mem_singleton.1 hq]; exact ⟨by omega, br⟩
  refine (Basis_sp p n ub bL k1' sb.sr (by omega) ckb).mono ?_
  rintro w k2 ⟨uc, S2, f2, kk2, rfl, s2, hk2, sc, f2'⟩
  have e2 : rwF n n S2 f2 = bL := by
    obtain ⟨q1, q2, _⟩ := Sp.uniq hp s2 s (fun i hi => by rw [← hbL] at hi ⊢; exact s.ofB i hi) (fun i hi => by rw [← hbL]; exact s.toB i hi)
    rw [← hbL]
    exact rwF_congr q1 q2
  rw [e2] at sc
  replace RA := RA.fr f2'
  replace hu := hu.mono f2'
  replace sb := sb.fr f2'
  have hk2' := f2'.next
  replace sc := sc.le (lo' := lo) (by omega)
  clear s2 hk2 e2
  simp (disch := first | omega | (simp only [Qn] <;> omega)) only [go_sem, RA.sr.lens, al]
  obtain ⟨id, off, sl, hid, hwl, hcc⟩ := RA.open
  rw [al] at sl hid hcc
  have hce : ∀ hh, Fx uid k2 hh → ∀ t, t < m → hh.cell id (off + t) = some (wsA.getD t .undef) := fun hh FX t ht => by
    have q := hid (by omega)
    have := hcc t ht
    unfold H.cell at this ⊢
    rw [FX.get id q.1 (by omega)]; exact this
  refine Wp_loop (fun k' vars hh => ∃ (i : Nat) (ov : V) (wsO : List V) (oL : List (List Int)), (∃ g : Nat → V, vars = [vl, vm, .int .i64 p, .int .i64 (m : Int), .int .i64 (n : Int), g 5, .ptr tid 0, .ptr uid 0, va, ub, .int .i64 0, uc, .int .i64 0, ov, .int .i64 ((i : Int) - 1), g 15, g 16, g 17, g 18, g 19, g 20, g 21, g 22, g 23, g 24, g 25, g 26, g 27, g 28, g 29, g 30]) ∧ i ≤ m ∧ Rws hh ov wsO oL lo ∧ Frs ov k2.next ∧ oL.length + 2 * i = 2 * m ∧ (∀ q, q < oL.length → (oL.getD q []).length = n ∧ InS p n m (vw aL) (vw oL q)) ∧ (∀ q, i ≤ q → q < m → ∃ r, r < oL.length ∧ oL.getD r [] = aL.getD q []) ∧ Tk hh uid more ∧ Fx uid k2 hh ∧ i = k') m
    ⟨m, .nils, [], [], ex_junk rfl, Nat.le_refl _, Rws.nils _ _, (fun _ _ _ _ e => by cases e), by simp, fun q hq => absurd hq (Nat.not_lt_zero q), fun q h1 h2 => by omega, hu, Fx.refl _ _, rfl⟩ ?_
  rintro k' vars hh ⟨i, ov, wsO, oL, ⟨jk, rfl⟩, hi, RO, fO, lO, rO, cO, ht, FX, rfl⟩
  have RAh := Rws.fx RA hul FX
  have nx := FX.next
  simp (disch := first | omega | (simp only [Qn] <;> omega)) only [go_sem]
  by_cases hge : (0 : Int) ≤ (i : Int) - 1
  · rw [decide_eq_true hge]
    obtain ⟨t, rfl⟩ : ∃ t, i = t + 1 := ⟨i - 1, by omega⟩
    have ht' : t < m := by omega
    rw [show ((t + 1 : Nat) : Int) - 1 = (t : Int) by omega]
    have ct := hce hh FX t ht'
    have st := row_at RAh.row (i := t) (by omega)
    have fb : Fr hh (H.mk hh.tr (hh.next + 13)) := (Fr.refl hh).bump (by omega)
    have nb : (H.mk hh.tr (hh.next + 13)).next = hh.next + 13 := rfl
    simp (disch := first | omega | (simp only [Qn] <;> omega)) only [go_sem, sl.ixa, ct]
    obtain ⟨hB, hhB⟩ : ∃ q, H.mk hh.tr (hh.next + 13) = q := ⟨_, rfl⟩
    rw [hhB] at fb nb ⊢
    refine (mix_ok uid more n p va wsA aL lo hB (ht.mono fb) hlm (by omega) (by omega) (RAh.fr fb) hul (by omega) ar ae).mono ?_
    rintro w h3 ⟨r, N, hin, hr, rfl, hN1, hN2, bN, ht3, FX3⟩
    have RA3 := Rws.fx (RAh.fr fb) hul FX3
    have RO3 := Rws.fx (RO.fr fb) hul FX3
    have n3 := FX3.next
    have F3 : Fx uid k2 h3 := (FX.trans (Fx.of fb)).trans FX3
    have ct3 := hce h3 F3 t ht'
    have st3 := row_at RA3.row (i := t) (by omega)
    have ew := SV.eqV st3
    obtain ⟨wt, hwt⟩ : ∃ w, wsA.getD t .undef = w := ⟨_, rfl⟩
    rw [hwt] at ct3 st3 ew ct st
    have mwt : wt ∈ wsA := by
      rw [← hwt, List.getD_eq_getElem?_getD, List.getElem?_eq_getElem (by omega)]; exact List.getElem_mem _
    have vw1 := SV.what st3
    have hbl4 := fun hq => bls_two hq (x := wt) (u := .sl N 0 n (.kn n)) vw1.1 vw1.2.1 rfl rfl
    have eO := SV.eqV RO3.own.sv
    rw [hwt]
    have FX4 : Fx uid hh (litV h3 (hh.next + 10) [wt, .sl N 0 n (.kn n)] h3.next) := ⟨by rw [litV_next]; omega, fun id h1 h2 => (litV_ne _ _ _ (by omega)).trans (((Fx.of fb).trans FX3).get id h1 h2)⟩
    have bN4 : Bk (litV h3 (hh.next + 10) [wt, .sl N 0 n (.kn n)] h3.next) N n r := (litV_ne _ _ _ (by omega)).trans bN
    have sy : SV (litV h3 (hh.next + 10) [wt, .sl N 0 n (.kn n)] h3.next) (.sl (hh.next + 10) 0 2 (.kn 2)) 1 [wt, .sl N 0 n (.kn n)] := SV.all rfl (by rw [litV_next]; omega) (litV_get ..) _
    have n4 : (litV h3 (hh.next + 10) [wt, .sl N 0 n (.kn n)] h3.next).next = h3.next := litV_next ..
    have ht4 : Tk (litV h3 (hh.next + 10) [wt, .sl N 0 n (.kn n)] h3.next) uid more := ht3.low (by omega) fun id hid => litV_ne _ _ _ (by omega)
    simp (disch := first | omega | (simp only [Qn] <;> omega)) only [go_sem, ct3, ew, hbl4, litV_eq]
    generalize litV h3 (hh.next + 10) [wt, .sl N 0 n (.kn n)] h3.next = h4 at *
    have RO4 := Rws.fx RO hul FX4
    have st4 : SI h4 wt (aL.getD t []) := SI.fx st (RA.frs wt mwt) hul FX4
    have sN4 : SI h4 (.sl N 0 n (.kn n)) (mkV n r) := bN4.si (by omega) _
    have stk : SI k2 wt (aL.getD t []) := by
      have := row_at RA.row (i := t) (by omega)
      rw [hwt] at this; exact this
    have dw : Dis ov wt := fun i1 o1 n1 c1 e1 i2 o2 n2 c2 e2 => by
      have := fO _ _ _ _ e1
      have := SI.lt stk e2
      omega
    have dw2 : Dis ov (.sl N 0 n (.kn n)) := fun i1 o1 n1 c1 e1 i2 o2 n2 c2 e2 => by
      cases e2
      rcases RO.own with ⟨h1', _⟩ | ⟨id', n', cap, rest, h1', _, _, _, h4', _⟩
      · rw [h1'] at e1; cases e1
      · rw [h1'] at e1; cases e1
        omega
    have lenO := RO.row.length
    obtain ⟨v5, h5, e5, R5, n5, k5, q5, f5⟩ := RO4.app2 (by omega) sy st4 sN4 dw dw2 (RA.frs wt mwt) (fun i1 o1 n1 c1 e1 => by cases e1; omega) (by omega)
    simp (disch := first | omega | (simp only [Qn] <;> omega)) only [go_sem, e5]
    refine ⟨t, by omega, t, v5, _, _, ex_junk rfl, by omega, R5, fun _ _ _ _ e => by have := f5 _ _ _ _ e; omega, by simp; omega, fun q hq => ?_, fun q h1 h2 => ?_, ?_, ?_, rfl⟩
    · rw [List.length_append] at hq
      rcases ap2 (x := aL.getD t []) (y := mkV n r) hq with ⟨a1, a2⟩ | ⟨a1, a2⟩ | ⟨a1, a2⟩
      · exact ⟨by rw [a2]; exact (rO q a1).1, (rO q a1).2.congr fun j _ => by simp only [vw, a2]⟩
      · exact ⟨by rw [a2]; exact ar t (by omega), (InS.row (V := vw aL) ht').congr fun j _ => by simp only [vw, a2]⟩
      · exact ⟨by rw [a2, mkV_len], (al ▸ hin).congr fun j hj => by simp only [vw, a2]; rw [mkV_get _ hj]⟩
    · by_cases e : q = t
      · rcases ap2 (o := oL) (x := aL.getD t []) (y := mkV n r) (q := oL.length) (by omega) with ⟨a1, a2⟩ | ⟨a1, a2⟩ | ⟨a1, a2⟩
        · omega
        · exact ⟨oL.length, by simp, by rw [a2, e]⟩
        · omega
      · obtain ⟨r', b1, b2⟩ := cO q (by omega) h2
        rcases ap2 (o := oL) (x := aL.getD t []) (y := mkV n r) (q := r') (by omega) with ⟨a1, a2⟩ | ⟨a1, a2⟩ | ⟨a1, a2⟩
        · exact ⟨r', by rw [List.length_append]; omega, by rw [a2, b2]⟩
        · omega
        · omega
    · exact ht4.low (by omega) fun id hid => k5 id (by omega) (own_apart RO4.own (by omega))
    · refine ⟨by omega, fun id h1 h2 => (k5 id (by omega) fun id' o' n' c' e' h0 => by have := fO _ _ _ _ e'; omega).trans ((FX.trans FX4).get id h1 h2)⟩
  rw [decide_eq_false hge]
  obtain rfl : i = 0 := by omega
  have hm2 : oL.length = 2 * m := by omega
  replace sb := sb.fx hul FX
  replace sc := sc.fx hul FX
  have cko : ckF p n [oL] = 0 := ck_of hf hn6.1 (by omega) _ fun q hq => by
    rw [List.mem_singleton.1 hq]; exact ⟨by omega, fun i hi => (rO i hi).1⟩
  simp (disch := first | omega | (simp only [Qn] <;> omega)) only [go_sem]
  refine (Basis_sp p n ov oL hh RO.sr (by omega) cko).mono ?_
  rintro w k3 ⟨ud, S3, f3, kk3, rfl, s3, hk3, sd, f3'⟩
  have oA : ∀ i, i < oL.length → InS p n aL.length (vw aL) (vw oL i) := fun i hi => by rw [al]; exact (rO i hi).2
  have aO : ∀ i, i < aL.length → InS p n oL.length (vw oL) (vw aL i) := fun i hi => by
    obtain ⟨r, h1, h2⟩ := cO i (Nat.zero_le _) (by omega)
    exact (InS.row (V := vw oL) h1).congr fun j _ => by simp only [vw, h2]
  have e3 : rwF n n S3 f3 = bL := by
    obtain ⟨q1, q2, _⟩ := Sp.uniq hp s3 s oA aO
    rw [← hbL]
    exact rwF_congr q1 q2
  rw [e3] at sd
  simp (disch := first | omega | (simp only [Qn] <;> omega)) only [go_sem]
  refine (Rank_sp p n ov oL k3 (RO.sr.mono f3') (by omega) cko).mono ?_
  rintro w k4 ⟨S4, f4, kr, rfl, s4, hk4, f4'⟩
  have ekr : kr = k := (Sp.uniq hp s4 s oA aO).2.2
  subst ekr
  have F34 := f3'.trans f4'
  have RA4 := RAh.fr F34
  have ht4 := ht.mono F34
  have hk34 := F34.next
  replace sb := sb.fr F34
  replace sc := sc.fr F34
  replace sd := (sd.fr f4').le (lo' := lo) (by omega)
  simp (disch := first | omega | (simp only [Qn] <;> omega)) only [go_sem]
  refine (mix_ok uid more n p va wsA aL lo k4 ht4 hlm (by omega) (by omega) RA4 hul (by omega) ar ae).mono ?_
  rintro w k5 ⟨r, N, hin, hr, rfl, hN1, hN2, bN, ht5, FX5⟩
  have RA5 := Rws.fx RA4 hul FX5
  have hk5 := FX5.next
  replace sb := sb.fx hul FX5
  replace sc := sc.fx hul FX5
  replace sd := sd.fx hul FX5
  simp (disch := first | omega | (simp only [Qn] <;> omega)) only [go_sem]
  refine (In_ok p n va _ aL (mkV n r) k5 RA5.sr (by omega) (bN.si hN2 _)).mono ?_
  rintro w k6 ⟨rfl, f6⟩
  have ckab : ∀ q : List Int, q.length = n → ckF p n [aL, [q]] = 0 := fun q hq => ck_of hf hn6.1 (by omega) _ fun l hl => by
    rcases List.mem_cons.1 hl with rfl | hl
    · exact ⟨by omega, ar⟩
    · rw [List.mem_singleton.1 hl]
      exact ⟨by simp, fun i hi => by obtain rfl : i = 0 := (by simpa using hi); exact hq⟩
  have inF : ∀ q : List Int, q.length = n → InF p n aL q = (open Classical in decide (InS p n aL.length (vw aL) (fun j => q.getD j 0)), 0) := fun q hq => by
    rw [InF, if_neg (by rw [ckab q hq]; simp), Int.toNat_natCast]
  rw [inF _ (mkV_len ..)]
  have hin1 : InS p n aL.length (vw aL) (fun j => (mkV n r).getD j 0) := hin.congr fun j hj => by rw [mkV_get _ hj]
  replace RA5 := RA5.fr f6
  replace ht5 := ht5.mono f6
  have hk6 := f6.next
  replace sb := sb.fr f6
  replace sc := sc.fr f6
  replace sd := sd.fr f6
  have fitb : FitL bL := ⟨by omega, fun i hi => by rw [br i hi]; omega⟩
  have dkk : decide ((kr : Int) ≠ (kr : Int)) = false := decide_eq_false fun q => q rfl
  simp (disch := first | omega | (simp only [Qn] <;> omega)) only [go_sem, hin1, decide_true, d00, sb.sr.lens, bl, dkk]
  refine (sameLists_ok uc ub bL bL k6 sc.sr sb.sr fitb.1 fitb.1 fitb.2 fitb.2).mono ?_
  rintro w k7 ⟨rfl, f7⟩
  simp (disch := first | omega | (simp only [Qn] <;> omega)) only [go_sem, decide_true]
  refine (sameLists_ok ud ub bL bL k7 (sd.fr f7).sr (sb.fr f7).sr fitb.1 fitb.1 fitb.2 fitb.2).mono ?_
  rintro w k8 ⟨rfl, f8⟩
  have F8 := f7.trans f8
  replace RA5 := RA5.fr F8
  replace ht5 := ht5.mono F8
  have hk8 := F8.next
  clear sb sc sd
  simp (disch := first | omega | (simp only [Qn] <;> omega)) only [go_sem, decide_true]
  refine (drawn_ok uid more 1 n p k8 ht5 hlm (by omega) (by omega) (by omega)).mono ?_
  rintro vv k9 ⟨A1, wsV, hA1, RV, ht9, FX9⟩
  have RA9 := Rws.fx RA5 hul FX9
  have hk9 := FX9.next
  obtain ⟨idv, offv, slv, hidv, hwlv, hcv⟩ := RV.open
  rw [mkR_len] at slv hidv hcv hwlv
  have c0 := hcv 0 (by omega)
  have r0 := row_at RV.row (i := 0) (by rw [mkR_len]; omega)
  rw [mkR_row _ (by omega)] at r0
  have hlid := hidv (by omega)
  obtain ⟨wv, hwv⟩ : ∃ w, wsV.getD 0 .undef = w := ⟨_, rfl⟩
  rw [hwv] at c0 r0
  rw [Nat.add_zero] at c0
  simp (disch := first | omega | (simp only [Qn] <;> omega)) only [go_sem, slv.ixa, c0]
  refine (In_ok p n va wv aL _ k9 RA9.sr (by omega) r0).mono ?_
  rintro w k10 ⟨rfl, f10⟩
  rw [inF _ (mkV_len ..)]
  have RA10 := RA9.fr f10
  have hk10 := f10.next
  have c10 : k10.cell idv offv = some wv := by
    unfold H.cell at c0 ⊢
    rw [f10.get idv hlid.1]; exact c0
  have r10 := r0.mono f10
  have fb : Fr k10 (H.mk k10.tr (k10.next + 15)) := (Fr.refl k10).bump (by omega)
  have nb : (H.mk k10.tr (k10.next + 15)).next = k10.next + 15 := rfl
  simp (disch := first | omega | (simp only [Qn] <;> omega)) only [go_sem, slv.ixa, c10]
  obtain ⟨hB, hhB⟩ : ∃ q, H.mk k10.tr (k10.next + 15) = q := ⟨_, rfl⟩
  rw [hhB] at fb nb ⊢
  have RB := RA10.fr fb
  refine (ownr_ok va wsA hB RB.own.sv (by have := RA10.row.length; omega)).mono ?_
  rintro vo k11 ⟨oo, f11⟩
  have hwsA : wsA.length = m := by rw [RA10.row.length, al]
  have hk11 := f11.next
  have c11 : k11.cell idv offv = some wv := by
    unfold H.cell at c10 ⊢
    rw [(fb.trans f11).get idv (by omega)]; exact c10
  have ewv := SV.eqV r10
  have vwv := SV.what r10
  have r11 := (r10.mono fb).mono f11
  have sy := litAt_sv k11 (a := k10.next + 7) wv (by omega)
  have oo4 : Own (litAt k11 (k10.next + 7) wv) vo 1 wsA hB.next := oo.mono (by show k11.next ≤ k11.next; omega) fun id _ _ _ _ h1 _ => litAt_ne k11 wv (by omega)
  obtain ⟨v12, k12, e12, a12⟩ := oo4.app (bytes := 24) (n := wsA.length) (m := 1) (by show hB.next ≤ k11.next; omega) sy (by omega) rfl (by omega) (by omega)
  have F12 : Fr k10 k12 := a12.fr k10 (litAt_fr (fb.trans f11) (by omega) wv) (by omega)
  have sr12 : SR k12 v12 (aL ++ [mkV n (A1 0)]) := ⟨wsA ++ [wv], a12.own.sv, All2.append (RA10.row.mono fun _ _ s => s.mono F12) ⟨r10.mono F12, trivial⟩⟩
  simp (disch := first | omega | (simp only [Qn] <;> omega)) only [go_sem, c11, ewv, bls_v (H.mk k11.tr (k10.next + 7)) wv vwv.1 vwv.2.1, litAt_eq, e12]
  have alen : (aL ++ [mkV n (A1 0)]).length = m + 1 := by simp [al]
  have cke : ckF p n [aL ++ [mkV n (A1 0)]] = 0 := ck_of hf hn6.1 (by omega) _ fun q hq => by
    rw [List.mem_singleton.1 hq]
    refine ⟨by omega, fun i hi => ?_⟩
    rcases ap1 (o := aL) (x := mkV n (A1 0)) (q := i) (by omega) with ⟨a1, a2⟩ | ⟨a1, a2⟩
    · rw [a2]; exact ar i a1
    · rw [a2, mkV_len]
  refine (Rank_sp p n v12 _ k12 sr12 (by omega) cke).mono ?_
  rintro w k13 ⟨S5, f5, k5, rfl, s5, hk5, f13⟩
  simp (disch := first | omega | (simp only [Qn] <;> omega)) only [go_sem]
  have aE : ∀ i, i < aL.length → InS p n (aL ++ [mkV n (A1 0)]).length (vw (aL ++ [mkV n (A1 0)])) (vw aL i) := fun i hi => by
    refine (InS.row (V := vw (aL ++ [mkV n (A1 0)])) (i := i) (by omega)).congr fun j _ => ?_
    rcases ap1 (o := aL) (x := mkV n (A1 0)) (q := i) (by omega) with ⟨a1, a2⟩ | ⟨a1, a2⟩
    · simp only [vw, a2]
    · omega
  have key : InS p n aL.length (vw aL) (fun j => (mkV n (A1 0)).getD j 0) ↔ k5 = kr := by
    constructor
    · intro q
      refine (Sp.uniq hp s5 s (fun i hi => ?_) aE).2.2
      rcases ap1 (o := aL) (x := mkV n (A1 0)) (q := i) (by omega) with ⟨a1, a2⟩ | ⟨a1, a2⟩
      · exact (InS.row (V := vw aL) a1).congr fun j _ => by simp only [vw, a2]
      · exact q.congr fun j _ => by simp only [vw, a2]
    · intro q
      have := rank_law hp s s5 aE (by rw [← s.cn, ← s5.cn, q]) m (by omega)
      refine this.congr fun j _ => ?_
      rcases ap1 (o := aL) (x := mkV n (A1 0)) (q := m) (by omega) with ⟨a1, a2⟩ | ⟨a1, a2⟩
      · omega
      · simp only [vw, a2]
  by_cases e : k5 = kr
  · have q := key.2 e
    subst e
    simp (disch := first | omega | (simp only [Qn] <;> omega)) only [go_sem, decide_true, eq_self_iff_true, q]
  · have q : ¬ InS p n aL.length (vw aL) (fun j => (mkV n (A1 0)).getD j 0) := fun q => e (key.1 q)
    have e' : ¬ (k5 : Int) = (kr : Int) := by omega
    simp (disch := first | omega | (simp only [Qn] <;> omega)) only [go_sem, decide_true, decide_false, q, e']
end Go.Proofs.Ytlhebmcnjgagjaa

