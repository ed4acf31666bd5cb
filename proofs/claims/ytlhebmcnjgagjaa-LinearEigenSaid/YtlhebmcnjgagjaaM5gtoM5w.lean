/- Layer 5: list. Spans of rows modulo a prime; reduced echelon lists. Layer 5: what inserting rows keeps. Layer 5: check. Layer 5: Basis, Rank, In. Layer 5: Rank, In. Layer 5: marked. Layer 5: kernel. Layer 5: Kernel; spans from certificates. Layer 5: the law's examples, its field. Layer 5: the law's drawn rows and their combinations. Layer 5: what an echelon list is found to be. Layer 5: plain laws of bases and ranks. Layer 5: Basis and Rank with the span that they found; a copy of rows. Layer 5: the reference's residues. Layer 5: the reference's add. Layer 5: the reference's check. The reference's basis, column by column: what is kept. Layer 5: blocks of rows, with three lists that grow: for the reference's basis. Layer 5: the reference's basis, column by column. Layer 5: the reference's basis, column by column: the walk. Layer 5: two lists of rows in a row; Sum. Layer 5: Sum. Layer 5: the plain law of the kernel. -/
import Derived.Test.YtlhebmcnjgagjaaM5atoM5f
import Derived.Test.YtlhebmcnjgagjaaAy34
import Derived.Test.YtlhebmcnjgagjaaDt1toDt6
import Derived.Test.YtlhebmcnjgagjaaL4ytoL4tb
import Derived.Test.YtlhebmcnjgagjaaL4atoL4x
/- Layer 5: list. -/
namespace Go.Proofs.Ytlhebmcnjgagjaa
open Go Go.Ay
set_option maxRecDepth 100000
def wdF (n W : Nat) (S : Nat → Bool) (ρ : Nat → Nat) : List V := ((List.range n).filter S).map fun c => V.sl (ρ c) 0 W (.kn W)
theorem wdF_succ {c W : Nat} {S : Nat → Bool} {ρ : Nat → Nat} : wdF (c + 1) W S ρ = wdF c W S ρ ++ (if S c then [V.sl (ρ c) 0 W (.kn W)] else []) := by
  simp only [wdF, List.range_succ, List.filter_append, List.map_append]
  congr 1
  cases hs : S c <;> simp [List.filter, hs]
theorem wdF_len {c W : Nat} {S : Nat → Bool} {ρ : Nat → Nat} : (wdF c W S ρ).length ≤ c := by
  rw [wdF, List.length_map]
  exact Nat.le_trans (List.length_filter_le _ _) (by rw [List.length_range]; omega)
structure LJ (p : Int) (E M n W X X4 LID : Nat) (S : Nat → Bool) (ρ : Nat → Nat) (f : Nat → Nat → Int) (lo lo2 : Nat) (u : V) (ws : List V) (h : H) (rc : LRec) (hh : H) : Prop where
  gX : hh.get X = some (.cells false [u])
  g4 : hh.get X4 = some (.cells false [.ptr E 0])
  gL : hh.get LID = some (.loop rc)
  o : Own hh u 1 ws lo2
  k : Ec hh E M n W p S ρ f lo
  fr : Fr h hh
  lt : LID < hh.next
  l2 : lo2 ≤ hh.next
/-- Rows that lie at or behind an index. -/
def SRf (h : H) (u : V) (ll : List (List Int)) (lo : Nat) : Prop := ∃ ws, SV h u 1 ws ∧ All2 (SI h) ws ll ∧ Frs u lo ∧ ∀ w ∈ ws, Frs w lo
theorem SRf.sr {h : H} {u : V} {ll : List (List Int)} {lo : Nat} (s : SRf h u ll lo) : SR h u ll := by
  obtain ⟨ws, h1, h2, _⟩ := s
  exact ⟨ws, h1, h2⟩
theorem SRf.le {h : H} {u : V} {ll : List (List Int)} {lo lo' : Nat} (s : SRf h u ll lo) (hl : lo' ≤ lo) : SRf h u ll lo' := by
  obtain ⟨ws, h1, h2, h3, h4⟩ := s
  exact ⟨ws, h1, h2, h3.le hl, fun w hw => (h4 w hw).le hl⟩
theorem SRf.fx {h h' : H} {u : V} {ll : List (List Int)} {lo x : Nat} (s : SRf h u ll lo) (hx : x < lo) (f : Fx x h h') : SRf h' u ll lo := by
  obtain ⟨ws, h1, h2, h3, h4⟩ := s
  refine ⟨ws, ?_, All2.keep h2 fun w hw b s => SI.fx s (h4 w hw) hx f, h3, h4⟩
  rcases h1 with s | ⟨id, off, len, cap, ro, vs, rfl, q2, q3, q4, q5, q6⟩
  · exact .inl s
  · have hid := h3 _ _ _ _ rfl
    exact .inr ⟨id, off, len, cap, ro, vs, rfl, q2, Nat.lt_of_lt_of_le q3 f.next, by rw [f.get id q3 (by omega)]; exact q4, q5, q6⟩
theorem SRf.fr {h h' : H} {u : V} {ll : List (List Int)} {lo : Nat} (s : SRf h u ll lo) (f : Fr h h') : SRf h' u ll lo := by
  obtain ⟨ws, h1, h2, h3, h4⟩ := s
  exact ⟨ws, h1.mono f, h2.mono fun _ _ s => s.mono f, h3, h4⟩
set_option maxHeartbeats 16000000 in
theorem list_fr (p : Int) (E M n W : Nat) (S : Nat → Bool) (ρ : Nat → Nat) (f : Nat → Nat → Int) (lo : Nat) (h : H) (k : Ec h E M n W p S ρ f lo) (hn : n < 1000000) :
    Ev T n_linear_echelon_list [.ptr E 0] h (fun w h' => SRk h' w (rwF n W S f) ∧ Fr h h' ∧ SRf h' w (rwF n W S f) lo) := by
  refine Ev_of t_linear_echelon_list rfl ?_
  have k1 := k.ltE
  have k2 := k.ltM
  have k3 := k.ltR
  simp (disch := first | omega | (simp only [Qn] <;> omega)) only [go_sem, c_linear_echelon_list, initV_eq]
  have hf1 : Fr h (h.new (.cells false [.nils])) := (Fr.refl h).new _
  have hg1 : (h.new (.cells false [.nils])).get h.next = some (.cells false [.nils]) := H.get_new_same ..
  have hn1 : (h.new (.cells false [.nils])).next = h.next + 1 := H.next_new ..
  generalize h.new (.cells false [.nils]) = h1 at *
  refine (pivots_ok E h1).mono ?_
  rintro w h2 ⟨rfl, rfl⟩
  have hf3 : Fr h1 (h1.new (.cells false [.ptr E 0])) := (Fr.refl h1).new _
  have hg3 : (h1.new (.cells false [.ptr E 0])).get h1.next = some (.cells false [.ptr E 0]) := H.get_new_same ..
  have hn3 : (h1.new (.cells false [.ptr E 0])).next = h1.next + 1 := H.next_new ..
  generalize h1.new (.cells false [.ptr E 0]) = h3 at *
  obtain ⟨X, hX⟩ : ∃ X, h.next = X := ⟨_, rfl⟩
  obtain ⟨X4, hX4⟩ : ∃ X, h1.next = X := ⟨_, rfl⟩
  obtain ⟨LID, hLID⟩ : ∃ X, h3.next = X := ⟨_, rfl⟩
  rw [hX4] at hg3
  rw [hX] at hg1
  simp (disch := first | omega | (simp only [Qn] <;> omega)) only [go_sem]
  rw [hX, hX4, hLID]
  generalize hrc : LRec.mk _ _ _ _ _ _ = rc
  refine ⟨rfl, ?_⟩
  have f4 : Fr h3 (h3.new (.loop rc)) := (Fr.refl h3).new _
  have F3 := hf1.trans hf3
  have J0 : LJ p E M n W X X4 LID S ρ f lo (LID + 1) .nils (wdF 0 W S ρ) h rc (h3.new (.loop rc)) :=
    ⟨((hf3.trans f4).get _ (by omega)).trans hg1, (f4.get _ (by omega)).trans hg3, by rw [← hLID]; exact H.get_new_same .., Own.nils _ _ _, k.fr (F3.trans f4), F3.trans f4, by rw [H.next_new]; omega, by rw [H.next_new]; omega⟩
  have loop : Ev T 94 [.yl LID, .ptr X4 0] (h3.new (.loop rc)) (fun _ hh => ∃ u, LJ p E M n W X X4 LID S ρ f lo (LID + 1) u (wdF n W S ρ) h rc hh) := by
    refine pivots_loop LID X4 E M n W p S ρ (fun c hh => c ≤ n ∧ ∃ u, LJ p E M n W X X4 LID S ρ f lo (LID + 1) u (wdF c W S ρ) h rc hh)
      (fun c hh ⟨_, u, J⟩ => ⟨J.g4, J.k.gE, J.k.gM⟩) (fun c hh hc hs2 ⟨_, u, J⟩ => ?_) (fun c hh hc hs2 ⟨_, u, J⟩ => ⟨by omega, u, by rw [wdF_succ, hs2]; simpa using J⟩) _ ⟨Nat.zero_le _, _, J0⟩ hn |>.mono fun _ _ q => q.2
    refine Ey_of J.gL (by rw [← hrc]; rfl) ?_
    have lt := J.lt
    have l2 := J.l2
    have gX := J.gX
    have cX : hh.cell X 0 = some u := by rw [H.cell_of J.gX]; rfl
    subst hrc
    simp (disch := first | omega | (simp only [Qn] <;> omega)) only [go_sem, List.zip_cons_cons, List.zip_nil_left]
    refine ⟨_, J.gL, rfl, ?_⟩
    generalize hrb : LRec.mk _ _ _ _ LSt.busy _ = rb
    have o1 : Own (hh.set LID (some (.loop rb))) u 1 (wdF c W S ρ) (LID + 1) := J.o.set (by omega) _
    have e1 := J.k.fx (h' := hh.set LID (some (.loop rb))) ((Fx.refl LID hh).set _) (by omega) (by omega) fun c hc hs2 => by have := k3 c hc hs2; omega
    have F1 : Fr h (hh.set LID (some (.loop rb))) := Fr.set J.fr (by omega) _
    have gX1 : (hh.set LID (some (.loop rb))).get X = some (.cells false [u]) := by rw [H.get_set_ne _ (by omega)]; exact gX
    have g41 : (hh.set LID (some (.loop rb))).get X4 = some (.cells false [.ptr E 0]) := by rw [H.get_set_ne _ (by omega)]; exact J.g4
    have gL1 : (hh.set LID (some (.loop rb))).get LID = some (.loop rb) := H.get_set_same ..
    have cX1 : (hh.set LID (some (.loop rb))).cell X 0 = some u := by rw [H.cell_of gX1]; rfl
    have n10 : (hh.set LID (some (.loop rb))).next = hh.next := rfl
    obtain ⟨h10, h10e⟩ : ∃ q, hh.set LID (some (.loop rb)) = q := ⟨_, rfl⟩
    rw [h10e] at o1 e1 F1 gX1 g41 gL1 cX1 n10
    rw [h10e]
    simp (disch := first | omega | (simp only [Qn] <;> omega)) only [go_sem, cX, cX1, bls_row h10 (v := .sl (ρ c) 0 W (.kn W)) rfl rfl]
    have n10' : hh.next = h10.next := n10.symm
    have hf11 : Fr h10 (h10.new (.cells false [.sl (ρ c) 0 W (.kn W)])) := (Fr.refl h10).new _
    have hg11 : (h10.new (.cells false [.sl (ρ c) 0 W (.kn W)])).get h10.next = some (.cells false [.sl (ρ c) 0 W (.kn W)]) := H.get_new_same ..
    have hn11 : (h10.new (.cells false [.sl (ρ c) 0 W (.kn W)])).next = h10.next + 1 := H.next_new ..
    generalize h10.new (.cells false [.sl (ρ c) 0 W (.kn W)]) = h11 at *
    have sx : SV h11 (.sl h10.next 0 1 (.kn 1)) 1 [.sl (ρ c) 0 W (.kn W)] := SV.all rfl (by omega) hg11 _
    have wl := wdF_len (c := c) (W := W) (S := S) (ρ := ρ)
    obtain ⟨u2, h12, e12, a12⟩ := (o1.fr hf11).app (bytes := 24) (n := (wdF c W S ρ).length) (m := 1) (by omega) sx (by omega) rfl (by omega) (by omega)
    have t12 := a12.own
    have hv := SV.what a12.own.sv
    have hst1 := fun hh => stV_one hv.1 hv.2.1 hh X 0
    have apX : Apart u X := own_apart o1 (by omega)
    have ap4 : Apart u X4 := own_apart o1 (by omega)
    have apL : Apart u LID := own_apart o1 (by omega)
    have ap : ∀ x, x < h.next → Apart u x := fun x hx => own_apart o1 (by omega)
    have gX12 := (a12.get X (by omega) apX).trans ((hf11.get X (by omega)).trans gX1)
    have g412 := (a12.get X4 (by omega) ap4).trans ((hf11.get X4 (by omega)).trans g41)
    have gL12 := (a12.get LID (by omega) apL).trans ((hf11.get LID (by omega)).trans gL1)
    have F12 : Fr h h12 := a12.fr h (F1.trans hf11) (by omega)
    have e12' := k.fr F12
    have pt := fun hh : H => putO_one (vs := [u]) (off := 0) (by simp) hh X u2
    have n12 := a12.next
    simp (disch := first | omega | (simp only [Qn] <;> omega)) only [go_sem, e12, hst1, gX12, pt]
    refine ⟨rb, by rw [H.get_set_ne _ (by omega)]; exact gL12, rfl, by omega, u2, ?_⟩
    have ew : wdF (c + 1) W S ρ = wdF c W S ρ ++ [.sl (ρ c) 0 W (.kn W)] := by rw [wdF_succ, if_pos hs2]
    rw [ew]
    subst hrb
    refine ⟨by rw [H.get_set_ne _ (by omega)]; exact H.get_set_same .., by rw [H.get_set_ne _ (by omega), H.get_set_ne _ (by omega)]; exact g412, H.get_set_same .., (t12.set (by omega) _).set (by omega) _, ?_, (F12.set (by omega) _).set (by omega) _, by show LID < h12.next; omega, by show LID + 1 ≤ h12.next; omega⟩
    exact (e12'.fx ((Fx.refl X h12).set _) (by omega) (by omega) fun c hc hs2 => by have := k3 c hc hs2; omega).fx ((Fx.refl LID _).set _) (by omega) (by omega) fun c hc hs2 => by have := k3 c hc hs2; omega
  refine loop.mono ?_
  rintro _ h20 ⟨u, J⟩
  refine ⟨_, J.gL, by rw [← hrc]; simp, ?_⟩
  have hpe : rc.pend = none := by rw [← hrc]
  simp only [hpe, Option.getD_none]
  have lt := J.lt
  have q3 : ∀ o, (h20.set LID o).cell X 0 = some u := fun o => by
    rw [H.cell_set_ne _ (by omega), H.cell_of J.gX]; rfl
  have g' : ∀ o, Fr h (h20.set LID o) := fun o => Fr.set J.fr (by omega) o
  have o' : ∀ o, Own (h20.set LID o) u 1 (wdF n W S ρ) (LID + 1) := fun o => J.o.set (by omega) o
  have kk : ∀ o, Ec (h20.set LID o) E M n W p S ρ f lo := fun o => J.k.fx ((Fx.refl LID h20).set _) (by omega) (by omega) fun c hc hs2 => by have := k3 c hc hs2; omega
  simp (disch := first | omega | (simp only [Qn] <;> omega)) only [go_sem, q3]
  have al : ∀ o, All2 (SI (h20.set LID o)) (wdF n W S ρ) (rwF n W S f) := fun o => All2.of_get (by simp [wdF, rwF]) fun i h1 h2 => by
    simp only [wdF, rwF, List.getElem_map]
    have hm : ((List.range n).filter S)[i]'(by simpa [wdF] using h1) ∈ (List.range n).filter S := List.getElem_mem _
    rw [List.mem_filter, List.mem_range] at hm
    exact ((kk _).row _ hm.1 hm.2).si ((kk _).ltR _ hm.1 hm.2) _
  refine ⟨⟨_, (o' _).sv, al _, fun w hw => ?_⟩, g' _, _, (o' _).sv, al _, Frs.le (Frs.own (o' none)) ?_, fun w hw => ?_⟩
  · simp only [wdF, List.mem_map] at hw
    obtain ⟨c, _, rfl⟩ := hw
    intro id off m cc e
    cases e
    exact ⟨W, rfl, Nat.le_refl _⟩
  · have := k.loE; omega
  · simp only [wdF, List.mem_map, List.mem_filter, List.mem_range] at hw
    obtain ⟨c, ⟨hc, hs2⟩, rfl⟩ := hw
    intro id off m cc e
    cases e
    exact k.loR c hc hs2
theorem list_ok (p : Int) (E M n W : Nat) (S : Nat → Bool) (ρ : Nat → Nat) (f : Nat → Nat → Int) (lo : Nat) (h : H) (k : Ec h E M n W p S ρ f lo) (hn : n < 1000000) :
    Ev T n_linear_echelon_list [.ptr E 0] h (fun w h' => SRk h' w (rwF n W S f) ∧ Fr h h') := (list_fr p E M n W S ρ f lo h k hn).mono fun _ _ q => ⟨q.1, q.2.1⟩
end Go.Proofs.Ytlhebmcnjgagjaa

/- Spans of rows modulo a prime; reduced echelon lists. -/
namespace Go.Ay
theorem mm2 (p a : Int) : a % p % p = a % p := Int.emod_emod_of_dvd _ (Int.dvd_refl p)
theorem add_cg {p a b c d : Int} (h : a % p = b % p) (k : c % p = d % p) : (a + c) % p = (b + d) % p := by
  rw [Int.add_emod, h, k, ← Int.add_emod]
theorem sub_cg {p a b c d : Int} (h : a % p = b % p) (k : c % p = d % p) : (a - c) % p = (b - d) % p := by
  rw [Int.sub_emod, h, k, ← Int.sub_emod]
/-- A combination of rows. -/
def InS (p : Int) (W m : Nat) (V : Nat → Nat → Int) (v : Nat → Int) : Prop := ∃ c : Nat → Int, ∀ j, j < W → v j % p = sm m (fun i => c i * V i j) % p
section
variable {p : Int} {W m m' : Nat} {V V' : Nat → Nat → Int} {v w : Nat → Int}
theorem InS.congr (h : InS p W m V v) (e : ∀ j, j < W → w j % p = v j % p) : InS p W m V w := by
  obtain ⟨c, hc⟩ := h
  exact ⟨c, fun j hj => (e j hj).trans (hc j hj)⟩
theorem InS.row {i : Nat} (hi : i < m) : InS p W m V (V i) :=
  ⟨fun k => if k = i then 1 else 0, fun j _ => by rw [sm_one (t := i) hi fun k _ hne => by simp only [if_neg hne, Int.zero_mul]]; simp only [if_true, Int.one_mul]⟩
theorem InS.zero : InS p W m V (fun _ => 0) := ⟨fun _ => 0, fun j _ => by rw [sm_zeros fun k _ => Int.zero_mul _]⟩
theorem InS.add (h : InS p W m V v) (k : InS p W m V w) : InS p W m V (fun j => v j + w j) := by
  obtain ⟨c, hc⟩ := h
  obtain ⟨d, hd⟩ := k
  refine ⟨fun i => c i + d i, fun j hj => ?_⟩
  rw [add_cg (hc j hj) (hd j hj), ← sm_add]
  exact congrArg (· % p) (sm_congr fun i _ => by rw [Int.add_mul])
theorem InS.smul (x : Int) (h : InS p W m V v) : InS p W m V (fun j => x * v j) := by
  obtain ⟨c, hc⟩ := h
  refine ⟨fun i => x * c i, fun j hj => ?_⟩
  rw [mul_mod (rfl : x % p = x % p) (hc j hj), ← sm_mul]
  exact congrArg (· % p) (sm_congr fun i _ => by rw [Int.mul_assoc])
theorem InS.sum {r : Nat} {U : Nat → Nat → Int} (h : ∀ k, k < r → InS p W m V (U k)) (d : Nat → Int) : InS p W m V (fun j => sm r (fun k => d k * U k j)) := by
  induction r with
  | zero => exact InS.zero
  | succ r ih => exact (ih fun k hk => h k (by omega)).add ((h r (by omega)).smul (d r))
theorem InS.trans (h : InS p W m V v) (k : ∀ i, i < m → InS p W m' V' (V i)) : InS p W m' V' v := by
  obtain ⟨c, hc⟩ := h
  exact (InS.sum k c).congr hc
theorem InS.more (h : InS p W m V v) (hm : m ≤ m') : InS p W m' V v := h.trans fun _ hi => InS.row (by omega)
theorem InS.cols (h : InS p W m V v) {n : Nat} (hn : n ≤ W) : InS p n m V v := by
  obtain ⟨c, hc⟩ := h
  exact ⟨c, fun j hj => hc j (by omega)⟩
theorem InS.rows (h : InS p W m V v) (e : ∀ i j, i < m → j < W → V i j % p = V' i j % p) : InS p W m V' v := by
  obtain ⟨c, hc⟩ := h
  exact ⟨c, fun j hj => (hc j hj).trans (sm_mod fun i hi => mul_mod rfl (e i j hi hj))⟩
end
/-- A reduced echelon list: pivots, rows. -/
structure Re (p : Int) (n W : Nat) (S : Nat → Bool) (f : Nat → Nat → Int) : Prop where
  rng : ∀ c j, c < n → S c = true → j < W → 0 ≤ f c j ∧ f c j < p
  one : ∀ c, c < n → S c = true → f c c = 1
  zer : ∀ c d, c < n → d < n → S c = true → S d = true → d ≠ c → f c d = 0
  lead : ∀ c j, c < n → S c = true → j < c → f c j = 0
/-- The rows, 0 where there is no pivot. -/
def gf (S : Nat → Bool) (f : Nat → Nat → Int) : Nat → Nat → Int := fun c j => if S c then f c j else 0
theorem gf_yes {S : Nat → Bool} {f : Nat → Nat → Int} {c : Nat} (h : S c = true) (j : Nat) : gf S f c j = f c j := by simp only [gf, h, if_true]
theorem gf_no {S : Nat → Bool} {f : Nat → Nat → Int} {c : Nat} (h : S c = false) (j : Nat) : gf S f c j = 0 := by simp [gf, h]
section
variable {p : Int} {n W : Nat} {S S' : Nat → Bool} {f f' : Nat → Nat → Int}
theorem gf_piv (r : Re p n W S f) {c : Nat} (hc : c < n) (hs : S c = true) (d : Nat → Int) : sm n (fun e => d e * gf S f e c) = d c := by
  rw [sm_one (t := c) hc fun e he hne => ?_, gf_yes hs, r.one c hc hs, Int.mul_one]
  cases hse : S e with
  | true => rw [gf_yes hse, r.zer e c he hc hse hs (Ne.symm hne), Int.mul_zero]
  | false => rw [gf_no hse, Int.mul_zero]
/-- What is a combination of the rows is the one that its entries at the pivots tell. -/
theorem Re.read (r : Re p n W S f) {v d : Nat → Int} (h : ∀ j, j < n → v j % p = sm n (fun c => d c * gf S f c j) % p) {j : Nat} (hj : j < n) : v j % p = sm n (fun c => v c * gf S f c j) % p := by
  rw [h j hj]
  refine sm_mod fun c hc => ?_
  cases hs : S c with
  | true =>
    refine mul_mod ?_ rfl
    rw [h c hc, gf_piv r hc hs]
  | false => rw [gf_no hs, Int.mul_zero, Int.mul_zero]
/-- The pivots are where the rows of the span begin. -/
theorem Re.sub (hp : 1 < p) (r : Re p n W S f) (r' : Re p n W S' f') (h : ∀ c, c < n → S c = true → InS p n n (gf S' f') (f c)) {c : Nat} (hc : c < n) (hs : S c = true) : S' c = true := by
  cases hs' : S' c with
  | true => rfl
  | false =>
    exfalso
    obtain ⟨d, hd⟩ := h c hc hs
    have e := r'.read hd hc
    rw [r.one c hc hs, sm_zeros fun a ha => ?_] at e
    · rw [Int.zero_emod, Int.emod_eq_of_lt (by omega) hp] at e
      omega
    cases hsa : S' a with
    | false => rw [gf_no hsa, Int.mul_zero]
    | true =>
      by_cases h1 : a < c
      · rw [r.lead c a hc hs h1, Int.zero_mul]
      · by_cases h2 : a = c
        · rw [h2, hs'] at hsa; cases hsa
        · rw [gf_yes hsa, r'.lead a c ha hsa (by omega), Int.mul_zero]
/-- Reduced echelon lists with one span are equal. -/
theorem Re.uniq (hp : 1 < p) (r : Re p n n S f) (r' : Re p n n S' f') (h : ∀ c, c < n → S c = true → InS p n n (gf S' f') (f c)) (h' : ∀ c, c < n → S' c = true → InS p n n (gf S f) (f' c)) :
    (∀ c, c < n → S c = S' c) ∧ ∀ c j, c < n → S c = true → j < n → f c j = f' c j := by
  have e : ∀ c, c < n → S c = S' c := fun c hc => by
    cases hs : S c with
    | true => rw [Re.sub hp r r' h hc hs]
    | false =>
      cases hs' : S' c with
      | false => rfl
      | true => rw [Re.sub hp r' r h' hc hs'] at hs; cases hs
  refine ⟨e, fun c j hc hs hj => ?_⟩
  obtain ⟨d, hd⟩ := h c hc hs
  have q := r'.read hd hj
  rw [sm_one (t := c) hc fun a ha hne => ?_, r.one c hc hs, Int.one_mul, gf_yes (by rw [← e c hc]; exact hs)] at q
  · have b1 := r.rng c j hc hs hj
    have b2 := r'.rng c j hc (by rw [← e c hc]; exact hs) hj
    rwa [Int.emod_eq_of_lt b1.1 b1.2, Int.emod_eq_of_lt b2.1 b2.2] at q
  cases hsa : S' a with
  | false => rw [gf_no hsa, Int.mul_zero]
  | true => rw [r.zer c a hc ha hs (by rw [e a ha]; exact hsa) hne, Int.zero_mul]
end
/-- How many pivots. -/
def cnt (n : Nat) (S : Nat → Bool) : Nat := ((List.range n).filter S).length
theorem cnt_succ (n : Nat) (S : Nat → Bool) : cnt (n + 1) S = cnt n S + (if S n then 1 else 0) := by
  simp only [cnt, List.range_succ, List.filter_append, List.length_append]
  congr 1
  cases h : S n <;> simp [List.filter, h]
theorem cnt_le (n : Nat) (S : Nat → Bool) : cnt n S ≤ n := by
  rw [cnt]
  exact Nat.le_trans (List.length_filter_le _ _) (by rw [List.length_range]; omega)
theorem cnt_congr {n : Nat} {S S' : Nat → Bool} (h : ∀ c, c < n → S c = S' c) : cnt n S = cnt n S' := by
  induction n with
  | zero => rfl
  | succ n ih => rw [cnt_succ, cnt_succ, ih fun c hc => h c (by omega), h n (by omega)]
theorem cnt_none (n : Nat) : cnt n (fun _ => false) = 0 := by simp [cnt]
theorem cnt_ins {n : Nat} {S : Nat → Bool} {a : Nat} (h : S a = false) : cnt n (fun c => if c = a then true else S c) = cnt n S + (if a < n then 1 else 0) := by
  induction n with
  | zero => rfl
  | succ n ih =>
    rw [cnt_succ, cnt_succ, ih]
    by_cases e : n = a
    · subst e
      simp [h]
    · simp only [if_neg e]
      have : (a < n + 1) ↔ a < n := by omega
      simp only [this]
      omega
/-- Pivots among pivots, as many: the same. -/
theorem cnt_eq {n : Nat} {S S' : Nat → Bool} (h : ∀ c, c < n → S c = true → S' c = true) : cnt n S ≤ cnt n S' ∧ (cnt n S = cnt n S' → ∀ c, c < n → S c = S' c) := by
  induction n with
  | zero => exact ⟨Nat.le_refl _, fun _ c hc => absurd hc (Nat.not_lt_zero c)⟩
  | succ n ih =>
    obtain ⟨h1, h2⟩ := ih fun c hc => h c (by omega)
    rw [cnt_succ, cnt_succ]
    have hn := h n (by omega)
    cases hs : S n with
    | true =>
      rw [hn hs]
      refine ⟨by simp; omega, fun e c hc => ?_⟩
      by_cases ec : c = n
      · rw [ec, hs, hn hs]
      · exact h2 (by simpa using e) c (by omega)
    | false =>
      cases hs' : S' n with
      | true => exact ⟨by simp; omega, fun e => by simp at e; omega⟩
      | false =>
        refine ⟨by simpa using h1, fun e c hc => ?_⟩
        by_cases ec : c = n
        · rw [ec, hs, hs']
        · exact h2 (by simpa using e) c (by omega)
end Go.Ay

/- Layer 5: what inserting rows keeps. -/
namespace Go.Proofs.Ytlhebmcnjgagjaa
open Go Go.Ay
set_option maxRecDepth 100000
theorem sub_p (p a x y : Int) : (a + (p - x) * y) % p = (a - x * y) % p := by
  rw [show a + (p - x) * y = (a - x * y) + p * y by grind, Int.add_mul_emod_self_left]
theorem sub_zero {p a b : Int} (h : (a - b) % p = 0) : a % p = b % p := Int.emod_eq_emod_iff_emod_sub_eq_zero.2 h
theorem gf_off {p : Int} {n W : Nat} {S : Nat → Bool} {f : Nat → Nat → Int} (r : Re p n W S f) {c d : Nat} (hc : c < n) (hd : d < n) (hs : S c = true) (hne : d ≠ c) : gf S f d c = 0 := by
  cases hsd : S d with
  | true => rw [gf_yes hsd, r.zer d c hd hc hsd hs (Ne.symm hne)]
  | false => exact gf_no hsd c
theorem rd_sum {p : Int} {n W : Nat} {S : Nat → Bool} {f : Nat → Nat → Int} (r : Re p n W S f) (hW : n ≤ W) (v : Nat → Int) : ∀ c, c ≤ n → ∀ j, j < W → rdF p S f v c j % p = (v j - sm c (fun d => v d * gf S f d j)) % p
  | 0, _, j, _ => by rw [rdF, sm_zero, Int.sub_zero]
  | c + 1, hc, j, hj => by
    rw [rdF, sm_succ]
    cases hs : S c with
    | false => 
      rw [if_neg (by simp), gf_no hs, Int.mul_zero, Int.add_zero]
      exact rd_sum r hW v c (by omega) j hj
    | true =>
      rw [if_pos rfl, mm2, sub_p, gf_yes hs, ← Int.sub_sub]
      have e1 := rd_sum r hW v c (by omega) c (by omega)
      rw [sm_zeros fun d hd => by rw [gf_off r (by omega) (by omega) hs (by omega), Int.mul_zero], Int.sub_zero] at e1
      exact sub_cg (rd_sum r hW v c (by omega) j hj) (mul_mod e1 rfl)
/-- The span of the first i rows, as an echelon list of k rows. -/
structure Sp (p : Int) (n W : Nat) (V : Nat → Nat → Int) (i : Nat) (S : Nat → Bool) (f : Nat → Nat → Int) (k : Nat) : Prop where
  re : Re p n W S f
  out : ∀ c, c < n → S c = true → InS p W i V (f c)
  inn : ∀ a, a < i → InS p n n (gf S f) (V a)
  cn : k = cnt n S
section
variable {p : Int} {n W i k : Nat} {V : Nat → Nat → Int} {S : Nat → Bool} {f : Nat → Nat → Int}
theorem Sp.start (p : Int) (n W : Nat) (V : Nat → Nat → Int) (f : Nat → Nat → Int) : Sp p n W V 0 (fun _ => false) f 0 :=
  ⟨⟨fun _ _ _ (h : false = true) => Bool.noConfusion h, fun _ _ (h : false = true) => Bool.noConfusion h, fun _ _ _ _ (h : false = true) => Bool.noConfusion h, fun _ _ _ (h : false = true) => Bool.noConfusion h⟩, fun _ _ (h : false = true) => Bool.noConfusion h, fun a ha => absurd ha (Nat.not_lt_zero a), (cnt_none n).symm⟩
theorem Sp.red (hp : 0 < p) (s : Sp p n W V i S f k) (hW : n ≤ W) {c : Nat} (hc : c < n) (hs : S c = true) : rdF p S f (fun j => V i j % p) n c = 0 := by
  have e := rd_sum s.re hW (fun j => V i j % p) n (Nat.le_refl n) c (by omega)
  rw [gf_piv s.re hc hs, Int.sub_self, Int.zero_emod] at e
  have b := rdF_range hp (S := S) (f := f) (v := fun j => V i j % p) (j := c) (tmod_range _ hp) n
  rwa [Int.emod_eq_of_lt b.1 b.2] at e
theorem Sp.no (hp : 0 < p) (s : Sp p n W V i S f k) (hW : n ≤ W) (h : ∀ j, j < n → rdF p S f (fun j => V i j % p) n j = 0) : Sp p n W V (i + 1) S f k := by
  refine ⟨s.re, fun c hc hs => (s.out c hc hs).more (by omega), fun a ha => ?_, s.cn⟩
  by_cases e : a = i
  · subst e
    refine ⟨fun d => V a d % p, fun j hj => ?_⟩
    have e := rd_sum s.re hW (fun j => V a j % p) n (Nat.le_refl n) j (by omega)
    rw [h j hj, Int.zero_emod] at e
    have := sub_zero e.symm
    rwa [mm2] at this
  · exact s.inn a (by omega)
theorem Sp.yes (hp : 1 < p) (s : Sp p n W V i S f k) (hW : n ≤ W) {u : Nat → Int} (hu : u = rdF p S f (fun j => V i j % p) n) {at_ : Nat} {x : Int} (h1 : at_ < n) (h2 : ∀ j, j < at_ → u j = 0) (h3 : 0 < u at_) (h4 : x * u at_ % p = 1) {w : Nat → Int} (hw : w = fun j => (u j + (x + p - 1) * u j) % p) :
    Sp p n W V (i + 1) (fun c => if c = at_ then true else S c) (fun c => if c = at_ then w else nwF p f at_ w c) (k + 1) := by
  have r := s.re
  have uz : ∀ c, c < n → S c = true → u c = 0 := fun c hc hs => by rw [hu]; exact s.red (by omega) hW hc hs
  have ns : S at_ = false := by
    cases e : S at_ with
    | false => rfl
    | true => have := uz at_ h1 e; omega
  have wx : ∀ j, w j % p = x * u j % p := fun j => by
    rw [hw]
    simp only
    rw [mm2, show u j + (x + p - 1) * u j = x * u j + p * u j by grind, Int.add_mul_emod_self_left]
  have wr : ∀ j, 0 ≤ w j ∧ w j < p := fun j => by rw [hw]; exact tmod_range _ (by omega)
  have wz : ∀ j, u j = 0 → w j = 0 := fun j h => by
    have := wx j
    rw [h, Int.mul_zero, Int.zero_emod, Int.emod_eq_of_lt (wr j).1 (wr j).2] at this
    exact this
  have w1 : w at_ = 1 := by
    have := wx at_
    rwa [h4, Int.emod_eq_of_lt (wr at_).1 (wr at_).2] at this
  have one_p : (1 : Int) % p = 1 := Int.emod_eq_of_lt (by omega) hp
  have cs : ∀ c, (fun c => if c = at_ then true else S c) c = true → c = at_ ∨ (c ≠ at_ ∧ S c = true) := fun c hcs => by
    by_cases e : c = at_
    · exact .inl e
    · simp only [if_neg e] at hcs
      exact .inr ⟨e, hcs⟩
  have wat : ∀ c, (if c = at_ then w else nwF p f at_ w c) = if c = at_ then w else nwF p f at_ w c := fun _ => rfl
  have uV : ∀ j, j < W → u j % p = (V i j - sm n (fun d => (V i d % p) * gf S f d j)) % p := fun j hj => by
    rw [hu, rd_sum r hW _ n (Nat.le_refl n) j hj]
    exact sub_cg (mm2 p _) rfl
  have inu : InS p W (i + 1) V u := by
    have e1 : InS p W (i + 1) V (fun j => sm n (fun d => (V i d % p) * gf S f d j)) := InS.sum (U := gf S f) (fun d hd => by
      cases hsd : S d with
      | true => exact ((s.out d hd hsd).more (by omega)).congr fun j _ => by rw [gf_yes hsd]
      | false => exact InS.zero.congr fun j _ => by rw [gf_no hsd]) _
    refine ((InS.row (V := V) (Nat.lt_succ_self i)).add (e1.smul (-1))).congr fun j hj => ?_
    rw [uV j hj]
    congr 1
    omega
  have inw : InS p W (i + 1) V w := (inu.smul x).congr fun j _ => wx j
  have nwx : ∀ c j, nwF p f at_ w c j % p = (f c j - f c at_ * w j) % p := fun c j => by rw [nwF, mm2, sub_p]
  refine ⟨⟨fun c j hc hs hj => ?_, fun c hc hs => ?_, fun c d hc hd hs hsd hne => ?_, fun c j hc hs hj => ?_⟩, fun c hc hs => ?_, fun a ha => ?_, ?_⟩
  · rcases cs c hs with rfl | ⟨e, hs⟩
    · simp only [if_true]; exact wr j
    · simp only [if_neg e]; exact tmod_range _ (by omega)
  · rcases cs c hs with rfl | ⟨e, hs⟩
    · simp only [if_true]; exact w1
    · simp only [if_neg e, nwF]
      rw [r.one c hc hs, wz c (uz c hc hs), Int.mul_zero, Int.add_zero, one_p]
  · rcases cs c hs with rfl | ⟨e, hs⟩
    · rcases cs d hsd with rfl | ⟨e2, hsd⟩
      · exact absurd rfl hne
      · simp only [if_true]; exact wz d (uz d hd hsd)
    · simp only [if_neg e, nwF]
      rcases cs d hsd with rfl | ⟨e2, hsd⟩
      · rw [w1, Int.mul_one, show f c d + (p - f c d) = p by omega, Int.emod_self]
      · rw [r.zer c d hc hd hs hsd hne, wz d (uz d hd hsd), Int.mul_zero, Int.add_zero, Int.zero_emod]
  · rcases cs c hs with rfl | ⟨e, hs⟩
    · simp only [if_true]; exact wz j (h2 j hj)
    · simp only [if_neg e, nwF]
      rw [r.lead c j hc hs hj, Int.zero_add]
      by_cases hja : j < at_
      · rw [wz j (h2 j hja), Int.mul_zero, Int.zero_emod]
      · rw [r.lead c at_ hc hs (by omega), Int.sub_zero, Int.mul_emod_right]
  · rcases cs c hs with rfl | ⟨e, hs⟩
    · simp only [if_true]; exact inw
    · simp only [if_neg e]
      exact (((s.out c hc hs).more (Nat.le_succ i)).add (inw.smul (-(f c at_)))).congr fun j _ => by
        rw [nwx]
        congr 1
        rw [Int.neg_mul]; omega
  · have key : ∀ v : Nat → Int, InS p n n (gf S f) v → InS p n n (gf (fun c => if c = at_ then true else S c) (fun c => if c = at_ then w else nwF p f at_ w c)) v := fun v hv => by
      refine hv.trans fun c hc => ?_
      cases hs : S c with
      | false => exact InS.zero.congr fun j _ => by rw [gf_no hs]
      | true =>
        have e : c ≠ at_ := fun e => by rw [e, ns] at hs; cases hs
        have g1 : InS p n n (gf (fun c => if c = at_ then true else S c) (fun c => if c = at_ then w else nwF p f at_ w c)) (nwF p f at_ w c) :=
          (InS.row hc).congr fun j _ => by simp [gf, e, hs]
        have g2 : InS p n n (gf (fun c => if c = at_ then true else S c) (fun c => if c = at_ then w else nwF p f at_ w c)) w :=
          (InS.row h1).congr fun j _ => by simp [gf]
        refine (g1.add (g2.smul (f c at_))).congr fun j _ => ?_
        rw [gf_yes hs, add_cg (nwx c j) rfl]
        congr 1
        omega
    by_cases e : a = i
    · subst e
      have e1 : InS p n n (gf (fun c => if c = at_ then true else S c) (fun c => if c = at_ then w else nwF p f at_ w c)) u := by
        have g2 : InS p n n (gf (fun c => if c = at_ then true else S c) (fun c => if c = at_ then w else nwF p f at_ w c)) w :=
          (InS.row h1).congr fun j _ => by simp [gf]
        refine (g2.smul (u at_)).congr fun j hj => ?_
        rw [mul_mod (rfl : u at_ % p = u at_ % p) (wx j), show u at_ * (x * u j) = (x * u at_) * u j by grind, mul_mod (by rw [h4, one_p] : (x * u at_) % p = 1 % p) (rfl : u j % p = u j % p), Int.one_mul]
      have e2 := key _ (InS.sum (p := p) (W := n) (m := n) (V := gf S f) (fun d hd => InS.row hd) (fun d => V a d % p))
      refine (e1.add e2).congr fun j hj => ?_
      rw [add_cg (uV j (by omega)) rfl]
      congr 1
      omega
    · exact key _ (s.inn a (by omega))
  · rw [cnt_ins ns, if_pos h1, s.cn]
end
theorem Sp.kp {p : Int} (hp : 1 < p) {n W : Nat} (hW : n ≤ W) (ll : List (List Int)) : Kp p n W ll (Sp p n W (fun i j => (ll.getD i []).getD j 0)) :=
  ⟨fun _ _ _ _ s => s.re.rng, fun _ _ _ _ _ s c hc hs => s.red (by omega) hW hc hs, fun _ _ _ _ _ s h => s.no (by omega) hW h, fun _ _ _ _ _ _ s hu _ _ h1 h2 h3 _ _ h4 => s.yes hp hW hu h1 h2 h3 h4 rfl⟩
end Go.Proofs.Ytlhebmcnjgagjaa

/- Layer 5: check. -/
namespace Go.Proofs.Ytlhebmcnjgagjaa
open Go Go.Ay
set_option maxRecDepth 100000
/-- The first error of lists. -/
def lckF (n : Int) : List (List (List Int)) → Int
  | [] => 0
  | l :: r => if 200 < l.length then 4 else if l.any (fun v => decide ((v.length : Int) ≠ n)) then 10 else lckF n r
def ckF (p n : Int) (ls : List (List (List Int))) : Int := if fieldF p = false then 3 else if n < 1 ∨ 64 < n then 2 else lckF n ls
theorem check1_ok (v : V) (l : List Int) (X : Nat) (n : Int) (h : H) (hv : SI h v l) (gX : h.get X = some (.cells false [.int .i64 n])) : Ev T 74 [v, .ptr X 0] h (fun w h' => w = .bool (decide ((l.length : Int) ≠ n)) ∧ h' = h) := by
  refine Ev_of t_linear_check_1 rfl ?_
  have c : h.cell X 0 = some (.int .i64 n) := by rw [H.cell_of gX]; rfl
  simp (disch := first | omega | (simp only [Qn] <;> omega)) only [go_sem, c_linear_check_1, initV_eq, hv.lens, c]
theorem all_any_take {l : List (List Int)} {P : List Int → Bool} {i : Nat} (hi : i < l.length) : (l.take (i + 1)).any P = ((l.take i).any P || P (l.getD i [])) := by
  rw [List.take_add_one, List.getElem?_eq_getElem hi, List.any_append, List.getD_eq_getElem?_getD, List.getElem?_eq_getElem hi]
  simp
set_option maxHeartbeats 4000000 in
theorem indexr_ok (v : V) (ll : List (List Int)) (X : Nat) (n : Int) (h : H) (hv : SR h v ll) (hl : ll.length < 1000000) (gX : h.get X = some (.cells false [.int .i64 n])) :
    Ev T n_slices_IndexFunc_int_int_x93 [v, .fn 74 [] [.ptr X 0]] h (fun w h' => h' = h ∧ ∃ z : Int, w = .int .i64 z ∧ -1 ≤ z ∧ z < 1000000 ∧ decide (0 ≤ z) = ll.any (fun v => decide ((v.length : Int) ≠ n))) := by
  refine Ev_of t_slices_IndexFunc_int_int_x93 rfl ?_
  obtain ⟨id, off, ws, sl, hid, hwl, hc, hall⟩ := hv.open
  simp (disch := first | omega | (simp only [Qn] <;> omega)) only [go_sem, c_slices_IndexFunc_int_int_x93, initV_eq, hv.lens]
  refine Wp_loop (fun k' vars hh => hh = h ∧ ∃ i : Nat, (∃ j : Nat → V, vars = [v, .fn 74 [] [.ptr X 0], j 2, j 3, .int .i64 (ll.length : Int), .int .i64 (i : Int), j 6, j 7]) ∧ i ≤ ll.length ∧ (ll.take i).any (fun v => decide ((v.length : Int) ≠ n)) = false ∧ k' = ll.length - i) ll.length
    ⟨rfl, 0, ex_junk rfl, Nat.zero_le _, rfl, rfl⟩ ?_
  rintro k' vars hh ⟨rfl, i, ⟨jk, rfl⟩, hi, hz, rfl⟩
  simp (disch := first | omega | (simp only [Qn] <;> omega)) only [go_sem]
  by_cases hlt : (i : Int) < (ll.length : Int)
  · rw [decide_eq_true hlt]
    have hi' : i < ll.length := by omega
    have ci := hc i (by omega)
    have ri := row_at hall (i := i) hi'
    simp (disch := first | omega | (simp only [Qn] <;> omega)) only [go_sem, sl.ixa, ci]
    refine (check1_ok _ (ll.getD i []) X n hh ri gX).mono ?_
    rintro w h2 ⟨rfl, rfl⟩
    by_cases hu : ((ll.getD i []).length : Int) ≠ n
    · rw [decide_eq_true hu]
      simp (disch := first | omega | (simp only [Qn] <;> omega)) only [go_sem]
      refine ⟨(i : Int), rfl, by omega, by omega, ?_⟩
      rw [decide_eq_true (show (0 : Int) ≤ (i : Int) by omega)]
      exact (List.any_eq_true.2 ⟨ll.getD i [], by rw [List.getD_eq_getElem?_getD, List.getElem?_eq_getElem hi']; exact List.getElem_mem _, by simpa using hu⟩).symm
    · rw [decide_eq_false hu]
      simp (disch := first | omega | (simp only [Qn] <;> omega)) only [go_sem]
      rw [show (i : Int) + 1 = ((i + 1 : Nat) : Int) from by omega]
      refine ⟨ll.length - (i + 1), by omega, i + 1, ex_junk rfl, by omega, ?_, rfl⟩
      rw [all_any_take hi', hz, Bool.false_or]
      exact decide_eq_false hu
  rw [decide_eq_false hlt]
  obtain ⟨rfl⟩ : i = ll.length := by omega
  simp (disch := first | omega | (simp only [Qn] <;> omega)) only [go_sem]
  rw [List.take_length] at hz
  rw [hz]
  exact ⟨-1, rfl, by omega, by omega, by decide⟩
set_option maxHeartbeats 8000000 in
/-- check, for any list of lists. -/
theorem check5_ok (p n : Int) (v : V) (m : Nat) (us : Nat → V) (lls : Nat → List (List Int)) (id off : Nat) (h : H) (hsl : Sl v 1 m id off) (hid : 0 < m → id < h.next) (hcs : ∀ i, i < m → h.cell id (off + i) = some (us i)) (hR : ∀ i, i < m → SR h (us i) (lls i)) (hl : ∀ i, i < m → ((lls i).length : Int) ≤ 2 ^ 63 - 1) (hm : m < 1000000) :
    Ev T n_linear_check [.int .i64 p, .int .i64 n, v] h (fun w h' => w = .int .i64 (ckF p n ((List.range m).map lls)) ∧ Fr h h') := by
  refine Ev_of t_linear_check rfl ?_
  have hbo : ∀ hh, boxV hh (.int .i64 n) = some (.ptr hh.next 0, hh.new (.cells false [.int .i64 n])) := fun hh => by simp [boxV, V.cells, V.one]
  simp (disch := first | omega | (simp only [Qn] <;> omega)) only [go_sem, c_linear_check, initV_eq, hbo]
  have hf1 : Fr h (h.new (.cells false [.int .i64 n])) := (Fr.refl h).new _
  have hg1 : (h.new (.cells false [.int .i64 n])).get h.next = some (.cells false [.int .i64 n]) := H.get_new_same ..
  have hn1 : (h.new (.cells false [.int .i64 n])).next = h.next + 1 := H.next_new ..
  generalize h.new (.cells false [.int .i64 n]) = h1 at *
  obtain ⟨X, hX⟩ : ∃ X, h.next = X := ⟨_, rfl⟩
  rw [hX] at hg1
  rw [hX]
  have cX : h1.cell X 0 = some (.int .i64 n) := by rw [H.cell_of hg1]; rfl
  by_cases hp : 10000 ≤ p
  · rw [decide_eq_true hp]
    simp (disch := first | omega | (simp only [Qn] <;> omega)) only [go_sem]
    have e : ckF p n ((List.range m).map lls) = 3 := by
      rw [ckF, if_pos (by simp only [fieldF]; rw [decide_eq_false (by omega)]; rfl)]
    rw [e]
    exact ⟨rfl, hf1⟩
  rw [decide_eq_false hp]
  simp (disch := first | omega | (simp only [Qn] <;> omega)) only [go_sem]
  refine (is_prime_ok p h1).mono ?_
  rintro w h2 ⟨rfl, rfl⟩
  cases hP : isP p with
  | false =>
    simp (disch := first | omega | (simp only [Qn] <;> omega)) only [go_sem]
    have e : ckF p n ((List.range m).map lls) = 3 := by
      rw [ckF, if_pos (by simp only [fieldF, hP, Bool.and_false])]
    rw [e]
    exact ⟨rfl, hf1⟩
  | true =>
  have hF : fieldF p = true := by simp only [fieldF, hP, Bool.and_true]; exact decide_eq_true (by omega)
  simp (disch := first | omega | (simp only [Qn] <;> omega)) only [go_sem, cX]
  have key : ∀ b : Bool, decide (n < 1) = b → ckF p n ((List.range m).map lls) = if n < 1 ∨ 64 < n then 2 else lckF n ((List.range m).map lls) := fun b _ => by
    rw [ckF, if_neg (by simp [hF])]
  have key := key _ rfl
  by_cases hn1 : n < 1
  · rw [decide_eq_true hn1]
    simp (disch := first | omega | (simp only [Qn] <;> omega)) only [go_sem]
    rw [key, if_pos (.inl hn1)]
    exact ⟨rfl, hf1⟩
  rw [decide_eq_false hn1]
  simp (disch := first | omega | (simp only [Qn] <;> omega)) only [go_sem, cX]
  by_cases hn2 : 64 < n
  · rw [decide_eq_true hn2]
    simp (disch := first | omega | (simp only [Qn] <;> omega)) only [go_sem]
    rw [key, if_pos (.inr hn2)]
    exact ⟨rfl, hf1⟩
  rw [decide_eq_false hn2, key, if_neg (by omega)]
  clear key
  simp (disch := first | omega | (simp only [Qn] <;> omega)) only [go_sem, hsl.lens]
  have sp : ∀ i, (List.range (i + 1)).map lls = (List.range i).map lls ++ [lls i] := fun i => by rw [List.range_succ, List.map_append]; rfl
  have lc : ∀ (a b : List (List (List Int))), lckF n a = 0 → lckF n (a ++ b) = lckF n b := fun a => by
    induction a with
    | nil => intro b _; rfl
    | cons l r ih =>
      intro b hz
      rw [List.cons_append, lckF]
      rw [lckF] at hz
      split at hz
      · cases hz
      · rename_i q1
        split at hz
        · cases hz
        · rename_i q2
          rw [if_neg q1, if_neg q2]
          exact ih b hz
  have rest : ∀ i, i ≤ m → ∃ b, (List.range m).map lls = (List.range i).map lls ++ b := fun i hi => by
    obtain ⟨d, rfl⟩ := Nat.le.dest hi
    exact ⟨_, by rw [List.range_add, List.map_append]⟩
  refine Wp_loop (fun k' vars hh => hh = h2 ∧ ∃ i : Nat, (∃ j : Nat → V, vars = [j 0, j 1, j 2, .ptr X 0, j 4, j 5, j 6, j 7, v, .int .i64 (m : Int), .int .i64 (i : Int), j 11, j 12, j 13]) ∧ i ≤ m ∧ lckF n ((List.range i).map lls) = 0 ∧ k' = m - i) m
    ⟨rfl, 0, ex_junk rfl, Nat.zero_le _, rfl, rfl⟩ ?_
  rintro k' vars hh ⟨rfl, i, ⟨jk, rfl⟩, hi, hz, rfl⟩
  simp (disch := first | omega | (simp only [Qn] <;> omega)) only [go_sem]
  by_cases hlt : (i : Int) < (m : Int)
  · rw [decide_eq_true hlt]
    have hi' : i < m := by omega
    have ci : hh.cell id (off + i) = some (us i) := by rw [hf1.cell (hid (by omega))]; exact hcs i hi'
    have ri := (hR i hi').mono hf1
    have li := hl i hi'
    have lu := ri.lens
    obtain ⟨b, hb⟩ := rest (i + 1) (by omega)
    have eb : lckF n ((List.range m).map lls) = lckF n (lls i :: b) := by
      rw [hb, sp, List.append_assoc, lc _ _ hz]; rfl
    simp (disch := first | omega | (simp only [Qn] <;> omega)) only [go_sem, hsl.ixa, ci, lu]
    by_cases h200 : (200 : Int) < ((lls i).length : Int)
    · rw [decide_eq_true h200]
      simp (disch := first | omega | (simp only [Qn] <;> omega)) only [go_sem]
      rw [eb, lckF, if_pos (by omega)]
      exact ⟨rfl, hf1⟩
    rw [decide_eq_false h200]
    simp (disch := first | omega | (simp only [Qn] <;> omega)) only [go_sem]
    have e0 : Ev T n_slices_ContainsFunc_int_int [us i, .fn 74 [] [.ptr X 0]] hh (fun w h' => w = .bool ((lls i).any (fun v => decide ((v.length : Int) ≠ n))) ∧ h' = hh) := by
      refine Ev_of t_slices_ContainsFunc_int_int rfl ?_
      simp (disch := first | omega | (simp only [Qn] <;> omega)) only [go_sem, c_slices_ContainsFunc_int_int, initV_eq]
      refine (indexr_ok (us i) (lls i) X n hh ri (by omega) hg1).mono ?_
      rintro w h3 ⟨rfl, z, rfl, z1, z2, z3⟩
      simp (disch := first | omega | (simp only [Qn] <;> omega)) only [go_sem]
      rw [z3]
      exact ⟨rfl, trivial⟩
    refine e0.mono ?_
    rintro w h3 ⟨rfl, rfl⟩
    cases ha : (lls i).any (fun v => decide ((v.length : Int) ≠ n)) with
    | true =>
      simp (disch := first | omega | (simp only [Qn] <;> omega)) only [go_sem]
      rw [eb, lckF, if_neg (by omega), if_pos ha]
      exact ⟨rfl, hf1⟩
    | false =>
      simp (disch := first | omega | (simp only [Qn] <;> omega)) only [go_sem]
      rw [show (i : Int) + 1 = ((i + 1 : Nat) : Int) from by omega]
      refine ⟨m - (i + 1), by omega, i + 1, ex_junk rfl, by omega, ?_, rfl⟩
      rw [sp, lc _ _ hz, lckF, if_neg (by omega), if_neg (by rw [ha]; simp)]; rfl
  rw [decide_eq_false hlt]
  obtain rfl : m = i := by omega
  simp (disch := first | omega | (simp only [Qn] <;> omega)) only [go_sem]
  rw [hz]
  exact ⟨rfl, hf1⟩
end Go.Proofs.Ytlhebmcnjgagjaa

/- Layer 5: Basis, Rank, In. -/
namespace Go.Proofs.Ytlhebmcnjgagjaa
open Go Go.Ay
set_option maxRecDepth 100000
/-- The entries of rows. -/
def vw (ll : List (List Int)) : Nat → Nat → Int := fun i j => (ll.getD i []).getD j 0
section
variable {p : Int} {n W m m' k k' : Nat} {V V' : Nat → Nat → Int} {S S' : Nat → Bool} {f f' : Nat → Nat → Int}
theorem Sp.gfIn (s : Sp p n W V m S f k) {c : Nat} (hc : c < n) : InS p W m V (gf S f c) := by
  cases hs : S c with
  | true => exact (s.out c hc hs).congr fun j _ => by rw [gf_yes hs]
  | false => exact InS.zero.congr fun j _ => by rw [gf_no hs]
theorem Sp.mem (s : Sp p n n V m S f k) {v : Nat → Int} : InS p n m V v ↔ InS p n n (gf S f) v :=
  ⟨fun h => h.trans fun i hi => s.inn i hi, fun h => h.trans fun _ hc => s.gfIn hc⟩
theorem Sp.uniq (hp : 1 < p) (s : Sp p n n V m S f k) (s' : Sp p n n V' m' S' f' k') (h : ∀ i, i < m → InS p n m' V' (V i)) (h' : ∀ i, i < m' → InS p n m V (V' i)) :
    (∀ c, c < n → S c = S' c) ∧ (∀ c j, c < n → S c = true → j < n → f c j = f' c j) ∧ k = k' := by
  obtain ⟨e1, e2⟩ := Re.uniq hp s.re s'.re (fun c hc hs => s'.mem.1 ((s.out c hc hs).trans h)) (fun c hc hs => s.mem.1 ((s'.out c hc hs).trans h'))
  exact ⟨e1, e2, by rw [s.cn, s'.cn, cnt_congr e1]⟩
theorem rwF_congr (h1 : ∀ c, c < n → S c = S' c) (h2 : ∀ c j, c < n → S c = true → j < W → f c j = f' c j) : rwF n W S f = rwF n W S' f' := by
  induction n with
  | zero => rfl
  | succ n ih =>
    rw [rwF_succ, rwF_succ, ih (fun c hc => h1 c (by omega)) (fun c j hc hs hj => h2 c j (by omega) hs hj), ← h1 n (by omega)]
    congr 1
    cases hs : S n with
    | true => simp only [if_true]; rw [mkV_congr fun j hj => h2 n j (by omega) hs hj]
    | false => rfl
theorem rwF_len : (rwF n W S f).length = cnt n S := by rw [rwF, List.length_map, cnt]
/-- A row is 0 after reduction exactly if it is in the span. -/
theorem Sp.zero (hp : 0 < p) (s : Sp p n n V m S f k) (v : Nat → Int) : (∀ j, j < n → rdF p S f (fun j => v j % p) n j = 0) ↔ InS p n m V v := by
  rw [s.mem]
  have e := fun j (hj : j < n) => rd_sum s.re (Nat.le_refl n) (fun j => v j % p) n (Nat.le_refl n) j hj
  constructor
  · intro h
    refine ⟨fun d => v d % p, fun j hj => ?_⟩
    have q := e j hj
    rw [h j hj, Int.zero_emod] at q
    have := sub_zero q.symm
    rwa [mm2] at this
  · rintro ⟨d, hd⟩ j hj
    have q := s.re.read hd hj
    have b := rdF_range hp (S := S) (f := f) (v := fun j => v j % p) (j := j) (tmod_range _ hp) n
    rw [← Int.emod_eq_of_lt b.1 b.2, e j hj, sub_cg (mm2 p (v j)) (sm_mod fun c _ => mul_mod (mm2 p (v c)) (rfl : gf S f c j % p = _)), sub_cg q rfl, Int.sub_self, Int.zero_emod]
end
noncomputable def bsF (p : Int) (n : Nat) (ll : List (List Int)) : List (List Int) := open Classical in if h : ∃ S f k, Sp p n n (vw ll) ll.length S f k then rwF n n h.choose h.choose_spec.choose else []
theorem bsF_eq {p : Int} (hp : 1 < p) {n k : Nat} {ll : List (List Int)} {S : Nat → Bool} {f : Nat → Nat → Int} (s : Sp p n n (vw ll) ll.length S f k) : bsF p n ll = rwF n n S f := by
  have h : ∃ S f k, Sp p n n (vw ll) ll.length S f k := ⟨S, f, k, s⟩
  rw [bsF, dif_pos h]
  obtain ⟨k', s'⟩ := h.choose_spec.choose_spec
  obtain ⟨e1, e2, _⟩ := Sp.uniq hp s' s (fun i hi => InS.row hi) fun i hi => InS.row hi
  exact rwF_congr e1 e2
noncomputable def BasisF (p n : Int) (ll : List (List Int)) : List (List Int) × Int := if ckF p n [ll] ≠ 0 then ([], ckF p n [ll]) else (bsF p n.toNat ll, 0)
noncomputable def InF (p n : Int) (ll : List (List Int)) (v : List Int) : Bool × Int := open Classical in if ckF p n [ll, [v]] ≠ 0 then (false, ckF p n [ll, [v]]) else (decide (InS p n.toNat ll.length (vw ll) (fun j => v.getD j 0)), 0)
/-- What a check without an error says. -/
theorem lck_zero {n : Int} : ∀ {ls : List (List (List Int))}, lckF n ls = 0 → ∀ l ∈ ls, l.length ≤ 200 ∧ ∀ i, i < l.length → ((l.getD i []).length : Int) = n
  | [], _, l, hl => by cases hl
  | a :: r, h, l, hl => by
    rw [lckF] at h
    split at h
    · cases h
    · rename_i q1
      split at h
      · cases h
      · rename_i q2
        rcases List.mem_cons.1 hl with rfl | hl
        · refine ⟨by omega, fun i hi => ?_⟩
          have : ¬ decide (((l.getD i []).length : Int) ≠ n) = true := fun e => q2 (List.any_eq_true.2 ⟨l.getD i [], by rw [List.getD_eq_getElem?_getD, List.getElem?_eq_getElem hi]; exact List.getElem_mem _, e⟩)
          simpa using this
        · exact lck_zero h l hl
theorem ck_zero {p n : Int} {ls : List (List (List Int))} (h : ckF p n ls = 0) : isP p = true ∧ p < 10000 ∧ 1 ≤ n ∧ n ≤ 64 ∧ ∀ l ∈ ls, l.length ≤ 200 ∧ ∀ i, i < l.length → ((l.getD i []).length : Int) = n := by
  rw [ckF] at h
  split at h
  · cases h
  · rename_i q1
    split at h
    · cases h
    · rename_i q2
      have hF : fieldF p = true := by simpa using q1
      simp only [fieldF, Bool.and_eq_true, decide_eq_true_eq] at hF
      exact ⟨hF.2, hF.1, by omega, by omega, lck_zero h⟩
theorem isP_gt {p : Int} (h : isP p = true) : 1 < p := by have := isP_pr h; have := this.two; omega
set_option maxHeartbeats 8000000 in
theorem Basis_ok (p n : Int) (v : V) (ll : List (List Int)) (h : H) (hv : SR h v ll) (hl : (ll.length : Int) ≤ 2 ^ 63 - 1) :
    Ev T n_linear_Basis [.int .i64 p, .int .i64 n, v] h (fun w h' => ∃ u, w = .tup [u, .int .i64 (BasisF p n ll).2] ∧ SRk h' u (BasisF p n ll).1 ∧ Fr h h') := by
  refine Ev_of t_linear_Basis rfl ?_
  have wv := SV.what hv.choose_spec.1
  simp (disch := first | omega | (simp only [Qn] <;> omega)) only [go_sem, c_linear_Basis, initV_eq, bls_row h wv.1 wv.2.1]
  have hf1 : Fr h (h.new (.cells false [v])) := (Fr.refl h).new _
  have hg1 : (h.new (.cells false [v])).get h.next = some (.cells false [v]) := H.get_new_same ..
  have hn1 : (h.new (.cells false [v])).next = h.next + 1 := H.next_new ..
  generalize h.new (.cells false [v]) = h1 at *
  have c1 : h1.cell h.next 0 = some v := by rw [H.cell_of hg1]; rfl
  refine (check5_ok p n (.sl h.next 0 1 (.kn 1)) 1 (fun _ => v) (fun _ => ll) h.next 0 h1 ⟨rfl, fun k i h1 h2 => ixaV_sl h1 h2, rfl, rfl⟩ (fun _ => by omega) (fun i hi => by obtain rfl : i = 0 := (by omega); exact c1) (fun _ _ => hv.mono hf1) (fun _ _ => hl) (by omega)).mono ?_
  rintro w h2 ⟨rfl, f2⟩
  have F2 := hf1.trans f2
  simp only [List.range_one, List.map_cons, List.map_nil]
  simp (disch := first | omega | (simp only [Qn] <;> omega)) only [go_sem]
  refine iteW_dec (fun hz => ?_) (fun hz' => ?_)
  · simp (disch := first | omega | (simp only [Qn] <;> omega)) only [go_sem]
    rw [BasisF, if_pos hz]
    exact ⟨_, rfl, SRk.nils _, F2⟩
  have hz : ckF p n [ll] = 0 := Classical.byContradiction hz'
  obtain ⟨q1, q2, q3, q4, q5⟩ := ck_zero hz
  obtain ⟨q6, q7⟩ := q5 ll (List.mem_singleton.2 rfl)
  obtain ⟨N, rfl⟩ : ∃ N : Nat, n = (N : Int) := ⟨n.toNat, by omega⟩
  simp (disch := first | omega | (simp only [Qn] <;> omega)) only [go_sem]
  refine (span_ok p N N ll v _ (Sp.kp (isP_gt q1) (Nat.le_refl N) ll) h2 (Sp.start p N N _ _) (hv.mono F2) (by omega) (fun i hi => by have := q7 i hi; omega) (by omega) (Nat.le_refl N) q1 q2).mono ?_
  rintro w h3 ⟨E, M, k, S, ρ, f, rfl, s, hk, kE, f3⟩
  simp (disch := first | omega | (simp only [Qn] <;> omega)) only [go_sem]
  refine (list_ok p E M N N S ρ f _ h3 kE (by omega)).mono ?_
  rintro w h4 ⟨sl, f4⟩
  simp (disch := first | omega | (simp only [Qn] <;> omega)) only [go_sem]
  rw [BasisF, if_neg (by simp [hz]), Int.toNat_natCast, bsF_eq (isP_gt q1) s]
  exact ⟨_, rfl, sl, (F2.trans f3).trans f4⟩
end Go.Proofs.Ytlhebmcnjgagjaa

/- Layer 5: Rank, In. -/
namespace Go.Proofs.Ytlhebmcnjgagjaa
open Go Go.Ay
set_option maxRecDepth 100000
theorem sl1 (id n : Nat) (cap : Cap) : Sl (.sl id 0 n cap) 1 n id 0 := ⟨rfl, fun k i h1 h2 => ixaV_sl h1 h2, rfl, rfl⟩
set_option maxHeartbeats 8000000 in
theorem In_ok (p n : Int) (v u : V) (ll : List (List Int)) (l : List Int) (h : H) (hv : SR h v ll) (hl : (ll.length : Int) ≤ 2 ^ 63 - 1) (hu : SI h u l) :
    Ev T n_linear_In [.int .i64 p, .int .i64 n, v, u] h (fun w h' => w = .tup [.bool (InF p n ll l).1, .int .i64 (InF p n ll l).2] ∧ Fr h h') := by
  refine Ev_of t_linear_In rfl ?_
  have wv := SV.what hv.choose_spec.1
  have wu := SV.what hu
  have hb2 := fun hh (a b : V) (h1 : a.cells = [a]) (h2 : a.one = true) (h3 : b.cells = [b]) (h4 : b.one = true) => bls_two hh h1 h2 h3 h4
  simp (disch := first | omega | (simp only [Qn] <;> omega)) only [go_sem, c_linear_In, initV_eq, bls_row h wu.1 wu.2.1, fun hh => bls_two hh (x := v) (u := .sl h.next 0 1 (.kn 1)) wv.1 wv.2.1 rfl rfl]
  have hf1 : Fr h (h.new (.cells false [u])) := (Fr.refl h).new _
  have hg1 : (h.new (.cells false [u])).get h.next = some (.cells false [u]) := H.get_new_same ..
  have hn1 : (h.new (.cells false [u])).next = h.next + 1 := H.next_new ..
  generalize h.new (.cells false [u]) = h1 at *
  rw [← hn1]
  have hf1b : Fr h1 (h1.new (.cells false [v, .sl h.next 0 1 (.kn 1)])) := (Fr.refl h1).new _
  have hg1b : (h1.new (.cells false [v, .sl h.next 0 1 (.kn 1)])).get h1.next = some (.cells false [v, .sl h.next 0 1 (.kn 1)]) := H.get_new_same ..
  have hn1b : (h1.new (.cells false [v, .sl h.next 0 1 (.kn 1)])).next = h1.next + 1 := H.next_new ..
  generalize h1.new (.cells false [v, .sl h.next 0 1 (.kn 1)]) = h1b at *
  have Fa := hf1.trans hf1b
  have c1 : h1b.cell h1.next 0 = some v := by rw [H.cell_of hg1b]; rfl
  have c2 : h1b.cell h1.next 1 = some (.sl h.next 0 1 (.kn 1)) := by rw [H.cell_of hg1b]; rfl
  have s2 : SR h1b (.sl h.next 0 1 (.kn 1)) [l] := ⟨[u], SV.all rfl (by omega) ((hf1b.get h.next (by omega)).trans hg1) _, hu.mono Fa, trivial⟩
  refine (check5_ok p n (.sl h1.next 0 2 (.kn 2)) 2 (fun i => if i = 0 then v else .sl h.next 0 1 (.kn 1)) (fun i => if i = 0 then ll else [l]) h1.next 0 h1b (sl1 ..) (fun _ => by omega) (fun i hi => ?_) (fun i hi => ?_) (fun i hi => ?_) (by omega)).mono ?_
  · rcases (show i = 0 ∨ i = 1 by omega) with rfl | rfl
    · exact c1
    · exact c2
  · rcases (show i = 0 ∨ i = 1 by omega) with rfl | rfl
    · exact hv.mono Fa
    · exact s2
  · rcases (show i = 0 ∨ i = 1 by omega) with rfl | rfl
    · exact hl
    · show (([l].length : Nat) : Int) ≤ 2 ^ 63 - 1
      simp
  rintro w h2 ⟨rfl, f2⟩
  have F2 := Fa.trans f2
  have el : (List.range 2).map (fun i => if i = 0 then ll else [l]) = [ll, [l]] := rfl
  rw [el]
  simp (disch := first | omega | (simp only [Qn] <;> omega)) only [go_sem]
  refine iteW_dec (fun hz => ?_) (fun hz' => ?_)
  · simp (disch := first | omega | (simp only [Qn] <;> omega)) only [go_sem]
    rw [InF, if_pos hz]
    exact ⟨rfl, F2⟩
  have hz : ckF p n [ll, [l]] = 0 := Classical.byContradiction hz'
  obtain ⟨q1, q2, q3, q4, q5⟩ := ck_zero hz
  obtain ⟨q6, q7⟩ := q5 ll (by simp)
  obtain ⟨_, q8⟩ := q5 [l] (by simp)
  have q9 := q8 0 (by simp)
  obtain ⟨N, rfl⟩ : ∃ N : Nat, n = (N : Int) := ⟨n.toNat, by omega⟩
  have l1 : l.length = N := by
    have : (l.length : Int) = (N : Int) := by simpa using q9
    omega
  simp (disch := first | omega | (simp only [Qn] <;> omega)) only [go_sem]
  refine (span_ok p N N ll v _ (Sp.kp (isP_gt q1) (Nat.le_refl N) ll) h2 (Sp.start p N N _ _) (hv.mono F2) (by omega) (fun i hi => by have := q7 i hi; omega) (by omega) (Nat.le_refl N) q1 q2).mono ?_
  rintro w h3 ⟨E, M, k, S, ρ, f, rfl, s, hk, kE, f3⟩
  have F3 := F2.trans f3
  have zr := s.zero (by have := isP_gt q1; omega) (fun j => l.getD j 0)
  simp (disch := first | omega | (simp only [Qn] <;> omega)) only [go_sem]
  refine (insert_ok p E M N N S ρ f _ u l _ h3 kE f3.next (hu.mono F3) l1 (by omega) (Nat.le_refl N) q1 q2 s.re.rng rfl (fun c hc hs => ?_)).mono ?_
  · have e := rd_sum s.re (Nat.le_refl N) (fun j => l.getD j 0 % p) N (Nat.le_refl N) c hc
    rw [gf_piv s.re hc hs, Int.sub_self, Int.zero_emod] at e
    have b := rdF_range (p := p) (by have := isP_gt q1; omega) (S := S) (f := f) (v := fun j => l.getD j 0 % p) (j := c) (tmod_range _ (by have := isP_gt q1; omega)) N
    rwa [Int.emod_eq_of_lt b.1 b.2] at e
  rintro w h4 ⟨hF, hnx, ⟨rfl, hz0, kE2⟩ | ⟨rfl, at_, x, N', a1, a2, a3, a4, a5, a6, a7, kE2⟩⟩
  · have : InS p N ll.length (vw ll) (fun j => l.getD j 0) := zr.1 hz0
    simp (disch := first | omega | (simp only [Qn] <;> omega)) only [go_sem]
    rw [InF, if_neg (by simp [hz]), Int.toNat_natCast]
    simp only [this, decide_true]
    exact ⟨trivial, hF h (F3) (by have := F2.next; omega)⟩
  · have : ¬ InS p N ll.length (vw ll) (fun j => l.getD j 0) := fun q => by
      have := zr.2 q at_ a1
      omega
    simp (disch := first | omega | (simp only [Qn] <;> omega)) only [go_sem]
    rw [InF, if_neg (by simp [hz]), Int.toNat_natCast]
    simp only [this, decide_false]
    exact ⟨trivial, hF h (F3) (by have := F2.next; omega)⟩
end Go.Proofs.Ytlhebmcnjgagjaa

/- Layer 5: marked. -/
namespace Go.Proofs.Ytlhebmcnjgagjaa
open Go Go.Ay
set_option maxRecDepth 100000
theorem cpy_some {h : H} {N D : Nat} {cap : Cap} {y : V} {l : List Int} {vs : List V} (hs : SI h y l) (h0 : 0 < l.length) (hD : l.length ≤ D) (hg : h.get N = some (.cells false vs)) (hl : l.length ≤ vs.length) :
    cpyV h 1 (.sl N 0 D cap) y = some (.int .i64 (l.length : Int), h.set N (some (.cells false (ints l ++ vs.drop l.length)))) := by
  have hsl := SV.slice hs
  have hlen := hs.len
  rcases hs with ⟨_, e⟩ | ⟨id, off, len, c2, ro, ws, rfl, h2, h3, h4, h5, h6⟩
  · have : (ints l).length = 0 := by rw [e]; rfl
    rw [ints_length] at this; omega
  · simp only [lenV, Option.some.injEq] at hlen
    subst hlen
    simp only [H.slice] at hsl
    simp only [cpyV, lenV, Nat.min_eq_left hD, hsl, H.put, hg, putAt, ints_length]
    rw [if_pos (by omega)]
    simp
/-- A row with one of the identity behind it. -/
def mkE (n : Nat) (V : Nat → Nat → Int) : Nat → Nat → Int := fun i j => if j < n then V i j else if j = n + i then 1 else 0
/-- The first i rows are laid. -/
structure Gk (h : H) (R m W i : Nat) (ρ : Nat → Nat) (F : Nat → Nat → Int) (lo : Nat) : Prop where
  gR : h.get R = some (.cells false ((List.range m).map fun j => if j < i then V.sl (ρ j) 0 W (.kn W) else .nils))
  row : ∀ j, j < i → Bk h (ρ j) W (F j)
  hρ : ∀ j, j < i → R < ρ j
  ltρ : ∀ j, j < i → ρ j < h.next
  hR : lo ≤ R
  ltR : R < h.next
set_option maxHeartbeats 16000000 in
theorem marked_ok (n : Nat) (v : V) (ll : List (List Int)) (h : H) (hv : SR h v ll) (hl : ll.length ≤ 200) (hn1 : 1 ≤ n) (hn2 : n ≤ 64) (hw : ∀ i, i < ll.length → (ll.getD i []).length = n) :
    Ev T n_linear_marked [.int .i64 (n : Int), v] h (fun w h' => SRk h' w (mkR ll.length (n + ll.length) (mkE n (vw ll))) ∧ Fr h h') := by
  refine Ev_of t_linear_marked rfl ?_
  obtain ⟨id, off, ws, sl, hid, hwl, hc, hall⟩ := hv.open
  obtain ⟨m, hm⟩ : ∃ m, ll.length = m := ⟨_, rfl⟩
  obtain ⟨W, hWe⟩ : ∃ W, n + m = W := ⟨_, rfl⟩
  have lv := hv.lens
  rw [hm] at lv sl hid hc hl
  have emk : mksV h 1 24 [.nils] (.int .i64 (m : Int)) (.int .i64 (m : Int)) = some (.sl h.next 0 m (.kn m), h.new (.cells false ((List.range m).map fun j => if j < 0 then V.sl 0 0 W (.kn W) else .nils))) := by
    rw [mksV_int (by omega) (Int.le_refl _) (by omega) (by omega), Int.toNat_natCast, Nat.mul_one]
    congr 4
    refine List.ext_getElem (by simp [zerosV]) fun i _ _ => ?_
    simp [zerosV, Nat.mod_one]
  simp (disch := first | omega | (simp only [Qn] <;> omega)) only [go_sem, c_linear_marked, initV_eq, lv, emk]
  have hf1 : Fr h (h.new (.cells false ((List.range m).map fun j => if j < 0 then V.sl 0 0 W (.kn W) else .nils))) := (Fr.refl h).new _
  have hg1 : (h.new (.cells false ((List.range m).map fun j => if j < 0 then V.sl 0 0 W (.kn W) else .nils))).get h.next = some (.cells false ((List.range m).map fun j => if j < 0 then V.sl 0 0 W (.kn W) else .nils)) := H.get_new_same ..
  have hn1 : (h.new (.cells false ((List.range m).map fun j => if j < 0 then V.sl 0 0 W (.kn W) else .nils))).next = h.next + 1 := H.next_new ..
  generalize h.new (.cells false ((List.range m).map fun j => if j < 0 then V.sl 0 0 W (.kn W) else .nils)) = h1 at *
  obtain ⟨R, hR⟩ : ∃ R, h.next = R := ⟨_, rfl⟩
  rw [hR] at hg1
  rw [hR]
  refine Wp_loop (fun k' vars hh => ∃ (i : Nat) (ρ : Nat → Nat), (∃ j : Nat → V, vars = [.int .i64 (n : Int), v, j 2, .sl R 0 m (.kn m), j 4, j 5, v, .int .i64 (m : Int), .int .i64 (i : Int), j 9]) ∧ i ≤ m ∧ Gk hh R m W i ρ (mkE n (vw ll)) h.next ∧ Fr h hh ∧ k' = m - i) m
    ⟨0, fun _ => 0, ex_junk rfl, Nat.zero_le _, ⟨hg1, fun j hj => absurd hj (Nat.not_lt_zero j), fun j hj => absurd hj (Nat.not_lt_zero j), fun j hj => absurd hj (Nat.not_lt_zero j), by omega, by omega⟩, hf1, rfl⟩ ?_
  rintro k' vars hh ⟨i, ρ, ⟨jk, rfl⟩, hi, G, F, rfl⟩
  simp (disch := first | omega | (simp only [Qn] <;> omega)) only [go_sem]
  by_cases hlt : (i : Int) < (m : Int)
  · rw [decide_eq_true hlt]
    have hi' : i < m := by omega
    have ci : hh.cell id (off + i) = some (ws.getD i .undef) := by rw [F.cell (hid (by omega))]; exact hc i (by omega)
    have ri := (row_at hall (i := i) (by omega)).mono F
    have lR := G.ltR
    have li := hw i (by omega)
    have mk2 := mks_ints hh W (by omega)
    have eW : (n : Int) + (m : Int) = (W : Int) := by omega
    simp (disch := first | omega | (simp only [Qn] <;> omega)) only [go_sem, sl.ixa, ci, lv, eW, mk2]
    have hf2 : Fr hh (hh.new (.cells false (ints (mkV W fun _ => 0)))) := (Fr.refl hh).new _
    have hg2 : (hh.new (.cells false (ints (mkV W fun _ => 0)))).get hh.next = some (.cells false (ints (mkV W fun _ => 0))) := H.get_new_same ..
    have hn2 : (hh.new (.cells false (ints (mkV W fun _ => 0)))).next = hh.next + 1 := H.next_new ..
    generalize hh.new (.cells false (ints (mkV W fun _ => 0))) = h2 at *
    obtain ⟨N, hN⟩ : ∃ N, hh.next = N := ⟨_, rfl⟩
    rw [hN] at hg2
    rw [hN]
    have gR2 := (hf2.get R lR).trans G.gR
    have hstN := fun h3 => stV_one (y := V.sl N 0 W (.kn W)) rfl rfl h3 R i
    have ptR := fun h3 : H => putO_one (vs := (List.range m).map fun j => if j < i then V.sl (ρ j) 0 W (.kn W) else .nils) (off := i) (by simpa using hi') h3 R (.sl N 0 W (.kn W))
    have el : ((List.range m).map fun j => if j < i then V.sl (ρ j) 0 W (.kn W) else .nils).set i (.sl N 0 W (.kn W)) = (List.range m).map fun j => if j < i + 1 then V.sl (upN ρ i N j) 0 W (.kn W) else .nils := by
      refine List.ext_getElem (by simp) fun j _ _ => ?_
      rw [List.getElem_set, List.getElem_map, List.getElem_map, List.getElem_range]
      simp only [upN]
      by_cases e : i = j
      · subst e; simp
      · rw [if_neg e, if_neg (Ne.symm e)]
        by_cases e2 : j < i
        · rw [if_pos e2, if_pos (by omega)]
        · rw [if_neg e2, if_neg (by omega)]
    rw [el] at ptR
    have F3 : Fr h (h2.set R (some (.cells false ((List.range m).map fun j => if j < i + 1 then V.sl (upN ρ i N j) 0 W (.kn W) else .nils)))) := (F.trans hf2).set (by omega) _
    have r3 := (row_at hall (i := i) (by omega)).mono F3
    have gN3 : (h2.set R (some (.cells false ((List.range m).map fun j => if j < i + 1 then V.sl (upN ρ i N j) 0 W (.kn W) else .nils)))).get N = some (.cells false (ints (mkV W fun _ => 0))) := by rw [H.get_set_ne _ (by omega)]; exact hg2
    have cp := cpy_some (N := N) (D := W) (cap := .kn W) r3 (by omega) (by omega) gN3 (by rw [ints_length, mkV_len]; omega)
    have cR2 : ((List.range m).map fun j => if j < i + 1 then V.sl (upN ρ i N j) 0 W (.kn W) else .nils)[i]? = some (.sl N 0 W (.kn W)) := by
      rw [List.getElem?_map, List.getElem?_range hi']
      simp [upN]
    have eI : (n : Int) + (i : Int) = ((n + i : Nat) : Int) := by omega
    have e5 : ints (ll.getD i []) ++ (ints (mkV W fun _ => 0)).drop (ll.getD i []).length = ints (mkV W fun j => if j < n then vw ll i j else 0) := by
      rw [li]
      rw [show (ints (mkV W fun _ => 0)).drop n = ints (mkV m fun _ => 0) from by
        rw [← hWe, mkV_split, ints_append, List.drop_append_of_le_length (by rw [ints_length, mkV_len]; exact Nat.le_refl n), List.drop_of_length_le (by rw [ints_length, mkV_len]; exact Nat.le_refl n), List.nil_append], ← ints_append]
      congr 1
      rw [← hWe]
      refine mkV_eq (by rw [List.length_append, mkV_len, li]) fun j hj => ?_
      by_cases e : j < n
      · rw [if_pos e, List.getD_eq_getElem?_getD, List.getElem?_append_left (by omega), ← List.getD_eq_getElem?_getD]; rfl
      · rw [if_neg e, List.getD_eq_getElem?_getD, List.getElem?_append_right (by omega), ← List.getD_eq_getElem?_getD, li, mkV_get _ (by omega)]
    rw [e5] at cp
    have n2 : h2.next = N + 1 := by omega
    have pt1 := fun h4 : H => putO_one (vs := ints (mkV W fun j => if j < n then vw ll i j else 0)) (off := n + i) (by rw [ints_length, mkV_len]; omega) h4 N (.int .i64 1)
    rw [ints_set, mkV_set] at pt1
    have nNR : N ≠ R := by omega
    simp (disch := first | omega | (simp only [Qn] <;> omega)) only [go_sem, hstN, G.gR, gR2, ptR, cR2, cp, eI, pt1]
    have eF : mkV W (fun j => if j = n + i then 1 else if j < n then vw ll i j else 0) = mkV W (mkE n (vw ll) i) := mkV_congr fun j hj => by
      rw [mkE]
      by_cases e : j = n + i
      · rw [if_pos e, if_neg (by omega), if_pos e]
      · rw [if_neg e]
        by_cases e2 : j < n
        · rw [if_pos e2, if_pos e2]
        · rw [if_neg e2, if_neg e2, if_neg e]
    rw [show (i : Int) + 1 = ((i + 1 : Nat) : Int) from by omega, eF]
    have un : ∀ j, j < i → upN ρ i N j = ρ j := fun j hj => by simp only [upN, if_neg (Nat.ne_of_lt hj)]
    have uq : upN ρ i N i = N := by simp [upN]
    have hn1' : hh.next = N := hN
    refine ⟨m - (i + 1), by omega, i + 1, upN ρ i N, ex_junk rfl, by omega, ⟨?_, fun j hj => ?_, fun j hj => ?_, fun j hj => ?_, G.hR, ?_⟩, ?_, rfl⟩
    · rw [H.get_set_ne _ nNR.symm, H.get_set_ne _ nNR.symm]; exact H.get_set_same ..
    · by_cases e : j = i
      · rw [e, uq]; exact Bk.set ..
      · rw [un j (by omega)]
        have := G.ltρ j (by omega)
        have := G.hρ j (by omega)
        exact (((G.row j (by omega)).fr hf2 (by omega)).ne (by omega) _ |>.ne (by omega) _).ne (by omega) _
    · by_cases e : j = i
      · rw [e, uq]; omega
      · rw [un j (by omega)]; exact G.hρ j (by omega)
    · by_cases e : j = i
      · rw [e, uq]; show N < h2.next; omega
      · rw [un j (by omega)]; show ρ j < h2.next; have := G.ltρ j (by omega); omega
    · show R < h2.next; omega
    · exact (F3.set (by omega) _).set (by omega) _
  rw [decide_eq_false hlt]
  obtain rfl : m = i := by omega
  simp (disch := first | omega | (simp only [Qn] <;> omega)) only [go_sem]
  refine ⟨⟨(List.range m).map fun j => V.sl (ρ j) 0 W (.kn W), SV.all (ro := false) (by simp) G.ltR ?_ _, All2.of_get (by simp [mkR, hm]) fun i h1 h2 => ?_, fun w hw => ?_⟩, F⟩
  · rw [G.gR]
    congr 2
    refine List.ext_getElem (by simp) fun j h1 _ => ?_
    simp only [List.length_map, List.length_range] at h1
    rw [List.getElem_map, List.getElem_map, List.getElem_range, if_pos h1]
  · simp only [List.length_map, List.length_range] at h1
    simp only [List.getElem_map, List.getElem_range, mkR]
    rw [hm, hWe]
    exact (G.row i h1).si (G.ltρ i h1) _
  · simp only [List.mem_map] at hw
    obtain ⟨c, _, rfl⟩ := hw
    intro id off m cc e
    cases e
    exact ⟨W, rfl, Nat.le_refl _⟩
end Go.Proofs.Ytlhebmcnjgagjaa

/- Layer 5: kernel. -/
namespace Go.Proofs.Ytlhebmcnjgagjaa
open Go Go.Ay
set_option maxRecDepth 100000
/-- The rows whose pivots are at or behind column n, less their first n entries. -/
def krF (n m : Nat) (S : Nat → Bool) (f : Nat → Nat → Int) (c : Nat) : List (List Int) := ((List.range c).filter fun c => decide (n ≤ c) && S c).map fun c => mkV m fun j => f c (n + j)
theorem krF_succ {n m c : Nat} {S : Nat → Bool} {f : Nat → Nat → Int} : krF n m S f (c + 1) = krF n m S f c ++ (if n ≤ c ∧ S c = true then [mkV m fun j => f c (n + j)] else []) := by
  simp only [krF, List.range_succ, List.filter_append, List.map_append]
  congr 1
  by_cases h : n ≤ c
  · cases hs : S c <;> simp [List.filter, h, hs]
  · simp [List.filter, h]
theorem krF_len {n m c : Nat} {S : Nat → Bool} {f : Nat → Nat → Int} : (krF n m S f c).length ≤ c := by
  rw [krF, List.length_map]
  exact Nat.le_trans (List.length_filter_le _ _) (by rw [List.length_range]; omega)
/-- What is kept if each row that is inserted is new. -/
theorem Kp.ind {p : Int} {n W : Nat} {ll : List (List Int)} {Φ : Nat → (Nat → Bool) → (Nat → Nat → Int) → Nat → Prop} (K : Kp p n W ll Φ) (hno : ∀ i S f k, i < ll.length → Φ i S f k → ¬ ∀ j, j < n → rdF p S f (fun j => (ll.getD i []).getD j 0 % p) n j = 0) : Kp p n W ll (fun i S f k => Φ i S f k ∧ k = i) :=
  ⟨fun i S f k h => K.rng i S f k h.1, fun i S f k hi h => K.red i S f k hi h.1, fun i S f k hi h e => absurd e (hno i S f k hi h.1), fun i S f k u hi h hu a x h1 h2 h3 h4 h5 h6 => ⟨K.yes i S f k u hi h.1 hu a x h1 h2 h3 h4 h5 h6, by rw [h.2]⟩⟩
/-- Rows with the identity behind them are new, each. -/
theorem mk_new {p : Int} (hp : 1 < p) {n m W : Nat} (hW : n + m = W) (V : Nat → Nat → Int) : ∀ i S f k, i < (mkR m W (mkE n V)).length → Sp p W W (vw (mkR m W (mkE n V))) i S f k → ¬ ∀ j, j < W → rdF p S f (fun j => ((mkR m W (mkE n V)).getD i []).getD j 0 % p) W j = 0 := fun i S f k hi s e => by
  rw [mkR_len] at hi
  obtain ⟨c, hc⟩ := (s.zero (by omega) (fun j => ((mkR m W (mkE n V)).getD i []).getD j 0)).1 e
  have q : vw (mkR m W (mkE n V)) i (n + i) % p = _ := hc (n + i) (by omega)
  have v : ∀ a, a < m → vw (mkR m W (mkE n V)) a (n + i) = if n + i = n + a then 1 else 0 := fun a ha => by
    rw [vw, mkR_row _ ha, mkV_get _ (by omega), mkE, if_neg (by omega)]
  rw [sm_zeros fun a ha => by rw [v a (by omega), if_neg (by omega), Int.mul_zero]] at q
  rw [v i hi, if_pos rfl, Int.zero_emod, Int.emod_eq_of_lt (by omega) hp] at q
  omega
theorem Ec.keep {h h' : H} {E M n W : Nat} {p : Int} {S : Nat → Bool} {ρ : Nat → Nat} {f : Nat → Nat → Int} {lo : Nat} (k : Ec h E M n W p S ρ f lo) (hn : h.next ≤ h'.next) (b : Nat) (hb : ∀ x, x < b → h'.get x = h.get x) (hE : E < b) (hM : M < b) (hR : ∀ c, c < n → S c = true → ρ c < b) : Ec h' E M n W p S ρ f lo :=
  ⟨(hb E hE).trans k.gE, k.gM.fr (hb M hM), fun c hc hs => (hb _ (hR c hc hs)).trans (k.row c hc hs), k.inj, k.neE, k.neM, k.EM, k.loE, k.loM, k.loR, Nat.lt_of_lt_of_le k.ltE hn, Nat.lt_of_lt_of_le k.ltM hn, fun c hc hs => Nat.lt_of_lt_of_le (k.ltR c hc hs) hn⟩
structure KJ (p : Int) (E M W n X3 X5 X4 LID : Nat) (S : Nat → Bool) (ρ : Nat → Nat) (f : Nat → Nat → Int) (lo lo2 : Nat) (u : V) (ws : List V) (ll : List (List Int)) (h : H) (rc : LRec) (hh : H) : Prop where
  g3 : hh.get X3 = some (.cells false [.int .i64 (n : Int)])
  g5 : hh.get X5 = some (.cells false [u])
  g4 : hh.get X4 = some (.cells false [.ptr E 0])
  gL : hh.get LID = some (.loop rc)
  r : Rws hh u ws ll lo2
  k : Ec hh E M W W p S ρ f lo
  fr : Fr h hh
  lt : LID < hh.next
set_option maxHeartbeats 16000000 in
theorem kernel_ok (p : Int) (n : Nat) (v : V) (ll : List (List Int)) (h : H) (hv : SR h v ll) (hl : ll.length ≤ 200) (hn1 : 1 ≤ n) (hn2 : n ≤ 64) (hw : ∀ i, i < ll.length → (ll.getD i []).length = n) (hp : isP p = true) (hp2 : p < 10000) :
    Ev T n_linear_kernel [.int .i64 p, .int .i64 (n : Int), v] h (fun w h' => ∃ k S f, k = ll.length ∧ Sp p (n + ll.length) (n + ll.length) (vw (mkR ll.length (n + ll.length) (mkE n (vw ll)))) ll.length S f k ∧ SRf h' w (krF n ll.length S f (n + ll.length)) h.next ∧ Fr h h') := by
  refine Ev_of t_linear_kernel rfl ?_
  obtain ⟨m, hm⟩ : ∃ m, ll.length = m := ⟨_, rfl⟩
  obtain ⟨W, hWe⟩ : ∃ W, n + m = W := ⟨_, rfl⟩
  have lv := hv.lens
  rw [hm] at lv
  rw [hm, hWe]
  have hbo : boxV h (.int .i64 (n : Int)) = some (.ptr h.next 0, h.new (.cells false [.int .i64 (n : Int)])) := by simp [boxV, V.cells, V.one]
  simp (disch := first | omega | (simp only [Qn] <;> omega)) only [go_sem, c_linear_kernel, initV_eq, hbo]
  have hf1 : Fr h (h.new (.cells false [.int .i64 (n : Int)])) := (Fr.refl h).new _
  have hg1 : (h.new (.cells false [.int .i64 (n : Int)])).get h.next = some (.cells false [.int .i64 (n : Int)]) := H.get_new_same ..
  have hn1 : (h.new (.cells false [.int .i64 (n : Int)])).next = h.next + 1 := H.next_new ..
  generalize h.new (.cells false [.int .i64 (n : Int)]) = h1 at *
  have hf2 : Fr h1 (h1.new (.cells false [.nils])) := (Fr.refl h1).new _
  have hg2 : (h1.new (.cells false [.nils])).get h1.next = some (.cells false [.nils]) := H.get_new_same ..
  have hn2' : (h1.new (.cells false [.nils])).next = h1.next + 1 := H.next_new ..
  generalize h1.new (.cells false [.nils]) = h2 at *
  rw [← hn1, ← hn2']
  obtain ⟨X3, hX3⟩ : ∃ X, h.next = X := ⟨_, rfl⟩
  obtain ⟨X5, hX5⟩ : ∃ X, h1.next = X := ⟨_, rfl⟩
  rw [hX3] at hg1 ⊢
  rw [hX5] at hg2 ⊢
  have F2 := hf1.trans hf2
  have g32 := (hf2.get X3 (by omega)).trans hg1
  have c32 : h2.cell X3 0 = some (.int .i64 (n : Int)) := by rw [H.cell_of g32]; rfl
  have fb : Fr h2 (H.mk h2.tr (h2.next + 10)) := (Fr.refl h2).bump (by omega)
  have nb : (H.mk h2.tr (h2.next + 10)).next = h2.next + 10 := rfl
  have eW : (n : Int) + (m : Int) = (W : Int) := by omega
  have eW2 : (n : Int) + (ll.length : Int) = (W : Int) := by omega
  simp (disch := first | omega | (simp only [Qn] <;> omega)) only [go_sem, c32, lv, eW]
  generalize H.mk h2.tr (h2.next + 10) = h2b at *
  refine (marked_ok n v ll h2b (hv.mono (F2.trans fb)) hl (by omega) hn2 hw).mono ?_
  rintro w h3 ⟨s3, f3⟩
  rw [hm, hWe] at s3
  have F3 := (F2.trans fb).trans f3
  have f23 := fb.trans f3
  have g33 := (f23.get X3 (by omega)).trans g32
  have c33 : h3.cell X3 0 = some (.int .i64 (n : Int)) := by rw [H.cell_of g33]; rfl
  obtain ⟨L2, hL2⟩ : ∃ L2, mkR m W (mkE n (vw ll)) = L2 := ⟨_, rfl⟩
  rw [hL2] at s3 ⊢
  have l2 : L2.length = m := by rw [← hL2, mkR_len]
  have lr2 : ∀ i, i < L2.length → (L2.getD i []).length = W := fun i hi => by rw [← hL2, mkR_row _ (by omega), mkV_len]
  have lv3 : lensV v = some (.int .i64 (m : Int)) := lv
  simp (disch := first | omega | (simp only [Qn] <;> omega)) only [go_sem, c33, lv, eW, eqV_int]
  refine (span_ok p W W L2 w _ ((Sp.kp (isP_gt hp) (Nat.le_refl W) L2).ind (by rw [← hL2]; exact mk_new (isP_gt hp) hWe _)) h3 ⟨Sp.start p W W _ _, rfl⟩ s3.sr (by omega) (fun i hi => lr2 i hi) (by omega) (Nat.le_refl W) hp hp2).mono ?_
  rintro w h4 ⟨E, M, k, S, ρ, f, rfl, ⟨s, hkm⟩, hk, kE, f4⟩
  rw [l2] at s hkm
  simp (disch := first | omega | (simp only [Qn] <;> omega)) only [go_sem]
  refine (pivots_ok E h4).mono ?_
  rintro w h5 ⟨rfl, rfl⟩
  have hf5 : Fr h4 (h4.new (.cells false [.ptr E 0])) := (Fr.refl h4).new _
  have hg5 : (h4.new (.cells false [.ptr E 0])).get h4.next = some (.cells false [.ptr E 0]) := H.get_new_same ..
  have hn5 : (h4.new (.cells false [.ptr E 0])).next = h4.next + 1 := H.next_new ..
  generalize h4.new (.cells false [.ptr E 0]) = h5 at *
  obtain ⟨X4, hX4⟩ : ∃ X, h4.next = X := ⟨_, rfl⟩
  obtain ⟨LID, hLID⟩ : ∃ X, h5.next = X := ⟨_, rfl⟩
  rw [hX4] at hg5
  have k1 := kE.ltE
  have k2 := kE.ltM
  have k3 := kE.ltR
  have o1 := kE.loE
  have o2 := kE.loM
  have o3 := kE.loR
  have n23 := f23.next
  have n34 := f4.next
  simp (disch := first | omega | (simp only [Qn] <;> omega)) only [go_sem]
  rw [hX4, hLID]
  generalize hrc : LRec.mk _ _ _ _ _ _ = rc
  refine ⟨rfl, ?_⟩
  have f6 : Fr h5 (h5.new (.loop rc)) := (Fr.refl h5).new _
  have F5 := (F3.trans f4).trans hf5
  have f25 := (f23.trans f4).trans hf5
  have J0 : KJ p E M W n X3 X5 X4 LID S ρ f h3.next (LID + 1) .nils [] (krF n m S f 0) h rc (h5.new (.loop rc)) :=
    ⟨((f25.trans f6).get _ (by omega)).trans g32, ((f25.trans f6).get _ (by omega)).trans hg2, (f6.get _ (by omega)).trans hg5, by rw [← hLID]; exact H.get_new_same .., Rws.nils _ _, kE.fr (hf5.trans f6), F5.trans f6, by rw [H.next_new]; omega⟩
  have loop : Ev T 94 [.yl LID, .ptr X4 0] (h5.new (.loop rc)) (fun _ hh => ∃ u ws, KJ p E M W n X3 X5 X4 LID S ρ f h3.next (LID + 1) u ws (krF n m S f W) h rc hh) := by
    refine pivots_loop LID X4 E M W W p S ρ (fun c hh => c ≤ W ∧ ∃ u ws, KJ p E M W n X3 X5 X4 LID S ρ f h3.next (LID + 1) u ws (krF n m S f c) h rc hh)
      (fun c hh ⟨_, u, ws, J⟩ => ⟨J.g4, J.k.gE, J.k.gM⟩) (fun c hh hc hs2 ⟨_, u, ws, J⟩ => ?_) (fun c hh hc hs2 ⟨_, u, ws, J⟩ => ⟨by omega, u, ws, by rw [krF_succ, if_neg (by simp [hs2]), List.append_nil]; exact J⟩) _ ⟨Nat.zero_le _, _, _, J0⟩ (by omega) |>.mono fun _ _ q => q.2
    refine Ey_of J.gL (by rw [← hrc]; rfl) ?_
    have lt := J.lt
    have c30 : hh.cell X3 0 = some (.int .i64 (n : Int)) := by rw [H.cell_of J.g3]; rfl
    subst hrc
    simp (disch := first | omega | (simp only [Qn] <;> omega)) only [go_sem, List.zip_cons_cons, List.zip_nil_left]
    refine ⟨_, J.gL, rfl, ?_⟩
    generalize hrb : LRec.mk _ _ _ _ LSt.busy _ = rb
    have R1 : Rws (hh.set LID (some (.loop rb))) u ws (krF n m S f c) (LID + 1) := J.r.set (by omega) _
    have e1 := J.k.fx (h' := hh.set LID (some (.loop rb))) ((Fx.refl LID hh).set _) (by omega) (by omega) fun c hc hs2 => by have := k3 c hc hs2; omega
    have F1 : Fr h (hh.set LID (some (.loop rb))) := Fr.set J.fr (by omega) _
    have g31 : (hh.set LID (some (.loop rb))).get X3 = some (.cells false [.int .i64 (n : Int)]) := by rw [H.get_set_ne _ (by omega)]; exact J.g3
    have g51 : (hh.set LID (some (.loop rb))).get X5 = some (.cells false [u]) := by rw [H.get_set_ne _ (by omega)]; exact J.g5
    have g41 : (hh.set LID (some (.loop rb))).get X4 = some (.cells false [.ptr E 0]) := by rw [H.get_set_ne _ (by omega)]; exact J.g4
    have gL1 : (hh.set LID (some (.loop rb))).get LID = some (.loop rb) := H.get_set_same ..
    have n10 : (hh.set LID (some (.loop rb))).next = hh.next := rfl
    obtain ⟨h10, h10e⟩ : ∃ q, hh.set LID (some (.loop rb)) = q := ⟨_, rfl⟩
    rw [h10e] at R1 e1 F1 g31 g51 g41 gL1 n10
    rw [h10e]
    have c31 : h10.cell X3 0 = some (.int .i64 (n : Int)) := by rw [H.cell_of g31]; rfl
    have c51 : h10.cell X5 0 = some u := by rw [H.cell_of g51]; rfl
    simp (disch := first | omega | (simp only [Qn] <;> omega)) only [go_sem, c30, c31]
    by_cases hge : (c : Int) ≥ (n : Int)
    · rw [decide_eq_true hge]
      have hge' : n ≤ c := by omega
      have row := (e1.row c hc hs2).si (e1.ltR c hc hs2) (.kn W)
      have cap1 : Cap1 (V.sl (ρ c) 0 W (.kn W)) := fun id off m c e => by cases e; exact .inr ⟨W, rfl, Nat.le_refl _⟩
      obtain ⟨vr, evr, svr⟩ := slc_lo row cap1 (k := n) (by rw [mkV_len]; omega)
      have edr : (mkV W (f c)).drop n = mkV m (fun j => f c (n + j)) := mkV_eq (by rw [List.length_drop, mkV_len]; omega) fun k hk => by
        rw [List.getD_eq_getElem?_getD, List.getElem?_drop, ← List.getD_eq_getElem?_getD, mkV_get _ (by omega)]
      rw [edr] at svr
      have fb : Fr h10 (H.mk h10.tr (h10.next + 8)) := (Fr.refl h10).bump (by omega)
      have svrb := svr.mono fb
      have nb : (H.mk h10.tr (h10.next + 8)).next = h10.next + 8 := rfl
      simp (disch := first | omega | (simp only [Qn] <;> omega)) only [go_sem, c31, c51, evr]
      generalize H.mk h10.tr (h10.next + 8) = h10b at *
      refine (clone_ok vr (mkV m (fun j => f c (n + j))) h10b svrb (by rw [mkV_len]; omega)).mono ?_
      rintro w h7 ⟨o7, f7, _⟩
      have f67 := fb.trans f7
      have n7 := f7.next
      have cA7 : h7.cell X5 0 = some u := by rw [f67.cell (by omega)]; exact c51
      have eu := SV.eqV R1.own.sv
      have vw := SV.what o7.sv
      have f35 := litAt_fr f67 (a := h10.next + 5) (by omega) w
      have R7 := R1.fr f35
      have o7b : Own (litAt h7 (h10.next + 5) w) w 1 (ints (mkV m (fun j => f c (n + j)))) h10b.next := o7.mono (Nat.le_refl _) fun id _ _ _ _ h1 _ => litAt_ne h7 w (by omega)
      have sy := litAt_sv h7 (a := h10.next + 5) w (by omega)
      have nl : (litAt h7 (h10.next + 5) w).next = h7.next := rfl
      have hlen := R1.row.length
      have kl := krF_len (n := n) (m := m) (S := S) (f := f) (c := c)
      obtain ⟨v8, h8', e8, R8, n8, k8, q8⟩ := R7.app (by omega) sy o7b.sv (Own.dis (R1.own.fr fb) o7) (Frs.le (Frs.own o7) (by omega)) (by omega)
      have F8 : Fr h h8' := q8 h (F1.trans f35) (by omega)
      have g3 := (k8 X3 (by omega) (own_apart R7.own (by omega))).trans ((f35.get X3 (by omega)).trans g31)
      have g5 := (k8 X5 (by omega) (own_apart R7.own (by omega))).trans ((f35.get X5 (by omega)).trans g51)
      have g4 := (k8 X4 (by omega) (own_apart R7.own (by omega))).trans ((f35.get X4 (by omega)).trans g41)
      have gL := (k8 LID (by omega) (own_apart R7.own (by omega))).trans ((f35.get LID (by omega)).trans gL1)
      have E8 : Ec h8' E M W W p S ρ f h3.next := (e1.fr f35).keep n8 (LID + 1) (fun x hx => k8 x (by omega) (own_apart R7.own hx)) (by omega) (by omega) fun c hc hs2 => by have := k3 c hc hs2; omega
      have hv := SV.what R8.own.sv
      have hst1 := fun hh => stV_one hv.1 hv.2.1 hh X5 0
      have pt := fun hh : H => putO_one (vs := [u]) (off := 0) (by simp) hh X5 v8
      simp (disch := first | omega | (simp only [Qn] <;> omega)) only [go_sem, cA7, eu, eqV_int, bls_v (H.mk h7.tr (h10.next + 5)) w vw.1 vw.2.1, litAt_eq, e8, hst1, g5, pt]
      refine ⟨rb, by rw [H.get_set_ne _ (by omega)]; exact gL, rfl, by omega, v8, ws ++ [w], ?_⟩
      have ew : krF n m S f (c + 1) = krF n m S f c ++ [mkV m fun j => f c (n + j)] := by rw [krF_succ, if_pos ⟨hge', hs2⟩]
      rw [ew]
      subst hrb
      refine ⟨by rw [H.get_set_ne _ (by omega), H.get_set_ne _ (by omega)]; exact g3, by rw [H.get_set_ne _ (by omega)]; exact H.get_set_same .., by rw [H.get_set_ne _ (by omega), H.get_set_ne _ (by omega)]; exact g4, H.get_set_same .., (R8.set (by omega) _).set (by omega) _, ?_, (F8.set (by omega) _).set (by omega) _, by show LID < h8'.next; omega⟩
      exact (E8.fx ((Fx.refl X5 h8').set _) (by omega) (by omega) fun c hc hs2 => by have := k3 c hc hs2; have := o3 c hc hs2; omega).fx ((Fx.refl LID _).set _) (by omega) (by omega) fun c hc hs2 => by have := k3 c hc hs2; omega
    rw [decide_eq_false hge]
    simp (disch := first | omega | (simp only [Qn] <;> omega)) only [go_sem]
    refine ⟨rb, gL1, rfl, by omega, u, ws, ?_⟩
    have ew : krF n m S f (c + 1) = krF n m S f c := by rw [krF_succ, if_neg (fun q => by have := q.1; omega), List.append_nil]
    rw [ew]
    subst hrb
    refine ⟨by rw [H.get_set_ne _ (by omega)]; exact g31, by rw [H.get_set_ne _ (by omega)]; exact g51, by rw [H.get_set_ne _ (by omega)]; exact g41, H.get_set_same .., R1.set (by omega) _, ?_, F1.set (by omega) _, by show LID < h10.next; omega⟩
    exact e1.fx ((Fx.refl LID _).set _) (by omega) (by omega) fun c hc hs2 => by have := k3 c hc hs2; omega
  refine loop.mono ?_
  rintro _ h20 ⟨u, ws, J⟩
  refine ⟨_, J.gL, by rw [← hrc]; simp, ?_⟩
  have hpe : rc.pend = none := by rw [← hrc]
  simp only [hpe, Option.getD_none]
  have lt := J.lt
  have q3 : ∀ o, (h20.set LID o).cell X5 0 = some u := fun o => by
    rw [H.cell_set_ne _ (by omega), H.cell_of J.g5]; rfl
  have g' : ∀ o, Fr h (h20.set LID o) := fun o => Fr.set J.fr (by omega) o
  have r' : ∀ o, Rws (h20.set LID o) u ws (krF n m S f W) (LID + 1) := fun o => J.r.set (by omega) o
  simp (disch := first | omega | (simp only [Qn] <;> omega)) only [go_sem, q3]
  exact ⟨k, S, f, hkm, s, ⟨_, (r' _).own.sv, (r' _).row, Frs.le (Frs.own (r' none).own) (by omega), fun w hw => ((r' none).frs w hw).le (by omega)⟩, g' _⟩
end Go.Proofs.Ytlhebmcnjgagjaa

/- Layer 5: Kernel; spans from certificates. -/
namespace Go.Proofs.Ytlhebmcnjgagjaa
open Go Go.Ay
set_option maxRecDepth 100000
theorem krF_congr {n m W : Nat} {S S' : Nat → Bool} {f f' : Nat → Nat → Int} (hW : n + m = W) (h1 : ∀ c, c < W → S c = S' c) (h2 : ∀ c j, c < W → S c = true → j < W → f c j = f' c j) : krF n m S f W = krF n m S' f' W := by
  simp only [krF]
  have e : (List.range W).filter (fun c => decide (n ≤ c) && S c) = (List.range W).filter (fun c => decide (n ≤ c) && S' c) := by
    refine List.filter_congr fun c hc => ?_
    rw [h1 c (List.mem_range.1 hc)]
  rw [← e]
  refine List.map_congr_left fun c hc => ?_
  rw [List.mem_filter, List.mem_range, Bool.and_eq_true, decide_eq_true_eq] at hc
  exact mkV_congr fun j hj => h2 c _ hc.1 hc.2.2 (by omega)
noncomputable def kerF (p : Int) (n : Nat) (ll : List (List Int)) : List (List Int) := open Classical in if h : ∃ S f k, Sp p (n + ll.length) (n + ll.length) (vw (mkR ll.length (n + ll.length) (mkE n (vw ll)))) ll.length S f k then krF n ll.length h.choose h.choose_spec.choose (n + ll.length) else []
theorem kerF_eq {p : Int} (hp : 1 < p) {n k : Nat} {ll : List (List Int)} {S : Nat → Bool} {f : Nat → Nat → Int} (s : Sp p (n + ll.length) (n + ll.length) (vw (mkR ll.length (n + ll.length) (mkE n (vw ll)))) ll.length S f k) : kerF p n ll = krF n ll.length S f (n + ll.length) := by
  have h : ∃ S f k, Sp p (n + ll.length) (n + ll.length) (vw (mkR ll.length (n + ll.length) (mkE n (vw ll)))) ll.length S f k := ⟨S, f, k, s⟩
  rw [kerF, dif_pos h]
  obtain ⟨k', s'⟩ := h.choose_spec.choose_spec
  obtain ⟨e1, e2, _⟩ := Sp.uniq hp s' s (fun i hi => InS.row hi) fun i hi => InS.row hi
  exact krF_congr rfl e1 e2
noncomputable def KernelF (a : Mat) : List (List Int) × Int := if checkM a ≠ 0 then ([], checkM a) else (kerF a.1 (a.2.getD 0 []).length a.2, 0)
set_option maxHeartbeats 8000000 in
theorem Kernel_ok (va : V) (a : Mat) (h : H) (ha : MatV h va a) (la : (a.2.length : Int) ≤ 2 ^ 63 - 1) : Ev T n_linear_Kernel [va] h (fun w h' => ∃ u, w = .tup [u, .int .i64 (KernelF a).2] ∧ SR h' u (KernelF a).1 ∧ Fr h h') := by
  obtain ⟨ua, rfl, hua⟩ := ha
  refine Ev_of t_linear_Kernel rfl ?_
  have wa := SV.what hua.choose_spec.1
  simp (disch := first | omega | (simp only [Qn] <;> omega)) only [go_sem, c_linear_Kernel, initV_eq, boxV_agg2 h (v := .int .i64 a.1) rfl wa.2.1]
  have hfx : Fr h (h.new (.cells false [.int .i64 a.1, ua])) := (Fr.refl h).new _
  have hgx : (h.new (.cells false [.int .i64 a.1, ua])).get h.next = some (.cells false [.int .i64 a.1, ua]) := H.get_new_same ..
  have hnx : (h.new (.cells false [.int .i64 a.1, ua])).next = h.next + 1 := H.next_new ..
  generalize h.new (.cells false [.int .i64 a.1, ua]) = hx at *
  simp (disch := first | omega | (simp only [Qn] <;> omega)) only [go_sem, row_two hgx]
  refine (check_ok _ a hx ⟨ua, rfl, hua.mono hfx⟩ la).mono ?_
  rintro v h5 ⟨rfl, f5⟩
  have F5 := hfx.trans f5
  have gx5 := (f5.get h.next (by omega)).trans hgx
  have x0 : h5.cell h.next 0 = some (.int .i64 a.1) := by rw [H.cell_of gx5]; rfl
  have x1 : h5.cell h.next 1 = some ua := by rw [H.cell_of gx5]; rfl
  simp (disch := first | omega | (simp only [Qn] <;> omega)) only [go_sem]
  refine iteW_dec (fun hz => ?_) (fun hz' => ?_)
  · simp (disch := first | omega | (simp only [Qn] <;> omega)) only [go_sem]
    rw [KernelF, if_pos hz]
    exact ⟨_, rfl, ⟨[], SV.nils _ _, trivial⟩, F5⟩
  have hz : checkM a = 0 := Classical.byContradiction hz'
  have da := check_vd hz
  have hr1 := da.r1
  have hr2 := da.r2
  obtain ⟨ida, offa, wsa, sua, hida, hwla, hcA, halla⟩ := (hua.mono F5).open
  have c0 : h5.cell ida offa = some (wsa.getD 0 .undef) := hcA 0 (by omega)
  have l0 := (row_at halla (i := 0) (by omega)).lens
  simp (disch := first | omega | (simp only [Qn] <;> omega)) only [go_sem, x0, x1, sua.ixa, c0, l0]
  have fb : Fr h5 (H.mk h5.tr (h5.next + 12)) := (Fr.refl h5).bump (by omega)
  have nb : (H.mk h5.tr (h5.next + 12)).next = h5.next + 12 := rfl
  generalize H.mk h5.tr (h5.next + 12) = h5b at *
  have hF := da.p
  simp only [fieldF, Bool.and_eq_true, decide_eq_true_eq] at hF
  refine (kernel_ok a.1 (a.2.getD 0 []).length ua a.2 h5b (hua.mono (F5.trans fb)) (by omega) da.c1 da.c2 da.row hF.2 hF.1).mono ?_
  rintro w h6 ⟨k, S, f, _, s, sr, f6⟩
  simp (disch := first | omega | (simp only [Qn] <;> omega)) only [go_sem]
  rw [KernelF, if_neg (by simp [hz]), kerF_eq (isP_gt hF.2) s]
  exact ⟨_, rfl, sr.sr, (F5.trans fb).trans f6⟩
/-- Rows and coefficients that are given: a check that is run. -/
def ceF (p : Int) (n m : Nat) (V : Nat → Nat → Int) (S : Nat → Bool) (f K : Nat → Nat → Int) : Bool :=
  ((List.range n).all fun c => !S c || (((List.range n).all fun j => decide (0 ≤ f c j) && decide (f c j < p) && decide (f c j % p = sm m (fun i => K c i * V i j) % p)) && ((List.range c).all fun j => decide (f c j = 0)) && decide (f c c = 1) && (List.range n).all fun d => !S d || decide (d = c) || decide (f c d = 0)))
  && (List.range m).all fun a => (List.range n).all fun j => decide (V a j % p = sm n (fun c => V a c * gf S f c j) % p)
theorem Sp.of {p : Int} {n m : Nat} {V : Nat → Nat → Int} {S : Nat → Bool} {f K : Nat → Nat → Int} (h : ceF p n m V S f K = true) : Sp p n n V m S f (cnt n S) := by
  rw [ceF, Bool.and_eq_true] at h
  obtain ⟨h1, h2⟩ := h
  simp only [List.all_eq_true, List.mem_range, Bool.or_eq_true, Bool.and_eq_true, Bool.not_eq_true', decide_eq_true_eq] at h1 h2
  have g := fun c hc (hs : S c = true) => (h1 c hc).resolve_left (by simp [hs])
  refine ⟨⟨fun c j hc hs hj => ⟨((g c hc hs).1.1.1 j hj).1.1, ((g c hc hs).1.1.1 j hj).1.2⟩, fun c hc hs => (g c hc hs).1.2, fun c d hc hd hs hs2 hne => ?_, fun c j hc hs hj => (g c hc hs).1.1.2 j hj⟩, fun c hc hs => ⟨K c, fun j hj => ((g c hc hs).1.1.1 j hj).2⟩, fun a ha => ⟨V a, fun j hj => h2 a ha j hj⟩, rfl⟩
  rcases (g c hc hs).2 d hd with (e | e) | e
  · rw [hs2] at e; cases e
  · exact absurd e hne
  · exact e
def lS (l : List Nat) : Nat → Bool := fun c => l.contains c
def lR (l : List (List Int)) : Nat → Nat → Int := fun c j => (l.getD c []).getD j 0
theorem bas1 : BasisF 5 3 [[2, 4, 1], [1, 2, 0], [0, 0, 3]] = ([[1, 2, 0], [0, 0, 1]], 0) := by
  have s : Sp 5 3 3 (vw [[2, 4, 1], [1, 2, 0], [0, 0, 3]]) 3 (lS [0, 2]) (lR [[1, 2, 0], [], [0, 0, 1]]) (cnt 3 (lS [0, 2])) := Sp.of (K := lR [[0, 1, 0], [], [0, 0, 2]]) (by decide +kernel)
  rw [BasisF, if_neg (by decide +kernel)]
  refine Prod.ext ?_ rfl
  show bsF 5 3 _ = _
  rw [bsF_eq (by omega) s]
  decide +kernel
theorem in1 : InF 5 3 [[2, 4, 1], [1, 2, 0], [0, 0, 3]] [3, 1, 4] = (true, 0) := by
  rw [InF, if_neg (by decide +kernel)]
  refine Prod.ext (@decide_eq_true _ (Classical.propDecidable _) ?_) rfl
  exact ⟨lR [[4, 0, 0]] 0, fun j hj => by
    have : j = 0 ∨ j = 1 ∨ j = 2 := by
      have : j < 3 := hj
      omega
    rcases this with rfl | rfl | rfl <;> decide +kernel⟩
theorem ker1 : KernelF (5, [[1, 2], [2, 4], [0, 1]]) = ([[1, 2, 0]], 0) := by
  have s : Sp 5 (2 + 3) (2 + 3) (vw (mkR 3 (2 + 3) (mkE 2 (vw [[1, 2], [2, 4], [0, 1]])))) 3 (lS [0, 1, 2]) (lR [[1, 0, 0, 3, 3], [0, 1, 0, 0, 1], [0, 0, 1, 2, 0]]) (cnt 5 (lS [0, 1, 2])) := Sp.of (K := lR [[0, 3, 3], [0, 0, 1], [1, 2, 0]]) (by decide +kernel)
  rw [KernelF, if_neg (by decide +kernel)]
  refine Prod.ext ?_ rfl
  show kerF 5 2 _ = _
  rw [kerF_eq (by omega) s]
  decide +kernel
end Go.Proofs.Ytlhebmcnjgagjaa

/- Layer 5: the law's examples, its field. -/
namespace Go.Proofs.Ytlhebmcnjgagjaa
open Go Go.Ay
set_option maxRecDepth 100000
theorem bls_i3 (h : H) (x y z : Int) : blsV h 1 [.int .i64 0] 3 [(0, 1, .int .i64 x), (1, 1, .int .i64 y), (2, 1, .int .i64 z)] = some (.sl h.next 0 3 (.kn 3), h.new (.cells false (ints [x, y, z]))) := by
  have e : zerosV [V.int .i64 0] 3 = [.int .i64 0, .int .i64 0, .int .i64 0] := rfl
  simp [blsV, fillV, e, putAt, V.cells, V.one, ints]
theorem bls_sl3 (h : H) (a b c a' b' c' a2 b2 c2 : Nat) (d d' d2 : Cap) : blsV h 1 [.nils] 3 [(0, 1, .sl a b c d), (1, 1, .sl a' b' c' d'), (2, 1, .sl a2 b2 c2 d2)] = some (.sl h.next 0 3 (.kn 3), h.new (.cells false [.sl a b c d, .sl a' b' c' d', .sl a2 b2 c2 d2])) := by
  have e : zerosV [V.nils] 3 = [.nils, .nils, .nils] := rfl
  simp [blsV, fillV, e, putAt, V.cells, V.one]
theorem bls_s1 (h : H) (a b c : Nat) (d : Cap) : blsV h 1 [.nils] 1 [(0, 1, .sl a b c d)] = some (.sl h.next 0 1 (.kn 1), h.new (.cells false [.sl a b c d])) := bls_row h rfl rfl
theorem si_at {hh : H} {i n : Nat} {l : List Int} (e : l.length = n) (g : hh.get i = some (.cells false (ints l))) (hi : i < hh.next) : SI hh (.sl i 0 n (.kn n)) l := by
  subst e
  exact SI.own hi g _
theorem lit3 (h : H) (n : Nat) (a b c : List Int) (ha : a.length = n) (hb : b.length = n) (hc : c.length = n) : ∃ h3, (((h.new (.cells false (ints a))).new (.cells false (ints b))).new (.cells false (ints c))).new (.cells false [.sl h.next 0 n (.kn n), .sl (h.next + 1) 0 n (.kn n), .sl (h.next + 1 + 1) 0 n (.kn n)]) = h3 ∧ Fr h h3 ∧ SR h3 (.sl (h.next + 1 + 1 + 1) 0 3 (.kn 3)) [a, b, c] ∧ h3.next = h.next + 4 := by
  refine ⟨_, rfl, ((((Fr.refl h).new _).new _).new _).new _, ⟨_, SV.all rfl ?_ (H.get_new_same (((h.new _).new _).new _) _) _, si_at ha ?_ ?_, si_at hb ?_ ?_, si_at hc ?_ ?_, trivial⟩, rfl⟩
  · simp only [H.next_new]; omega
  · rw [H.get_new_ne _ (by simp only [H.next_new]; omega), H.get_new_ne _ (by simp only [H.next_new]; omega), H.get_new_ne _ (by simp only [H.next_new]; omega)]; exact H.get_new_same ..
  · simp only [H.next_new]; omega
  · rw [H.get_new_ne _ (by simp only [H.next_new]; omega), H.get_new_ne _ (by simp only [H.next_new]; omega)]; exact H.get_new_same (h.new _) _
  · simp only [H.next_new]; omega
  · rw [H.get_new_ne _ (by simp only [H.next_new]; omega)]; exact H.get_new_same ((h.new _).new _) _
  · simp only [H.next_new]; omega
theorem lit2r (h : H) (n : Nat) (a b : List Int) (ha : a.length = n) (hb : b.length = n) : ∃ h3, ((h.new (.cells false (ints a))).new (.cells false (ints b))).new (.cells false [.sl h.next 0 n (.kn n), .sl (h.next + 1) 0 n (.kn n)]) = h3 ∧ Fr h h3 ∧ SR h3 (.sl (h.next + 1 + 1) 0 2 (.kn 2)) [a, b] ∧ h3.next = h.next + 3 := by
  refine ⟨_, rfl, (((Fr.refl h).new _).new _).new _, ⟨_, SV.all rfl ?_ (H.get_new_same ((h.new _).new _) _) _, si_at ha ?_ ?_, si_at hb ?_ ?_, trivial⟩, rfl⟩
  · simp only [H.next_new]; omega
  · rw [H.get_new_ne _ (by simp only [H.next_new]; omega), H.get_new_ne _ (by simp only [H.next_new]; omega)]; exact H.get_new_same ..
  · simp only [H.next_new]; omega
  · rw [H.get_new_ne _ (by simp only [H.next_new]; omega)]; exact H.get_new_same (h.new _) _
  · simp only [H.next_new]; omega
theorem lit1 (h : H) (n : Nat) (a : List Int) (ha : a.length = n) : ∃ h3, (h.new (.cells false (ints a))).new (.cells false [.sl h.next 0 n (.kn n)]) = h3 ∧ Fr h h3 ∧ SR h3 (.sl (h.next + 1) 0 1 (.kn 1)) [a] ∧ h3.next = h.next + 2 := by
  refine ⟨_, rfl, ((Fr.refl h).new _).new _, ⟨_, SV.all rfl ?_ (H.get_new_same (h.new _) _) _, si_at ha ?_ ?_, trivial⟩, rfl⟩
  · simp only [H.next_new]; omega
  · rw [H.get_new_ne _ (by simp only [H.next_new]; omega)]; exact H.get_new_same ..
  · simp only [H.next_new]; omega
theorem rows_ok (h : H) : Ev T n_law05_rows [] h (fun w h' => SR h' w [[2, 4, 1], [1, 2, 0], [0, 0, 3]] ∧ Fr h h') := by
  refine Ev_of t_law05_rows rfl ?_
  simp (disch := first | omega | (simp only [Qn] <;> omega)) only [go_sem, c_law05_rows, initV_eq, bls_i3, bls_sl3]
  obtain ⟨h1, e1, f1, s1, n1⟩ := lit3 h 3 [2, 4, 1] [1, 2, 0] [0, 0, 3] rfl rfl rfl
  rw [e1]
  exact ⟨s1, f1⟩
theorem five_ok (u : V) (rows : List (List Int)) (h : H) (hu : SR h u rows) : Ev T n_law05_five [u] h (fun w h' => w = .agg [.int .i64 5, u] ∧ Fr h h') := by
  refine Ev_of t_law05_five rfl ?_
  have hw := SV.what hu.choose_spec.1
  have hbl := bldV_two (z1 := .int .i64 0) (z2 := .nils) (v := .int .i64 5) (u := u) rfl rfl hw.1 hw.2.1
  have hst := fun hh id => stV_agg2 hh id 0 (v := .int .i64 5) (u := u) rfl hw.2.1
  have hrow := row_two (bxH_get h 5 u)
  simp (disch := first | omega | (simp only [Qn] <;> omega)) only [go_sem, c_law05_five, initV_eq, hbl, hst, bxH_eq, hrow]
  exact bxH_fr h 5 u
/-- Lists of moderate size. -/
def FitL (ll : List (List Int)) : Prop := ll.length < 1000000 ∧ ∀ i, i < ll.length → (ll.getD i []).length < 1000000
theorem is_ok (va vb : V) (e : Int) (a b : List (List Int)) (h : H) (ha : SR h va a) (hb : SR h vb b) (fa : FitL a) (fb : FitL b) : Ev T n_law05_is [va, .int .i64 e, vb] h (fun v h' => v = .bool (decide (e = 0 ∧ a = b)) ∧ Fr h h') := by
  refine Ev_of t_law05_is rfl ?_
  simp (disch := first | omega | (simp only [Qn] <;> omega)) only [go_sem, c_law05_is, initV_eq]
  by_cases he : e = 0
  · subst he
    simp (disch := first | omega | (simp only [Qn] <;> omega)) only [go_sem, decide_true]
    refine (sameLists_ok va vb a b h ha hb fa.1 fb.1 fa.2 fb.2).mono ?_
    rintro v h2 ⟨rfl, f2⟩
    simp (disch := first | omega | (simp only [Qn] <;> omega)) only [go_sem]
    simpa using f2
  · simp (disch := first | omega | (simp only [Qn] <;> omega)) only [go_sem, decide_eq_false he]
    exact ⟨by simp [he], Fr.refl h⟩
set_option maxHeartbeats 8000000 in
theorem lives_ok (h : H) : Ev T n_law05_lives [] h (fun v h' => v = .bool true ∧ Fr h h') := by
  refine Ev_of t_law05_lives rfl ?_
  simp (disch := first | omega | (simp only [Qn] <;> omega)) only [go_sem, c_law05_lives, initV_eq]
  refine (rows_ok h).mono ?_
  rintro w h1 ⟨s1, f1⟩
  simp (disch := first | omega | (simp only [Qn] <;> omega)) only [go_sem]
  refine (Basis_ok 5 3 w _ h1 s1 (by decide)).mono ?_
  rintro w2 h2 ⟨u, rfl, sk, f2⟩
  rw [bas1] at sk ⊢
  have sb := sk.sr
  have F2 := f1.trans f2
  clear sk
  simp (disch := first | omega | (simp only [Qn] <;> omega)) only [go_sem]
  refine (rows_ok h2).mono ?_
  rintro w h3 ⟨s3, f3⟩
  simp (disch := first | omega | (simp only [Qn] <;> omega)) only [go_sem, bls_i3]
  have hf4 : Fr h3 (h3.new (.cells false (ints [3, 1, 4]))) := (Fr.refl h3).new _
  have s4 : SI (h3.new (.cells false (ints [3, 1, 4]))) (.sl h3.next 0 3 (.kn 3)) [3, 1, 4] := SI.own (by simp only [H.next_new]; omega) (H.get_new_same ..) _
  generalize h3.new (.cells false (ints [3, 1, 4])) = h4 at *
  refine (In_ok 5 3 w _ _ _ h4 (s3.mono hf4) (by decide) s4).mono ?_
  rintro w h5 ⟨rfl, f5⟩
  rw [in1]
  simp (disch := first | omega | (simp only [Qn] <;> omega)) only [go_sem, bls_int2, bls_sl3]
  obtain ⟨h6, e6, f6, s6, n6⟩ := lit3 h5 2 [1, 2] [2, 4] [0, 1] rfl rfl rfl
  rw [e6]
  refine (five_ok _ _ h6 s6).mono ?_
  rintro w h7 ⟨rfl, f7⟩
  simp (disch := first | omega | (simp only [Qn] <;> omega)) only [go_sem]
  refine (Kernel_ok _ (5, [[1, 2], [2, 4], [0, 1]]) h7 ⟨_, rfl, s6.mono f7⟩ (by decide)).mono ?_
  rintro w h8 ⟨u8, rfl, s8, f8⟩
  rw [ker1] at s8 ⊢
  have F8 : Fr h2 h8 := ((((f3.trans hf4).trans f5).trans f6).trans f7).trans f8
  simp (disch := first | omega | (simp only [Qn] <;> omega)) only [go_sem, bls_i3, bls_sl2]
  obtain ⟨h9, e9, f9, s9, n9⟩ := lit2r h8 3 [1, 2, 0] [0, 0, 1] rfl rfl
  rw [e9]
  refine (is_ok u _ 0 _ _ h9 (sb.mono (F8.trans f9)) s9 ⟨by decide, by decide⟩ ⟨by decide, by decide⟩).mono ?_
  rintro v h10 ⟨rfl, f10⟩
  simp (disch := first | omega | (simp only [Qn] <;> omega)) only [and_self, decide_true, go_sem, bls_i3, bls_s1]
  obtain ⟨h11, e11, f11, s11, n11⟩ := lit1 h10 3 [1, 2, 0] rfl
  rw [e11]
  refine (is_ok u8 _ 0 _ _ h11 (s8.mono ((f9.trans f10).trans f11)) s11 ⟨by decide, by decide⟩ ⟨by decide, by decide⟩).mono ?_
  rintro v h12 ⟨rfl, f12⟩
  simp (disch := first | omega | (simp only [Qn] <;> omega)) only [and_self, decide_true, go_sem]
  exact ((((F2.trans F8).trans f9).trans f10).trans f11).trans f12
end Go.Proofs.Ytlhebmcnjgagjaa

/- Layer 5: the law's drawn rows and their combinations. -/
namespace Go.Proofs.Ytlhebmcnjgagjaa
open Go Go.Ay
set_option maxRecDepth 100000
set_option maxHeartbeats 4000000 in
theorem drawn_un (x : Nat) (l : List Int) (m n : Nat) (p : Int) (h : H) (ht : Tk h x l) (hl : l.length < 1000000) (hm : m ≤ 64) (hn : n ≤ 64) (hp : 1 ≤ p ∧ p < 10000) :
    Ev T n_law05_drawn [.ptr x 0, .int .i64 p, .int .i64 (m : Int), .int .i64 (n : Int)] h (fun w h' => ∃ (A : Mx) (ws : List V), (∀ a b, a < m → b < n → 0 ≤ A a b ∧ A a b < p) ∧ Rws h' w ws (mkR m n A) h.next ∧ Tk h' x l ∧ Fx x h h' ∧ (0 < m → ∃ id, w = .sl id 0 m (.un 1))) := by
  have hx : x < h.next := by obtain ⟨_, _, _, _, _, _, h5⟩ := ht; exact h5
  refine Ev_of t_law05_drawn rfl ?_
  simp (disch := first | omega | (simp only [Qn] <;> omega)) only [go_sem, c_law05_drawn, initV_eq]
  refine Wp_loop (fun k' vars h3 => ∃ (i : Nat) (A : Mx) (u : V) (ws : List V), (∃ g : Nat → V, vars = [.ptr x 0, .int .i64 p, .int .i64 (m : Int), .int .i64 (n : Int), g 4, u, .int .i64 (i : Int), g 7, g 8, g 9, g 10]) ∧ i ≤ m ∧ (∀ a b, a < i → b < n → 0 ≤ A a b ∧ A a b < p) ∧ Rws h3 u ws (mkR i n A) h.next ∧ Tk h3 x l ∧ Fx x h h3 ∧ (0 < i → ∃ id, u = .sl id 0 i (.un 1)) ∧ k' = m - i) m
    ⟨0, fun _ _ => 0, .nils, [], ex_junk rfl, Nat.zero_le _, fun a b ha => absurd ha (Nat.not_lt_zero a), Rws.nils _ _, ht, Fx.refl _ _, fun q => absurd q (Nat.lt_irrefl 0), rfl⟩ ?_
  clear ht
  rintro k' vars h3 ⟨i, A, u, ws, ⟨g, rfl⟩, hi, hA, R3, ht, FX, hun, rfl⟩
  have n03 := FX.next
  simp (disch := first | omega | (simp only [Qn] <;> omega)) only [go_sem]
  by_cases hlt : (i : Int) < (m : Int)
  · rw [decide_eq_true hlt]
    simp (disch := first | omega | (simp only [Qn] <;> omega)) only [go_sem]
    refine Wp_loop (fun k' vars h4 => ∃ (k : Nat) (r : Nat → Int) (v : V), (∃ g : Nat → V, vars = [.ptr x 0, .int .i64 p, .int .i64 (m : Int), .int .i64 (n : Int), g 4, u, .int .i64 (i : Int), v, .int .i64 (k : Int), g 9, g 10]) ∧ k ≤ n ∧ (∀ b, b < k → 0 ≤ r b ∧ r b < p) ∧ Own h4 v 1 (ints (mkV k r)) h3.next ∧ Tk h4 x l ∧ Fx x h3 h4 ∧ k' = n - k) n
      ⟨0, fun _ => 0, .nils, ex_junk rfl, Nat.zero_le _, fun b hb => absurd hb (Nat.not_lt_zero b), Own.nils _ _ _, ht, Fx.refl _ _, rfl⟩ ?_
    rintro k' vars h4 ⟨k, r, v, ⟨g, rfl⟩, hk, hr, ov, ht4, FX4, rfl⟩
    simp (disch := first | omega | (simp only [Qn] <;> omega)) only [go_sem]
    by_cases hlt2 : (k : Int) < (n : Int)
    · rw [decide_eq_true hlt2]
      simp (disch := first | omega | (simp only [Qn] <;> omega)) only [go_sem]
      refine (take_ok x l p h4 ht4 hl hp.1 (by omega)).mono ?_
      rintro vz h5 ⟨z, rfl, z1, z2, ht5, FX5⟩
      simp (disch := first | omega | (simp only [Qn] <;> omega)) only [go_sem, bls_int]
      have n34 := FX4.next
      have n45 := FX5.next
      have o5 := (Own.fx ov (by omega) FX5).fr ((Fr.refl h5).new (.cells false (ints [z])))
      have hy : SV (h5.new (.cells false (ints [z]))) (.sl h5.next 0 1 (.kn 1)) 1 (ints [z]) := SV.all rfl (by rw [H.next_new]; omega) (H.get_new_same ..) _
      obtain ⟨v6, h6, e6, a6⟩ := o5.app (bytes := 8) (n := k) (m := 1) (by rw [H.next_new]; omega) hy (by rw [ints_length, mkV_len, Nat.mul_one]) rfl (by omega) (by omega)
      simp (disch := first | omega | (simp only [Qn] <;> omega)) only [go_sem, e6]
      rw [show (k : Int) + 1 = ((k + 1 : Nat) : Int) from by omega]
      have n6 := a6.next
      rw [H.next_new] at n6
      have g6 : ∀ id, id < h3.next → h6.get id = h5.get id := fun id hid => (a6.get id (by rw [H.next_new]; omega) (own_apart o5 hid)).trans (H.get_new_ne _ (by omega) _)
      have e : ints (mkV k r) ++ ints [z] = ints (mkV (k + 1) fun b => if b = k then z else r b) := by
        rw [mkV_succ, if_pos rfl, ints_append, mkV_congr (g := r) fun b hb => if_neg (by omega)]
      have oo := a6.own
      rw [e] at oo
      refine ⟨n - (k + 1), by omega, k + 1, _, v6, ex_junk rfl, by omega, fun b hb => ?_, oo, ht5.low (by omega) fun id hid => g6 id (by omega), ⟨by omega, fun id hid hne => (g6 id hid).trans ((FX4.trans FX5).get id hid hne)⟩, rfl⟩
      by_cases e : b = k
      · rw [if_pos e]; exact ⟨z1, z2⟩
      · rw [if_neg e]; exact hr b (by omega)
    · rw [decide_eq_false hlt2]
      obtain rfl : n = k := by omega
      have n34 := FX4.next
      have vv := SV.what ov.sv
      have R4 := (Rws.fx R3 (by omega) FX4).fr ((Fr.refl h4).new (.cells false [v]))
      have hy : SV (h4.new (.cells false [v])) (.sl h4.next 0 1 (.kn 1)) 1 [v] := SV.all rfl (by rw [H.next_new]; omega) (H.get_new_same ..) _
      have hlen := R3.row.length
      rw [mkR_len] at hlen
      have sv4 : SI h4 v (mkV n r) := ov.sv
      obtain ⟨w, h6, e6, R6, n6, k6, q6⟩ := R4.app (by rw [H.next_new]; omega) hy (sv4.mono ((Fr.refl h4).new _)) (Own.dis R3.own ov) (Frs.le (Frs.own ov) (by omega)) (by omega)
      rw [H.next_new] at n6
      have un6 := app_at R4.own (n := ws.length) (by omega) (m := 1) (by omega) (by omega) hy rfl e6
      have hlow : ∀ id, id < h.next → h6.get id = h4.get id := fun id hid => (k6 id (by rw [H.next_new]; omega) (own_apart R4.own hid)).trans (H.get_new_ne _ (by omega) _)
      simp (disch := first | omega | (simp only [Qn] <;> omega)) only [go_sem, bls_v h4 v vv.1 vv.2.1, e6]
      rw [show (i : Int) + 1 = ((i + 1 : Nat) : Int) from by omega]
      have em : mkR i n A ++ [mkV n r] = mkR (i + 1) n (fun a b => if a = i then r b else A a b) := by
        rw [mkR_succ, mkR_congr (g := A) fun a b ha _ => if_neg (by omega), mkV_congr (f := fun b => if i = i then r b else A i b) (g := r) fun b _ => if_pos rfl]
      rw [em] at R6
      refine ⟨m - (i + 1), by omega, i + 1, _, w, _, ex_junk rfl, by omega, fun a b ha hb => ?_, R6, ?_, ?_, fun _ => ⟨_, by rw [un6, ← hlen]⟩, rfl⟩
      · by_cases e : a = i
        · rw [if_pos e]; exact hr b hb
        · rw [if_neg e]; exact hA a b (by omega) hb
      · exact ht4.low (by omega) fun id hid => hlow id (by omega)
      · exact ⟨by omega, fun id hid hne => (hlow id (by omega)).trans ((FX.trans FX4).get id hid hne)⟩
  · rw [decide_eq_false hlt]
    obtain rfl : m = i := by omega
    simp (disch := first | omega | (simp only [Qn] <;> omega)) only [go_sem]
    exact ⟨A, ws, fun a b ha hb => hA a b ha hb, R3, ht, FX, hun⟩
end Go.Proofs.Ytlhebmcnjgagjaa

/- Layer 5: what an echelon list is found to be. -/
namespace Go.Proofs.Ytlhebmcnjgagjaa
open Go Go.Ay
set_option maxRecDepth 100000
/-- Rows with ascending pivots. -/
structure Pv (p : Int) (n : Nat) (ll : List (List Int)) (P : Nat → Nat) (g : Nat → Nat → Int) : Prop where
  lt : ∀ i, i < ll.length → P i < n
  row : ∀ i, i < ll.length → ll.getD i [] = mkV n (g i)
  one : ∀ i, i < ll.length → g i (P i) = 1
  low : ∀ i j, i < ll.length → j < P i → g i j = 0
  zer : ∀ i k, i < ll.length → k < ll.length → k ≠ i → g k (P i) = 0
  rng : ∀ i j, i < ll.length → j < n → 0 ≤ g i j ∧ g i j < p
  asc : ∀ i k, i < k → k < ll.length → P i < P k
theorem Re.pv {p : Int} {n : Nat} {S : Nat → Bool} {f : Nat → Nat → Int} (r : Re p n n S f) : Pv p n (rwF n n S f) (fun i => ((List.range n).filter S).getD i 0) (fun i => f (((List.range n).filter S).getD i 0)) := by
  have hl : (rwF n n S f).length = ((List.range n).filter S).length := by rw [rwF, List.length_map]
  have mem : ∀ i, i < (rwF n n S f).length → ((List.range n).filter S).getD i 0 < n ∧ S (((List.range n).filter S).getD i 0) = true := fun i hi => by
    rw [List.getD_eq_getElem?_getD, List.getElem?_eq_getElem (by omega), Option.getD_some]
    have hm : ((List.range n).filter S)[i]'(by omega) ∈ (List.range n).filter S := List.getElem_mem _
    rwa [List.mem_filter, List.mem_range] at hm
  have asc : ∀ i k, i < k → k < (rwF n n S f).length → ((List.range n).filter S).getD i 0 < ((List.range n).filter S).getD k 0 := fun i k h1 h2 => by
    have hs : ((List.range n).filter S).Pairwise (· < ·) := List.Pairwise.filter _ List.pairwise_lt_range
    have := List.pairwise_iff_getElem.1 hs i k (by omega) (by omega) h1
    rw [List.getD_eq_getElem?_getD, List.getElem?_eq_getElem (by omega), List.getD_eq_getElem?_getD, List.getElem?_eq_getElem (by omega)]
    exact this
  refine ⟨fun i hi => (mem i hi).1, fun i hi => ?_, fun i hi => r.one _ (mem i hi).1 (mem i hi).2, fun i j hi hj => r.lead _ j (mem i hi).1 (mem i hi).2 hj, fun i k hi hk hne => r.zer _ _ (mem k hk).1 (mem i hi).1 (mem k hk).2 (mem i hi).2 ?_, fun i j hi hj => r.rng _ j (mem i hi).1 (mem i hi).2 hj, asc⟩
  · rw [rwF, List.getD_eq_getElem?_getD, List.getElem?_map, List.getElem?_eq_getElem (by omega), List.getD_eq_getElem?_getD, List.getElem?_eq_getElem (by omega)]
    rfl
  · rcases Nat.lt_or_gt_of_ne hne with h1 | h1
    · have := asc k i h1 hi; omega
    · have := asc i k h1 hk; omega
end Go.Proofs.Ytlhebmcnjgagjaa

/- Layer 5: plain laws of bases and ranks. -/
namespace Go.Proofs.Ytlhebmcnjgagjaa
open Go Go.Ay
set_option maxRecDepth 100000
theorem Re.same {p : Int} {n : Nat} {S S' : Nat → Bool} {f f' : Nat → Nat → Int} (r : Re p n n S f) (r' : Re p n n S' f') (h : ∀ c, c < n → S c = true → InS p n n (gf S' f') (f c)) (e : ∀ c, c < n → S c = S' c) : ∀ c j, c < n → S c = true → j < n → f c j = f' c j := fun c j hc hs hj => by
  obtain ⟨d, hd⟩ := h c hc hs
  have q := r'.read hd hj
  rw [sm_one (t := c) hc fun a ha hne => ?_, r.one c hc hs, Int.one_mul, gf_yes (by rw [← e c hc]; exact hs)] at q
  · have b1 := r.rng c j hc hs hj
    have b2 := r'.rng c j hc (by rw [← e c hc]; exact hs) hj
    rwa [Int.emod_eq_of_lt b1.1 b1.2, Int.emod_eq_of_lt b2.1 b2.2] at q
  cases hsa : S' a with
  | false => rw [gf_no hsa, Int.mul_zero]
  | true => rw [r.zer c a hc ha hs (by rw [e a ha]; exact hsa) hne, Int.zero_mul]
section
variable {p : Int} {n m m' k k' : Nat} {V V' : Nat → Nat → Int} {S S' : Nat → Bool} {f f' : Nat → Nat → Int}
theorem piv_at {i : Nat} (hi : i < (rwF n n S f).length) : ((List.range n).filter S).getD i 0 < n ∧ S (((List.range n).filter S).getD i 0) = true ∧ (rwF n n S f).getD i [] = mkV n (f (((List.range n).filter S).getD i 0)) := by
  have hl : (rwF n n S f).length = ((List.range n).filter S).length := by rw [rwF, List.length_map]
  have e : ((List.range n).filter S).getD i 0 = ((List.range n).filter S)[i]'(by omega) := by rw [List.getD_eq_getElem?_getD, List.getElem?_eq_getElem (by omega), Option.getD_some]
  have hm : ((List.range n).filter S)[i]'(by omega) ∈ (List.range n).filter S := List.getElem_mem _
  rw [List.mem_filter, List.mem_range, ← e] at hm
  refine ⟨hm.1, hm.2, ?_⟩
  rw [e, rwF, List.getD_eq_getElem?_getD, List.getElem?_map, List.getElem?_eq_getElem (by omega)]
  rfl
end
end Go.Proofs.Ytlhebmcnjgagjaa

/- Layer 5: Basis and Rank with the span that they found; a copy of rows. -/
namespace Go.Proofs.Ytlhebmcnjgagjaa
open Go Go.Ay
set_option maxRecDepth 100000
end Go.Proofs.Ytlhebmcnjgagjaa

/- Layer 5: the reference's residues. -/
namespace Go.Proofs.Ytlhebmcnjgagjaa
open Go Go.Ay
set_option maxRecDepth 100000
end Go.Proofs.Ytlhebmcnjgagjaa

/- Layer 5: the reference's add. -/
namespace Go.Proofs.Ytlhebmcnjgagjaa
open Go Go.Ay
set_option maxRecDepth 100000
end Go.Proofs.Ytlhebmcnjgagjaa

/- Layer 5: the reference's check. -/
namespace Go.Proofs.Ytlhebmcnjgagjaa
open Go Go.Ay
set_option maxRecDepth 100000
end Go.Proofs.Ytlhebmcnjgagjaa

/- The reference's basis, column by column: what is kept. -/
namespace Go.Ay
/-- What spans: the rows at pivots, then the other rows. -/
def gn (n : Nat) (S : Nat → Bool) (f g : Nat → Nat → Int) : Nat → Nat → Int := fun d => if d < n then gf S f d else g (d - n)
structure Cb (p : Int) (n m : Nat) (V : Nat → Nat → Int) (c : Nat) (S : Nat → Bool) (f : Nat → Nat → Int) (r : Nat) (g : Nat → Nat → Int) : Prop where
  re : Re p n n S f
  low : ∀ d, d < n → S d = true → d < c
  rg : ∀ i j, i < r → j < n → 0 ≤ g i j ∧ g i j < p
  gz : ∀ i j, i < r → j < c → g i j = 0
  fo : ∀ d, d < n → S d = true → InS p n m V (f d)
  go : ∀ i, i < r → InS p n m V (g i)
  inn : ∀ a, a < m → InS p n (n + r) (gn n S f g) (V a)
section
variable {p : Int} {n m r c : Nat} {V f g : Nat → Nat → Int} {S : Nat → Bool}
theorem Cb.start (hp : 0 < p) (n m : Nat) (V f : Nat → Nat → Int) : Cb p n m V 0 (fun _ => false) f m (fun i j => V i j % p) where
  re := ⟨fun _ _ _ h => by simp at h, fun _ _ h => by simp at h, fun _ _ _ _ h => by simp at h, fun _ _ _ h => by simp at h⟩
  low := fun _ _ h => by simp at h
  rg := fun i j _ _ => ⟨Int.emod_nonneg _ (by omega), Int.emod_lt_of_pos _ hp⟩
  gz := fun _ _ _ h => by omega
  fo := fun _ _ h => by simp at h
  go := fun i hi => (InS.row hi).congr fun j _ => mm2 _ _
  inn := fun a ha => (InS.row (V := gn n (fun _ => false) f fun i j => V i j % p) (i := n + a) (by omega)).congr fun j _ => by
    rw [gn, if_neg (by omega), Nat.add_sub_cancel_left, mm2]
theorem Cb.skip (b : Cb p n m V c S f r g) (h : ∀ i, i < r → g i c = 0) : Cb p n m V (c + 1) S f r g where
  re := b.re
  low := fun d hd hs => by have := b.low d hd hs; omega
  rg := b.rg
  gz := fun i j hi hj => by
    by_cases e : j = c
    · rw [e]; exact h i hi
    · exact b.gz i j hi (by omega)
  fo := b.fo
  go := b.go
  inn := b.inn
theorem Cb.done (b : Cb p n m V n S f r g) : ∀ a, a < m → InS p n n (gf S f) (V a) := fun a ha => by
  refine (b.inn a ha).trans fun d hd => ?_
  by_cases e : d < n
  · exact (InS.row e).congr fun j _ => by rw [gn, if_pos e]
  · exact InS.zero.congr fun j hj => by rw [gn, if_neg e, b.gz _ j (by omega) hj]
end
end Go.Ay

/- Layer 5: blocks of rows, with three lists that grow: for the reference's basis. -/
namespace Go.Proofs.Ytlhebmcnjgagjaa
open Go Go.Ay
set_option maxRecDepth 100000
abbrev wsl (ρ : Nat → Nat) (κ : Nat → Cap) (n a : Nat) : V := V.sl (ρ a) 0 n (κ a)
structure Bz (b0 h : H) (m n : Nat) (ρ : Nat → Nat) (κ : Nat → Cap) (τ : Nat → List V) (F : Nat → Nat → Int) (ur uo up : V) (ra oa : List Nat) (ps : List Int) : Prop where
  fr : Fr b0 h
  row : ∀ a, a < m → Bt h (ρ a) n (F a) (τ a)
  inj : ∀ a b, a < m → b < m → ρ a = ρ b → a = b
  lo : ∀ a, a < m → b0.next ≤ ρ a
  lt : ∀ a, a < m → ρ a < h.next
  or : Own h ur 1 (ra.map (wsl ρ κ n)) b0.next
  oo : Own h uo 1 (oa.map (wsl ρ κ n)) b0.next
  op : Own h up 1 (ints ps) b0.next
  ar : ∀ a, a < m → Apart ur (ρ a)
  ao : ∀ a, a < m → Apart uo (ρ a)
  ap : ∀ a, a < m → Apart up (ρ a)
  d1 : Dis ur uo
  d2 : Dis ur up
  d3 : Dis uo up
  mr : ∀ a ∈ ra, a < m
  mo : ∀ a ∈ oa, a < m
  kc : ∀ a, a < m → Cap1 (wsl ρ κ n a)
section
variable {b0 h h' : H} {m n : Nat} {ρ : Nat → Nat} {κ : Nat → Cap} {τ : Nat → List V} {F : Nat → Nat → Int} {ur uo up : V} {ra oa : List Nat} {ps : List Int}
theorem dis_nils {u : V} : Dis .nils u := fun _ _ _ _ e => by cases e
theorem Bz.congr {F' : Nat → Nat → Int} (b : Bz b0 h m n ρ κ τ F ur uo up ra oa ps) (e : ∀ a j, a < m → j < n → F a j = F' a j) : Bz b0 h m n ρ κ τ F' ur uo up ra oa ps :=
  { b with row := fun a ha => (b.row a ha).congr fun j hj => e a j ha hj }
theorem Bz.more (b : Bz b0 h m n ρ κ τ F ur uo up ra oa ps) (f : Fr h h') : Bz b0 h' m n ρ κ τ F ur uo up ra oa ps :=
  { b with fr := b.fr.trans f, row := fun a ha => (b.row a ha).fr f (b.lt a ha), lt := fun a ha => Nat.lt_of_lt_of_le (b.lt a ha) f.next, or := b.or.fr f, oo := b.oo.fr f, op := b.op.fr f }
theorem Bz.rowset (b : Bz b0 h m n ρ κ τ F ur uo up ra oa ps) {a : Nat} (ha : a < m) (f : Fx (ρ a) h h') {w : Nat → Int} (hw : Bt h' (ρ a) n w (τ a)) : Bz b0 h' m n ρ κ τ (fun x => if x = a then w else F x) ur uo up ra oa ps :=
  { b with
    fr := Fx.fr b.fr (b.lo a ha) f
    row := fun x hx => by
      by_cases e : x = a
      · simp only [if_pos e]; rw [e]; exact hw
      · simp only [if_neg e]; exact (b.row x hx).fx f (b.lt x hx) fun q => e (b.inj x a hx ha q)
    lt := fun x hx => Nat.lt_of_lt_of_le (b.lt x hx) f.next
    or := b.or.mono f.next fun id off k c e _ hid => f.get id hid fun q => b.ar a ha id off k c e q.symm
    oo := b.oo.mono f.next fun id off k c e _ hid => f.get id hid fun q => b.ao a ha id off k c e q.symm
    op := b.op.mono f.next fun id off k c e _ hid => f.get id hid fun q => b.ap a ha id off k c e q.symm }
theorem Bz.start (h : H) (n : Nat) (ρ : Nat → Nat) (κ : Nat → Cap) (τ : Nat → List V) (F : Nat → Nat → Int) : Bz h h 0 n ρ κ τ F .nils .nils .nils (List.range 0) [] [] where
  fr := Fr.refl _
  row := fun a ha => absurd ha (Nat.not_lt_zero a)
  inj := fun a _ ha => absurd ha (Nat.not_lt_zero a)
  lo := fun a ha => absurd ha (Nat.not_lt_zero a)
  lt := fun a ha => absurd ha (Nat.not_lt_zero a)
  or := Own.nils _ _ _
  oo := Own.nils _ _ _
  op := Own.nils _ _ _
  ar := fun _ _ => Apart.nils _
  ao := fun _ _ => Apart.nils _
  ap := fun _ _ => Apart.nils _
  d1 := dis_nils
  d2 := dis_nils
  d3 := dis_nils
  mr := fun a ha => by simp at ha
  mo := fun a ha => by simp at ha
  kc := fun a ha => absurd ha (Nat.not_lt_zero a)
end
end Go.Proofs.Ytlhebmcnjgagjaa

/- Layer 5: the reference's basis, column by column. -/
namespace Go.Proofs.Ytlhebmcnjgagjaa
open Go Go.Ay
set_option maxRecDepth 100000
/-- Rows that may be cut. -/
def SRc (h : H) (u : V) (ll : List (List Int)) (lo : Nat) : Prop := ∃ ws, SV h u 1 ws ∧ All2 (SI h) ws ll ∧ Frs u lo ∧ (∀ w ∈ ws, Frs w lo) ∧ ∀ w ∈ ws, Cap1 w
theorem SRc.srf {h : H} {u : V} {ll : List (List Int)} {lo : Nat} (s : SRc h u ll lo) : SRf h u ll lo := by
  obtain ⟨ws, a, b, c, d, _⟩ := s
  exact ⟨ws, a, b, c, d⟩
end Go.Proofs.Ytlhebmcnjgagjaa

/- Layer 5: the reference's basis, column by column: the walk. -/
namespace Go.Proofs.Ytlhebmcnjgagjaa
open Go Go.Ay
set_option maxRecDepth 100000
end Go.Proofs.Ytlhebmcnjgagjaa

/- Layer 5: two lists of rows in a row; Sum. -/
namespace Go.Proofs.Ytlhebmcnjgagjaa
open Go Go.Ay
set_option maxRecDepth 100000
end Go.Proofs.Ytlhebmcnjgagjaa

/- Layer 5: Sum. -/
namespace Go.Proofs.Ytlhebmcnjgagjaa
open Go Go.Ay
set_option maxRecDepth 100000
end Go.Proofs.Ytlhebmcnjgagjaa

/- Layer 5: the plain law of the kernel. -/
namespace Go.Proofs.Ytlhebmcnjgagjaa
open Go Go.Ay
set_option maxRecDepth 100000
theorem smod_zero {p : Int} {n : Nat} {f : Nat → Int} (h : ∀ k, k < n → f k % p = 0) : sm n f % p = 0 := by
  rw [sm_mod (g := fun _ => 0) fun k hk => by rw [h k hk, Int.zero_emod], sm_nul, Int.zero_emod]
section
variable {p : Int} {n m W k : Nat} {V : Nat → Nat → Int} {S : Nat → Bool} {f : Nat → Nat → Int}
/-- The span of rows with the identity behind them. -/
abbrev Sk (p : Int) (n m W : Nat) (V : Nat → Nat → Int) (S : Nat → Bool) (f : Nat → Nat → Int) (k : Nat) : Prop := Sp p W W (vw (mkR m W (mkE n V))) m S f k
def kS (n : Nat) (S : Nat → Bool) : Nat → Bool := fun c => S (n + c)
def kf (n : Nat) (f : Nat → Nat → Int) : Nat → Nat → Int := fun c j => f (n + c) (n + j)
theorem mk_lo (hW : n + m = W) {a j : Nat} (ha : a < m) (hj : j < n) : vw (mkR m W (mkE n V)) a j = V a j := by
  rw [vw, mkR_row _ ha, mkV_get _ (by omega), mkE, if_pos hj]
theorem mk_hi (hW : n + m = W) {a j : Nat} (ha : a < m) (hj : j < m) : vw (mkR m W (mkE n V)) a (n + j) = if j = a then 1 else 0 := by
  rw [vw, mkR_row _ ha, mkV_get _ (by omega), mkE, if_neg (by omega)]
  by_cases e : j = a
  · rw [if_pos e, if_pos (by omega)]
  · rw [if_neg e, if_neg (by omega)]
theorem krF_rwF (hW : n + m = W) : krF n m S f W = rwF m m (kS n S) (kf n f) := by
  subst hW
  simp only [krF, rwF, kS, kf]
  rw [List.range_add, List.filter_append, List.filter_eq_nil_iff.2 (fun a ha => by
    have := List.mem_range.1 ha
    simp; omega), List.nil_append, List.filter_map, List.map_map]
  congr 1
  refine List.filter_congr fun c _ => ?_
  simp [kS]
theorem Re.ker (hW : n + m = W) (r : Re p W W S f) : Re p m m (kS n S) (kf n f) :=
  ⟨fun c j hc hs hj => r.rng (n + c) (n + j) (by omega) hs (by omega), fun c hc hs => r.one (n + c) (by omega) hs, fun c d hc hd hs hd2 hne => r.zer (n + c) (n + d) (by omega) (by omega) hs hd2 (by omega), fun c j hc hs hj => r.lead (n + c) (n + j) (by omega) hs (by omega)⟩
theorem cnt_app (n m : Nat) (S : Nat → Bool) : cnt (n + m) S = cnt n S + cnt m (kS n S) := by
  induction m with
  | zero => simp [cnt]
  | succ m ih => rw [Nat.add_succ, cnt_succ, ih, cnt_succ, Nat.add_assoc]; rfl
/-- The first n columns: the span of the rows. -/
theorem Sk.left (hW : n + m = W) (s : Sk p n m W V S f k) : Sp p n n V m S f (cnt n S) := by
  have r := s.re
  refine ⟨⟨fun c j hc hs hj => r.rng c j (by omega) hs (by omega), fun c hc hs => r.one c (by omega) hs, fun c d hc hd hs hd2 hne => r.zer c d (by omega) (by omega) hs hd2 hne, fun c j hc hs hj => r.lead c j (by omega) hs hj⟩, fun c hc hs => ?_, fun a ha => ?_, rfl⟩
  · exact ((s.out c (by omega) hs).cols (by omega)).rows fun i j hi hj => by rw [mk_lo hW hi hj]
  · obtain ⟨d, hd⟩ := s.inn a ha
    refine ⟨d, fun j hj => ?_⟩
    have := hd j (by omega)
    rw [mk_lo hW ha hj] at this
    rw [this, ← hW, sm_app, sm_zeros (n := m) fun c hc => ?_, Int.add_zero]
    cases hs : S (n + c) with
    | false => rw [gf_no hs, Int.mul_zero]
    | true => rw [gf_yes hs, r.lead (n + c) j (by omega) hs (by omega), Int.mul_zero]
/-- What lies behind the pivots of the last m columns is mapped to zero. -/
theorem Sk.zero (hW : n + m = W) (s : Sk p n m W V S f k) {c : Nat} (hc : c < m) (hs : kS n S c = true) {j : Nat} (hj : j < n) : sm m (fun i => kf n f c i * V i j) % p = 0 := by
  obtain ⟨d, hd⟩ := s.out (n + c) (by omega) hs
  have e : ∀ i, i < m → kf n f c i % p = d i % p := fun i hi => by
    have q := hd (n + i) (by omega)
    rw [sm_one (t := i) hi fun a ha hne => by rw [mk_hi hW ha hi, if_neg (Ne.symm hne), Int.mul_zero], mk_hi hW hi hi, if_pos rfl, Int.mul_one] at q
    exact q
  have q := hd j (by omega)
  rw [s.re.lead (n + c) j (by omega) hs (by omega), Int.zero_emod] at q
  rw [q]
  exact sm_mod fun i hi => by rw [mk_lo hW hi hj]; exact mul_mod (e i hi) rfl
/-- What is mapped to zero is a combination of them. -/
theorem Sk.all (hW : n + m = W) (s : Sk p n m W V S f k) {κ : Nat → Int} (h : ∀ j, j < n → sm m (fun i => κ i * V i j) % p = 0) : ∀ i, i < m → κ i % p = sm m (fun c => κ c * gf (kS n S) (kf n f) c i) % p := fun i hi => by
  have hv : InS p W m (vw (mkR m W (mkE n V))) (fun j => sm m (fun i => κ i * vw (mkR m W (mkE n V)) i j)) := ⟨κ, fun j _ => rfl⟩
  obtain ⟨d, hd⟩ := s.mem.1 hv
  have q := s.re.read hd (j := n + i) (by omega)
  have hi2 : ∀ c, c < m → sm m (fun i => κ i * vw (mkR m W (mkE n V)) i (n + c)) = κ c := fun c hc => by
    rw [sm_one (t := c) hc fun a ha hne => by rw [mk_hi hW ha hc, if_neg (Ne.symm hne), Int.mul_zero], mk_hi hW hc hc, if_pos rfl, Int.mul_one]
  rw [hi2 i hi, ← hW, sm_app] at q
  rw [q, ← Int.add_emod_emod, Int.add_emod, smod_zero (n := n) fun c hc => ?_]
  · rw [Int.zero_add, Int.emod_emod_of_dvd _ (Int.dvd_refl p), Int.emod_emod_of_dvd _ (Int.dvd_refl p)]
    congr 1
    refine sm_congr fun c hc => ?_
    rw [hW, hi2 c hc]
    rfl
  · have := h c hc
    rw [Int.mul_emod, hW, sm_congr (g := fun i => κ i * V i c) fun a ha => by rw [mk_lo hW ha hc], this, Int.zero_mul, Int.zero_emod]
end
end Go.Proofs.Ytlhebmcnjgagjaa

