/- Layer 5: adding a multiple of a row, residues, the iterator over pivots. Layer 5: an echelon list of rows, the walk over its pivots. Layer 5: reduced. Layer 5: insert. Layer 5: insert, walked. Layer 5: each with insert, span, list. -/
import Derived.Test.YtlhebmcnjgagjaaL4ytoL4tb
import Derived.Test.YtlhebmcnjgagjaaL4atoL4x
/- Layer 5: adding a multiple of a row, residues, the iterator over pivots. -/
namespace Go.Proofs.Ytlhebmcnjgagjaa
open Go Go.Ay
set_option maxRecDepth 100000
/-- A block of numbers, with more behind it. -/
def Bt (h : H) (id n : Nat) (f : Nat → Int) (τ : List V) : Prop := h.get id = some (.cells false (ints (mkV n f) ++ τ))
section
variable {h h' : H} {id n : Nat} {f : Nat → Int} {τ : List V}
theorem Bt.cell (b : Bt h id n f τ) {i : Nat} (hi : i < n) : h.cell id i = some (.int .i64 (f i)) := by
  rw [H.cell_of b, List.getElem?_append_left (by rw [ints_length, mkV_len]; exact hi), ints_getD (by rw [mkV_len]; exact hi), mkV_get _ hi]
theorem Bt.put (b : Bt h id n f τ) {i : Nat} (hi : i < n) (hh : H) (x : Int) : putO (h.get id) hh id i [.int .i64 x] = some (hh.set id (some (.cells false (ints (mkV n fun j => if j = i then x else f j) ++ τ)))) := by
  rw [b, putO_one (by rw [List.length_append, ints_length, mkV_len]; omega), List.set_append_left _ _ (by rw [ints_length, mkV_len]; exact hi), ints_set, mkV_set]
theorem Bt.si (b : Bt h id n f τ) (hl : id < h.next) (cap : Cap) : SI h (.sl id 0 n cap) (mkV n f) :=
  .inr ⟨id, 0, n, cap, false, _, rfl, by rw [ints_length, mkV_len, Nat.mul_one], hl, b, by rw [List.length_append, ints_length, mkV_len]; omega, by
    rw [List.drop_zero, Nat.mul_one, List.take_append_of_le_length (by rw [ints_length, mkV_len]; omega), List.take_of_length_le (by rw [ints_length, mkV_len]; omega)]⟩
theorem Bt.set (h : H) (id n : Nat) (f : Nat → Int) (τ : List V) : Bt (h.set id (some (.cells false (ints (mkV n f) ++ τ)))) id n f τ := H.get_set_same ..
theorem Bt.ne (b : Bt h id n f τ) {x : Nat} (hx : id ≠ x) (o : Option Ob) : Bt (h.set x o) id n f τ := by
  rw [Bt, H.get_set_ne _ hx]; exact b
theorem Bt.fr (b : Bt h id n f τ) (F : Fr h h') (hl : id < h.next) : Bt h' id n f τ := (F.get id hl).trans b
theorem Bt.congr (b : Bt h id n f τ) {g : Nat → Int} (e : ∀ i, i < n → f i = g i) : Bt h id n g τ := by
  rw [Bt, ← mkV_congr e]; exact b
theorem Bt.fx (b : Bt h id n f τ) {x : Nat} (F : Fx x h h') (hl : id < h.next) (hx : id ≠ x) : Bt h' id n f τ := (F.get id hl hx).trans b
end
/-- A block of numbers. -/
def Bk (h : H) (id n : Nat) (f : Nat → Int) : Prop := h.get id = some (.cells false (ints (mkV n f)))
section
variable {h h' : H} {id n : Nat} {f : Nat → Int}
theorem Bk.bt (b : Bk h id n f) : Bt h id n f [] := by rw [Bt, List.append_nil]; exact b
theorem Bt.bk (b : Bt h id n f []) : Bk h id n f := by rw [Bt, List.append_nil] at b; exact b
theorem Bk.cell (b : Bk h id n f) {i : Nat} (hi : i < n) : h.cell id i = some (.int .i64 (f i)) := by
  rw [H.cell_of b, ints_getD (by rw [mkV_len]; exact hi), mkV_get _ hi]
theorem Bk.put (b : Bk h id n f) {i : Nat} (hi : i < n) (hh : H) (x : Int) : putO (h.get id) hh id i [.int .i64 x] = some (hh.set id (some (.cells false (ints (mkV n fun j => if j = i then x else f j))))) := by
  rw [b, putO_one (by rw [ints_length, mkV_len]; exact hi), ints_set, mkV_set]
theorem Bk.si (b : Bk h id n f) (hl : id < h.next) (cap : Cap) : SI h (.sl id 0 n cap) (mkV n f) :=
  SV.all (by rw [ints_length, mkV_len]; omega) hl b cap
theorem Bk.set (h : H) (id n : Nat) (f : Nat → Int) : Bk (h.set id (some (.cells false (ints (mkV n f))))) id n f := H.get_set_same ..
theorem Bk.ne (b : Bk h id n f) {x : Nat} (hx : id ≠ x) (o : Option Ob) : Bk (h.set x o) id n f := by
  rw [Bk, H.get_set_ne _ hx]; exact b
theorem Bk.fr (b : Bk h id n f) (F : Fr h h') (hl : id < h.next) : Bk h' id n f := (F.get id hl).trans b
theorem Bk.congr (b : Bk h id n f) {g : Nat → Int} (e : ∀ i, i < n → f i = g i) : Bk h id n g := by
  rw [Bk, ← mkV_congr e]; exact b
end
theorem mks_ints (hh : H) (c : Nat) (hc : c ≤ 1000) : mksV hh 1 8 [.int .i64 0] (.int .i64 (c : Int)) (.int .i64 (c : Int)) = some (.sl hh.next 0 c (.kn c), hh.new (.cells false (ints (mkV c fun _ => 0)))) := by
  rw [mksV_int (by omega) (Int.le_refl _) (by omega) (by omega), Int.toNat_natCast, Nat.mul_one, zeros_int, show List.replicate c (0 : Int) = mkV c (fun _ => 0) from mkV_eq (List.length_replicate ..) fun j hj => by rw [List.getD_eq_getElem?_getD, List.getElem?_replicate, if_pos hj]; rfl]
set_option maxHeartbeats 8000000 in
theorem add_ok (p x : Int) (a W L idw offw : Nat) (cap : Cap) (w : V) (f g : Nat → Int) (τ : List V) (h : H) (hv : Bt h a W f τ) (ha : a < h.next) (hw : Sl w 1 L idw offw) (hid : 0 < L → idw < h.next) (hc : ∀ i, i < L → h.cell idw (offw + i) = some (.int .i64 (g i))) (hne : idw ≠ a ∨ offw = 0) (hL : L ≤ W) (hL2 : L < 1000000)
    (hp : 0 < p ∧ p < 10000) (hx : 0 ≤ x ∧ x < 30000) (hf : ∀ i, i < L → 0 ≤ f i ∧ f i < 10000) (hg : ∀ i, i < L → 0 ≤ g i ∧ g i < 10000) :
    Ev T n_linear_field_add [.agg [.int .i64 p], .sl a 0 W cap, w, .int .i64 x] h (fun _ h' => Bt h' a W (fun i => if i < L then (f i + x * g i) % p else f i) τ ∧ Fx a h h') := by
  refine Ev_of t_linear_field_add rfl ?_
  have hbo : ∀ hh, boxV hh (.agg [.int .i64 p]) = some (.ptr hh.next 0, hh.new (.cells false [.int .i64 p])) := fun hh => by simp [boxV, V.cells, V.one]
  simp (disch := first | omega | (simp only [Qn] <;> omega)) only [go_sem, c_linear_field_add, initV_eq, hbo, hw.lens]
  have hf1 : Fr h (h.new (.cells false [.int .i64 p])) := (Fr.refl h).new _
  have hg1 : (h.new (.cells false [.int .i64 p])).get h.next = some (.cells false [.int .i64 p]) := H.get_new_same ..
  have hn1 : (h.new (.cells false [.int .i64 p])).next = h.next + 1 := H.next_new ..
  generalize h.new (.cells false [.int .i64 p]) = hx1 at *
  obtain ⟨X, hX⟩ : ∃ X, h.next = X := ⟨_, rfl⟩
  rw [hX] at hg1
  rw [hX]
  have fx1 : Fx a h hx1 := Fx.of hf1
  refine Wp_loop (fun k' vars hh => ∃ (i : Nat), (∃ j : Nat → V, vars = [j 0, .sl a 0 W cap, j 2, .int .i64 x, .ptr X 0, j 5, j 6, w, .int .i64 (L : Int), .int .i64 (i : Int), j 10]) ∧ i ≤ L ∧ Bt hh a W (fun j => if j < i then (f j + x * g j) % p else f j) τ ∧ hh.get X = some (.cells false [.int .i64 p]) ∧ Fx a h hh ∧ k' = L - i) L
    ⟨0, ex_junk rfl, Nat.zero_le _, (hv.fr hf1 ha).congr fun i _ => (if_neg (Nat.not_lt_zero i)).symm, hg1, fx1, rfl⟩ ?_
  clear hg1 fx1
  rintro k' vars hh ⟨i, ⟨jk, rfl⟩, hi, b, gX, F, rfl⟩
  simp (disch := first | omega | (simp only [Qn] <;> omega)) only [go_sem]
  by_cases hlt : (i : Int) < (L : Int)
  · rw [decide_eq_true hlt]
    have hi' : i < L := by omega
    have cw : hh.cell idw (offw + i) = some (.int .i64 (g i)) := by
      by_cases e : idw = a
      · have o0 : offw = 0 := by
          rcases hne with h1 | h1
          · exact absurd e h1
          · exact h1
        have c0 := hc i hi'
        subst e
        rw [o0, Nat.zero_add] at c0 ⊢
        rw [hv.cell (by omega)] at c0
        rw [b.cell (by omega), if_neg (Nat.lt_irrefl i)]
        exact c0
      · have := F.get idw (hid (by omega)) e
        unfold H.cell at *
        rw [this]; exact hc i hi'
    have cX : hh.cell X 0 = some (.int .i64 p) := by rw [H.cell_of gX]; rfl
    have ca := b.cell (i := i) (by omega)
    rw [if_neg (Nat.lt_irrefl i)] at ca
    have rf := hf i hi'
    have rg := hg i hi'
    have b1 := Int.mul_nonneg hx.1 rg.1
    have b2 := Int.mul_le_mul (show x ≤ 30000 by omega) (show g i ≤ 10000 by omega) rg.1 (by omega)
    have em := nonneg_tmod (a := f i + x * g i) (p := p) (by omega)
    have pt := b.put (i := i) (by omega) (H.mk hh.tr (hh.next + 15)) ((f i + x * g i) % p)
    simp (disch := first | omega | (simp only [Qn] <;> omega)) only [go_sem, hw.ixa, cw, cX, ca, em, pt]
    rw [show (i : Int) + 1 = ((i + 1 : Nat) : Int) from by omega]
    refine ⟨L - (i + 1), by omega, i + 1, ex_junk rfl, by omega, (Bt.set ..).congr fun j hj => ?_, ?_, ⟨by show h.next ≤ hh.next + 15; have := F.next; omega, fun id hid hne => by rw [H.get_set_ne _ hne]; exact F.get id hid hne⟩, rfl⟩
    · by_cases e : j = i
      · rw [if_pos e, if_pos (by omega), e]
      · rw [if_neg e]
        by_cases e2 : j < i
        · rw [if_pos e2, if_pos (by omega)]
        · rw [if_neg e2, if_neg (by omega)]
    · first | exact gX | (rw [H.get_set_ne _ (by omega)]; exact gX)
  rw [decide_eq_false hlt]
  obtain rfl : L = i := by omega
  simp (disch := first | omega | (simp only [Qn] <;> omega)) only [go_sem]
  exact ⟨b, F⟩
set_option maxHeartbeats 8000000 in
theorem residues_ok (p : Int) (v : V) (l : List Int) (h : H) (hv : SI h v l) (hl : l.length ≤ 1000) (hp : 0 < p ∧ p < 10000) :
    Ev T n_linear_field_residues [.agg [.int .i64 p], v] h (fun w h' => ∃ N, w = .sl N 0 l.length (.kn l.length) ∧ h.next ≤ N ∧ N < h'.next ∧ Bk h' N l.length (fun i => l.getD i 0 % p) ∧ Fr h h') := by
  refine Ev_of t_linear_field_residues rfl ?_
  have hbo : ∀ hh, boxV hh (.agg [.int .i64 p]) = some (.ptr hh.next 0, hh.new (.cells false [.int .i64 p])) := fun hh => by simp [boxV, V.cells, V.one]
  have emk := fun hh => mks_ints hh l.length hl
  obtain ⟨id, off, sh, hid, hc⟩ := hv.open
  simp (disch := first | omega | (simp only [Qn] <;> omega)) only [go_sem, c_linear_field_residues, initV_eq, hbo, hv.lens, emk]
  have hf1 : Fr h (h.new (.cells false [.int .i64 p])) := (Fr.refl h).new _
  have hg1 : (h.new (.cells false [.int .i64 p])).get h.next = some (.cells false [.int .i64 p]) := H.get_new_same ..
  have hn1 : (h.new (.cells false [.int .i64 p])).next = h.next + 1 := H.next_new ..
  generalize h.new (.cells false [.int .i64 p]) = h1 at *
  rw [← hn1]
  have hf2 : Fr h1 (h1.new (.cells false (ints (mkV l.length fun _ => 0)))) := (Fr.refl h1).new _
  have hg2 : (h1.new (.cells false (ints (mkV l.length fun _ => 0)))).get h1.next = some (.cells false (ints (mkV l.length fun _ => 0))) := H.get_new_same ..
  have hn2 : (h1.new (.cells false (ints (mkV l.length fun _ => 0)))).next = h1.next + 1 := H.next_new ..
  generalize h1.new (.cells false (ints (mkV l.length fun _ => 0))) = h2 at *
  obtain ⟨X, hX⟩ : ∃ X, h.next = X := ⟨_, rfl⟩
  obtain ⟨N, hN⟩ : ∃ N, h1.next = N := ⟨_, rfl⟩
  have gX : h2.get X = some (.cells false [.int .i64 p]) := by rw [← hX]; exact (hf2.get _ (by omega)).trans hg1
  rw [hN] at hg2
  rw [hX, hN]
  have F2 := hf1.trans hf2
  refine Wp_loop (fun k' vars hh => ∃ (i : Nat), (∃ j : Nat → V, vars = [j 0, j 1, .ptr X 0, j 3, .sl N 0 l.length (.kn l.length), j 5, j 6, v, .int .i64 (l.length : Int), .int .i64 (i : Int), j 10]) ∧ i ≤ l.length ∧ Bk hh N l.length (fun j => if j < i then l.getD j 0 % p else 0) ∧ hh.get X = some (.cells false [.int .i64 p]) ∧ N < hh.next ∧ Fr h hh ∧ k' = l.length - i) l.length
    ⟨0, ex_junk rfl, Nat.zero_le _, Bk.congr hg2 fun i _ => (if_neg (Nat.not_lt_zero i)).symm, gX, by omega, F2, rfl⟩ ?_
  clear gX hg2 F2
  rintro k' vars hh ⟨i, ⟨jk, rfl⟩, hi, b, gX, lN, F, rfl⟩
  simp (disch := first | omega | (simp only [Qn] <;> omega)) only [go_sem]
  by_cases hlt : (i : Int) < (l.length : Int)
  · rw [decide_eq_true hlt]
    have hi' : i < l.length := by omega
    have cv : hh.cell id (off + i) = some (.int .i64 (l.getD i 0)) := by rw [F.cell (hid (by omega))]; exact hc i hi'
    have cX : hh.cell X 0 = some (.int .i64 p) := by rw [H.cell_of gX]; rfl
    have t1 := tmod_bd (l.getD i 0) hp.1
    have em := tmod_twice (l.getD i 0) hp.1
    have pt := b.put (i := i) hi' (H.mk hh.tr (hh.next + 14)) (l.getD i 0 % p)
    simp (disch := first | omega | (simp only [Qn] <;> omega)) only [go_sem, sh.ixa, cv, cX, em, pt]
    rw [show (i : Int) + 1 = ((i + 1 : Nat) : Int) from by omega]
    refine ⟨l.length - (i + 1), by omega, i + 1, ex_junk rfl, by omega, (Bk.set ..).congr fun j hj => ?_, ?_, by show N < hh.next + 14; omega, (F.bump (by omega)).set (by omega) _, rfl⟩
    · by_cases e : j = i
      · rw [if_pos e, if_pos (by omega), e]
      · rw [if_neg e]
        by_cases e2 : j < i
        · rw [if_pos e2, if_pos (by omega)]
        · rw [if_neg e2, if_neg (by omega)]
    · first | exact gX | (rw [H.get_set_ne _ (by omega)]; exact gX)
  rw [decide_eq_false hlt]
  obtain ⟨rfl⟩ : i = l.length := by omega
  simp (disch := first | omega | (simp only [Qn] <;> omega)) only [go_sem]
  exact ⟨N, rfl, by omega, lN, b.congr fun j hj => if_pos hj, F⟩
end Go.Proofs.Ytlhebmcnjgagjaa

/- Layer 5: an echelon list of rows, the walk over its pivots. -/
namespace Go.Proofs.Ytlhebmcnjgagjaa
open Go Go.Ay
set_option maxRecDepth 100000
/-- What the map holds. -/
def Mp (h : H) (M n W : Nat) (S : Nat → Bool) (ρ : Nat → Nat) : Prop :=
  ∃ es, h.get M = some (.map es) ∧ keysV .i64 es = true ∧ ∀ c, c < n → findV .i64 (c : Int) es = if S c then some (.sl (ρ c) 0 W (.kn W)) else none
theorem Mp.fr {h h' : H} {M n W : Nat} {S : Nat → Bool} {ρ : Nat → Nat} (m : Mp h M n W S ρ) (e : h'.get M = h.get M) : Mp h' M n W S ρ := by
  obtain ⟨es, h1, h2, h3⟩ := m
  exact ⟨es, by rw [e]; exact h1, h2, h3⟩
theorem Mp.set {h : H} {M n W : Nat} {S : Nat → Bool} {ρ : Nat → Nat} (m : Mp h M n W S ρ) {at_ N : Nat} :
    ∃ es, h.get M = some (.map es) ∧ keysV .i64 es = true ∧ ∀ hh : H, Mp (hh.set M (some (.map (setV .i64 (at_ : Int) (.sl N 0 W (.kn W)) es)))) M n W (fun c => if c = at_ then true else S c) (upN ρ at_ N) := by
  obtain ⟨es, h1, h2, h3⟩ := m
  refine ⟨es, h1, h2, fun hh => ⟨_, H.get_set_same .., keysV_set h2, fun c hc => ?_⟩⟩
  rw [findV_set h2]
  simp only [upN]
  by_cases e : c = at_
  · subst e
    simp
  · rw [if_neg (by omega), h3 c hc]
    simp only [if_neg e]
/-- An echelon list: the record, the map, the rows. -/
structure Ec (h : H) (E M n W : Nat) (p : Int) (S : Nat → Bool) (ρ : Nat → Nat) (f : Nat → Nat → Int) (lo : Nat) : Prop where
  gE : h.get E = some (.cells false [.int .i64 p, .int .i64 (n : Int), .mp M])
  gM : Mp h M n W S ρ
  row : ∀ c, c < n → S c = true → Bk h (ρ c) W (f c)
  inj : ∀ a b, a < n → b < n → S a = true → S b = true → ρ a = ρ b → a = b
  neE : ∀ c, c < n → S c = true → ρ c ≠ E
  neM : ∀ c, c < n → S c = true → ρ c ≠ M
  EM : E ≠ M
  loE : lo ≤ E
  loM : lo ≤ M
  loR : ∀ c, c < n → S c = true → lo ≤ ρ c
  ltE : E < h.next
  ltM : M < h.next
  ltR : ∀ c, c < n → S c = true → ρ c < h.next
section
variable {h h' : H} {E M n W : Nat} {p : Int} {S : Nat → Bool} {ρ : Nat → Nat} {f : Nat → Nat → Int} {lo : Nat}
theorem Ec.fr (k : Ec h E M n W p S ρ f lo) (F : Fr h h') : Ec h' E M n W p S ρ f lo :=
  ⟨(F.get E k.ltE).trans k.gE, k.gM.fr (F.get M k.ltM), fun c hc hs => (k.row c hc hs).fr F (k.ltR c hc hs), k.inj, k.neE, k.neM, k.EM, k.loE, k.loM, k.loR, Nat.lt_of_lt_of_le k.ltE F.next, Nat.lt_of_lt_of_le k.ltM F.next, fun c hc hs => Nat.lt_of_lt_of_le (k.ltR c hc hs) F.next⟩
/-- Another object is changed. -/
theorem Ec.fx (k : Ec h E M n W p S ρ f lo) {x : Nat} (F : Fx x h h') (h1 : x ≠ E) (h2 : x ≠ M) (h3 : ∀ c, c < n → S c = true → x ≠ ρ c) : Ec h' E M n W p S ρ f lo :=
  ⟨(F.get E k.ltE h1.symm).trans k.gE, k.gM.fr (F.get M k.ltM h2.symm), fun c hc hs => (F.get _ (k.ltR c hc hs) (h3 c hc hs).symm).trans (k.row c hc hs), k.inj, k.neE, k.neM, k.EM, k.loE, k.loM, k.loR, Nat.lt_of_lt_of_le k.ltE F.next, Nat.lt_of_lt_of_le k.ltM F.next, fun c hc hs => Nat.lt_of_lt_of_le (k.ltR c hc hs) F.next⟩
/-- A row is changed. -/
theorem Ec.rowfx (k : Ec h E M n W p S ρ f lo) {c : Nat} (hc : c < n) (hs : S c = true) (F : Fx (ρ c) h h') {u : Nat → Int} (b : Bk h' (ρ c) W u) : Ec h' E M n W p S ρ (fun a => if a = c then u else f a) lo :=
  ⟨(F.get E k.ltE (k.neE c hc hs).symm).trans k.gE, k.gM.fr (F.get M k.ltM (k.neM c hc hs).symm), fun a ha hs2 => by
    by_cases e : a = c
    · subst e; simp only [if_true]; exact b
    · simp only [if_neg e]
      exact (F.get _ (k.ltR a ha hs2) fun e2 => e (k.inj a c ha hc hs2 hs e2)).trans (k.row a ha hs2), k.inj, k.neE, k.neM, k.EM, k.loE, k.loM, k.loR, Nat.lt_of_lt_of_le k.ltE F.next, Nat.lt_of_lt_of_le k.ltM F.next, fun a ha hs2 => Nat.lt_of_lt_of_le (k.ltR a ha hs2) F.next⟩
theorem Ec.congr (k : Ec h E M n W p S ρ f lo) {g : Nat → Nat → Int} (e : ∀ c j, c < n → S c = true → j < W → f c j = g c j) : Ec h E M n W p S ρ g lo :=
  ⟨k.gE, k.gM, fun c hc hs => (k.row c hc hs).congr fun j hj => e c j hc hs hj, k.inj, k.neE, k.neM, k.EM, k.loE, k.loM, k.loR, k.ltE, k.ltM, k.ltR⟩
theorem Ec.e0 (k : Ec h E M n W p S ρ f lo) : h.cell E 0 = some (.int .i64 p) := by rw [H.cell_of k.gE]; rfl
theorem Ec.e1 (k : Ec h E M n W p S ρ f lo) : h.cell E 1 = some (.int .i64 (n : Int)) := by rw [H.cell_of k.gE]; rfl
theorem Ec.e2 (k : Ec h E M n W p S ρ f lo) : h.cell E 2 = some (.mp M) := by rw [H.cell_of k.gE]; rfl
end
/-- The iterator over the pivots calls the loop's body for each one, ascending. -/
theorem pivots_loop (LID X E M n W : Nat) (p : Int) (S : Nat → Bool) (ρ : Nat → Nat) (J : Nat → H → Prop)
    (hP : ∀ c hh, J c hh → hh.get X = some (.cells false [.ptr E 0]) ∧ hh.get E = some (.cells false [.int .i64 p, .int .i64 (n : Int), .mp M]) ∧ Mp hh M n W S ρ)
    (hY : ∀ c hh, c < n → S c = true → J c hh → Ey T LID [.int .i64 (c : Int), .sl (ρ c) 0 W (.kn W)] hh (fun v hh' => v = .bool true ∧ J (c + 1) hh'))
    (hN : ∀ c hh, c < n → S c = false → J c hh → J (c + 1) hh) (hh : H) (h0 : J 0 hh) (hn : n < 1000000) :
    Ev T n_linear_echelon_pivots_1 [.yl LID, .ptr X 0] hh (fun _ hh' => J n hh') := by
  refine Ev_of t_linear_echelon_pivots_1 rfl ?_
  obtain ⟨gX, gE, gM⟩ := hP 0 hh h0
  have x0 : hh.cell X 0 = some (.ptr E 0) := by rw [H.cell_of gX]; rfl
  have e1 : hh.cell E 1 = some (.int .i64 (n : Int)) := by rw [H.cell_of gE]; rfl
  simp (disch := first | omega | (simp only [Qn] <;> omega)) only [go_sem, c_linear_echelon_pivots_1, initV_eq, x0, e1]
  refine Wp_loop (fun k' vars h1 => ∃ c : Nat, (∃ j : Nat → V, vars = [.yl LID, .ptr X 0, j 2, j 3, j 4, .int .i64 (n : Int), .int .i64 (c : Int), j 7, j 8]) ∧ c ≤ n ∧ J c h1 ∧ k' = n - c) n
    ⟨0, ex_junk rfl, Nat.zero_le _, h0, rfl⟩ ?_
  clear h0 gX gE gM x0 e1
  rintro k' vars h1 ⟨c, ⟨jk, rfl⟩, hc, hJ, rfl⟩
  obtain ⟨gX, gE, gM⟩ := hP c h1 hJ
  have x0 : h1.cell X 0 = some (.ptr E 0) := by rw [H.cell_of gX]; rfl
  have e2 : h1.cell E 2 = some (.mp M) := by rw [H.cell_of gE]; rfl
  simp (disch := first | omega | (simp only [Qn] <;> omega)) only [go_sem]
  by_cases hlt : (c : Int) < (n : Int)
  · rw [decide_eq_true hlt]
    have hc' : c < n := by omega
    obtain ⟨es, m1, m2, m3⟩ := gM
    have m4 := m3 c hc'
    cases hs : S c with
    | true =>
      rw [hs, if_pos rfl] at m4
      simp (disch := first | omega | (simp only [Qn] <;> omega)) only [go_sem, x0, e2, lkpP_mp, m1, lkpO_yes m2 m4, List.getElem?_cons_zero, List.getElem?_cons_succ]
      refine (hY c h1 hc' hs hJ).mono ?_
      rintro v h2 ⟨rfl, hJ2⟩
      simp (disch := first | omega | (simp only [Qn] <;> omega)) only [go_sem]
      rw [show (c : Int) + 1 = ((c + 1 : Nat) : Int) from by omega]
      exact ⟨n - (c + 1), by omega, c + 1, ex_junk rfl, by omega, hJ2, rfl⟩
    | false =>
      rw [hs, if_neg (by simp)] at m4
      simp (disch := first | omega | (simp only [Qn] <;> omega)) only [go_sem, x0, e2, lkpP_mp, m1, lkpO_no m2 m4, List.getElem?_cons_zero, List.getElem?_cons_succ]
      rw [show (c : Int) + 1 = ((c + 1 : Nat) : Int) from by omega]
      exact ⟨n - (c + 1), by omega, c + 1, ex_junk rfl, by omega, hN c h1 hc' hs hJ, rfl⟩
  rw [decide_eq_false hlt]
  obtain rfl : n = c := by omega
  simp (disch := first | omega | (simp only [Qn] <;> omega)) only [go_sem]
  exact hJ
theorem pivots_ok (E : Nat) (h : H) : Ev T n_linear_echelon_pivots [.ptr E 0] h (fun v h' => v = .fn 94 [] [.ptr h.next 0] ∧ h' = h.new (.cells false [.ptr E 0])) := by
  refine Ev_of t_linear_echelon_pivots rfl ?_
  have hbo : ∀ hh, boxV hh (.ptr E 0) = some (.ptr hh.next 0, hh.new (.cells false [.ptr E 0])) := fun hh => by simp [boxV, V.cells, V.one]
  simp (disch := first | omega | (simp only [Qn] <;> omega)) only [go_sem, c_linear_echelon_pivots, initV_eq, hbo]
theorem begin_ok (p : Int) (n W : Nat) (f : Nat → Nat → Int) (h : H) : Ev T n_linear_begin [.int .i64 p, .int .i64 (n : Int)] h (fun v h' => ∃ E M ρ, v = .ptr E 0 ∧ Ec h' E M n W p (fun _ => false) ρ f h.next ∧ Fr h h') := by
  refine Ev_of t_linear_begin rfl ?_
  have hb1 : bldV [.int .i64 0] [(0, 1, .int .i64 p)] = some (.agg [.int .i64 p]) := by simp [bldV, fillV, V.cells, V.one, putAt]
  have hb2 : ∀ M, bldV [.int .i64 0, .int .i64 0, .nilm] [(0, 1, .agg [.int .i64 p]), (1, 1, .int .i64 (n : Int)), (2, 1, .mp M)] = some (.agg [.int .i64 p, .int .i64 (n : Int), .mp M]) := fun M => by simp [bldV, fillV, V.cells, V.one, putAt]
  have hbo : ∀ hh M, boxV hh (.agg [.int .i64 p, .int .i64 (n : Int), .mp M]) = some (.ptr hh.next 0, hh.new (.cells false [.int .i64 p, .int .i64 (n : Int), .mp M])) := fun hh M => by simp [boxV, V.cells, V.one]
  simp (disch := first | omega | (simp only [Qn] <;> omega)) only [go_sem, c_linear_begin, initV_eq, hb1, hb2, hbo]
  refine ⟨h.next + 1, h.next, fun _ => 0, rfl, ⟨H.get_new_same (h.new _) _, ⟨[], ?_, rfl, fun c _ => rfl⟩, fun c _ (q : false = true) => Bool.noConfusion q, fun a b _ _ (q : false = true) => Bool.noConfusion q, fun c _ (q : false = true) => Bool.noConfusion q, fun c _ (q : false = true) => Bool.noConfusion q, by omega, by omega, Nat.le_refl _, fun c _ (q : false = true) => Bool.noConfusion q, by simp only [H.next_new]; omega, by simp only [H.next_new]; omega, fun c _ (q : false = true) => Bool.noConfusion q⟩, ((Fr.refl h).new _).new _⟩
  rw [H.get_new_ne _ (by simp only [H.next_new]; omega)]
  exact H.get_new_same ..
end Go.Proofs.Ytlhebmcnjgagjaa

/- Layer 5: reduced. -/
namespace Go.Proofs.Ytlhebmcnjgagjaa
open Go Go.Ay
set_option maxRecDepth 100000
/-- A row less multiples of the rows, pivot by pivot. -/
def rdF (p : Int) (S : Nat → Bool) (f : Nat → Nat → Int) (v : Nat → Int) : Nat → Nat → Int
  | 0 => v
  | c + 1 => if S c then fun j => (rdF p S f v c j + (p - rdF p S f v c c) * f c j) % p else rdF p S f v c
theorem rdF_range {p : Int} (hp : 0 < p) {S : Nat → Bool} {f : Nat → Nat → Int} {v : Nat → Int} {j : Nat} (h : 0 ≤ v j ∧ v j < p) : ∀ c, 0 ≤ rdF p S f v c j ∧ rdF p S f v c j < p
  | 0 => h
  | c + 1 => by
    rw [rdF]
    split
    · exact tmod_range _ hp
    · exact rdF_range hp h c
theorem box_ptr (hh : H) (E : Nat) : boxV hh (.ptr E 0) = some (.ptr hh.next 0, hh.new (.cells false [.ptr E 0])) := by simp [boxV, V.cells, V.one]
theorem box_one (hh : H) {v : V} (h1 : v.cells = [v]) (h2 : v.one = true) : boxV hh v = some (.ptr hh.next 0, hh.new (.cells false [v])) := by simp [boxV, h1, h2]
structure RJ (p : Int) (E M n W N X2 X3 X4 LID : Nat) (S : Nat → Bool) (ρ : Nat → Nat) (f : Nat → Nat → Int) (lo : Nat) (u : Nat → Int) (h : H) (rc : LRec) (hh : H) : Prop where
  g2 : hh.get X2 = some (.cells false [.ptr E 0])
  g3 : hh.get X3 = some (.cells false [.sl N 0 W (.kn W)])
  g4 : hh.get X4 = some (.cells false [.ptr E 0])
  gL : hh.get LID = some (.loop rc)
  b : Bk hh N W u
  k : Ec hh E M n W p S ρ f lo
  fr : Fr h hh
  lt : LID < hh.next
theorem RJ.fx {p : Int} {E M n W N X2 X3 X4 LID : Nat} {S : Nat → Bool} {ρ : Nat → Nat} {f : Nat → Nat → Int} {lo : Nat} {u : Nat → Int} {h : H} {rc : LRec} {hh : H} (j : RJ p E M n W N X2 X3 X4 LID S ρ f lo u h rc hh) (kh : Ec h E M n W p S ρ f lo)
    (hs : h.next ≤ X2 ∧ X2 < X3 ∧ X3 < N ∧ N < X4 ∧ X4 < LID) {h' : H} {rc' : LRec} {u' : Nat → Int} {x : Nat} (F : Fx x hh h') (hx : x = LID ∨ x = N) (gL : h'.get LID = some (.loop rc')) (b : Bk h' N W u') : RJ p E M n W N X2 X3 X4 LID S ρ f lo u' h rc' h' := by
  have l1 := kh.ltE
  have l2 := kh.ltM
  have l3 := kh.ltR
  have lt := j.lt
  have hN : h.next ≤ hh.next := j.fr.next
  exact ⟨(F.get X2 (by omega) (by omega)).trans j.g2, (F.get X3 (by omega) (by omega)).trans j.g3, (F.get X4 (by omega) (by omega)).trans j.g4, gL, b, j.k.fx F (by omega) (by omega) fun c hc hs2 => by have := l3 c hc hs2; omega, Fx.fr j.fr (by omega) F, Nat.lt_of_lt_of_le j.lt F.next⟩
set_option maxHeartbeats 16000000 in
theorem reduced_ok (p : Int) (E M n W : Nat) (S : Nat → Bool) (ρ : Nat → Nat) (f : Nat → Nat → Int) (lo : Nat) (v : V) (l : List Int) (h : H) (k : Ec h E M n W p S ρ f lo) (hv : SI h v l) (hl : l.length = W) (hW : W ≤ 1000) (hnW : n ≤ W) (hp : 0 < p ∧ p < 10000)
    (hf : ∀ c j, c < n → S c = true → j < W → 0 ≤ f c j ∧ f c j < p) :
    Ev T n_linear_echelon_reduced [.ptr E 0, v] h (fun w h' => ∃ N, w = .sl N 0 W (.kn W) ∧ h.next ≤ N ∧ N < h'.next ∧ Bk h' N W (rdF p S f (fun i => l.getD i 0 % p) n) ∧ Fr h h') := by
  subst hl
  refine Ev_of t_linear_echelon_reduced rfl ?_
  have wv := SV.what hv
  have k1 := k.ltE
  have k2 := k.ltM
  have k3 := k.ltR
  have hst1 := fun hh (id x : Nat) => stV_one (y := V.sl x 0 l.length (.kn l.length)) rfl rfl hh id 0
  have r0 : h.row E 0 1 = some [.int .i64 p] := by
    unfold H.row; rw [k.gE]; rfl
  simp (disch := first | omega | (simp only [Qn] <;> omega)) only [go_sem, c_linear_echelon_reduced, initV_eq, box_ptr, fun hh => box_one hh wv.1 wv.2.1]
  have hf1 : Fr h (h.new (.cells false [.ptr E 0])) := (Fr.refl h).new _
  have hg1 : (h.new (.cells false [.ptr E 0])).get h.next = some (.cells false [.ptr E 0]) := H.get_new_same ..
  have hn1 : (h.new (.cells false [.ptr E 0])).next = h.next + 1 := H.next_new ..
  generalize h.new (.cells false [.ptr E 0]) = h1 at *
  rw [← hn1]
  have hf2 : Fr h1 (h1.new (.cells false [v])) := (Fr.refl h1).new _
  have hg2 : (h1.new (.cells false [v])).get h1.next = some (.cells false [v]) := H.get_new_same ..
  have hn2 : (h1.new (.cells false [v])).next = h1.next + 1 := H.next_new ..
  generalize h1.new (.cells false [v]) = h2 at *
  obtain ⟨X2, hX2⟩ : ∃ X, h.next = X := ⟨_, rfl⟩
  obtain ⟨X3, hX3⟩ : ∃ X, h1.next = X := ⟨_, rfl⟩
  have F2 := hf1.trans hf2
  have q2 : h2.get X2 = some (.cells false [.ptr E 0]) := by rw [← hX2]; exact (hf2.get _ (by omega)).trans hg1
  have q3 : h2.get X3 = some (.cells false [v]) := by rw [← hX3]; exact hg2
  have r2 : h2.row E 0 1 = some [.int .i64 p] := by
    unfold H.row; rw [F2.get E k1]; unfold H.row at r0; exact r0
  have r2b : (H.mk h2.tr (h2.next + 7)).row E 0 1 = some [.int .i64 p] := r2
  rw [hX2, hX3]
  have n2 : h2.next = X3 + 1 := by omega
  have c2 : h2.cell X2 0 = some (.ptr E 0) := by rw [H.cell_of q2]; rfl
  have c3 : h2.cell X3 0 = some v := by rw [H.cell_of q3]; rfl
  have r2c : (H.mk h2.tr (X3 + 1 + 7)).row E 0 1 = some [.int .i64 p] := r2
  have fb : Fr h2 (H.mk h2.tr (X3 + 1 + 7)) := (Fr.refl h2).bump (by omega)
  have nb : (H.mk h2.tr (X3 + 1 + 7)).next = X3 + 1 + 7 := rfl
  simp (disch := first | omega | (simp only [Qn] <;> omega)) only [go_sem, c2, c3, r2, r2c]
  generalize H.mk h2.tr (X3 + 1 + 7) = h3 at *
  refine (residues_ok p v l h3 (hv.mono (F2.trans fb)) hW hp).mono ?_
  rintro w h4 ⟨N, rfl, N1, N2, bN, f4⟩
  have q34 := (fb.trans f4).get X3 (by omega)
  rw [q3] at q34
  have pt := fun hh : H => putO_one (vs := [v]) (off := 0) (by simp) hh X3 (.sl N 0 l.length (.kn l.length))
  have q24 := (fb.trans f4).get X2 (by omega)
  rw [q2] at q24
  have c24 : h4.cell X2 0 = some (.ptr E 0) := by rw [H.cell_of q24]; rfl
  simp (disch := first | omega | (simp only [Qn] <;> omega)) only [go_sem, hst1, q34, pt, c24]
  have F4 := F2.trans (fb.trans f4)
  have F5 : Fr h (h4.set X3 (some (.cells false [.sl N 0 l.length (.kn l.length)]))) := F4.set (by omega) _
  have b5 : Bk (h4.set X3 (some (.cells false [.sl N 0 l.length (.kn l.length)]))) N l.length (fun i => l.getD i 0 % p) := bN.ne (by omega) _
  have g35 : (h4.set X3 (some (.cells false [.sl N 0 l.length (.kn l.length)]))).get X3 = some (.cells false [.sl N 0 l.length (.kn l.length)]) := H.get_set_same ..
  have g25 : (h4.set X3 (some (.cells false [.sl N 0 l.length (.kn l.length)]))).get X2 = some (.cells false [.ptr E 0]) := by rw [H.get_set_ne _ (by omega)]; exact q24
  have n5 : (h4.set X3 (some (.cells false [.sl N 0 l.length (.kn l.length)]))).next = h4.next := rfl
  have c25 : (h4.set X3 (some (.cells false [.sl N 0 l.length (.kn l.length)]))).cell X2 0 = some (.ptr E 0) := by rw [H.cell_of g25]; rfl
  generalize h4.set X3 (some (.cells false [.sl N 0 l.length (.kn l.length)])) = h5 at *
  refine (pivots_ok E h5).mono ?_
  rintro w h6 ⟨rfl, rfl⟩
  have hf7 : Fr h5 (h5.new (.cells false [.ptr E 0])) := (Fr.refl h5).new _
  have hg7 : (h5.new (.cells false [.ptr E 0])).get h5.next = some (.cells false [.ptr E 0]) := H.get_new_same ..
  have hn7 : (h5.new (.cells false [.ptr E 0])).next = h5.next + 1 := H.next_new ..
  generalize h5.new (.cells false [.ptr E 0]) = h7 at *
  obtain ⟨X4, hX4⟩ : ∃ X, h5.next = X := ⟨_, rfl⟩
  rw [hX4] at hg7
  rw [hX4]
  obtain ⟨LID, hLID⟩ : ∃ X, h7.next = X := ⟨_, rfl⟩
  have k7 := k.fr (F5.trans hf7)
  simp (disch := first | omega | (simp only [Qn] <;> omega)) only [go_sem]
  rw [hLID]
  generalize hrc : LRec.mk _ _ _ _ _ _ = rc
  refine ⟨rfl, ?_⟩
  have hs : h.next ≤ X2 ∧ X2 < X3 ∧ X3 < N ∧ N < X4 ∧ X4 < LID := ⟨by omega, by omega, by omega, by omega, by omega⟩
  have f8 : Fr h7 (h7.new (.loop rc)) := (Fr.refl h7).new _
  have J0 : RJ p E M n l.length N X2 X3 X4 LID S ρ f lo (fun i => l.getD i 0 % p) h rc (h7.new (.loop rc)) :=
    ⟨((hf7.trans f8).get _ (by omega)).trans g25, ((hf7.trans f8).get _ (by omega)).trans g35, (f8.get _ (by omega)).trans hg7, by rw [← hLID]; exact H.get_new_same .., b5.fr (hf7.trans f8) (by omega), k7.fr f8, (F5.trans hf7).trans f8, by rw [H.next_new]; omega⟩
  have hu := fun c => fun j (hj : j < l.length) => rdF_range (S := S) (f := f) (v := fun i => l.getD i 0 % p) (j := j) hp.1 (tmod_range _ hp.1) c
  have loop : Ev T 94 [.yl LID, .ptr X4 0] (h7.new (.loop rc)) (fun _ hh => RJ p E M n l.length N X2 X3 X4 LID S ρ f lo (rdF p S f (fun i => l.getD i 0 % p) n) h rc hh) := by
    refine pivots_loop LID X4 E M n l.length p S ρ (fun c hh => RJ p E M n l.length N X2 X3 X4 LID S ρ f lo (rdF p S f (fun i => l.getD i 0 % p) c) h rc hh)
      (fun c hh J => ⟨J.g4, J.k.gE, J.k.gM⟩) (fun c hh hc hs2 J => ?_) (fun c hh hc hs2 J => by rw [rdF, if_neg (by simp [hs2])]; exact J) _ J0 (by omega)
    refine Ey_of J.gL (by rw [← hrc]; rfl) ?_
    have lt := J.lt
    have Jb := fun rc' => J.fx k hs (h' := hh.set LID (some (.loop rc'))) (rc' := rc') ((Fx.refl LID hh).set _) (.inl rfl) (H.get_set_same ..) (J.b.ne (by omega) _)
    subst hrc
    simp (disch := first | omega | (simp only [Qn] <;> omega)) only [go_sem, List.zip_cons_cons, List.zip_nil_left]
    refine ⟨_, J.gL, rfl, ?_⟩
    generalize hrb : LRec.mk _ _ _ _ LSt.busy _ = rb
    have J2 := Jb rb
    clear Jb
    obtain ⟨h10, h10e⟩ : ∃ q, hh.set LID (some (.loop rb)) = q := ⟨_, rfl⟩
    rw [h10e] at J2
    rw [h10e]
    have c2 : hh.cell X2 0 = some (.ptr E 0) := by rw [H.cell_of J.g2]; rfl
    have c3 : hh.cell X3 0 = some (.sl N 0 l.length (.kn l.length)) := by rw [H.cell_of J.g3]; rfl
    have e0 := J.k.e0
    have rE0 : hh.row E 0 1 = some [.int .i64 p] := by unfold H.row; rw [J.k.gE]; rfl
    have rE : h10.row E 0 1 = some [.int .i64 p] := by unfold H.row; rw [J2.k.gE]; rfl
    have cN := J.b.cell (i := c) (by omega)
    have c2' : h10.cell X2 0 = some (.ptr E 0) := by rw [H.cell_of J2.g2]; rfl
    have c3' : h10.cell X3 0 = some (.sl N 0 l.length (.kn l.length)) := by rw [H.cell_of J2.g3]; rfl
    have e0' := J2.k.e0
    have cN' := J2.b.cell (i := c) (by omega)
    have nh : h10.next = hh.next := by rw [← h10e]; rfl
    have fb : Fr h10 (H.mk h10.tr (hh.next + 17)) := (Fr.refl h10).bump (by omega)
    have rEb : (H.mk h10.tr (hh.next + 17)).row E 0 1 = some [.int .i64 p] := rE
    have lt2 := J2.lt
    have J3 := J2.fx k hs (Fx.of (x := LID) fb) (.inl rfl) ((fb.get LID lt2).trans J2.gL) (J2.b.fr fb (by omega))
    have u1 := hu c c (by omega)
    have rc3 := J3.k.row c hc hs2
    have lr3 := J3.k.ltR c hc hs2
    have kr := k3 c hc hs2
    simp (disch := first | omega | (simp only [Qn] <;> omega)) only [go_sem, c2, c3, e0, rE0, rE, rEb, cN, c2', c3', e0', cN']
    generalize H.mk h10.tr (hh.next + 17) = h11 at *
    refine (add_ok p (p - rdF p S f (fun i => l.getD i 0 % p) c c) N l.length l.length (ρ c) 0 (.kn l.length) (.sl (ρ c) 0 l.length (.kn l.length)) _ (f c) [] h11 J3.b.bt (by have := fb.next; omega) ⟨rfl, fun k i h1 h2 => ixaV_sl h1 h2, rfl, rfl⟩ (fun _ => lr3) (fun j hj => by rw [Nat.zero_add]; exact rc3.cell hj) (.inr rfl) (Nat.le_refl _) (by omega) hp (by omega) (fun j hj => by have := hu c j hj; omega) (fun j hj => by have := hf c j hc hs2 hj; omega)).mono ?_
    rintro w h12 ⟨b12, F12⟩
    have b13 : Bk h12 N l.length (rdF p S f (fun i => l.getD i 0 % p) (c + 1)) := b12.bk.congr fun j hj => by rw [if_pos hj, rdF, if_pos hs2]
    have J4 := J3.fx k hs F12 (.inr rfl) ((F12.get LID J3.lt (by omega)).trans J3.gL) b13
    have lt4 := J4.lt
    try simp (disch := first | omega | (simp only [Qn] <;> omega)) only [go_sem]
    refine ⟨rb, J4.gL, rfl, ?_⟩
    subst hrb
    exact J4.fx k hs ((Fx.refl LID h12).set _) (.inl rfl) (H.get_set_same ..) (J4.b.ne (by omega) _)
  refine loop.mono ?_
  rintro _ h20 J
  refine ⟨_, J.gL, by rw [← hrc]; simp, ?_⟩
  have hpe : rc.pend = none := by rw [← hrc]
  simp only [hpe, Option.getD_none]
  have lt := J.lt
  have q3 : ∀ o, (h20.set LID o).cell X3 0 = some (.sl N 0 l.length (.kn l.length)) := fun o => by
    rw [H.cell_set_ne _ (by omega), H.cell_of J.g3]; rfl
  have g' : ∀ o, Fr h (h20.set LID o) := fun o => Fr.set J.fr (by omega) o
  simp (disch := first | omega | (simp only [Qn] <;> omega)) only [go_sem, q3]
  exact ⟨N, rfl, by omega, by show N < h20.next; omega, J.b.ne (by omega) _, g' _⟩
end Go.Proofs.Ytlhebmcnjgagjaa

/- Layer 5: insert. -/
namespace Go.Proofs.Ytlhebmcnjgagjaa
open Go Go.Ay
set_option maxRecDepth 100000
theorem insert1_ok (x : Int) (h : H) : Ev T 77 [.int .i64 x] h (fun v h' => v = .bool (decide (0 < x)) ∧ h' = h) := by
  refine Ev_of t_linear_echelon_insert_1 rfl ?_
  simp (disch := first | omega | (simp only [Qn] <;> omega)) only [go_sem, c_linear_echelon_insert_1, initV_eq]
set_option maxHeartbeats 4000000 in
theorem index_ok (v : V) (n : Nat) (u : Nat → Int) (h : H) (hv : SI h v (mkV n u)) (hn : n < 1000000) :
    Ev T n_slices_IndexFunc_int_int [v, .fn 77 [] []] h (fun w h' => h' = h ∧ ((w = .int .i64 (-1) ∧ ∀ i, i < n → ¬ 0 < u i) ∨ ∃ k : Nat, w = .int .i64 (k : Int) ∧ k < n ∧ 0 < u k ∧ ∀ i, i < k → ¬ 0 < u i)) := by
  refine Ev_of t_slices_IndexFunc_int_int rfl ?_
  have lv := hv.lens
  rw [mkV_len] at lv
  obtain ⟨id, off, sh, hid, hc⟩ := hv.open
  rw [mkV_len] at sh hid hc
  simp (disch := first | omega | (simp only [Qn] <;> omega)) only [go_sem, c_slices_IndexFunc_int_int, initV_eq, lv]
  refine Wp_loop (fun k' vars hh => hh = h ∧ ∃ i : Nat, (∃ j : Nat → V, vars = [v, .fn 77 [] [], j 2, j 3, .int .i64 (n : Int), .int .i64 (i : Int), j 6, j 7]) ∧ i ≤ n ∧ (∀ j, j < i → ¬ 0 < u j) ∧ k' = n - i) n
    ⟨rfl, 0, ex_junk rfl, Nat.zero_le _, fun j hj => absurd hj (Nat.not_lt_zero j), rfl⟩ ?_
  rintro k' vars hh ⟨rfl, i, ⟨jk, rfl⟩, hi, hz, rfl⟩
  simp (disch := first | omega | (simp only [Qn] <;> omega)) only [go_sem]
  by_cases hlt : (i : Int) < (n : Int)
  · rw [decide_eq_true hlt]
    have hi' : i < n := by omega
    have ci := hc i hi'
    rw [mkV_get _ hi'] at ci
    simp (disch := first | omega | (simp only [Qn] <;> omega)) only [go_sem, sh.ixa, ci]
    refine (insert1_ok (u i) hh).mono ?_
    rintro w h2 ⟨rfl, rfl⟩
    by_cases hu : 0 < u i
    · rw [decide_eq_true hu]
      simp (disch := first | omega | (simp only [Qn] <;> omega)) only [go_sem]
      exact .inr ⟨i, rfl, hi', hu, hz⟩
    · rw [decide_eq_false hu]
      simp (disch := first | omega | (simp only [Qn] <;> omega)) only [go_sem]
      rw [show (i : Int) + 1 = ((i + 1 : Nat) : Int) from by omega]
      refine ⟨n - (i + 1), by omega, i + 1, ex_junk rfl, by omega, fun j hj => ?_, rfl⟩
      by_cases e : j = i
      · rw [e]; exact hu
      · exact hz j (by omega)
  rw [decide_eq_false hlt]
  obtain rfl : n = i := by omega
  simp (disch := first | omega | (simp only [Qn] <;> omega)) only [go_sem]
  exact .inl hz
/-- The rows, the new one inserted. -/
def nwF (p : Int) (f : Nat → Nat → Int) (k : Nat) (w : Nat → Int) (a : Nat) : Nat → Int := fun j => (f a j + (p - f a k) * w j) % p
structure IJ (p : Int) (E M n W N X2 X3 X4 X5 LID at_ : Nat) (S : Nat → Bool) (ρ : Nat → Nat) (f : Nat → Nat → Int) (lo : Nat) (u : Nat → Int) (h : H) (rc : LRec) (hh : H) : Prop where
  g2 : hh.get X2 = some (.cells false [.ptr E 0])
  g3 : hh.get X3 = some (.cells false [.sl N 0 W (.kn W)])
  g4 : hh.get X4 = some (.cells false [.ptr E 0])
  g5 : hh.get X5 = some (.cells false [.int .i64 (at_ : Int)])
  gL : hh.get LID = some (.loop rc)
  b : Bk hh N W u
  k : Ec hh E M n W p S ρ f lo
  fr : ∀ b0, Fr b0 h → b0.next ≤ lo → Fr b0 hh
  nx : h.next ≤ hh.next
  lt : LID < hh.next
  oth : ∀ id, id < h.next → id ≠ M → (∀ c, c < n → S c = true → id ≠ ρ c) → hh.get id = h.get id
section
variable {p : Int} {E M n W N X2 X3 X4 X5 LID at_ : Nat} {S : Nat → Bool} {ρ : Nat → Nat} {f : Nat → Nat → Int} {lo : Nat} {u : Nat → Int} {h : H} {rc : LRec} {hh : H}
/-- The loop's object is changed. -/
theorem IJ.fl (j : IJ p E M n W N X2 X3 X4 X5 LID at_ S ρ f lo u h rc hh) (hE : E < h.next) (hM : M < h.next) (hR : ∀ c, c < n → S c = true → ρ c < h.next) (hlo : lo ≤ h.next)
    (hs : h.next ≤ X2 ∧ X2 < X3 ∧ X3 < N ∧ N < X5 ∧ X5 < X4 ∧ X4 < LID) {h' : H} {rc' : LRec} (F : Fx LID hh h') (gL : h'.get LID = some (.loop rc')) : IJ p E M n W N X2 X3 X4 X5 LID at_ S ρ f lo u h rc' h' := by
  have lt := j.lt
  exact ⟨(F.get X2 (by omega) (by omega)).trans j.g2, (F.get X3 (by omega) (by omega)).trans j.g3, (F.get X4 (by omega) (by omega)).trans j.g4, (F.get X5 (by omega) (by omega)).trans j.g5, gL, (F.get N (by omega) (by omega)).trans j.b, j.k.fx F (by omega) (by omega) fun c hc hs2 => by have := hR c hc hs2; omega, fun b0 f0 l0 => Fx.fr (j.fr b0 f0 l0) (by omega) F, Nat.le_trans j.nx F.next, Nat.lt_of_lt_of_le j.lt F.next, fun id q1 q2 q3 => (F.get id (by have := j.nx; omega) (by omega)).trans (j.oth id q1 q2 q3)⟩
/-- A row is changed. -/
theorem IJ.row (j : IJ p E M n W N X2 X3 X4 X5 LID at_ S ρ f lo u h rc hh) (hR : ∀ c, c < n → S c = true → ρ c < h.next) (hlo : lo ≤ h.next)
    (hs : h.next ≤ X2 ∧ X2 < X3 ∧ X3 < N ∧ N < X5 ∧ X5 < X4 ∧ X4 < LID) {h' : H} {c : Nat} (hc : c < n) (hs2 : S c = true) (F : Fx (ρ c) hh h') {w : Nat → Int} (b : Bk h' (ρ c) W w) : IJ p E M n W N X2 X3 X4 X5 LID at_ S ρ (fun a => if a = c then w else f a) lo u h rc h' := by
  have lt := j.lt
  have := hR c hc hs2
  have := j.k.loR c hc hs2
  exact ⟨(F.get X2 (by omega) (by omega)).trans j.g2, (F.get X3 (by omega) (by omega)).trans j.g3, (F.get X4 (by omega) (by omega)).trans j.g4, (F.get X5 (by omega) (by omega)).trans j.g5, (F.get LID (by omega) (by omega)).trans j.gL, (F.get N (by omega) (by omega)).trans j.b, j.k.rowfx hc hs2 F b, fun b0 f0 l0 => Fx.fr (j.fr b0 f0 l0) (by omega) F, Nat.le_trans j.nx F.next, Nat.lt_of_lt_of_le j.lt F.next, fun id q1 q2 q3 => (F.get id (by have := j.nx; omega) (q3 c hc hs2)).trans (j.oth id q1 q2 q3)⟩
end
end Go.Proofs.Ytlhebmcnjgagjaa

/- Layer 5: insert, walked. -/
namespace Go.Proofs.Ytlhebmcnjgagjaa
open Go Go.Ay
set_option maxRecDepth 100000
theorem r1E {h : H} {E n M : Nat} {p : Int} (g : h.get E = some (.cells false [.int .i64 p, .int .i64 (n : Int), .mp M])) : h.row E 0 1 = some [.int .i64 p] := by
  unfold H.row; rw [g]; rfl
theorem mkV_split (n m : Nat) (u : Nat → Int) : mkV (n + m) u = mkV n u ++ mkV m (fun i => u (n + i)) := by
  refine (mkV_eq (by rw [List.length_append, mkV_len, mkV_len]) fun k hk => ?_).symm
  by_cases e : k < n
  · rw [List.getD_eq_getElem?_getD, List.getElem?_append_left (by rw [mkV_len]; exact e), ← List.getD_eq_getElem?_getD, mkV_get _ e]
  · rw [List.getD_eq_getElem?_getD, List.getElem?_append_right (by rw [mkV_len]; omega), ← List.getD_eq_getElem?_getD, mkV_len, mkV_get _ (by omega), show n + (k - n) = k by omega]
theorem Bk.pre {h : H} {N W n : Nat} {u : Nat → Int} (b : Bk h N W u) (hn : n ≤ W) (hl : N < h.next) (cap : Cap) : SI h (.sl N 0 n cap) (mkV n u) := by
  obtain ⟨m, rfl⟩ := Nat.le.dest hn
  have : Bt h N n u (ints (mkV m fun i => u (n + i))) := by
    rw [Bt, ← ints_append, ← mkV_split]; exact b
  exact this.si hl cap
set_option maxHeartbeats 32000000 in
theorem insert_fr (p : Int) (E M n W : Nat) (S : Nat → Bool) (ρ : Nat → Nat) (f : Nat → Nat → Int) (lo : Nat) (v : V) (l : List Int) (u : Nat → Int) (h : H) (k : Ec h E M n W p S ρ f lo) (hlo : lo ≤ h.next) (hv : SI h v l) (hl : l.length = W) (hW : W ≤ 1000) (hnW : n ≤ W) (hp : isP p = true) (hp2 : p < 10000)
    (hf : ∀ c j, c < n → S c = true → j < W → 0 ≤ f c j ∧ f c j < p)
    (hu : u = rdF p S f (fun i => l.getD i 0 % p) n) (hz : ∀ c, c < n → S c = true → u c = 0) :
    Ev T n_linear_echelon_insert [.ptr E 0, v] h (fun w h' => (∀ b0, Fr b0 h → b0.next ≤ lo → Fr b0 h') ∧ h.next ≤ h'.next ∧ (∀ id, id < h.next → id ≠ M → (∀ c, c < n → S c = true → id ≠ ρ c) → h'.get id = h.get id) ∧ ((w = .bool false ∧ (∀ i, i < n → u i = 0) ∧ Ec h' E M n W p S ρ f lo) ∨
      (w = .bool true ∧ ∃ at_ x N, at_ < n ∧ (∀ i, i < at_ → u i = 0) ∧ 0 < u at_ ∧ 0 ≤ x ∧ x < p ∧ x * u at_ % p = 1 ∧ h.next ≤ N ∧
        Ec h' E M n W p (fun c => if c = at_ then true else S c) (upN ρ at_ N) (fun c => if c = at_ then (fun j => (u j + (x + p - 1) * u j) % p) else nwF p f at_ (fun j => (u j + (x + p - 1) * u j) % p) c) lo))) := by
  subst hl
  have hp1 : 0 < p ∧ p < 10000 := ⟨by have := isP_pr hp; have := this.two; omega, hp2⟩
  have ur : ∀ j, j < l.length → 0 ≤ u j ∧ u j < p := fun j hj => by rw [hu]; exact rdF_range hp1.1 (tmod_range _ hp1.1) n
  refine Ev_of t_linear_echelon_insert rfl ?_
  have wv := SV.what hv
  have k1 := k.ltE
  have k2 := k.ltM
  have k3 := k.ltR
  have hst1 := fun hh (id x : Nat) => stV_one (y := V.sl x 0 l.length (.kn l.length)) rfl rfl hh id 0
  simp (disch := first | omega | (simp only [Qn] <;> omega)) only [go_sem, c_linear_echelon_insert, initV_eq, box_ptr, fun hh => box_one hh wv.1 wv.2.1]
  have hf1 : Fr h (h.new (.cells false [.ptr E 0])) := (Fr.refl h).new _
  have hg1 : (h.new (.cells false [.ptr E 0])).get h.next = some (.cells false [.ptr E 0]) := H.get_new_same ..
  have hn1 : (h.new (.cells false [.ptr E 0])).next = h.next + 1 := H.next_new ..
  generalize h.new (.cells false [.ptr E 0]) = h1 at *
  rw [← hn1]
  have hf2 : Fr h1 (h1.new (.cells false [v])) := (Fr.refl h1).new _
  have hg2 : (h1.new (.cells false [v])).get h1.next = some (.cells false [v]) := H.get_new_same ..
  have hn2 : (h1.new (.cells false [v])).next = h1.next + 1 := H.next_new ..
  generalize h1.new (.cells false [v]) = h2 at *
  obtain ⟨X2, hX2⟩ : ∃ X, h.next = X := ⟨_, rfl⟩
  obtain ⟨X3, hX3⟩ : ∃ X, h1.next = X := ⟨_, rfl⟩
  have F2 := hf1.trans hf2
  have q2 : h2.get X2 = some (.cells false [.ptr E 0]) := by rw [← hX2]; exact (hf2.get _ (by omega)).trans hg1
  have q3 : h2.get X3 = some (.cells false [v]) := by rw [← hX3]; exact hg2
  have c2 : h2.cell X2 0 = some (.ptr E 0) := by rw [H.cell_of q2]; rfl
  have c3 : h2.cell X3 0 = some v := by rw [H.cell_of q3]; rfl
  rw [hX2, hX3]
  try simp (disch := first | omega | (simp only [Qn] <;> omega)) only [go_sem, c2, c3]
  refine (reduced_ok p E M n l.length S ρ f lo v l h2 (k.fr F2) (hv.mono F2) rfl hW hnW hp1 hf).mono ?_
  rintro w h4 ⟨N, rfl, N1, N2, bN, f4⟩
  rw [← hu] at bN
  have q34 := f4.get X3 (by omega)
  rw [q3] at q34
  have pt := fun hh : H => putO_one (vs := [v]) (off := 0) (by simp) hh X3 (.sl N 0 l.length (.kn l.length))
  have q24 := f4.get X2 (by omega)
  rw [q2] at q24
  have F4 := F2.trans f4
  have k4 := k.fr F4
  have F5 : Fr h (h4.set X3 (some (.cells false [.sl N 0 l.length (.kn l.length)]))) := F4.set (by omega) _
  have k5 : Ec (h4.set X3 (some (.cells false [.sl N 0 l.length (.kn l.length)]))) E M n l.length p S ρ f lo := k.fr F5
  have b5 : Bk (h4.set X3 (some (.cells false [.sl N 0 l.length (.kn l.length)]))) N l.length u := bN.ne (by omega) _
  have g35 : (h4.set X3 (some (.cells false [.sl N 0 l.length (.kn l.length)]))).get X3 = some (.cells false [.sl N 0 l.length (.kn l.length)]) := H.get_set_same ..
  have g25 : (h4.set X3 (some (.cells false [.sl N 0 l.length (.kn l.length)]))).get X2 = some (.cells false [.ptr E 0]) := by rw [H.get_set_ne _ (by omega)]; exact q24
  have n5 : (h4.set X3 (some (.cells false [.sl N 0 l.length (.kn l.length)]))).next = h4.next := rfl
  have c24 : h4.cell X2 0 = some (.ptr E 0) := by rw [H.cell_of q24]; rfl
  have e14 := k4.e1
  have sk := fun kk : IntKind => slc_kn (id := N) (off := 0) (len := l.length) (c := l.length) (hi := (n : Int)) (k := kk) (by omega) (by omega)
  simp only [Int.toNat_natCast] at sk
  simp (disch := first | omega | (simp only [Qn] <;> omega)) only [go_sem, hst1, q34, pt, c24, e14, sk]
  generalize h4.set X3 (some (.cells false [.sl N 0 l.length (.kn l.length)])) = h5 at *
  have fb : Fr h5 (H.mk h5.tr (h4.next + 9)) := (Fr.refl h5).bump (by omega)
  have nb : (H.mk h5.tr (h4.next + 9)).next = h4.next + 9 := rfl
  generalize H.mk h5.tr (h4.next + 9) = h6 at *
  refine (index_ok _ n u h6 ((b5.fr fb (by omega)).pre hnW (by omega) _) (by omega)).mono ?_
  rintro w h6' ⟨rfl, hw⟩
  obtain ⟨X5, hX5⟩ : ∃ X, h4.next + 7 = X := ⟨_, rfl⟩
  obtain ⟨z, hzz⟩ : ∃ z : Int, w = .int .i64 z := by
    rcases hw with ⟨rfl, _⟩ | ⟨q, rfl, _⟩
    · exact ⟨_, rfl⟩
    · exact ⟨_, rfl⟩
  subst hzz
  have gl := litV_get h6' X5 [.int .i64 0] h6'.next
  have pt5 := fun hh : H => putO_one (vs := [.int .i64 0]) (off := 0) (by simp) hh X5 (.int .i64 z)
  simp (disch := first | omega | (simp only [Qn] <;> omega)) only [go_sem, litV_eq]
  rw [hX5]
  try simp (disch := first | omega | (simp only [Qn] <;> omega)) only [go_sem, gl, pt5]
  have F7 : Fr h5 ((litV h6' X5 [.int .i64 0] h6'.next).set X5 (some (.cells false [.int .i64 z]))) := (litV_fr fb (by omega) (by omega) _).set (by omega) _
  have g5 : ((litV h6' X5 [.int .i64 0] h6'.next).set X5 (some (.cells false [.int .i64 z]))).get X5 = some (.cells false [.int .i64 z]) := H.get_set_same ..
  have n7 : ((litV h6' X5 [.int .i64 0] h6'.next).set X5 (some (.cells false [.int .i64 z]))).next = h4.next + 9 := nb
  generalize (litV h6' X5 [.int .i64 0] h6'.next).set X5 (some (.cells false [.int .i64 z])) = h7 at *
  clear gl pt5
  have F57 := F5.trans F7
  rcases hw with ⟨hw, hall⟩ | ⟨q, hw, hq1, hq2, hq3⟩
  · simp only [V.int.injEq, true_and] at hw
    subst hw
    have dm : decide ((-1 : Int) < 0) = true := by decide
    simp (disch := first | omega | (simp only [Qn] <;> omega)) only [go_sem, dm]
    refine ⟨fun b0 f0 _ => f0.trans F57, by have := F57.next; omega, fun id q1 _ _ => F57.get id (by omega), .inl ⟨fun i hi => ?_, k.fr F57⟩⟩
    have := ur i (by omega)
    have := hall i hi
    omega
  simp only [V.int.injEq, true_and] at hw
  subst hw
  rw [decide_eq_false (show ¬ (q : Int) < 0 by omega)]
  have g37 := (F7.get X3 (by omega)).trans g35
  have g27 := (F7.get X2 (by omega)).trans g25
  have b7 := b5.fr F7 (by omega)
  have c27 : h7.cell X2 0 = some (.ptr E 0) := by rw [H.cell_of g27]; rfl
  have c37 : h7.cell X3 0 = some (.sl N 0 l.length (.kn l.length)) := by rw [H.cell_of g37]; rfl
  have c57 : h7.cell X5 0 = some (.int .i64 (q : Int)) := by rw [H.cell_of g5]; rfl
  have cN := b7.cell (i := q) (by omega)
  have k7 := k.fr F57
  have e07 := k7.e0
  have fb8 : Fr h7 (H.mk h7.tr (h7.next + 15)) := (Fr.refl h7).bump (by omega)
  simp (disch := first | omega | (simp only [Qn] <;> omega)) only [go_sem, c27, c37, c57, cN, e07]
  generalize H.mk h7.tr (h7.next + 15) = h8 at *
  refine (inv_ok (u q) p h8 hp hp2 ⟨hq2, (ur q (by omega)).2⟩).mono ?_
  rintro w h9 ⟨x, rfl, x1, x2, x3, f9⟩
  have F79 := fb8.trans f9
  have g39 := (F79.get X3 (by omega)).trans g37
  have g29 := (F79.get X2 (by omega)).trans g27
  have g59 := (F79.get X5 (by omega)).trans g5
  have b9 := b7.fr F79 (by omega)
  have k9 := k7.fr F79
  have c29 : h9.cell X2 0 = some (.ptr E 0) := by rw [H.cell_of g29]; rfl
  have c39 : h9.cell X3 0 = some (.sl N 0 l.length (.kn l.length)) := by rw [H.cell_of g39]; rfl
  have e09 := k9.e0
  have rE9 := r1E k9.gE
  have rE9b : (H.mk h9.tr (h9.next + 15)).row E 0 1 = some [.int .i64 p] := rE9
  have fb10 : Fr h9 (H.mk h9.tr (h9.next + 15)) := (Fr.refl h9).bump (by omega)
  have n9 := F79.next
  simp (disch := first | omega | (simp only [Qn] <;> omega)) only [go_sem, c29, c39, e09, rE9, rE9b, List.getElem?_cons_zero, List.getElem?_cons_succ]
  generalize H.mk h9.tr (h9.next + 15) = h10 at *
  have b10 := b9.fr fb10 (by omega)
  have n10 := fb10.next
  refine (add_ok p (x + p - 1) N l.length l.length N 0 (.kn l.length) (.sl N 0 l.length (.kn l.length)) u u [] h10 b10.bt (by omega) ⟨rfl, fun k i h1 h2 => ixaV_sl h1 h2, rfl, rfl⟩ (fun _ => by omega) (fun j hj => by rw [Nat.zero_add]; exact b10.cell hj) (.inr rfl) (Nat.le_refl _) (by omega) hp1 (by omega) (fun j hj => by have := ur j hj; omega) (fun j hj => by have := ur j hj; omega)).mono ?_
  rintro w h11 ⟨b11, F11⟩
  obtain ⟨vv, hvv⟩ : ∃ vv : Nat → Int, vv = fun j => (u j + (x + p - 1) * u j) % p := ⟨_, rfl⟩
  have b11' : Bk h11 N l.length vv := b11.bk.congr fun j hj => by rw [if_pos hj, hvv]
  have vr : ∀ j, 0 ≤ vv j ∧ vv j < p := fun j => by rw [hvv]; exact tmod_range _ hp1.1
  have F9 : Fr h h9 := F57.trans F79
  have F10 := F9.trans fb10
  have F11h : Fr h h11 := Fx.fr F10 (by omega) F11
  have g311 := (F11.get X3 (by omega) (by omega)).trans ((fb10.get X3 (by omega)).trans g39)
  have g211 := (F11.get X2 (by omega) (by omega)).trans ((fb10.get X2 (by omega)).trans g29)
  have g511 := (F11.get X5 (by omega) (by omega)).trans ((fb10.get X5 (by omega)).trans g59)
  have c211 : h11.cell X2 0 = some (.ptr E 0) := by rw [H.cell_of g211]; rfl
  have n11 := F11.next
  simp (disch := first | omega | (simp only [Qn] <;> omega)) only [go_sem, c211]
  refine (pivots_ok E h11).mono ?_
  rintro w h12 ⟨rfl, rfl⟩
  have hf13 : Fr h11 (h11.new (.cells false [.ptr E 0])) := (Fr.refl h11).new _
  have hg13 : (h11.new (.cells false [.ptr E 0])).get h11.next = some (.cells false [.ptr E 0]) := H.get_new_same ..
  have hn13 : (h11.new (.cells false [.ptr E 0])).next = h11.next + 1 := H.next_new ..
  generalize h11.new (.cells false [.ptr E 0]) = h13 at *
  obtain ⟨X4, hX4⟩ : ∃ X, h11.next = X := ⟨_, rfl⟩
  rw [hX4] at hg13
  rw [hX4]
  obtain ⟨LID, hLID⟩ : ∃ X, h13.next = X := ⟨_, rfl⟩
  simp (disch := first | omega | (simp only [Qn] <;> omega)) only [go_sem]
  rw [hLID]
  generalize hrc : LRec.mk _ _ _ _ _ _ = rc
  refine ⟨rfl, ?_⟩
  have hs : h.next ≤ X2 ∧ X2 < X3 ∧ X3 < N ∧ N < X5 ∧ X5 < X4 ∧ X4 < LID := ⟨by omega, by omega, by omega, by omega, by omega, by omega⟩
  have f14 : Fr h11 (h13.new (.loop rc)) := hf13.new _
  obtain ⟨g, hg⟩ : ∃ g : Nat → Nat → Nat → Int, g = fun c a => if a < c then nwF p f q vv a else f a := ⟨_, rfl⟩
  have J0 : IJ p E M n l.length N X2 X3 X4 X5 LID q S ρ (g 0) lo vv h rc (h13.new (.loop rc)) :=
    ⟨(f14.get _ (by omega)).trans g211, (f14.get _ (by omega)).trans g311, by rw [H.get_new_ne _ (by omega)]; exact hg13, (f14.get _ (by omega)).trans g511, by rw [← hLID]; exact H.get_new_same .., b11'.fr f14 (by omega), ((k.fr F11h).fr f14).congr (fun c j _ _ _ => by rw [hg]; simp only [if_neg (Nat.not_lt_zero c)]), fun b0 f0 _ => f0.trans (F11h.trans f14), by rw [H.next_new]; have := F11h.next; omega, by rw [H.next_new]; omega, fun id q1 _ _ => (F11h.trans f14).get id (by omega)⟩
  have loop : Ev T 94 [.yl LID, .ptr X4 0] (h13.new (.loop rc)) (fun _ hh => IJ p E M n l.length N X2 X3 X4 X5 LID q S ρ (g n) lo vv h rc hh) := by
    refine pivots_loop LID X4 E M n l.length p S ρ (fun c hh => IJ p E M n l.length N X2 X3 X4 X5 LID q S ρ (g c) lo vv h rc hh)
      (fun c hh J => ⟨J.g4, J.k.gE, J.k.gM⟩) (fun c hh hc hs2 J => ?_) (fun c hh hc hs2 J => ?_) _ J0 (by omega)
    · refine Ey_of J.gL (by rw [← hrc]; rfl) ?_
      have lt := J.lt
      have Jb := fun rc' => J.fl k1 k2 k3 hlo hs (h' := hh.set LID (some (.loop rc'))) (rc' := rc') ((Fx.refl LID hh).set _) (H.get_set_same ..)
      subst hrc
      simp (disch := first | omega | (simp only [Qn] <;> omega)) only [go_sem, List.zip_cons_cons, List.zip_nil_left]
      refine ⟨_, J.gL, rfl, ?_⟩
      generalize hrb : LRec.mk _ _ _ _ LSt.busy _ = rb
      have J2 := Jb rb
      clear Jb
      obtain ⟨h20, h20e⟩ : ∃ q, hh.set LID (some (.loop rb)) = q := ⟨_, rfl⟩
      rw [h20e] at J2
      rw [h20e]
      have c2 : hh.cell X2 0 = some (.ptr E 0) := by rw [H.cell_of J.g2]; rfl
      have c3 : hh.cell X3 0 = some (.sl N 0 l.length (.kn l.length)) := by rw [H.cell_of J.g3]; rfl
      have c5 : hh.cell X5 0 = some (.int .i64 (q : Int)) := by rw [H.cell_of J.g5]; rfl
      have e0 := J.k.e0
      have rE0 := r1E J.k.gE
      have rE := r1E J2.k.gE
      have gc : g c c = f c := by rw [hg]; simp only [if_neg (Nat.lt_irrefl c)]
      have cR := (J.k.row c hc hs2).cell (i := q) (by omega)
      have cR' := (J2.k.row c hc hs2).cell (i := q) (by omega)
      have c2' : h20.cell X2 0 = some (.ptr E 0) := by rw [H.cell_of J2.g2]; rfl
      have c3' : h20.cell X3 0 = some (.sl N 0 l.length (.kn l.length)) := by rw [H.cell_of J2.g3]; rfl
      have c5' : h20.cell X5 0 = some (.int .i64 (q : Int)) := by rw [H.cell_of J2.g5]; rfl
      have e0' := J2.k.e0
      have kr := k3 c hc hs2
      have fq := hf c q hc hs2 (by omega)
      have nh : h20.next = hh.next := by rw [← h20e]; rfl
      have fb : Fr h20 (H.mk h20.tr (hh.next + 17)) := (Fr.refl h20).bump (by omega)
      have rEb : (H.mk h20.tr (hh.next + 17)).row E 0 1 = some [.int .i64 p] := rE
      have J3 := J2.fl k1 k2 k3 hlo hs (Fx.of (x := LID) fb) ((fb.get LID J2.lt).trans J2.gL)
      rw [gc] at cR cR'
      simp (disch := first | omega | (simp only [Qn] <;> omega)) only [go_sem, c2, c3, c5, e0, rE0, rE, rEb, cR, c2', c3', c5', e0', cR']
      generalize H.mk h20.tr (hh.next + 17) = h21 at *
      have b21 := J3.b
      have r21 := J3.k.row c hc hs2
      rw [gc] at r21
      have lr3 := J3.k.ltR c hc hs2
      have lN : N < h21.next := by have := J3.lt; omega
      refine (add_ok p (p - f c q) (ρ c) l.length l.length N 0 (.kn l.length) (.sl N 0 l.length (.kn l.length)) (f c) vv [] h21 r21.bt lr3 ⟨rfl, fun k i h1 h2 => ixaV_sl h1 h2, rfl, rfl⟩ (fun _ => lN) (fun j hj => by rw [Nat.zero_add]; exact b21.cell hj) (.inr rfl) (Nat.le_refl _) (by omega) hp1 (by omega) (fun j hj => by have := hf c j hc hs2 hj; omega) (fun j hj => by have := vr j; omega)).mono ?_
      rintro w h22 ⟨b22, F22⟩
      have b23 : Bk h22 (ρ c) l.length (nwF p f q vv c) := b22.bk.congr fun j hj => by rw [if_pos hj, nwF]
      have J4 := J3.row k3 hlo hs hc hs2 F22 b23
      have eg : (fun a => if a = c then nwF p f q vv c else g c a) = g (c + 1) := by
        funext a
        rw [hg]
        simp only
        by_cases e : a = c
        · rw [if_pos e, if_pos (by omega), e]
        · rw [if_neg e]
          by_cases e2 : a < c
          · rw [if_pos e2, if_pos (by omega)]
          · rw [if_neg e2, if_neg (by omega)]
      rw [eg] at J4
      try simp (disch := first | omega | (simp only [Qn] <;> omega)) only [go_sem]
      refine ⟨rb, J4.gL, rfl, ?_⟩
      subst hrb
      exact J4.fl k1 k2 k3 hlo hs ((Fx.refl LID h22).set _) (H.get_set_same ..)
    · refine { J with k := J.k.congr fun a j _ hsa _ => ?_ }
      rw [hg]
      simp only
      by_cases e : a = c
      · rw [e] at hsa
        rw [hs2] at hsa; cases hsa
      · by_cases e2 : a < c
        · rw [if_pos e2, if_pos (by omega)]
        · rw [if_neg e2, if_neg (by omega)]
  refine loop.mono ?_
  rintro _ h30 J
  refine ⟨_, J.gL, by rw [← hrc]; simp, ?_⟩
  have hpe : rc.pend = none := by rw [← hrc]
  simp only [hpe, Option.getD_none]
  have lt := J.lt
  have J' := fun rc' => J.fl k1 k2 k3 hlo hs (h' := h30.set LID (some (.loop rc'))) (rc' := rc') ((Fx.refl LID h30).set _) (H.get_set_same ..)
  generalize hrb2 : LRec.mk _ _ _ _ _ _ = rb2
  have J5 := J' rb2
  clear J' J
  generalize h30.set LID (some (.loop rb2)) = h31 at *
  have c2 : h31.cell X2 0 = some (.ptr E 0) := by rw [H.cell_of J5.g2]; rfl
  have c3 : h31.cell X3 0 = some (.sl N 0 l.length (.kn l.length)) := by rw [H.cell_of J5.g3]; rfl
  have c5 : h31.cell X5 0 = some (.int .i64 (q : Int)) := by rw [H.cell_of J5.g5]; rfl
  have e2 := J5.k.e2
  obtain ⟨es, m1, m2, m3⟩ := J5.k.gM.set (at_ := q) (N := N)
  simp (disch := first | omega | (simp only [Qn] <;> omega)) only [go_sem, c2, c3, c5, e2, msetP_mp, m1, msetO_map m2]
  have m4 := m3 (H.mk h31.tr (h31.next + 7))
  have EM := k.EM
  have lE := k.loE
  have lM := k.loM
  have l31 := J5.lt
  have nx := J5.nx
  refine ⟨fun b0 f0 l0 => ((J5.fr b0 f0 l0).bump (by have := (J5.fr b0 f0 l0).next; omega)).set (by omega) _, by show X2 ≤ h31.next + 7; omega, fun id q1 q2 q3 => (H.get_set_ne _ q2 _).trans (J5.oth id (by omega) q2 q3), .inr ⟨q, x, N, hq1, fun i hi => ?_, hq2, x1, x2, x3, by omega, ?_⟩⟩
  · have := ur i (by omega)
    have := hq3 i hi
    omega
  rw [← hvv]
  have cs : ∀ c, (fun c => if c = q then true else S c) c = true → c = q ∨ (c ≠ q ∧ S c = true) := fun c hcs => by
    by_cases e : c = q
    · exact .inl e
    · simp only [if_neg e] at hcs
      exact .inr ⟨e, hcs⟩
  have uq : upN ρ q N q = N := by simp [upN]
  have un : ∀ c, c ≠ q → upN ρ q N c = ρ c := fun c e => by simp only [upN, if_neg e]
  refine ⟨by rw [H.get_set_ne _ EM]; exact J5.k.gE, m4, fun c hc hcs => ?_, fun a b ha hb hsa hsb e => ?_, fun c hc hcs => ?_, fun c hc hcs => ?_, EM, lE, lM, fun c hc hcs => ?_, by show E < h31.next + 7; omega, by show M < h31.next + 7; omega, fun c hc hcs => ?_⟩
  · rcases cs c hcs with e | ⟨e, hsc⟩
    · subst e
      rw [uq]
      simp only [if_true]
      exact Bk.ne J5.b (by omega) _
    · rw [un c e]
      simp only [if_neg e]
      have := J5.k.row c hc hsc
      rw [hg] at this
      simp only [if_pos hc] at this
      exact Bk.ne this (J5.k.neM c hc hsc) _
  · rcases cs a hsa with ea | ⟨ea, hsa⟩
    · rcases cs b hsb with eb | ⟨eb, hsb⟩
      · rw [ea, eb]
      · rw [ea, uq, un b eb] at e
        have := k3 b hb hsb
        omega
    · rcases cs b hsb with eb | ⟨eb, hsb⟩
      · rw [eb, uq, un a ea] at e
        have := k3 a ha hsa
        omega
      · rw [un a ea, un b eb] at e
        exact k.inj a b ha hb hsa hsb e
  · rcases cs c hcs with e | ⟨e, hsc⟩
    · rw [e, uq]; omega
    · rw [un c e]; exact k.neE c hc hsc
  · rcases cs c hcs with e | ⟨e, hsc⟩
    · rw [e, uq]; omega
    · rw [un c e]; exact k.neM c hc hsc
  · rcases cs c hcs with e | ⟨e, hsc⟩
    · rw [e, uq]; omega
    · rw [un c e]; exact k.loR c hc hsc
  · rcases cs c hcs with e | ⟨e, hsc⟩
    · rw [e, uq]; show N < h31.next + 7; omega
    · rw [un c e]; show ρ c < h31.next + 7; have := k3 c hc hsc; omega
theorem insert_ok (p : Int) (E M n W : Nat) (S : Nat → Bool) (ρ : Nat → Nat) (f : Nat → Nat → Int) (lo : Nat) (v : V) (l : List Int) (u : Nat → Int) (h : H) (k : Ec h E M n W p S ρ f lo) (hlo : lo ≤ h.next) (hv : SI h v l) (hl : l.length = W) (hW : W ≤ 1000) (hnW : n ≤ W) (hp : isP p = true) (hp2 : p < 10000)
    (hf : ∀ c j, c < n → S c = true → j < W → 0 ≤ f c j ∧ f c j < p)
    (hu : u = rdF p S f (fun i => l.getD i 0 % p) n) (hz : ∀ c, c < n → S c = true → u c = 0) :
    Ev T n_linear_echelon_insert [.ptr E 0, v] h (fun w h' => (∀ b0, Fr b0 h → b0.next ≤ lo → Fr b0 h') ∧ h.next ≤ h'.next ∧ ((w = .bool false ∧ (∀ i, i < n → u i = 0) ∧ Ec h' E M n W p S ρ f lo) ∨
      (w = .bool true ∧ ∃ at_ x N, at_ < n ∧ (∀ i, i < at_ → u i = 0) ∧ 0 < u at_ ∧ 0 ≤ x ∧ x < p ∧ x * u at_ % p = 1 ∧ h.next ≤ N ∧
        Ec h' E M n W p (fun c => if c = at_ then true else S c) (upN ρ at_ N) (fun c => if c = at_ then (fun j => (u j + (x + p - 1) * u j) % p) else nwF p f at_ (fun j => (u j + (x + p - 1) * u j) % p) c) lo))) := (insert_fr p E M n W S ρ f lo v l u h k hlo hv hl hW hnW hp hp2 hf hu hz).mono fun _ _ q => ⟨q.1, q.2.1, q.2.2.2⟩
end Go.Proofs.Ytlhebmcnjgagjaa

/- Layer 5: each with insert, span, list. -/
namespace Go.Proofs.Ytlhebmcnjgagjaa
open Go Go.Ay
set_option maxRecDepth 100000
/-- What is kept while rows are inserted. -/
structure Kp (p : Int) (n W : Nat) (ll : List (List Int)) (Φ : Nat → (Nat → Bool) → (Nat → Nat → Int) → Nat → Prop) : Prop where
  rng : ∀ i S f k, Φ i S f k → ∀ c j, c < n → S c = true → j < W → 0 ≤ f c j ∧ f c j < p
  red : ∀ i S f k, i < ll.length → Φ i S f k → ∀ c, c < n → S c = true → rdF p S f (fun j => (ll.getD i []).getD j 0 % p) n c = 0
  no : ∀ i S f k, i < ll.length → Φ i S f k → (∀ j, j < n → rdF p S f (fun j => (ll.getD i []).getD j 0 % p) n j = 0) → Φ (i + 1) S f k
  yes : ∀ i S f k u, i < ll.length → Φ i S f k → u = rdF p S f (fun j => (ll.getD i []).getD j 0 % p) n → ∀ at_ x, at_ < n → (∀ j, j < at_ → u j = 0) → 0 < u at_ → 0 ≤ x → x < p → x * u at_ % p = 1 →
    Φ (i + 1) (fun c => if c = at_ then true else S c) (fun c => if c = at_ then (fun j => (u j + (x + p - 1) * u j) % p) else nwF p f at_ (fun j => (u j + (x + p - 1) * u j) % p) c) (k + 1)
set_option maxHeartbeats 16000000 in
theorem each_ok (p : Int) (E M n W lo : Nat) (ll : List (List Int)) (v : V) (Φ : Nat → (Nat → Bool) → (Nat → Nat → Int) → Nat → Prop) (hΦ : Kp p n W ll Φ) (b0 h : H) (S : Nat → Bool) (ρ : Nat → Nat) (f : Nat → Nat → Int)
    (k0 : Ec h E M n W p S ρ f lo) (hlo : lo ≤ h.next) (h0 : Φ 0 S f 0) (hb : Fr b0 h) (hbl : b0.next ≤ lo) (hv : SR b0 v ll) (hln : ll.length < 1000000) (hl : ∀ i, i < ll.length → (ll.getD i []).length = W) (hW : W ≤ 1000) (hnW : n ≤ W) (hp : isP p = true) (hp2 : p < 10000) :
    Ev T n_linear_each_int [v, .fn 50 [.ptr E 0] []] h (fun w h' => ∃ (k : Nat) (S : Nat → Bool) (ρ : Nat → Nat) (f : Nat → Nat → Int), w = .int .i64 (k : Int) ∧ Φ ll.length S f k ∧ k ≤ ll.length ∧ Ec h' E M n W p S ρ f lo ∧ (∀ b, Fr b h → b.next ≤ lo → Fr b h') ∧ h.next ≤ h'.next) := by
  refine Ev_of t_linear_each_int rfl ?_
  obtain ⟨id, off, ws, sl, hid, hwl, hc, hall⟩ := hv.open
  simp (disch := first | omega | (simp only [Qn] <;> omega)) only [go_sem, c_linear_each_int, initV_eq, hv.lens]
  refine Wp_loop (fun k' vars hh => ∃ (i k : Nat) (S : Nat → Bool) (ρ : Nat → Nat) (f : Nat → Nat → Int), (∃ j : Nat → V, vars = [j 0, .fn 50 [.ptr E 0] [], j 2, .int .i64 (k : Int), j 4, v, .int .i64 (ll.length : Int), .int .i64 (i : Int), j 8, j 9]) ∧ i ≤ ll.length ∧ k ≤ i ∧ Φ i S f k ∧ Ec hh E M n W p S ρ f lo ∧ (∀ b, Fr b h → b.next ≤ lo → Fr b hh) ∧ h.next ≤ hh.next ∧ k' = ll.length - i) ll.length
    ⟨0, 0, S, ρ, f, ex_junk rfl, Nat.zero_le _, Nat.le_refl _, h0, k0, fun b f _ => f, Nat.le_refl _, rfl⟩ ?_
  clear h0 k0 S ρ f
  rintro k' vars hh ⟨i, k, S, ρ, f, ⟨jk, rfl⟩, hi, hki, hφ, kE, hF, hnx, rfl⟩
  simp (disch := first | omega | (simp only [Qn] <;> omega)) only [go_sem]
  by_cases hlt : (i : Int) < (ll.length : Int)
  · rw [decide_eq_true hlt]
    have hi' : i < ll.length := by omega
    have F0 := hF b0 hb hbl
    have ci : hh.cell id (off + i) = some (ws.getD i .undef) := by rw [F0.cell (hid (by omega))]; exact hc i (by omega)
    have ri := (row_at hall (i := i) hi').mono F0
    simp (disch := first | omega | (simp only [Qn] <;> omega)) only [go_sem, sl.ixa, ci]
    obtain ⟨u, hu⟩ : ∃ u, u = rdF p S f (fun j => (ll.getD i []).getD j 0 % p) n := ⟨_, rfl⟩
    refine (insert_ok p E M n W S ρ f lo _ (ll.getD i []) u hh kE (by omega) ri (hl i hi') hW hnW hp hp2 (hΦ.rng i S f k hφ) hu (by rw [hu]; exact hΦ.red i S f k hi' hφ)).mono ?_
    rintro w h2 ⟨hF2, hn2, ⟨rfl, hz, kE2⟩ | ⟨rfl, at_, x, N, a1, a2, a3, a4, a5, a6, a7, kE2⟩⟩
    · simp (disch := first | omega | (simp only [Qn] <;> omega)) only [go_sem]
      rw [show (i : Int) + 1 = ((i + 1 : Nat) : Int) from by omega]
      exact ⟨ll.length - (i + 1), by omega, i + 1, k, S, ρ, f, ex_junk rfl, by omega, by omega, hΦ.no i S f k hi' hφ (by rw [← hu]; exact hz), kE2, fun b fb lb => hF2 b (hF b fb lb) lb, by omega, rfl⟩
    · simp (disch := first | omega | (simp only [Qn] <;> omega)) only [go_sem]
      rw [show (i : Int) + 1 = ((i + 1 : Nat) : Int) from by omega, show (k : Int) + 1 = ((k + 1 : Nat) : Int) from by omega]
      exact ⟨ll.length - (i + 1), by omega, i + 1, k + 1, _, _, _, ex_junk rfl, by omega, by omega, hΦ.yes i S f k u hi' hφ hu at_ x a1 a2 a3 a4 a5 a6, kE2, fun b fb lb => hF2 b (hF b fb lb) lb, by omega, rfl⟩
  rw [decide_eq_false hlt]
  obtain ⟨rfl⟩ : i = ll.length := by omega
  simp (disch := first | omega | (simp only [Qn] <;> omega)) only [go_sem]
  exact ⟨k, S, ρ, f, rfl, hφ, hki, kE, hF, hnx⟩
theorem span_ok (p : Int) (n W : Nat) (ll : List (List Int)) (v : V) (Φ : Nat → (Nat → Bool) → (Nat → Nat → Int) → Nat → Prop) (hΦ : Kp p n W ll Φ) (h : H)
    (h0 : Φ 0 (fun _ => false) (fun _ _ => 0) 0) (hv : SR h v ll) (hln : ll.length < 1000000) (hl : ∀ i, i < ll.length → (ll.getD i []).length = W) (hW : W ≤ 1000) (hnW : n ≤ W) (hp : isP p = true) (hp2 : p < 10000) :
    Ev T n_linear_span [.int .i64 p, .int .i64 (n : Int), v] h (fun w h' => ∃ (E M k : Nat) (S : Nat → Bool) (ρ : Nat → Nat) (f : Nat → Nat → Int), w = .ptr E 0 ∧ Φ ll.length S f k ∧ k ≤ ll.length ∧ Ec h' E M n W p S ρ f h.next ∧ Fr h h') := by
  refine Ev_of t_linear_span rfl ?_
  simp (disch := first | omega | (simp only [Qn] <;> omega)) only [go_sem, c_linear_span, initV_eq]
  refine (begin_ok p n W (fun _ _ => 0) h).mono ?_
  rintro w h1 ⟨E, M, ρ, rfl, k1, f1⟩
  simp (disch := first | omega | (simp only [Qn] <;> omega)) only [go_sem]
  refine (each_ok p E M n W h.next ll v Φ hΦ h h1 _ ρ _ k1 f1.next h0 f1 (Nat.le_refl _) hv hln hl hW hnW hp hp2).mono ?_
  rintro w h2 ⟨k, S, ρ, f, rfl, hφ, hk, kE, hF, hnx⟩
  simp (disch := first | omega | (simp only [Qn] <;> omega)) only [go_sem]
  exact ⟨E, M, k, S, ρ, f, rfl, hφ, hk, kE, hF h f1 (Nat.le_refl _)⟩
/-- The rows of an echelon list. -/
def rwF (n W : Nat) (S : Nat → Bool) (f : Nat → Nat → Int) : List (List Int) := ((List.range n).filter S).map fun c => mkV W (f c)
theorem rwF_succ {c W : Nat} {S : Nat → Bool} {f : Nat → Nat → Int} : rwF (c + 1) W S f = rwF c W S f ++ (if S c then [mkV W (f c)] else []) := by
  simp only [rwF, List.range_succ, List.filter_append, List.map_append]
  congr 1
  cases hs : S c <;> simp [List.filter, hs]
end Go.Proofs.Ytlhebmcnjgagjaa

