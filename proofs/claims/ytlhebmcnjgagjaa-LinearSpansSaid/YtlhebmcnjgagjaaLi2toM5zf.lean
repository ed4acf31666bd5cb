/- The reference's basis, column by column: what is kept. Layer 5: blocks of rows, with three lists that grow: for the reference's basis. Layer 5: the reference's basis, column by column. Layer 5: the reference's basis, column by column: the walk. Layer 5: two lists of rows in a row; Sum. Layer 5: Sum. Layer 5: the plain law of the kernel. Layer 5: the plain law of the intersection. Layer 5: Meet. Layer 5: the reference's check, Basis, Rank, In, Sum. Layer 5: the law of the intersection. Layer 5: the tags of a system's rows. Layer 5: Solve. Layer 5: two rows appended; a taker under another's change. The law LinearBasis, walked. Layer 5: the reference's Apply: its result lies at or behind the heap's index. Layer 5: for LinearSolves: apply, a part of rows, a row replaced. -/
import Derived.Test.YtlhebmcnjgagjaaM5gtoM5zj
import Derived.Test.YtlhebmcnjgagjaaL4ytoM5d
import Derived.Test.YtlhebmcnjgagjaaL4atoDt6
/- The reference's basis, column by column: what is kept. -/
namespace Go.Ay
/-- What spans: the rows at pivots, then the other rows. -/
def gn (n : Nat) (S : Nat → Bool) (f g : Nat → Nat → Int) : Nat → Nat → Int := fun d => if d < n then gf S f d else g (d - n)
structure Cb (p : Int) (n m : Nat) (V : Nat → Nat → Int) (c : Nat) (S : Nat → Bool) (f : Nat → Nat → Int) (r : Nat) (g : Nat → Nat → Int) : Prop where
  re : Re p n n S f
  low : ∀ d, d < n → S d = true → d < c
  rg : ∀ i j, i < r → j < n → 0 ≤ g i j ∧ g i j < p
  gz : ∀ i j, i < r → j < c → g i j = 0
  fo : ∀ d, d < n → S d = true → InS p n m V (f d)
  go : ∀ i, i < r → InS p n m V (g i)
  inn : ∀ a, a < m → InS p n (n + r) (gn n S f g) (V a)
section
variable {p : Int} {n m r c : Nat} {V f g : Nat → Nat → Int} {S : Nat → Bool}
theorem Cb.start (hp : 0 < p) (n m : Nat) (V f : Nat → Nat → Int) : Cb p n m V 0 (fun _ => false) f m (fun i j => V i j % p) where
  re := ⟨fun _ _ _ h => by simp at h, fun _ _ h => by simp at h, fun _ _ _ _ h => by simp at h, fun _ _ _ h => by simp at h⟩
  low := fun _ _ h => by simp at h
  rg := fun i j _ _ => ⟨Int.emod_nonneg _ (by omega), Int.emod_lt_of_pos _ hp⟩
  gz := fun _ _ _ h => by omega
  fo := fun _ _ h => by simp at h
  go := fun i hi => (InS.row hi).congr fun j _ => mm2 _ _
  inn := fun a ha => (InS.row (V := gn n (fun _ => false) f fun i j => V i j % p) (i := n + a) (by omega)).congr fun j _ => by
    rw [gn, if_neg (by omega), Nat.add_sub_cancel_left, mm2]
theorem Cb.skip (b : Cb p n m V c S f r g) (h : ∀ i, i < r → g i c = 0) : Cb p n m V (c + 1) S f r g where
  re := b.re
  low := fun d hd hs => by have := b.low d hd hs; omega
  rg := b.rg
  gz := fun i j hi hj => by
    by_cases e : j = c
    · rw [e]; exact h i hi
    · exact b.gz i j hi (by omega)
  fo := b.fo
  go := b.go
  inn := b.inn
theorem Cb.done (b : Cb p n m V n S f r g) : ∀ a, a < m → InS p n n (gf S f) (V a) := fun a ha => by
  refine (b.inn a ha).trans fun d hd => ?_
  by_cases e : d < n
  · exact (InS.row e).congr fun j _ => by rw [gn, if_pos e]
  · exact InS.zero.congr fun j hj => by rw [gn, if_neg e, b.gz _ j (by omega) hj]
theorem cb_sub (p a x y : Int) : (a + y * (p - x)) % p = (a - x * y) % p := by
  rw [show a + y * (p - x) = a - x * y + p * y from by grind, Int.add_mul_emod_self_left]
theorem cb_one {p x u : Int} (hx : x * u % p = 1) : (u + u * (x + p - 1)) % p = 1 := by
  rw [show u + u * (x + p - 1) = x * u + p * u from by grind, Int.add_mul_emod_self_left, hx]
theorem cb_w {p x v : Int} : (v + v * (x + p - 1)) % p = (x * v) % p := by
  rw [show v + v * (x + p - 1) = x * v + p * v from by grind, Int.add_mul_emod_self_left]
/-- A pivot at column c, in row k. -/
theorem Cb.piv (hp : 1 < p) (b : Cb p n m V c S f r g) (hc : c < n) {k : Nat} (hk : k < r) {x : Int} (hx : x * g k c % p = 1)
    {w : Nat → Int} (hw : ∀ j, j < n → w j = (g k j + g k j * (x + p - 1)) % p)
    {f' : Nat → Nat → Int} (hfc : ∀ j, j < n → f' c j = w j) (hf : ∀ d j, d < n → S d = true → j < n → f' d j = (f d j + w j * (p - f d c)) % p)
    {g' : Nat → Nat → Int} (hg : ∀ i j, i < r - 1 → j < n → g' i j = (g (if i < k then i else i + 1) j + w j * (p - g (if i < k then i else i + 1) c)) % p) :
    Cb p n m V (c + 1) (fun d => if d = c then true else S d) f' (r - 1) g' := by
  have hp0 : 0 < p := by omega
  have mr : ∀ a : Int, 0 ≤ a % p ∧ a % p < p := fun a => ⟨Int.emod_nonneg _ (by omega), Int.emod_lt_of_pos _ hp0⟩
  have m0 : ∀ a : Int, 0 ≤ a → a < p → a % p = a := fun a h1 h2 => Int.emod_eq_of_lt h1 h2
  have wc : w c = 1 := by rw [hw c hc, cb_one hx]
  have wl : ∀ j, j < c → w j = 0 := fun j hj => by rw [hw j (by omega), b.gz k j hk hj]; simp
  have wr : ∀ j, j < n → 0 ≤ w j ∧ w j < p := fun j hj => by rw [hw j hj]; exact mr _
  have sc : S c = false := by
    cases h : S c with
    | false => rfl
    | true => exact absurd (b.low c hc h) (Nat.lt_irrefl c)
  have wI : InS p n m V w := ((b.go k hk).smul x).congr fun j hj => by rw [hw j hj, mm2, cb_w]
  have gl : ∀ i, i < r - 1 → (if i < k then i else i + 1) < r := fun i hi => by split <;> omega
  have Sc : ∀ {d}, (if d = c then true else S d) = true → d ≠ c → S d = true := fun {d} h e => by rwa [if_neg e] at h
  have f0 : ∀ d, d < n → S d = true → f' d c = 0 := fun d hd hs => by
    rw [hf d c hd hs hc, wc, cb_sub, Int.mul_one, Int.sub_self, Int.zero_emod]
  have fr : ∀ d j, d < n → (if d = c then true else S d) = true → j < n → 0 ≤ f' d j ∧ f' d j < p := fun d j hd hs hj => by
    by_cases e : d = c
    · subst e; rw [hfc j hj]; exact wr j hj
    · rw [hf d j hd (Sc hs e) hj]; exact mr _
  have fsame : ∀ d j, d < n → S d = true → j < c → f' d j = f d j := fun d j hd hs hj => by
    have := b.re.rng d j hd hs (by omega)
    rw [hf d j hd hs (by omega), wl j hj, Int.zero_mul, Int.add_zero, m0 _ this.1 this.2]
  have fI : ∀ d, d < n → (if d = c then true else S d) = true → InS p n m V (f' d) := fun d hd hs => by
    by_cases e : d = c
    · subst e; exact wI.congr fun j hj => by rw [hfc j hj]
    · refine ((b.fo d hd (Sc hs e)).add (wI.smul (p - f d c))).congr fun j hj => ?_
      rw [hf d j hd (Sc hs e) hj, mm2, Int.mul_comm]
  have gI : ∀ i, i < r - 1 → InS p n m V (g' i) := fun i hi => by
    refine ((b.go _ (gl i hi)).add (wI.smul (p - g (if i < k then i else i + 1) c))).congr fun j hj => ?_
    rw [hg i j hi hj, mm2, Int.mul_comm]
  refine ⟨⟨fr, fun d hd hs => ?_, fun d e hd he hs hse hne => ?_, fun d j hd hs hj => ?_⟩, fun d hd hs => ?_, fun i j hi hj => ?_, fun i j hi hj => ?_, fI, gI, fun a ha => ?_⟩
  · by_cases e : d = c
    · subst e; rw [hfc d hc, wc]
    · have := Sc hs e
      rw [fsame d d hd this (b.low d hd this)]; exact b.re.one d hd this
  · by_cases e1 : d = c
    · have e2 : e ≠ c := by omega
      have := Sc hse e2
      rw [e1, hfc e he, wl e (b.low e he this)]
    · have h1 := Sc hs e1
      by_cases e2 : e = c
      · rw [e2]; exact f0 d hd h1
      · have h2 := Sc hse e2
        rw [fsame d e hd h1 (b.low e he h2)]; exact b.re.zer d e hd he h1 h2 hne
  · by_cases e : d = c
    · rw [e] at hj ⊢; rw [hfc j (by omega), wl j hj]
    · have h1 := Sc hs e
      have := b.low d hd h1
      rw [fsame d j hd h1 (by omega)]; exact b.re.lead d j hd h1 hj
  · by_cases e : d = c
    · omega
    · have := b.low d hd (Sc hs e); omega
  · rw [hg i j hi hj]; exact mr _
  · by_cases e : j = c
    · rw [e, hg i c hi hc, wc, cb_sub, Int.mul_one, Int.sub_self, Int.zero_emod]
    · rw [hg i j hi (by omega), wl j (by omega), Int.zero_mul, Int.add_zero, b.gz _ j (gl i hi) (by omega), Int.zero_emod]
  · -- the old spanning rows are combinations of the new ones
    have rowW : InS p n (n + (r - 1)) (gn n (fun d => if d = c then true else S d) f' g') w :=
      (InS.row (i := c) (by omega)).congr fun j hj => by rw [gn, if_pos hc, gf_yes (by rw [if_pos rfl]), hfc j hj]
    refine (b.inn a ha).trans fun d hd => ?_
    by_cases e : d < n
    · cases hs : S d with
      | false => exact InS.zero.congr fun j _ => by rw [gn, if_pos e, gf_no hs]
      | true =>
        have hdc : d ≠ c := by intro q; rw [q, sc] at hs; cases hs
        refine ((InS.row (V := gn n (fun d => if d = c then true else S d) f' g') (i := d) (by omega)).add (rowW.smul (f d c))).congr fun j hj => ?_
        rw [gn, gn, if_pos e, if_pos e, gf_yes hs, gf_yes (by rw [if_neg hdc]; exact hs), hf d j e hs hj, cb_sub, Int.emod_add_emod, Int.sub_add_cancel]
    · by_cases ek : d - n = k
      · refine (rowW.smul (g k c)).congr fun j hj => ?_
        rw [gn, if_neg e, ek, hw j hj]
        have e2 : (g k c * ((g k j + g k j * (x + p - 1)) % p)) % p = (g k c * (x * g k j)) % p := mul_mod rfl (by rw [mm2, cb_w])
        rw [e2, show g k c * (x * g k j) = (x * g k c) * g k j from by grind, Int.mul_emod, hx, Int.one_mul, mm2]
      · obtain ⟨i, hi⟩ : ∃ i, i = if d - n < k then d - n else d - n - 1 := ⟨_, rfl⟩
        have hi1 : i < r - 1 := by rw [hi]; split <;> omega
        have hi2 : (if i < k then i else i + 1) = d - n := by
          by_cases q : d - n < k
          · rw [if_pos q] at hi; rw [if_pos (by omega)]; exact hi
          · rw [if_neg q] at hi; rw [if_neg (by omega)]; omega
        refine ((InS.row (V := gn n (fun d => if d = c then true else S d) f' g') (i := n + i) (by omega)).add (rowW.smul (g (d - n) c))).congr fun j hj => ?_
        rw [gn, gn, if_neg e, if_neg (by omega), Nat.add_sub_cancel_left, hg i j hi1 hj, hi2, cb_sub, Int.emod_add_emod, Int.sub_add_cancel]
end
end Go.Ay

/- Layer 5: blocks of rows, with three lists that grow: for the reference's basis. -/
namespace Go.Proofs.Ytlhebmcnjgagjaa
open Go Go.Ay
set_option maxRecDepth 100000
abbrev wsl (ρ : Nat → Nat) (κ : Nat → Cap) (n a : Nat) : V := V.sl (ρ a) 0 n (κ a)
structure Bz (b0 h : H) (m n : Nat) (ρ : Nat → Nat) (κ : Nat → Cap) (τ : Nat → List V) (F : Nat → Nat → Int) (ur uo up : V) (ra oa : List Nat) (ps : List Int) : Prop where
  fr : Fr b0 h
  row : ∀ a, a < m → Bt h (ρ a) n (F a) (τ a)
  inj : ∀ a b, a < m → b < m → ρ a = ρ b → a = b
  lo : ∀ a, a < m → b0.next ≤ ρ a
  lt : ∀ a, a < m → ρ a < h.next
  or : Own h ur 1 (ra.map (wsl ρ κ n)) b0.next
  oo : Own h uo 1 (oa.map (wsl ρ κ n)) b0.next
  op : Own h up 1 (ints ps) b0.next
  ar : ∀ a, a < m → Apart ur (ρ a)
  ao : ∀ a, a < m → Apart uo (ρ a)
  ap : ∀ a, a < m → Apart up (ρ a)
  d1 : Dis ur uo
  d2 : Dis ur up
  d3 : Dis uo up
  mr : ∀ a ∈ ra, a < m
  mo : ∀ a ∈ oa, a < m
  kc : ∀ a, a < m → Cap1 (wsl ρ κ n a)
section
variable {b0 h h' : H} {m n : Nat} {ρ : Nat → Nat} {κ : Nat → Cap} {τ : Nat → List V} {F : Nat → Nat → Int} {ur uo up : V} {ra oa : List Nat} {ps : List Int}
theorem dis_apart {v u : V} (d : Dis v u) {id off k : Nat} {c : Cap} (e : v = .sl id off k c) : Apart u id := fun _ _ _ _ e' => d _ _ _ _ e _ _ _ _ e'
theorem dis_symm {v u : V} (d : Dis v u) : Dis u v := fun _ _ _ _ e _ _ _ _ e' => (d _ _ _ _ e' _ _ _ _ e).symm
theorem dis_nils {u : V} : Dis .nils u := fun _ _ _ _ e => by cases e
theorem dis_rnils {u : V} : Dis u .nils := dis_symm dis_nils
theorem own_low {h : H} {v : V} {sz : Nat} {ws : List V} {b : Nat} (o : Own h v sz ws b) {id off k : Nat} {c : Cap} (e : v = .sl id off k c) : b ≤ id ∧ id < h.next := by
  rcases o with ⟨rfl, _⟩ | ⟨id', n', cap, rest, rfl, _, _, h3, h4, _⟩
  · cases e
  · cases e; exact ⟨h3, h4⟩
theorem own_newdis {h : H} {v u : V} {sz sz' : Nat} {ws us : List V} {b : Nat} (o : Own h v sz ws b) (hu : ∀ id off k c, u = .sl id off k c → h.next ≤ id) : Dis u v := fun i _ _ _ e i' _ _ _ e' => by
  have := hu _ _ _ _ e
  have := (own_low o e').2
  omega
theorem Bz.congr {F' : Nat → Nat → Int} (b : Bz b0 h m n ρ κ τ F ur uo up ra oa ps) (e : ∀ a j, a < m → j < n → F a j = F' a j) : Bz b0 h m n ρ κ τ F' ur uo up ra oa ps :=
  { b with row := fun a ha => (b.row a ha).congr fun j hj => e a j ha hj }
theorem Bz.more (b : Bz b0 h m n ρ κ τ F ur uo up ra oa ps) (f : Fr h h') : Bz b0 h' m n ρ κ τ F ur uo up ra oa ps :=
  { b with fr := b.fr.trans f, row := fun a ha => (b.row a ha).fr f (b.lt a ha), lt := fun a ha => Nat.lt_of_lt_of_le (b.lt a ha) f.next, or := b.or.fr f, oo := b.oo.fr f, op := b.op.fr f }
theorem Bz.rowset (b : Bz b0 h m n ρ κ τ F ur uo up ra oa ps) {a : Nat} (ha : a < m) (f : Fx (ρ a) h h') {w : Nat → Int} (hw : Bt h' (ρ a) n w (τ a)) : Bz b0 h' m n ρ κ τ (fun x => if x = a then w else F x) ur uo up ra oa ps :=
  { b with
    fr := Fx.fr b.fr (b.lo a ha) f
    row := fun x hx => by
      by_cases e : x = a
      · simp only [if_pos e]; rw [e]; exact hw
      · simp only [if_neg e]; exact (b.row x hx).fx f (b.lt x hx) fun q => e (b.inj x a hx ha q)
    lt := fun x hx => Nat.lt_of_lt_of_le (b.lt x hx) f.next
    or := b.or.mono f.next fun id off k c e _ hid => f.get id hid fun q => b.ar a ha id off k c e q.symm
    oo := b.oo.mono f.next fun id off k c e _ hid => f.get id hid fun q => b.ao a ha id off k c e q.symm
    op := b.op.mono f.next fun id off k c e _ hid => f.get id hid fun q => b.ap a ha id off k c e q.symm }
theorem wsl_read {ρ : Nat → Nat} {κ : Nat → Cap} {u : V} {l : List Nat} {b : Nat} (o : Own h u 1 (l.map (wsl ρ κ n)) b) : ∃ id off, Sl u 1 l.length id off ∧ ∀ i, i < l.length → h.cell id (off + i) = some (wsl ρ κ n (l.getD i 0)) := by
  obtain ⟨id, off, s, _, hc⟩ := o.sv.shape l.length (by simp) (by omega)
  refine ⟨id, off, s, fun i hi => ?_⟩
  rw [hc i (by simpa using hi), List.getElem?_map, List.getD_eq_getElem?_getD, List.getElem?_eq_getElem hi]
  rfl
theorem Bz.setr (b : Bz b0 h m n ρ κ τ F ur uo up ra oa ps) (f : Fr h h') {ur' : V} {ra' : List Nat} (o : Own h' ur' 1 (ra'.map (wsl ρ κ n)) h.next) (hm : ∀ a ∈ ra', a < m) : Bz b0 h' m n ρ κ τ F ur' uo up ra' oa ps :=
  have lw : ∀ id off k c, ur' = .sl id off k c → h.next ≤ id := fun id off k c e => (own_low o e).1
  { b.more f with
    or := o.le b.fr.next
    ar := fun a ha id off k c e => by have := lw id off k c e; have := b.lt a ha; omega
    d1 := own_newdis (sz' := 1) (us := []) b.oo lw
    d2 := own_newdis (sz' := 1) (us := []) b.op lw
    mr := hm }
/-- A row is appended to the basis. -/
theorem Bz.appo (b : Bz b0 h m n ρ κ τ F ur uo up ra oa ps) {a : Nat} (ha : a < m) {y : V} (hy : SV h y 1 [wsl ρ κ n a]) (hl : oa.length < 100000) :
    ∃ u' h', appP h 1 24 uo y = some (u', h') ∧ Bz b0 h' m n ρ κ τ F ur u' up ra (oa ++ [a]) ps ∧ h.next ≤ h'.next ∧ (∀ k, k < h.next → Apart uo k → h'.get k = h.get k) := by
  obtain ⟨v, h', e, q⟩ := b.oo.app (bytes := 24) (n := oa.length) (m := 1) b.fr.next hy (by simp) rfl (by omega) (by omega)
  have ev := app_at b.oo (n := oa.length) (by simp) (m := 1) (by omega) (by omega) hy rfl e
  have lw : ∀ id off k c, v = .sl id off k c → h.next ≤ id := fun id off k c e => by rw [ev] at e; cases e; omega
  refine ⟨v, h', e, ?_, q.next, q.get⟩
  have o2 := q.own
  exact { b with
    fr := q.fr b0 b.fr (Nat.le_refl _)
    row := fun x hx => by
      have := b.row x hx
      unfold Bt at *
      rw [q.get _ (b.lt x hx) (b.ao x hx)]; exact this
    lt := fun x hx => Nat.lt_of_lt_of_le (b.lt x hx) q.next
    or := b.or.mono q.next fun id off k c e _ hid => q.get id hid (dis_apart b.d1 e)
    oo := by rw [List.map_append]; exact o2
    op := b.op.mono q.next fun id off k c e _ hid => q.get id hid (dis_apart (dis_symm b.d3) e)
    ao := fun x hx id off k c e => by have := lw id off k c e; have := b.lt x hx; omega
    d1 := dis_symm (own_newdis (sz' := 1) (us := []) b.or lw)
    d3 := own_newdis (sz' := 1) (us := []) b.op lw
    mo := fun x hx => by
      rcases List.mem_append.1 hx with h1 | h1
      · exact b.mo x h1
      · rw [List.mem_singleton.1 h1]; exact ha }
/-- A pivot is appended. -/
theorem Bz.appp (b : Bz b0 h m n ρ κ τ F ur uo up ra oa ps) {z : Int} {y : V} (hy : SV h y 1 (ints [z])) (hl : ps.length < 100000) :
    ∃ u' h', appP h 1 8 up y = some (u', h') ∧ Bz b0 h' m n ρ κ τ F ur uo u' ra oa (ps ++ [z]) ∧ h.next ≤ h'.next := by
  obtain ⟨v, h', e, q⟩ := b.op.app (bytes := 8) (n := ps.length) (m := 1) b.fr.next hy (by rw [ints_length, Nat.mul_one]) rfl (by omega) (by omega)
  have ev := app_at b.op (n := ps.length) (by rw [ints_length, Nat.mul_one]) (m := 1) (by omega) (by omega) hy rfl e
  have lw : ∀ id off k c, v = .sl id off k c → h.next ≤ id := fun id off k c e => by rw [ev] at e; cases e; omega
  refine ⟨v, h', e, ?_, q.next⟩
  have o2 := q.own
  exact { b with
    fr := q.fr b0 b.fr (Nat.le_refl _)
    row := fun x hx => by
      have := b.row x hx
      unfold Bt at *
      rw [q.get _ (b.lt x hx) (b.ap x hx)]; exact this
    lt := fun x hx => Nat.lt_of_lt_of_le (b.lt x hx) q.next
    or := b.or.mono q.next fun id off k c e _ hid => q.get id hid (dis_apart b.d2 e)
    oo := b.oo.mono q.next fun id off k c e _ hid => q.get id hid (dis_apart b.d3 e)
    op := by rw [ints_append]; exact o2
    ap := fun x hx id off k c e => by have := lw id off k c e; have := b.lt x hx; omega
    d2 := dis_symm (own_newdis (sz' := 1) (us := []) b.or lw)
    d3 := dis_symm (own_newdis (sz' := 1) (us := []) b.oo lw) }
theorem Bz.start (h : H) (n : Nat) (ρ : Nat → Nat) (κ : Nat → Cap) (τ : Nat → List V) (F : Nat → Nat → Int) : Bz h h 0 n ρ κ τ F .nils .nils .nils (List.range 0) [] [] where
  fr := Fr.refl _
  row := fun a ha => absurd ha (Nat.not_lt_zero a)
  inj := fun a _ ha => absurd ha (Nat.not_lt_zero a)
  lo := fun a ha => absurd ha (Nat.not_lt_zero a)
  lt := fun a ha => absurd ha (Nat.not_lt_zero a)
  or := Own.nils _ _ _
  oo := Own.nils _ _ _
  op := Own.nils _ _ _
  ar := fun _ _ => Apart.nils _
  ao := fun _ _ => Apart.nils _
  ap := fun _ _ => Apart.nils _
  d1 := dis_nils
  d2 := dis_nils
  d3 := dis_nils
  mr := fun a ha => by simp at ha
  mo := fun a ha => by simp at ha
  kc := fun a ha => absurd ha (Nat.not_lt_zero a)
/-- A row comes in, at first. -/
theorem Bz.appr (b : Bz b0 h m n ρ κ τ F ur .nils .nils (List.range m) [] []) {id : Nat} {cap : Cap} {rest : List V} {y : V} (hy : SV h y 1 [V.sl id 0 n cap]) (h1 : b0.next ≤ id) (h2 : id < h.next) (h3 : ∀ j, j < m → ρ j ≠ id) (h4 : Apart ur id) (h5 : Bt h id n (F m) rest) (h6 : Cap1 (.sl id 0 n cap)) (hl : m < 100000) :
    ∃ u' h', appP h 1 24 ur y = some (u', h') ∧ Bz b0 h' (m + 1) n (upN ρ m id) (upN κ m cap) (upN τ m rest) F u' .nils .nils (List.range (m + 1)) [] [] := by
  obtain ⟨v, h', e, q⟩ := b.or.app (bytes := 24) (n := m) (m := 1) b.fr.next hy (by simp) rfl (by omega) (by omega)
  have ev := app_at b.or (n := m) (by simp) (m := 1) (by omega) (by omega) hy rfl e
  have lw : ∀ id off k c, v = .sl id off k c → h.next ≤ id := fun id off k c e => by rw [ev] at e; cases e; omega
  have o2 := q.own
  have eold : ∀ x, x < m → upN ρ m id x = ρ x := fun x hx => by simp only [upN]; rw [if_neg (by omega)]
  have enew : upN ρ m id m = id := by simp only [upN, if_true]
  have hmap : (List.range (m + 1)).map (wsl (upN ρ m id) (upN κ m cap) n) = (List.range m).map (wsl ρ κ n) ++ [V.sl id 0 n cap] := by
    rw [List.range_succ, List.map_append]
    congr 1
    · refine List.map_congr_left fun x hx => ?_
      have := List.mem_range.1 hx
      simp only [wsl, upN]
      rw [if_neg (by omega), if_neg (by omega)]
    · simp [wsl, upN]
  refine ⟨v, h', e, q.fr b0 b.fr (Nat.le_refl _), fun x hx => ?_, fun x y hx hy e => ?_, fun x hx => ?_, fun x hx => ?_, by rw [hmap]; exact o2, Own.nils _ _ _, Own.nils _ _ _, fun x hx => ?_, fun x hx => Apart.nils _, fun x hx => Apart.nils _, dis_rnils, dis_rnils, dis_nils, fun x hx => List.mem_range.1 hx, fun x hx => (by cases hx), fun x hx => ?_⟩
  · by_cases e : x = m
    · subst e
      simp only [upN, if_true]
      unfold Bt at *
      rw [q.get _ h2 h4]; exact h5
    · have := b.row x (by omega)
      unfold Bt at *
      simp only [upN, if_neg e]
      rw [q.get _ (b.lt x (by omega)) (b.ar x (by omega))]; exact this
  · by_cases e1 : x = m
    · by_cases e2 : y = m
      · omega
      · rw [e1, enew, eold y (by omega)] at e
        exact absurd e.symm (h3 y (by omega))
    · by_cases e2 : y = m
      · rw [e2, enew, eold x (by omega)] at e
        exact absurd e (h3 x (by omega))
      · rw [eold x (by omega), eold y (by omega)] at e
        exact b.inj x y (by omega) (by omega) e
  · by_cases e : x = m
    · rw [e, enew]; exact h1
    · rw [eold x (by omega)]; exact b.lo x (by omega)
  · by_cases e : x = m
    · rw [e, enew]; exact Nat.lt_of_lt_of_le h2 q.next
    · rw [eold x (by omega)]; exact Nat.lt_of_lt_of_le (b.lt x (by omega)) q.next
  · intro i off k c e2
    have := lw i off k c e2
    by_cases e : x = m
    · rw [e, enew]; omega
    · rw [eold x (by omega)]; have := b.lt x (by omega); omega
  · by_cases e : x = m
    · subst e
      simp only [wsl, upN, if_true]; exact h6
    · have := b.kc x (by omega)
      simp only [wsl, upN, if_neg e] at this ⊢; exact this
end
end Go.Proofs.Ytlhebmcnjgagjaa

/- Layer 5: the reference's basis, column by column. -/
namespace Go.Proofs.Ytlhebmcnjgagjaa
open Go Go.Ay
set_option maxRecDepth 100000
theorem own_cut {h : H} {u : V} {ws : List V} {b : Nat} (o : Own h u 1 ws b) {k : Nat} (hk : k < ws.length) :
    ∃ a c, slcV 1 u none (some (.int .i64 (k : Int))) none = some a ∧ SV h a 1 (ws.take k) ∧ slcV 1 u (some (.int .i64 ((k : Int) + 1))) none none = some c ∧ SV h c 1 (ws.drop (k + 1)) := by
  rcases o with ⟨_, e⟩ | ⟨id, n, cap, rest, rfl, h1, h2, h3, h4, h5⟩
  · rw [e] at hk; simp at hk
  · rw [Nat.mul_one] at h1
    subst h1
    have hs1 : ∀ cap', SV h (.sl id 0 k cap') 1 (ws.take k) := fun cap' => .inr ⟨id, 0, k, cap', false, ws ++ rest, rfl, by rw [List.length_take]; omega, h4, h5, by rw [List.length_append]; omega, by rw [List.drop_zero, Nat.mul_one, List.take_append_of_le_length (by omega)]⟩
    have hs2 : ∀ cap' off', (k + 1 < ws.length → off' = k + 1) → off' ≤ ws.length → SV h (.sl id off' (ws.length - (k + 1)) cap') 1 (ws.drop (k + 1)) := fun cap' off' ho hle => .inr ⟨id, off', ws.length - (k + 1), cap', false, ws ++ rest, rfl, by rw [List.length_drop]; omega, h4, h5, by
      rw [List.length_append]
      by_cases e : k + 1 < ws.length
      · have := ho e; omega
      · omega, by
      by_cases e : k + 1 < ws.length
      · rw [ho e, List.drop_append_of_le_length (by omega), Nat.mul_one, List.take_append_of_le_length (by rw [List.length_drop]; omega), ← List.length_drop, List.take_length]
      · rw [show ws.length - (k + 1) = 0 by omega, Nat.zero_mul, List.take_zero, List.drop_eq_nil_of_le (by omega)]⟩
    rcases h2 with rfl | ⟨rfl, rfl⟩
    · refine ⟨_, .sl id (if k + 1 < ws.length then k + 1 else 0) (ws.length - (k + 1)) (.un 1), slc_un (by omega) (by omega), by rw [Int.toNat_natCast]; exact hs1 _, ?_, ?_⟩
      · simp only [slcV, bndV]
        rw [if_pos ⟨by omega, by omega⟩]
        simp only [if_true]
        by_cases e : k + 1 < ws.length
        · rw [if_pos (by omega), if_pos e]
          simp only [Option.some.injEq, V.sl.injEq, true_and, and_true]
          omega
        · rw [if_neg (by omega), if_neg e, show ws.length - (k + 1) = 0 by omega]
      · exact hs2 _ _ (fun e => if_pos e) (by split <;> omega)
    · refine ⟨_, .sl id (if ws.length = k + 1 then 0 else k + 1) (ws.length - (k + 1)) (.kn (ws.length - (k + 1))), slc_kn (by omega) (by omega), by rw [Int.toNat_natCast]; exact hs1 _, ?_, ?_⟩
      · simp only [slcV, bndV]
        rw [if_pos ⟨by omega, by omega⟩]
        simp only
        rw [show ((k : Int) + 1).toNat = k + 1 by omega, if_pos (by omega)]
        simp only [Nat.zero_add, Nat.mul_one]
      · exact hs2 _ _ (fun e => if_neg (by omega)) (by split <;> omega)
theorem mem_take_succ {l : List Nat} {i : Nat} (hi : i < l.length) {x : Nat} : x ∈ l.take (i + 1) ↔ x ∈ l.take i ∨ x = l.getD i 0 := by
  rw [List.take_add_one, List.getElem?_eq_getElem hi, List.mem_append, List.getD_eq_getElem?_getD, List.getElem?_eq_getElem hi]
  simp
theorem nodup_at {l : List Nat} (hl : l.Nodup) {i : Nat} (hi : i < l.length) : l.getD i 0 ∉ l.take i := by
  intro h
  obtain ⟨j, hj, e⟩ := List.mem_iff_getElem.1 h
  rw [List.length_take] at hj
  rw [List.getElem_take, List.getD_eq_getElem?_getD, List.getElem?_eq_getElem hi, Option.getD_some] at e
  exact (List.pairwise_iff_getElem.1 hl) j i (by omega) hi (by omega) e
/-- Rows that may be cut. -/
def SRc (h : H) (u : V) (ll : List (List Int)) (lo : Nat) : Prop := ∃ ws, SV h u 1 ws ∧ All2 (SI h) ws ll ∧ Frs u lo ∧ (∀ w ∈ ws, Frs w lo) ∧ ∀ w ∈ ws, Cap1 w
theorem SRc.srf {h : H} {u : V} {ll : List (List Int)} {lo : Nat} (s : SRc h u ll lo) : SRf h u ll lo := by
  obtain ⟨ws, a, b, c, d, _⟩ := s
  exact ⟨ws, a, b, c, d⟩
theorem getD_mem {l : List Nat} {i : Nat} (hi : i < l.length) : l.getD i 0 ∈ l := by
  rw [List.getD_eq_getElem?_getD, List.getElem?_eq_getElem hi]
  exact List.getElem_mem _
end Go.Proofs.Ytlhebmcnjgagjaa

/- Layer 5: the reference's basis, column by column: the walk. -/
namespace Go.Proofs.Ytlhebmcnjgagjaa
open Go Go.Ay
set_option maxRecDepth 100000
theorem filt_succ {c : Nat} {S : Nat → Bool} : (List.range (c + 1)).filter S = (List.range c).filter S ++ (if S c then [c] else []) := by
  rw [List.range_succ, List.filter_append]
  congr 1
  cases h : S c <;> simp [List.filter, h]
set_option maxHeartbeats 32000000 in
theorem ref_basis_ok (p : Int) (n : Nat) (v : V) (ll : List (List Int)) (h : H) (hv : SR h v ll) (hl : ll.length < 100000) (hw : ∀ i, i < ll.length → (ll.getD i []).length = n) (hn1 : 1 ≤ n) (hn2 : n ≤ 1000) (hp : isP p = true) (hp2 : p < 10000) :
    Ev T n_ref05_basis [.int .i64 p, .int .i64 (n : Int), v] h (fun w h' => ∃ u z S f k, w = .tup [u, z] ∧ Sp p n n (vw ll) ll.length S f k ∧ SRc h' u (rwF n n S f) h.next ∧ SI h' z (((List.range n).filter S).map fun d : Nat => (d : Int)) ∧ (Frs z h.next ∧ k ≤ ll.length) ∧ Fr h h') := by
  have hp1 := isP_gt hp
  refine Ev_of t_ref05_basis rfl ?_
  obtain ⟨idv, offv, wsv, slv, hidv, hwlv, hcv, hallv⟩ := hv.open
  have lv := hv.lens
  simp (disch := first | omega | (simp only [Qn] <;> omega)) only [go_sem, c_ref05_basis, initV_eq]
  refine Wp_loop (fun k' vars hh => ∃ (i : Nat) (ρ : Nat → Nat) (κ : Nat → Cap) (τ : Nat → List V) (u : V), (∃ g : Nat → V, vars = [.int .i64 p, .int .i64 (n : Int), v, g 3, g 4, u, .nils, .nils, .int .i64 (i : Int), g 9, g 10, g 11, g 12, g 13, g 14, g 15, g 16, g 17, g 18, g 19, g 20]) ∧ i ≤ ll.length ∧ Bz h hh i n ρ κ τ (fun a j => vw ll a j % p) u .nils .nils (List.range i) [] [] ∧ k' = ll.length - i) ll.length
    ⟨0, fun _ => 0, fun _ => .un 1, fun _ => [], .nils, ex_junk rfl, Nat.zero_le _, Bz.start h n _ _ _ _, rfl⟩ ?_
  rintro k' vars hh ⟨i, ρ, κ, τ, u, ⟨jk, rfl⟩, hi, b, rfl⟩
  simp (disch := first | omega | (simp only [Qn] <;> omega)) only [go_sem, lv]
  by_cases hlt : (i : Int) < (ll.length : Int)
  · rw [decide_eq_true hlt]
    have hi' : i < ll.length := by omega
    have ci : hh.cell idv (offv + i) = some (wsv.getD i .undef) := by rw [b.fr.cell (hidv (by omega))]; exact hcv i hi'
    simp (disch := first | omega | (simp only [Qn] <;> omega)) only [go_sem, slv.ixa, ci]
    refine (ref_residues_ok p _ (ll.getD i []) hh ((row_at hallv hi').mono b.fr) (by rw [hw i hi']; omega) ⟨by omega, hp2⟩).mono ?_
    rintro w h2 ⟨o, f2⟩
    rw [hw i hi'] at o
    obtain ⟨id, cap, rest, rfl, i1, i2, i3⟩ := own_open o (by rw [mkV_len]; omega)
    rw [mkV_len]
    have b2 := b.more f2
    have f3 : Fr h2 (h2.new (.cells false [V.sl id 0 n cap])) := (Fr.refl h2).new _
    have b3 := b2.more f3
    have hy : SV (h2.new (.cells false [V.sl id 0 n cap])) (.sl h2.next 0 1 (.kn 1)) 1 [V.sl id 0 n cap] := SV.all rfl (by rw [H.next_new]; omega) (H.get_new_same ..) _
    have bt : Bt (h2.new (.cells false [V.sl id 0 n cap])) id n (fun j => vw ll i j % p) rest := Bt.fr i3 f3 i2
    obtain ⟨u', h4, e4, b4⟩ := b3.appr hy (by have := b.fr.next; omega) (by rw [H.next_new]; omega) (fun j hj => by have := b.lt j hj; omega) (fun id' _ _ _ e => by have := own_low b.or e; omega) bt (by have q := own_cap o; rw [mkV_len] at q; exact q) (by omega)
    simp (disch := first | omega | (simp only [Qn] <;> omega)) only [go_sem, bls_row h2 (v := V.sl id 0 n cap) rfl rfl, e4]
    rw [show (i : Int) + 1 = ((i + 1 : Nat) : Int) from by omega]
    exact ⟨ll.length - (i + 1), by omega, i + 1, _, _, _, u', ex_junk rfl, by omega, b4, rfl⟩
  rw [decide_eq_false hlt]
  obtain ⟨m, hm⟩ : ∃ m, ll.length = m := ⟨_, rfl⟩
  obtain rfl : i = m := by omega
  rw [hm]
  clear lv slv hcv hallv hidv hwlv hlt hi
  simp (disch := first | omega | (simp only [Qn] <;> omega)) only [go_sem]
  refine Wp_loop (fun k' vars hh => ∃ (c : Nat) (F : Nat → Nat → Int) (ur uo up : V) (ra : List Nat) (π : Nat → Nat) (S : Nat → Bool), (∃ g : Nat → V, vars = [.int .i64 p, .int .i64 (n : Int), g 2, g 3, g 4, ur, uo, up, g 8, .int .i64 (c : Int), g 10, g 11, g 12, g 13, g 14, g 15, g 16, g 17, g 18, g 19, g 20]) ∧ c ≤ n ∧ Bz h hh i n ρ κ τ F ur uo up ra (((List.range c).filter S).map π) (((List.range c).filter S).map fun d : Nat => (d : Int)) ∧ Cb p n i (vw ll) c S (fun d => F (π d)) ra.length (fun a => F (ra.getD a 0)) ∧ ((List.range c).filter S).length + ra.length ≤ i ∧ ra.Nodup ∧ (∀ d, d < n → S d = true → π d < i ∧ π d ∉ ra) ∧ (∀ d e, d < n → e < n → S d = true → S e = true → π d = π e → d = e) ∧ k' = n - c) n
    ⟨0, _, u, .nils, .nils, List.range i, fun _ => 0, fun _ => false, ex_junk rfl, Nat.zero_le _, b, ?_, by simp, List.nodup_range, fun _ _ h => by simp at h, fun _ _ _ _ h => by simp at h, rfl⟩ ?_
  · have e := Cb.start (show (0 : Int) < p by omega) n i (vw ll) (fun d j => vw ll 0 j % p)
    rw [List.length_range]
    exact { e with
      rg := fun a j ha hj => by rw [List.getD_eq_getElem?_getD, List.getElem?_range ha]; exact e.rg a j ha hj
      gz := fun a j ha hj => by omega
      go := fun a ha => by rw [List.getD_eq_getElem?_getD, List.getElem?_range ha]; exact e.go a ha
      inn := fun a ha => (e.inn a ha).rows fun d j hd hj => by
        simp only [gn]
        by_cases q : d < n
        · rw [if_pos q, if_pos q]
        · rw [if_neg q, if_neg q, List.getD_eq_getElem?_getD, List.getElem?_range (by omega)]; rfl }
  clear b jk
  rintro k' vars hh ⟨c, F, ur, uo, up, ra, π, S, ⟨jk, rfl⟩, hc, b, cb, hra, nd, hπ, hinj, rfl⟩
  simp (disch := first | omega | (simp only [Qn] <;> omega)) only [go_sem]
  by_cases hcn : (c : Int) < (n : Int)
  · rw [decide_eq_true hcn]
    have hc' : c < n := by omega
    obtain ⟨idr, offr, slr, hcr⟩ := wsl_read b.or
    simp (disch := first | omega | (simp only [Qn] <;> omega)) only [go_sem]
    refine Wp_loop (fun k' vars h4 => h4 = hh ∧ ∃ k : Nat, (∃ g : Nat → V, vars = [.int .i64 p, .int .i64 (n : Int), g 2, g 3, g 4, ur, uo, up, g 8, .int .i64 (c : Int), .int .i64 (k : Int), g 11, g 12, g 13, g 14, g 15, g 16, g 17, g 18, g 19, g 20]) ∧ k ≤ ra.length ∧ (∀ a, a < k → F (ra.getD a 0) c = 0) ∧ k' = ra.length - k) ra.length
      ⟨rfl, 0, ex_junk rfl, Nat.zero_le _, fun a ha => by omega, rfl⟩ ?_
    rintro k' vars h4 ⟨rfl, k, ⟨g, rfl⟩, hk, hz, rfl⟩
    simp (disch := first | omega | (simp only [Qn] <;> omega)) only [go_sem, slr.lens]
    by_cases hkr : (k : Int) < (ra.length : Int)
    · rw [decide_eq_true hkr]
      have hk' : k < ra.length := by omega
      have ck := hcr k hk'
      simp only [wsl] at ck
      have mk := b.mr _ (getD_mem hk')
      have cr := (b.row _ mk).cell hc'
      simp (disch := first | omega | (simp only [Qn] <;> omega)) only [go_sem, slr.ixa, ck, cr]
      by_cases hB : F (ra.getD k 0) c = 0
      · rw [decide_eq_true hB]
        simp (disch := first | omega | (simp only [Qn] <;> omega)) only [go_sem]
        rw [show (k : Int) + 1 = ((k + 1 : Nat) : Int) from by omega]
        refine ⟨ra.length - (k + 1), by omega, k + 1, ex_junk rfl, by omega, fun a ha => ?_, rfl⟩
        by_cases e : a = k
        · rw [e]; exact hB
        · exact hz a (by omega)
      rw [decide_eq_false hB]
      simp (disch := first | omega | (simp only [Qn] <;> omega)) only [go_sem, slr.lens]
      rw [decide_eq_false (show ¬ (k : Int) = (ra.length : Int) by omega)]
      obtain ⟨va, vc, ea, sa, ec, sc⟩ := own_cut b.or (k := k) (by simpa using hk')
      have ebl : ∀ hx : H, blsV hx 1 [.nils] 0 [] = some (.sl hx.next 0 0 (.kn 0), hx.new (.cells false [])) := fun _ => rfl
      obtain ⟨bb, hbb⟩ : ∃ bb, ra.getD k 0 = bb := ⟨_, rfl⟩
      have fB := litV_fr (Fr.refl h4) (a := h4.next) (m := h4.next + 11) (by omega) (by omega) []
      have oB : Own (litV h4 h4.next [] (h4.next + 11)) (.sl h4.next 0 0 (.kn 0)) 1 [] h4.next := .inr ⟨h4.next, 0, _, [], rfl, rfl, .inr ⟨rfl, rfl⟩, Nat.le_refl _, by rw [litV_next]; omega, litV_get ..⟩
      obtain ⟨u1, h5, e5, a5⟩ := oB.app (bytes := 24) (n := 0) (m := k) (by rw [litV_next]; omega) (SV.mono sa fB) rfl (by rw [List.length_take, List.length_map]; omega) (by omega) (by omega)
      have f5 := a5.fr h4 fB (Nat.le_refl _)
      have o5 := a5.own
      obtain ⟨u2, h6, e6, a6⟩ := o5.app (bytes := 24) (n := k) (m := ra.length - (k + 1)) f5.next (SV.mono sc f5) (by simp; omega) (by rw [List.length_drop, List.length_map]; omega) (by omega) (by omega)
      have f6 := a6.fr h4 f5 (Nat.le_refl _)
      have o6 := a6.own
      obtain ⟨ra', hra'⟩ : ∃ l, ra.take k ++ ra.drop (k + 1) = l := ⟨_, rfl⟩
      have e6' : [] ++ (List.map (wsl ρ κ n) ra).take k ++ (List.map (wsl ρ κ n) ra).drop (k + 1) = ra'.map (wsl ρ κ n) := by rw [← hra', List.map_append, List.map_take, List.map_drop, List.nil_append]
      rw [e6'] at o6
      have hr1 : ra'.length = ra.length - 1 := by rw [← hra', List.length_append, List.length_take, List.length_drop]; omega
      have hrg : ∀ a, a < ra'.length → ra'.getD a 0 = ra.getD (if a < k then a else a + 1) 0 := fun a ha => by
        rw [← hra', List.getD_eq_getElem?_getD, List.getD_eq_getElem?_getD, List.getElem?_append, List.length_take, Nat.min_eq_left (by omega)]
        split
        · rw [List.getElem?_take_of_lt (by omega)]
        · rw [List.getElem?_drop]; congr 2; omega
      have hrm : ∀ a ∈ ra', a ∈ ra := fun a ha => by
        rw [← hra'] at ha
        rcases List.mem_append.1 ha with h1 | h1
        · exact List.mem_of_mem_take h1
        · exact List.mem_of_mem_drop h1
      have hsp : ra.Nodup → ra'.Nodup ∧ bb ∉ ra' := fun nd => by
        have e : ra = ra.take k ++ bb :: ra.drop (k + 1) := by
          rw [← hbb, List.getD_eq_getElem?_getD, List.getElem?_eq_getElem hk', Option.getD_some, ← List.drop_eq_getElem_cons hk', List.take_append_drop]
        rw [e] at nd
        have q := List.nodup_append.1 nd
        have q2 := List.nodup_cons.1 q.2.1
        rw [← hra']
        refine ⟨List.nodup_append.2 ⟨q.1, q2.2, fun a ha b hb => q.2.2 a ha b (List.mem_cons_of_mem _ hb)⟩, fun hm => ?_⟩
        rcases List.mem_append.1 hm with h1 | h1
        · exact q.2.2 bb h1 bb (List.mem_cons_self ..) rfl
        · exact q2.1 h1
      obtain ⟨nd', hbn⟩ := hsp nd
      have b6 := b.setr f6 o6 fun a ha => b.mr a (hrm a ha)
      rw [hbb] at ck mk cr hB
      have hbg : F (ra.getD k 0) = F bb := by rw [hbb]
      have c6 := (b6.row bb mk).cell hc'
      have rB := cb.rg k c hk' hc'
      simp only [hbb] at rB
      simp (disch := first | omega | (simp only [Qn] <;> omega)) only [go_sem, slr.ixa, ck, ea, ec, ebl, litV_eq, e5, e6, hbb, c6]
      refine (ref_inv_ok (F bb c) p h6 hp hp2 (by omega)).mono ?_
      rintro w h7 ⟨x, rfl, x1, x2, x3, rfl⟩
      simp (disch := first | omega | (simp only [Qn] <;> omega)) only [go_sem, List.getElem?_cons_zero, List.getElem?_cons_succ]
      have rF : ∀ a j, a ∈ ra → j < n → 0 ≤ F a j ∧ F a j < p := fun a j ha hj => by
        obtain ⟨q, hq, e⟩ := List.mem_iff_getElem.1 ha
        have := cb.rg q j hq hj
        rw [List.getD_eq_getElem?_getD, List.getElem?_eq_getElem hq, Option.getD_some, e] at this
        exact this
      have rb : ∀ j, j < n → 0 ≤ F bb j ∧ F bb j < p := fun j hj => rF bb j (by rw [← hbb]; exact getD_mem hk') hj
      refine (ref_add_ok p (x + p - 1) (ρ bb) n (ρ bb) 0 (κ bb) (.sl (ρ bb) 0 n (κ bb)) (F bb) (F bb) (τ bb) h7 (b6.row bb mk) (b6.lt bb mk) (sl1 ..) (fun _ => b6.lt bb mk) (fun j hj => by rw [Nat.zero_add]; exact (b6.row bb mk).cell hj) (.inr rfl) (by omega) ⟨by omega, hp2⟩ ⟨by omega, by omega⟩ (fun j hj => by have := rb j hj; omega) (fun j hj => by have := rb j hj; omega)).mono ?_
      rintro w h8 ⟨bt8, fx8⟩
      have b8 := b6.rowset mk fx8 bt8
      obtain ⟨w1, hw1⟩ : ∃ w1 : Nat → Int, (fun j => (F bb j + F bb j * (x + p - 1)) % p) = w1 := ⟨_, rfl⟩
      rw [hw1] at b8
      have rw1 : ∀ j, j < n → 0 ≤ w1 j ∧ w1 j < p := fun j hj => by rw [← hw1]; exact tmod_range _ (by omega)
      obtain ⟨F1, hF1⟩ : ∃ F1 : Nat → Nat → Int, (fun a => if a = bb then w1 else F a) = F1 := ⟨_, rfl⟩
      rw [hF1] at b8
      have F1b : F1 bb = w1 := by rw [← hF1]; exact if_pos rfl
      have F1n : ∀ a, a ≠ bb → F1 a = F a := fun a ha => by rw [← hF1]; exact if_neg ha
      obtain ⟨nw, hnw⟩ : ∃ nw : Nat → Nat → Int, (fun a j => (F1 a j + w1 j * (p - F1 a c)) % p) = nw := ⟨_, rfl⟩
      simp (disch := first | omega | (simp only [Qn] <;> omega)) only [go_sem]
      refine Wp_loop (fun k' vars hh => ∃ (s : Nat), (∃ g : Nat → V, vars = [.int .i64 p, .int .i64 (n : Int), g 2, g 3, g 4, u2, uo, up, g 8, .int .i64 (c : Int), g 10, .sl (ρ bb) 0 n (κ bb), g 12, .int .i64 (s : Int), g 14, g 15, g 16, g 17, g 18, g 19, g 20]) ∧ s ≤ ra'.length ∧ Bz h hh i n ρ κ τ (fun a => if a ∈ ra'.take s then nw a else F1 a) u2 uo up ra' (((List.range c).filter S).map π) (((List.range c).filter S).map fun d : Nat => (d : Int)) ∧ k' = ra'.length - s) ra'.length
        ⟨0, ex_junk rfl, Nat.zero_le _, b8.congr fun a j _ _ => by simp, rfl⟩ ?_
      clear b8 bt8 fx8 b6 c6 f6 o6 a6 e6 f5 o5 a5 e5 oB fB ck ea ec sa sc hcr slr b g ebl
      rintro k' vars h9 ⟨s, ⟨g, rfl⟩, hs, b, rfl⟩
      obtain ⟨idr, offr, slr, hcr⟩ := wsl_read b.or
      simp (disch := first | omega | (simp only [Qn] <;> omega)) only [go_sem, slr.lens]
      by_cases hsr : (s : Int) < (ra'.length : Int)
      · rw [decide_eq_true hsr]
        have hs' : s < ra'.length := by omega
        obtain ⟨a, ha⟩ : ∃ a, ra'.getD s 0 = a := ⟨_, rfl⟩
        have cs := hcr s hs'
        simp only [wsl] at cs
        rw [ha] at cs
        have ain : a ∈ ra' := by rw [← ha]; exact getD_mem hs'
        have anb : a ≠ bb := fun e => hbn (e ▸ ain)
        have ma := b.mr a ain
        have hna : a ∉ ra'.take s := by rw [← ha]; exact nodup_at nd' hs'
        have hnb : bb ∉ ra'.take s := fun q => hbn (List.mem_of_mem_take q)
        have fb : Fr h9 (H.mk h9.tr (h9.next + 16)) := (Fr.refl h9).bump (by omega)
        have b10 := b.more fb
        have rowa := b10.row a ma
        have rowb := b10.row bb mk
        simp only [if_neg hna] at rowa
        simp only [if_neg hnb, F1b] at rowb
        have ca := rowa.cell hc'
        have ca' : h9.cell (ρ a) c = some (.int .i64 (F1 a c)) := ca
        have rFa : ∀ j, j < n → 0 ≤ F1 a j ∧ F1 a j < p := fun j hj => by rw [F1n a anb]; exact rF a j (hrm a ain) hj
        have rac := rFa c hc'
        simp (disch := first | omega | (simp only [Qn] <;> omega)) only [go_sem, slr.ixa, cs, ca, ca']
        refine (ref_add_ok p (p - F1 a c) (ρ a) n (ρ bb) 0 (κ a) (.sl (ρ bb) 0 n (κ bb)) (F1 a) w1 (τ a) _ rowa (b10.lt a ma) (sl1 ..) (fun _ => b10.lt bb mk) (fun j hj => by rw [Nat.zero_add]; exact rowb.cell hj) (.inr rfl) (by omega) ⟨by omega, hp2⟩ ⟨by omega, by omega⟩ (fun j hj => by have := rFa j hj; omega) (fun j hj => by have := rw1 j hj; omega)).mono ?_
        rintro w h11 ⟨bt, fx⟩
        have b11 := b10.rowset ma fx bt
        simp (disch := first | omega | (simp only [Qn] <;> omega)) only [go_sem]
        rw [show (s : Int) + 1 = ((s + 1 : Nat) : Int) from by omega]
        refine ⟨ra'.length - (s + 1), by omega, s + 1, ex_junk rfl, by omega, b11.congr fun y j hy hj => ?_, rfl⟩
        by_cases e : y = a
        · rw [if_pos e, if_pos ((mem_take_succ hs').2 (.inr (by rw [ha]; exact e))), e, ← hnw]
        · rw [if_neg e]
          by_cases e2 : y ∈ ra'.take s
          · rw [if_pos e2, if_pos ((mem_take_succ hs').2 (.inl e2))]
          · rw [if_neg e2, if_neg fun q => by
              rcases (mem_take_succ hs').1 q with q | q
              · exact e2 q
              · exact e (by rw [← ha]; exact q)]
      rw [decide_eq_false hsr]
      obtain rfl : s = ra'.length := by omega
      rw [List.take_length] at b
      obtain ⟨F2, hF2⟩ : ∃ F2 : Nat → Nat → Int, (fun a => if a ∈ ra' then nw a else F1 a) = F2 := ⟨_, rfl⟩
      rw [hF2] at b
      have F2n : ∀ a, a ∉ ra' → F2 a = F1 a := fun a ha => by rw [← hF2]; exact if_neg ha
      have F2y : ∀ a, a ∈ ra' → F2 a = nw a := fun a ha => by rw [← hF2]; exact if_pos ha
      obtain ⟨oa, hoa⟩ : ∃ oa, ((List.range c).filter S).map π = oa := ⟨_, rfl⟩
      have oam : ∀ a ∈ oa, ∃ d, d < c ∧ S d = true ∧ π d = a := fun a ha => by
        rw [← hoa] at ha
        obtain ⟨d, hd, e⟩ := List.mem_map.1 ha
        have := List.mem_filter.1 hd
        exact ⟨d, List.mem_range.1 this.1, this.2, e⟩
      have oar : ∀ a ∈ oa, a ∉ ra' ∧ a ≠ bb := fun a ha => by
        obtain ⟨d, h1, h2, rfl⟩ := oam a ha
        have := (hπ d (by omega) h2).2
        exact ⟨fun q => this (hrm _ q), fun q => this (by rw [q, ← hbb]; exact getD_mem hk')⟩
      have oal : oa.length ≤ c := by rw [← hoa, List.length_map]; exact Nat.le_trans (List.length_filter_le _ _) (by rw [List.length_range]; omega)
      have ond : oa.Nodup := by
        rw [← hoa]
        refine List.pairwise_map.2 ((List.nodup_range.sublist List.filter_sublist).imp_of_mem fun {d e} hd he hne => ?_)
        intro q
        have h1 := List.mem_filter.1 hd
        have h2 := List.mem_filter.1 he
        have l1 := List.mem_range.1 h1.1
        have l2 := List.mem_range.1 h2.1
        exact hne (hinj d e (by omega) (by omega) h1.2 h2.2 q)
      have rO : ∀ a j, a ∈ oa → j < n → 0 ≤ F a j ∧ F a j < p := fun a j ha hj => by
        obtain ⟨d, h1, h2, rfl⟩ := oam a ha
        exact cb.re.rng d j (by omega) h2 hj
      obtain ⟨no, hno⟩ : ∃ no : Nat → Nat → Int, (fun a j => (F a j + w1 j * (p - F a c)) % p) = no := ⟨_, rfl⟩
      rw [hoa] at b
      simp (disch := first | omega | (simp only [Qn] <;> omega)) only [go_sem]
      refine Wp_loop (fun k' vars hh => ∃ (s : Nat), (∃ g : Nat → V, vars = [.int .i64 p, .int .i64 (n : Int), g 2, g 3, g 4, u2, uo, up, g 8, .int .i64 (c : Int), g 10, .sl (ρ bb) 0 n (κ bb), g 12, g 13, .int .i64 (s : Int), g 15, g 16, g 17, g 18, g 19, g 20]) ∧ s ≤ oa.length ∧ Bz h hh i n ρ κ τ (fun a => if a ∈ oa.take s then no a else F2 a) u2 uo up ra' oa (((List.range c).filter S).map fun d : Nat => (d : Int)) ∧ k' = oa.length - s) oa.length
        ⟨0, ex_junk rfl, Nat.zero_le _, b.congr fun a j _ _ => by simp, rfl⟩ ?_
      clear b g slr hcr
      rintro k' vars h9 ⟨s, ⟨g, rfl⟩, hs, b, rfl⟩
      obtain ⟨ido, offo, slo, hco⟩ := wsl_read b.oo
      simp (disch := first | omega | (simp only [Qn] <;> omega)) only [go_sem, slo.lens]
      by_cases hsr : (s : Int) < (oa.length : Int)
      · rw [decide_eq_true hsr]
        have hs' : s < oa.length := by omega
        obtain ⟨a, ha⟩ : ∃ a, oa.getD s 0 = a := ⟨_, rfl⟩
        have cs := hco s hs'
        simp only [wsl] at cs
        rw [ha] at cs
        have ain : a ∈ oa := by rw [← ha]; exact getD_mem hs'
        have anb := (oar a ain).2
        have ma := b.mo a ain
        have hna : a ∉ oa.take s := by rw [← ha]; exact nodup_at ond hs'
        have hnb : bb ∉ oa.take s := fun q => (oar bb (List.mem_of_mem_take q)).2 rfl
        have fb : Fr h9 (H.mk h9.tr (h9.next + 16)) := (Fr.refl h9).bump (by omega)
        have b10 := b.more fb
        have rowa := b10.row a ma
        have rowb := b10.row bb mk
        simp only [if_neg hna, F2n a (oar a ain).1, F1n a anb] at rowa
        simp only [if_neg hnb, F2n bb hbn, F1b] at rowb
        have ca := rowa.cell hc'
        have ca' : h9.cell (ρ a) c = some (.int .i64 (F a c)) := ca
        have rFa : ∀ j, j < n → 0 ≤ F a j ∧ F a j < p := fun j hj => rO a j ain hj
        have rac := rFa c hc'
        simp (disch := first | omega | (simp only [Qn] <;> omega)) only [go_sem, slo.ixa, cs, ca, ca']
        refine (ref_add_ok p (p - F a c) (ρ a) n (ρ bb) 0 (κ a) (.sl (ρ bb) 0 n (κ bb)) (F a) w1 (τ a) _ rowa (b10.lt a ma) (sl1 ..) (fun _ => b10.lt bb mk) (fun j hj => by rw [Nat.zero_add]; exact rowb.cell hj) (.inr rfl) (by omega) ⟨by omega, hp2⟩ ⟨by omega, by omega⟩ (fun j hj => by have := rFa j hj; omega) (fun j hj => by have := rw1 j hj; omega)).mono ?_
        rintro w h11 ⟨bt, fx⟩
        have b11 := b10.rowset ma fx bt
        simp (disch := first | omega | (simp only [Qn] <;> omega)) only [go_sem]
        rw [show (s : Int) + 1 = ((s + 1 : Nat) : Int) from by omega]
        refine ⟨oa.length - (s + 1), by omega, s + 1, ex_junk rfl, by omega, b11.congr fun y j hy hj => ?_, rfl⟩
        by_cases e : y = a
        · rw [if_pos e, if_pos ((mem_take_succ hs').2 (.inr (by rw [ha]; exact e))), e, ← hno]
        · rw [if_neg e]
          by_cases e2 : y ∈ oa.take s
          · rw [if_pos e2, if_pos ((mem_take_succ hs').2 (.inl e2))]
          · rw [if_neg e2, if_neg fun q => by
              rcases (mem_take_succ hs').1 q with q | q
              · exact e2 q
              · exact e (by rw [← ha]; exact q)]
      rw [decide_eq_false hsr]
      obtain rfl : s = oa.length := by omega
      rw [List.take_length] at b
      obtain ⟨F4, hF4⟩ : ∃ F4 : Nat → Nat → Int, (fun a => if a ∈ oa then no a else F2 a) = F4 := ⟨_, rfl⟩
      rw [hF4] at b
      have F4n : ∀ a, a ∉ oa → F4 a = F2 a := fun a ha => by rw [← hF4]; exact if_neg ha
      have F4y : ∀ a, a ∈ oa → F4 a = no a := fun a ha => by rw [← hF4]; exact if_pos ha
      have f10 : Fr h9 (h9.new (.cells false [V.sl (ρ bb) 0 n (κ bb)])) := (Fr.refl h9).new _
      have b10 := b.more f10
      have hy : SV (h9.new (.cells false [V.sl (ρ bb) 0 n (κ bb)])) (.sl h9.next 0 1 (.kn 1)) 1 [V.sl (ρ bb) 0 n (κ bb)] := SV.all rfl (by rw [H.next_new]; omega) (H.get_new_same ..) _
      obtain ⟨uo', h11, e11, b11, n11, g11⟩ := b10.appo mk hy (by omega)
      have f12 : Fr h11 (h11.new (.cells false (ints [(c : Int)]))) := (Fr.refl h11).new _
      have b12 := b11.more f12
      have hy2 : SV (h11.new (.cells false (ints [(c : Int)]))) (.sl h11.next 0 1 (.kn 1)) 1 (ints [(c : Int)]) := SV.all rfl (by rw [H.next_new]; omega) (H.get_new_same ..) _
      obtain ⟨up', h13, e13, b13, n13⟩ := b12.appp hy2 (by rw [List.length_map]; exact Nat.lt_of_le_of_lt (List.length_filter_le _ _) (by rw [List.length_range]; omega))
      simp (disch := first | omega | (simp only [Qn] <;> omega)) only [go_sem, bls_row h9 (v := V.sl (ρ bb) 0 n (κ bb)) rfl rfl, e11, bls_int, e13]
      rw [show (c : Int) + 1 = ((c + 1 : Nat) : Int) from by omega]
      have sc : S c = false := by
        cases hs : S c with
        | false => rfl
        | true => exact absurd (cb.low c hc' hs) (Nat.lt_irrefl c)
      have filt' : (List.range (c + 1)).filter (fun d => if d = c then true else S d) = (List.range c).filter S ++ [c] := by
        rw [filt_succ, if_pos rfl, if_pos rfl]
        congr 1
        refine List.filter_congr fun d hd => ?_
        have := List.mem_range.1 hd
        rw [if_neg (by omega)]
      have em : ((List.range (c + 1)).filter fun d => if d = c then true else S d).map (upN π c bb) = oa ++ [bb] := by
        rw [filt', List.map_append, ← hoa]
        congr 1
        · refine List.map_congr_left fun d hd => ?_
          have := List.mem_range.1 (List.mem_filter.1 hd).1
          simp only [upN]
          rw [if_neg (by omega)]
        · simp [upN]
      have ep : ((List.range (c + 1)).filter fun d => if d = c then true else S d).map (fun d : Nat => (d : Int)) = ((List.range c).filter S).map (fun d : Nat => (d : Int)) ++ [(c : Int)] := by
        rw [filt', List.map_append]; rfl
      have bbo : bb ∉ oa := fun q => (oar bb q).2 rfl
      have F4b : F4 bb = w1 := by rw [F4n bb bbo, F2n bb hbn, F1b]
      have upc : upN π c bb c = bb := by simp [upN]
      have upd : ∀ d, d ≠ c → upN π c bb d = π d := fun d hd => by simp [upN, hd]
      have dlo : ∀ d, d < n → S d = true → d ≠ c ∧ π d ∈ oa := fun d hd hs => by
        have := cb.low d hd hs
        exact ⟨by omega, by rw [← hoa]; exact List.mem_map.2 ⟨d, List.mem_filter.2 ⟨List.mem_range.2 this, hs⟩, rfl⟩⟩
      refine ⟨n - (c + 1), by omega, c + 1, F4, u2, uo', up', ra', upN π c bb, fun d => if d = c then true else S d, ex_junk rfl, by omega, ?_, ?_, by rw [filt', List.length_append, List.length_singleton]; omega, nd', fun d hd hs => ?_, fun d e hd he hs hse q => ?_, rfl⟩
      · rw [em, ep]; exact b13
      · have hw1' : ∀ j, j < n → w1 j = (F (ra.getD k 0) j + F (ra.getD k 0) j * (x + p - 1)) % p := fun j _ => by rw [hbg, ← hw1]
        rw [hr1]
        refine cb.piv hp1 hc' hk' (x := x) (by rw [hbg]; exact x3) (w := w1) hw1' (fun j _ => by rw [upc, F4b]) (fun d j hd hs hj => ?_) fun a j ha hj => ?_
        · obtain ⟨q1, q2⟩ := dlo d hd hs
          rw [upd d q1, F4y _ q2, ← hno]
        · have hin : ra'.getD a 0 ∈ ra' := getD_mem (by omega)
          have hno' : ra'.getD a 0 ∉ oa := fun q => (oar _ q).1 hin
          rw [F4n _ hno', F2y _ hin, ← hnw]
          simp only
          rw [F1n _ fun q => hbn (q ▸ hin), hrg a (by omega)]
      · by_cases e : d = c
        · rw [e, upc]; exact ⟨mk, hbn⟩
        · rw [upd d e]
          simp only [if_neg e] at hs
          exact ⟨(hπ d hd hs).1, fun q => (hπ d hd hs).2 (hrm _ q)⟩
      · by_cases e1 : d = c
        · by_cases e2 : e = c
          · omega
          · simp only [if_neg e2] at hse
            rw [e1, upc, upd e e2] at q
            exact absurd ((dlo e he hse).2) (by rw [← q]; exact bbo)
        · simp only [if_neg e1] at hs
          by_cases e2 : e = c
          · rw [e2, upc, upd d e1] at q
            exact absurd ((dlo d hd hs).2) (by rw [q]; exact bbo)
          · simp only [if_neg e2] at hse
            rw [upd d e1, upd e e2] at q
            exact hinj d e hd he hs hse q
    · rw [decide_eq_false hkr]
      obtain rfl : k = ra.length := by omega
      simp (disch := first | omega | (simp only [Qn] <;> omega)) only [go_sem, slr.lens]
      rw [show decide True = true from rfl]
      simp (disch := first | omega | (simp only [Qn] <;> omega)) only [go_sem]
      rw [show (c : Int) + 1 = ((c + 1 : Nat) : Int) from by omega]
      have sc : S c = false := by
        cases hs : S c with
        | false => rfl
        | true => exact absurd (cb.low c hc' hs) (Nat.lt_irrefl c)
      have filt' : (List.range (c + 1)).filter S = (List.range c).filter S := by rw [filt_succ, sc]; simp
      refine ⟨n - (c + 1), by omega, c + 1, F, ur, uo, up, ra, π, S, ex_junk rfl, by omega, ?_, cb.skip fun a ha => hz a ha, by rw [filt']; exact hra, nd, hπ, hinj, rfl⟩
      rw [filt']; exact b
  rw [decide_eq_false hcn]
  obtain rfl : c = n := by omega
  simp (disch := first | omega | (simp only [Qn] <;> omega)) only [go_sem]
  have dn := cb.done
  refine ⟨uo, up, S, fun d => F (π d), cnt c S, rfl, ⟨cb.re, cb.fo, dn, rfl⟩, ⟨_, b.oo.sv, ?_, Frs.own b.oo, ?_, ?_⟩, b.op.sv, ⟨Frs.own b.op, by show ((List.range c).filter S).length ≤ _; omega⟩, b.fr⟩
  · have hS : ∀ d ∈ (List.range c).filter S, d < c ∧ S d = true := fun d hd => by
      have := List.mem_filter.1 hd
      exact ⟨List.mem_range.1 this.1, this.2⟩
    simp only [rwF]
    revert hS
    generalize (List.range c).filter S = l
    intro hS
    induction l with
    | nil => trivial
    | cons d l ih =>
      have hd := hS d (List.mem_cons_self ..)
      have md := (hπ d hd.1 hd.2).1
      exact ⟨(b.row _ md).si (b.lt _ md) _, ih fun e he => hS e (List.mem_cons_of_mem _ he)⟩
  · intro w hw2
    obtain ⟨a, ha, rfl⟩ := List.mem_map.1 hw2
    have := b.lo a (b.mo a ha)
    intro _ _ _ _ e
    cases e
    exact this
  · intro w hw2
    obtain ⟨a, ha, rfl⟩ := List.mem_map.1 hw2
    exact b.kc a (b.mo a ha)
end Go.Proofs.Ytlhebmcnjgagjaa

/- Layer 5: two lists of rows in a row; Sum. -/
namespace Go.Proofs.Ytlhebmcnjgagjaa
open Go Go.Ay
set_option maxRecDepth 100000
theorem caps_nil (ρ : X → V) (h : H) (x : X) (hx : ρ x = .nils) : evI ρ h (.caps x) = some (.int .i64 0, h) := by
  simp only [evI, hx]
theorem growr_ok (n : Nat) (h : H) (hn : n < 1000000) : Ev T n_slices_Grow_int_int_x85 [.nils, .int .i64 (n : Int)] h (fun v h' => Own h' v 1 [] h.next ∧ Fr h h') := by
  refine Ev_of t_slices_Grow_int_int_x85 rfl ?_
  simp (disch := first | omega | (simp only [Qn] <;> omega)) only [go_sem, c_slices_Grow_int_int_x85, initV_eq]
  rw [decide_eq_false (show ¬ ((n : Int) < 0) by omega)]
  simp (disch := first | omega | (simp only [Qn] <;> omega)) only [go_sem]
  rw [caps_nil _ _ _ rfl]
  simp (disch := first | omega | (simp only [Qn] <;> omega)) only [go_sem]
  by_cases hn0 : n = 0
  · subst hn0
    rw [decide_eq_false (show ¬ 0 < ((0 : Nat) : Int) - (0 - 0) by omega)]
    simp (disch := omega) only [go_sem]
    exact ⟨Own.nils _ _ _, Fr.refl h⟩
  rw [decide_eq_true (show 0 < (n : Int) - (0 - 0) by omega)]
  simp (disch := first | omega | (simp only [Qn] <;> omega)) only [go_sem]
  rw [caps_nil _ _ _ rfl]
  have ea := apzP_int (h := h) (sz := 1) (bytes := 24) (zero := [.nils]) (x := .nils) (n := (n : Int) - (0 - 0)) (by omega) (by omega) (by omega) rfl
  obtain ⟨v, h', e, a⟩ := (Own.nils h 1 h.next).appV (bytes := 24) (Nat.le_refl _) (n := 0) (m := n) (us := zerosV [.nils] n) rfl (by simp [zerosV]) (by omega) (by omega)
  rw [show ((n : Int) - (0 - 0)).toNat = n by omega, Nat.mul_one, e] at ea
  simp (disch := first | omega | (simp only [Qn] <;> omega)) only [go_sem, slc_nils, ea]
  rcases a.what with ⟨h1, _⟩ | ⟨id, rfl, h2, h3, h4⟩
  · omega
  have es : slcV 1 (.sl id 0 n (.un 1)) none (some (.int .i64 0)) none = some (.sl id 0 0 (.un 1)) := slc_un (by omega) (by omega)
  simp (disch := first | omega | (simp only [Qn] <;> omega)) only [go_sem, es]
  exact ⟨.inr ⟨id, 0, .un 1, _, rfl, rfl, .inl rfl, h2, h3, h4⟩, a.fr h (Fr.refl h) (Nat.le_refl _)⟩
theorem concatr_ok (id : Nat) (ua ub : V) (a b : List V) (h : H) (hg : h.get id = some (.cells false [ua, ub])) (hid : id < h.next) (ha : SV h ua 1 a) (hb : SV h ub 1 b) (la : a.length < 10000) (lb : b.length < 10000) :
    Ev T n_slices_Concat_int_int_x61 [.sl id 0 2 (.kn 2)] h (fun v h' => Own h' v 1 (a ++ b) h.next ∧ Fr h h') := by
  refine Ev_of t_slices_Concat_int_int_x61 rfl ?_
  have la' : lensV ua = some (.int .i64 (a.length : Int)) := by unfold lensV; rw [ha.len (n := a.length) (by omega) (by omega)]; rfl
  have lb' : lensV ub = some (.int .i64 (b.length : Int)) := by unfold lensV; rw [hb.len (n := b.length) (by omega) (by omega)]; rfl
  have lens2 : lensV (.sl id 0 2 (.kn 2)) = some (.int .i64 2) := rfl
  have c0 : h.cell id 0 = some ua := by rw [H.cell_of hg]; rfl
  have c1 : h.cell id 1 = some ub := by rw [H.cell_of hg]; rfl
  have i0 : ixaV 1 (.sl id 0 2 (.kn 2)) (.int .i64 0) = some (.ptr id 0) := by rw [ixaV_sl (by omega) (by omega)]; rfl
  have i1 : ixaV 1 (.sl id 0 2 (.kn 2)) (.int .i64 1) = some (.ptr id 1) := by rw [ixaV_sl (by omega) (by omega)]; rfl
  simp (disch := first | omega | (simp only [Qn] <;> omega)) only [go_sem, c_slices_Concat_int_int_x61, initV_eq, lens2]
  refine Wp_loop_unroll ?_
  simp (disch := first | omega | (simp only [Qn] <;> omega)) only [go_sem, i0, c0, la']
  rw [decide_eq_true (show (0 : Int) < 2 by omega)]
  simp (disch := first | omega | (simp only [Qn] <;> omega)) only [go_sem, i0, c0, la']
  rw [decide_eq_false (show ¬ (0 + (a.length : Int)) < 0 by omega)]
  simp (disch := first | omega | (simp only [Qn] <;> omega)) only [go_sem]
  rw [show (0 : Int) + 1 = 1 from rfl, Int.zero_add]
  refine Wp_loop_unroll ?_
  simp (disch := first | omega | (simp only [Qn] <;> omega)) only [go_sem]
  rw [decide_eq_true (show (1 : Int) < 2 by omega)]
  simp (disch := first | omega | (simp only [Qn] <;> omega)) only [go_sem, i1, c1, lb']
  rw [decide_eq_false (show ¬ ((a.length : Int) + (b.length : Int)) < 0 by omega)]
  simp (disch := first | omega | (simp only [Qn] <;> omega)) only [go_sem]
  rw [show (1 : Int) + 1 = 2 from rfl]
  refine Wp_loop_unroll ?_
  simp (disch := first | omega | (simp only [Qn] <;> omega)) only [go_sem]
  rw [decide_eq_false (show ¬ (2 : Int) < 2 by omega)]
  simp (disch := first | omega | (simp only [Qn] <;> omega)) only [go_sem]
  rw [show (a.length : Int) + (b.length : Int) = ((a.length + b.length : Nat) : Int) by omega]
  refine (growr_ok (a.length + b.length) h (by omega)).mono ?_
  rintro v h1 ⟨o1, f1⟩
  have c0 : h1.cell id 0 = some ua := by rw [f1.cell hid]; exact c0
  obtain ⟨v2, h2, e2, a2⟩ := o1.app (bytes := 24) (n := 0) (m := a.length) f1.next (SV.mono ha f1) rfl (by omega) (by omega) (by omega)
  have f2 := a2.fr h f1 (Nat.le_refl _)
  have c1 : h2.cell id 1 = some ub := by rw [f2.cell hid]; exact c1
  have o2 := a2.own
  obtain ⟨v3, h3, e3, a3⟩ := o2.app (bytes := 24) (n := a.length) (m := b.length) f2.next (SV.mono hb f2) (by simp) (by omega) (by omega) (by omega)
  have f3 := a3.fr h f2 (Nat.le_refl _)
  simp (disch := first | omega | (simp only [Qn] <;> omega)) only [go_sem, lens2]
  refine Wp_loop_unroll ?_
  simp (disch := first | omega | (simp only [Qn] <;> omega)) only [go_sem]
  rw [decide_eq_true (show (0 : Int) < 2 by omega)]
  simp (disch := first | omega | (simp only [Qn] <;> omega)) only [go_sem, i0, c0, e2]
  rw [show (0 : Int) + 1 = 1 from rfl]
  refine Wp_loop_unroll ?_
  simp (disch := first | omega | (simp only [Qn] <;> omega)) only [go_sem]
  rw [decide_eq_true (show (1 : Int) < 2 by omega)]
  simp (disch := first | omega | (simp only [Qn] <;> omega)) only [go_sem, i1, c1, e3]
  rw [show (1 : Int) + 1 = 2 from rfl]
  refine Wp_loop_unroll ?_
  simp (disch := first | omega | (simp only [Qn] <;> omega)) only [go_sem]
  rw [decide_eq_false (show ¬ (2 : Int) < 2 by omega)]
  simp (disch := first | omega | (simp only [Qn] <;> omega)) only [go_sem]
  have o3 := a3.own
  exact ⟨o3, f3⟩
end Go.Proofs.Ytlhebmcnjgagjaa

/- Layer 5: Sum. -/
namespace Go.Proofs.Ytlhebmcnjgagjaa
open Go Go.Ay
set_option maxRecDepth 100000
theorem ck_two {p n : Int} {A B : List (List Int)} (h : ckF p n [A, B] = 0) : isP p = true ∧ p < 10000 ∧ 1 ≤ n ∧ n ≤ 64 ∧ A.length ≤ 200 ∧ B.length ≤ 200 ∧ (∀ i, i < A.length → ((A.getD i []).length : Int) = n) ∧ ∀ i, i < B.length → ((B.getD i []).length : Int) = n := by
  obtain ⟨q1, q2, q3, q4, q5⟩ := ck_zero h
  obtain ⟨q6, q7⟩ := q5 A (by simp)
  obtain ⟨q8, q9⟩ := q5 B (by simp)
  exact ⟨q1, q2, q3, q4, q6, q8, q7, q9⟩
set_option maxHeartbeats 8000000 in
theorem check2_ok (p : Int) (n : Nat) (va vb : V) (A B : List (List Int)) (id : Nat) (h : H) (hg : h.get id = some (.cells false [va, vb])) (hid : id < h.next) (ha : SR h va A) (hb : SR h vb B) (lA : (A.length : Int) ≤ 2 ^ 63 - 1) (lB : (B.length : Int) ≤ 2 ^ 63 - 1) :
    Ev T n_linear_check [.int .i64 p, .int .i64 (n : Int), .sl id 0 2 (.kn 2)] h (fun w h' => w = .int .i64 (ckF p n [A, B]) ∧ Fr h h') := by
  have c1 : h.cell id 0 = some va := by rw [H.cell_of hg]; rfl
  have c2 : h.cell id 1 = some vb := by rw [H.cell_of hg]; rfl
  refine (check5_ok p n (.sl id 0 2 (.kn 2)) 2 (fun i => if i = 0 then va else vb) (fun i => if i = 0 then A else B) id 0 h (sl1 ..) (fun _ => hid) (fun i hi => ?_) (fun i hi => ?_) (fun i hi => ?_) (by omega)).mono fun _ _ q => q
  · rcases (show i = 0 ∨ i = 1 by omega) with rfl | rfl
    · exact c1
    · exact c2
  · rcases (show i = 0 ∨ i = 1 by omega) with rfl | rfl
    · exact ha
    · exact hb
  · rcases (show i = 0 ∨ i = 1 by omega) with rfl | rfl
    · exact lA
    · exact lB
set_option maxHeartbeats 8000000 in
theorem Sum_sp (p : Int) (n : Nat) (va vb : V) (A B : List (List Int)) (h : H) (ha : SR h va A) (hb : SR h vb B) (lA : (A.length : Int) ≤ 2 ^ 63 - 1) (lB : (B.length : Int) ≤ 2 ^ 63 - 1) (hz0 : ckF p n [A, B] = 0) :
    Ev T n_linear_Sum [.int .i64 p, .int .i64 (n : Int), va, vb] h (fun w h' => ∃ u S f k, w = .tup [u, .int .i64 0] ∧ Sp p n n (vw (A ++ B)) (A ++ B).length S f k ∧ SRf h' u (rwF n n S f) h.next ∧ Fr h h') := by
  refine Ev_of t_linear_Sum rfl ?_
  have wa := SV.what ha.choose_spec.1
  have wb := SV.what hb.choose_spec.1
  have bl2 := fun hh => bls_two hh (x := va) (u := vb) wa.1 wa.2.1 wb.1 wb.2.1
  simp (disch := first | omega | (simp only [Qn] <;> omega)) only [go_sem, c_linear_Sum, initV_eq, bl2]
  have hf1 : Fr h (h.new (.cells false [va, vb])) := (Fr.refl h).new _
  have hg1 : (h.new (.cells false [va, vb])).get h.next = some (.cells false [va, vb]) := H.get_new_same ..
  have hn1 : (h.new (.cells false [va, vb])).next = h.next + 1 := H.next_new ..
  generalize h.new (.cells false [va, vb]) = h1 at *
  refine (check2_ok p n va vb A B h.next h1 hg1 (by omega) (ha.mono hf1) (hb.mono hf1) lA lB).mono ?_
  rintro w h2 ⟨rfl, f2⟩
  have F2 := hf1.trans f2
  simp (disch := first | omega | (simp only [Qn] <;> omega)) only [go_sem]
  refine iteW_dec (fun hz => absurd hz0 hz) (fun _ => ?_)
  obtain ⟨q1, q2, q3, q4, q5, q6, q7, q8⟩ := ck_two hz0
  simp (disch := first | omega | (simp only [Qn] <;> omega)) only [go_sem, bl2]
  have hf3 : Fr h2 (h2.new (.cells false [va, vb])) := (Fr.refl h2).new _
  have hg3 : (h2.new (.cells false [va, vb])).get h2.next = some (.cells false [va, vb]) := H.get_new_same ..
  have hn3 : (h2.new (.cells false [va, vb])).next = h2.next + 1 := H.next_new ..
  generalize h2.new (.cells false [va, vb]) = h3 at *
  have F3 := F2.trans hf3
  obtain ⟨wsA, sA, aA⟩ := ha.mono F3
  obtain ⟨wsB, sB, aB⟩ := hb.mono F3
  have lwA := aA.length
  have lwB := aB.length
  refine (concatr_ok h2.next va vb wsA wsB h3 hg3 (by omega) sA sB (by omega) (by omega)).mono ?_
  rintro w h4 ⟨o4, f4⟩
  have s4 : SR h4 w (A ++ B) := ⟨wsA ++ wsB, o4.sv, All2.append (aA.mono fun _ _ s => s.mono f4) (aB.mono fun _ _ s => s.mono f4)⟩
  have lAB : (A ++ B).length = A.length + B.length := List.length_append
  have rAB : ∀ i, i < (A ++ B).length → ((A ++ B).getD i []).length = n := fun i hi => by
    rw [List.getD_eq_getElem?_getD]
    by_cases e : i < A.length
    · rw [List.getElem?_append_left e, ← List.getD_eq_getElem?_getD]; have := q7 i e; omega
    · rw [List.getElem?_append_right (by omega), ← List.getD_eq_getElem?_getD]; have := q8 (i - A.length) (by omega); omega
  simp (disch := first | omega | (simp only [Qn] <;> omega)) only [go_sem]
  refine (span_ok p n n (A ++ B) w _ (Sp.kp (isP_gt q1) (Nat.le_refl n) (A ++ B)) h4 (Sp.start p n n _ _) s4 (by omega) rAB (by omega) (Nat.le_refl n) q1 q2).mono ?_
  rintro w h5 ⟨E, M, k, S, ρ, f, rfl, s, hk, kE, f5⟩
  simp (disch := first | omega | (simp only [Qn] <;> omega)) only [go_sem]
  refine (list_fr p E M n n S ρ f _ h5 kE (by omega)).mono ?_
  rintro w h6 ⟨_, f6, sl⟩
  simp (disch := first | omega | (simp only [Qn] <;> omega)) only [go_sem]
  exact ⟨_, S, f, k, rfl, s, sl.le (F3.trans f4).next, ((F3.trans f4).trans f5).trans f6⟩
end Go.Proofs.Ytlhebmcnjgagjaa

/- Layer 5: the plain law of the kernel. -/
namespace Go.Proofs.Ytlhebmcnjgagjaa
open Go Go.Ay
set_option maxRecDepth 100000
theorem smod_zero {p : Int} {n : Nat} {f : Nat → Int} (h : ∀ k, k < n → f k % p = 0) : sm n f % p = 0 := by
  rw [sm_mod (g := fun _ => 0) fun k hk => by rw [h k hk, Int.zero_emod], sm_nul, Int.zero_emod]
section
variable {p : Int} {n m W k : Nat} {V : Nat → Nat → Int} {S : Nat → Bool} {f : Nat → Nat → Int}
/-- The span of rows with the identity behind them. -/
abbrev Sk (p : Int) (n m W : Nat) (V : Nat → Nat → Int) (S : Nat → Bool) (f : Nat → Nat → Int) (k : Nat) : Prop := Sp p W W (vw (mkR m W (mkE n V))) m S f k
def kS (n : Nat) (S : Nat → Bool) : Nat → Bool := fun c => S (n + c)
def kf (n : Nat) (f : Nat → Nat → Int) : Nat → Nat → Int := fun c j => f (n + c) (n + j)
theorem mk_lo (hW : n + m = W) {a j : Nat} (ha : a < m) (hj : j < n) : vw (mkR m W (mkE n V)) a j = V a j := by
  rw [vw, mkR_row _ ha, mkV_get _ (by omega), mkE, if_pos hj]
theorem mk_hi (hW : n + m = W) {a j : Nat} (ha : a < m) (hj : j < m) : vw (mkR m W (mkE n V)) a (n + j) = if j = a then 1 else 0 := by
  rw [vw, mkR_row _ ha, mkV_get _ (by omega), mkE, if_neg (by omega)]
  by_cases e : j = a
  · rw [if_pos e, if_pos (by omega)]
  · rw [if_neg e, if_neg (by omega)]
theorem krF_rwF (hW : n + m = W) : krF n m S f W = rwF m m (kS n S) (kf n f) := by
  subst hW
  simp only [krF, rwF, kS, kf]
  rw [List.range_add, List.filter_append, List.filter_eq_nil_iff.2 (fun a ha => by
    have := List.mem_range.1 ha
    simp; omega), List.nil_append, List.filter_map, List.map_map]
  congr 1
  refine List.filter_congr fun c _ => ?_
  simp [kS]
theorem Re.ker (hW : n + m = W) (r : Re p W W S f) : Re p m m (kS n S) (kf n f) :=
  ⟨fun c j hc hs hj => r.rng (n + c) (n + j) (by omega) hs (by omega), fun c hc hs => r.one (n + c) (by omega) hs, fun c d hc hd hs hd2 hne => r.zer (n + c) (n + d) (by omega) (by omega) hs hd2 (by omega), fun c j hc hs hj => r.lead (n + c) (n + j) (by omega) hs (by omega)⟩
/-- The first n columns: the span of the rows. -/
theorem Sk.left (hW : n + m = W) (s : Sk p n m W V S f k) : Sp p n n V m S f (cnt n S) := by
  have r := s.re
  refine ⟨⟨fun c j hc hs hj => r.rng c j (by omega) hs (by omega), fun c hc hs => r.one c (by omega) hs, fun c d hc hd hs hd2 hne => r.zer c d (by omega) (by omega) hs hd2 hne, fun c j hc hs hj => r.lead c j (by omega) hs hj⟩, fun c hc hs => ?_, fun a ha => ?_, rfl⟩
  · exact ((s.out c (by omega) hs).cols (by omega)).rows fun i j hi hj => by rw [mk_lo hW hi hj]
  · obtain ⟨d, hd⟩ := s.inn a ha
    refine ⟨d, fun j hj => ?_⟩
    have := hd j (by omega)
    rw [mk_lo hW ha hj] at this
    rw [this, ← hW, sm_app, sm_zeros (n := m) fun c hc => ?_, Int.add_zero]
    cases hs : S (n + c) with
    | false => rw [gf_no hs, Int.mul_zero]
    | true => rw [gf_yes hs, r.lead (n + c) j (by omega) hs (by omega), Int.mul_zero]
/-- What lies behind the pivots of the last m columns is mapped to zero. -/
theorem Sk.zero (hW : n + m = W) (s : Sk p n m W V S f k) {c : Nat} (hc : c < m) (hs : kS n S c = true) {j : Nat} (hj : j < n) : sm m (fun i => kf n f c i * V i j) % p = 0 := by
  obtain ⟨d, hd⟩ := s.out (n + c) (by omega) hs
  have e : ∀ i, i < m → kf n f c i % p = d i % p := fun i hi => by
    have q := hd (n + i) (by omega)
    rw [sm_one (t := i) hi fun a ha hne => by rw [mk_hi hW ha hi, if_neg (Ne.symm hne), Int.mul_zero], mk_hi hW hi hi, if_pos rfl, Int.mul_one] at q
    exact q
  have q := hd j (by omega)
  rw [s.re.lead (n + c) j (by omega) hs (by omega), Int.zero_emod] at q
  rw [q]
  exact sm_mod fun i hi => by rw [mk_lo hW hi hj]; exact mul_mod (e i hi) rfl
/-- What is mapped to zero is a combination of them. -/
theorem Sk.all (hW : n + m = W) (s : Sk p n m W V S f k) {κ : Nat → Int} (h : ∀ j, j < n → sm m (fun i => κ i * V i j) % p = 0) : ∀ i, i < m → κ i % p = sm m (fun c => κ c * gf (kS n S) (kf n f) c i) % p := fun i hi => by
  have hv : InS p W m (vw (mkR m W (mkE n V))) (fun j => sm m (fun i => κ i * vw (mkR m W (mkE n V)) i j)) := ⟨κ, fun j _ => rfl⟩
  obtain ⟨d, hd⟩ := s.mem.1 hv
  have q := s.re.read hd (j := n + i) (by omega)
  have hi2 : ∀ c, c < m → sm m (fun i => κ i * vw (mkR m W (mkE n V)) i (n + c)) = κ c := fun c hc => by
    rw [sm_one (t := c) hc fun a ha hne => by rw [mk_hi hW ha hc, if_neg (Ne.symm hne), Int.mul_zero], mk_hi hW hc hc, if_pos rfl, Int.mul_one]
  rw [hi2 i hi, ← hW, sm_app] at q
  rw [q, ← Int.add_emod_emod, Int.add_emod, smod_zero (n := n) fun c hc => ?_]
  · rw [Int.zero_add, Int.emod_emod_of_dvd _ (Int.dvd_refl p), Int.emod_emod_of_dvd _ (Int.dvd_refl p)]
    congr 1
    refine sm_congr fun c hc => ?_
    rw [hW, hi2 c hc]
    rfl
  · have := h c hc
    rw [Int.mul_emod, hW, sm_congr (g := fun i => κ i * V i c) fun a ha => by rw [mk_lo hW ha hc], this, Int.zero_mul, Int.zero_emod]
end
end Go.Proofs.Ytlhebmcnjgagjaa

/- Layer 5: the plain law of the intersection. -/
namespace Go.Proofs.Ytlhebmcnjgagjaa
open Go Go.Ay
set_option maxRecDepth 100000
/-- A combination of rows, reduced at each step. -/
def acF (p : Int) (κ : Nat → Int) (F : Nat → Nat → Int) : Nat → Nat → Int
  | 0 => fun _ => 0
  | i + 1 => fun j => (acF p κ F i j + κ i * F i j) % p
theorem acF_mod (p : Int) (κ : Nat → Int) (F : Nat → Nat → Int) (i j : Nat) : acF p κ F i j % p = sm i (fun a => κ a * F a j) % p := by
  induction i with
  | zero => rfl
  | succ i ih => rw [acF, sm_succ, mm2]; exact add_cg ih rfl
theorem acF_range {p : Int} (hp : 0 < p) (κ : Nat → Int) (F : Nat → Nat → Int) (i j : Nat) : 0 ≤ acF p κ F i j ∧ acF p κ F i j < p := by
  cases i with
  | zero => exact ⟨Int.le_refl 0, hp⟩
  | succ i => exact tmod_range _ hp
section
variable {p : Int} {n : Nat} {ll : List (List Int)} {P : Nat → Nat} {g : Nat → Nat → Int}
theorem Pv.vw (v : Pv p n ll P g) {i j : Nat} (hi : i < ll.length) (hj : j < n) : vw ll i j = g i j := by
  rw [Go.Proofs.Ytlhebmcnjgagjaa.vw, v.row i hi, mkV_get _ hj]
/-- At a pivot a combination shows its coefficient. -/
theorem Pv.at_ (v : Pv p n ll P g) (κ : Nat → Int) {t : Nat} (ht : t < ll.length) : sm ll.length (fun i => κ i * Go.Proofs.Ytlhebmcnjgagjaa.vw ll i (P t)) = κ t := by
  rw [sm_one (t := t) ht fun a ha hne => by rw [v.vw ha (v.lt t ht), v.zer t a ht ha hne, Int.mul_zero], v.vw ht (v.lt t ht), v.one t ht, Int.mul_one]
end
/-- The rows of the intersection before they are reduced. -/
def mtL (p : Int) (n : Nat) (first K : List (List Int)) : List (List Int) := (List.range K.length).map fun q => mkV n (acF p (vw K q) (vw first) first.length)
theorem mtL_len (p : Int) (n : Nat) (first K : List (List Int)) : (mtL p n first K).length = K.length := by rw [mtL, List.length_map, List.length_range]
theorem mtL_row {p : Int} {n : Nat} {first K : List (List Int)} {q : Nat} (hq : q < K.length) : (mtL p n first K).getD q [] = mkV n (acF p (vw K q) (vw first) first.length) := by
  rw [mtL, List.getD_eq_getElem?_getD, List.getElem?_map, List.getElem?_range hq]; rfl
theorem mtL_vw {p : Int} {n : Nat} {first K : List (List Int)} {q j : Nat} (hq : q < K.length) (hj : j < n) : vw (mtL p n first K) q j = acF p (vw K q) (vw first) first.length j := by
  rw [vw, mtL_row hq, mkV_get _ hj]
theorem vw_app {a b : List (List Int)} {i j : Nat} : vw (a ++ b) i j = if i < a.length then vw a i j else vw b (i - a.length) j := by
  unfold vw
  rw [List.getD_eq_getElem?_getD (l := a ++ b)]
  by_cases e : i < a.length
  · rw [if_pos e, List.getElem?_append_left e, ← List.getD_eq_getElem?_getD]
  · rw [if_neg e, List.getElem?_append_right (by omega), ← List.getD_eq_getElem?_getD]
section
variable {p : Int} {n : Nat} {first second : List (List Int)} {P1 P2 PK : Nat → Nat} {g1 g2 gK : Nat → Nat → Int} {K : List (List Int)}
/-- A combination whose rows map to zero. -/
theorem both_zero (hp : 1 < p) (v1 : Pv p n first P1 g1) (v2 : Pv p n second P2 g2) {κ : Nat → Int} (h1 : ∀ j, j < n → sm first.length (fun i => κ i * vw first i j) % p = 0) (h2 : ∀ j, j < n → sm (first.length + second.length) (fun i => κ i * vw (first ++ second) i j) % p = 0) : ∀ i, i < first.length + second.length → κ i % p = 0 := by
  have e1 : ∀ i, i < first.length → κ i % p = 0 := fun i hi => by
    have := h1 (P1 i) (v1.lt i hi)
    rwa [v1.at_ κ hi] at this
  have h3 : ∀ j, j < n → sm second.length (fun i => κ (first.length + i) * vw second i j) % p = 0 := fun j hj => by
    have q := h2 j hj
    rw [sm_app, sm_congr (n := first.length) (g := fun i => κ i * vw first i j) (fun i hi => by rw [vw_app, if_pos hi]), Int.add_emod, h1 j hj, Int.zero_add, mm2, sm_congr (g := fun i => κ (first.length + i) * vw second i j) (fun i hi => by rw [vw_app, if_neg (by omega), Nat.add_sub_cancel_left])] at q
    exact q
  intro i hi
  by_cases e : i < first.length
  · exact e1 i e
  · obtain ⟨t, rfl⟩ : ∃ t, i = first.length + t := ⟨i - first.length, by omega⟩
    have := h3 (P2 t) (v2.lt t (by omega))
    rwa [v2.at_ (fun i => κ (first.length + i)) (by omega)] at this
theorem meet_new (hp : 1 < p) (v1 : Pv p n first P1 g1) (v2 : Pv p n second P2 g2) (vK : Pv p (first.length + second.length) K PK gK)
    (hK : ∀ q, q < K.length → ∀ j, j < n → sm (first.length + second.length) (fun i => vw K q i * vw (first ++ second) i j) % p = 0) :
    ∀ i S f k, i < (mtL p n first K).length → Sp p n n (vw (mtL p n first K)) i S f k → ¬ ∀ j, j < n → rdF p S f (fun j => ((mtL p n first K).getD i []).getD j 0 % p) n j = 0 := fun q S f k hq s e => by
  rw [mtL_len] at hq
  obtain ⟨c, hc⟩ := (s.zero (by omega) (fun j => ((mtL p n first K).getD q []).getD j 0)).1 e
  obtain ⟨κ, hκ⟩ : ∃ κ : Nat → Int, κ = fun i => vw K q i - sm q (fun a => c a * vw K a i) := ⟨_, rfl⟩
  have lin : ∀ (L : Nat) (F : Nat → Nat → Int) (j : Nat), sm L (fun i => κ i * F i j) = sm L (fun i => vw K q i * F i j) - sm q (fun a => c a * sm L (fun i => vw K a i * F i j)) := fun L F j => by
    rw [sm_congr (g := fun i => vw K q i * F i j - sm q (fun a => c a * (vw K a i * F i j))) fun i _ => by
      rw [hκ]
      simp only
      rw [Int.sub_mul, ← sm_mulr]
      congr 1
      exact sm_congr fun a _ => by rw [Int.mul_assoc], sm_sub, sm_swap]
    congr 1
    exact sm_congr fun a _ => by rw [sm_mul]
  have h1 : ∀ j, j < n → sm first.length (fun i => κ i * vw first i j) % p = 0 := fun j hj => by
    rw [lin]
    have q1 : vw (mtL p n first K) q j % p = _ := hc j hj
    rw [mtL_vw hq hj, acF_mod] at q1
    rw [Int.emod_eq_zero_of_dvd]
    refine Int.dvd_of_emod_eq_zero ?_
    rw [← Int.emod_eq_emod_iff_emod_sub_eq_zero, q1]
    exact sm_mod fun a ha => mul_mod rfl (by rw [mtL_vw (by omega) hj, acF_mod])
  have h2 : ∀ j, j < n → sm (first.length + second.length) (fun i => κ i * vw (first ++ second) i j) % p = 0 := fun j hj => by
    rw [lin, Int.sub_emod, hK q hq j hj, smod_zero (n := q) fun a ha => by rw [Int.mul_emod, hK a (by omega) j hj, Int.mul_zero, Int.zero_emod]]
    rfl
  have z := both_zero hp v1 v2 h1 h2 (PK q) (vK.lt q hq)
  rw [hκ] at z
  simp only at z
  rw [vK.vw hq (vK.lt q hq), vK.one q hq, sm_zeros fun a ha => by rw [vK.vw (by omega) (vK.lt q hq), vK.zer q a hq (by omega) (by omega), Int.mul_zero], Int.sub_zero, Int.emod_eq_of_lt (by omega) hp] at z
  omega
end
end Go.Proofs.Ytlhebmcnjgagjaa

/- Layer 5: Meet. -/
namespace Go.Proofs.Ytlhebmcnjgagjaa
open Go Go.Ay
set_option maxRecDepth 100000
theorem getD_app {A B : List (List Int)} {n : Nat} (hA : ∀ i, i < A.length → (A.getD i []).length = n) (hB : ∀ i, i < B.length → (B.getD i []).length = n) : ∀ i, i < (A ++ B).length → ((A ++ B).getD i []).length = n := fun i hi => by
  rw [List.length_append] at hi
  rw [List.getD_eq_getElem?_getD]
  by_cases e : i < A.length
  · rw [List.getElem?_append_left e, ← List.getD_eq_getElem?_getD]; exact hA i e
  · rw [List.getElem?_append_right (by omega), ← List.getD_eq_getElem?_getD]; exact hB _ (by omega)
set_option maxHeartbeats 32000000 in
theorem Meet_sp (p : Int) (n : Nat) (va vb : V) (A B : List (List Int)) (h : H) (ha : SR h va A) (hb : SR h vb B) (lA : (A.length : Int) ≤ 2 ^ 63 - 1) (lB : (B.length : Int) ≤ 2 ^ 63 - 1) (hz0 : ckF p n [A, B] = 0) :
    Ev T n_linear_Meet [.int .i64 p, .int .i64 (n : Int), va, vb] h (fun w h' => ∃ u S1 f1 k1 S2 f2 k2 Sk fk S f k first second K, w = .tup [u, .int .i64 0] ∧ Sp p n n (vw A) A.length S1 f1 k1 ∧ Sp p n n (vw B) B.length S2 f2 k2 ∧ first = rwF n n S1 f1 ∧ second = rwF n n S2 f2 ∧
      Go.Proofs.Ytlhebmcnjgagjaa.Sk p n (first ++ second).length (n + (first ++ second).length) (vw (first ++ second)) Sk fk (first ++ second).length ∧ K = krF n (first ++ second).length Sk fk (n + (first ++ second).length) ∧ Sp p n n (vw (mtL p n first K)) K.length S f k ∧ k = K.length ∧ SRf h' u (rwF n n S f) h.next ∧ Fr h h') := by
  refine Ev_of t_linear_Meet rfl ?_
  have wa := SV.what ha.choose_spec.1
  have wb := SV.what hb.choose_spec.1
  have bl2 := fun hh => bls_two hh (x := va) (u := vb) wa.1 wa.2.1 wb.1 wb.2.1
  simp (disch := first | omega | (simp only [Qn] <;> omega)) only [go_sem, c_linear_Meet, initV_eq, bl2]
  have hf1 : Fr h (h.new (.cells false [va, vb])) := (Fr.refl h).new _
  have hg1 : (h.new (.cells false [va, vb])).get h.next = some (.cells false [va, vb]) := H.get_new_same ..
  have hn1 : (h.new (.cells false [va, vb])).next = h.next + 1 := H.next_new ..
  generalize h.new (.cells false [va, vb]) = h1 at *
  refine (check2_ok p n va vb A B h.next h1 hg1 (by omega) (ha.mono hf1) (hb.mono hf1) lA lB).mono ?_
  rintro w h2 ⟨rfl, f2'⟩
  have F2 := hf1.trans f2'
  simp (disch := first | omega | (simp only [Qn] <;> omega)) only [go_sem]
  refine iteW_dec (fun hz => absurd hz0 hz) (fun _ => ?_)
  obtain ⟨q1, q2, q3, q4, q5, q6, q7, q8⟩ := ck_two hz0
  have hp := isP_gt q1
  have rA : ∀ i, i < A.length → (A.getD i []).length = n := fun i hi => by have := q7 i hi; omega
  have rB : ∀ i, i < B.length → (B.getD i []).length = n := fun i hi => by have := q8 i hi; omega
  simp (disch := first | omega | (simp only [Qn] <;> omega)) only [go_sem]
  refine (span_ok p n n A va _ (Sp.kp hp (Nat.le_refl n) A) h2 (Sp.start p n n _ _) (ha.mono F2) (by omega) rA (by omega) (Nat.le_refl n) q1 q2).mono ?_
  rintro w h3 ⟨E1, M1, k1, S1, ρ1, f1, rfl, s1, hk1, kE1, f3⟩
  have F3 := F2.trans f3
  simp (disch := first | omega | (simp only [Qn] <;> omega)) only [go_sem]
  refine (span_ok p n n B vb _ (Sp.kp hp (Nat.le_refl n) B) h3 (Sp.start p n n _ _) (hb.mono F3) (by omega) rB (by omega) (Nat.le_refl n) q1 q2).mono ?_
  rintro w h4 ⟨E2, M2, k2, S2, ρ2, f2, rfl, s2, hk2, kE2, f4⟩
  have F4 := F3.trans f4
  simp (disch := first | omega | (simp only [Qn] <;> omega)) only [go_sem]
  refine (list_fr p E1 M1 n n S1 ρ1 f1 _ h4 (kE1.fr f4) (by omega)).mono ?_
  rintro vf h5 ⟨_, f5, sf⟩
  have F5 := F4.trans f5
  obtain ⟨first, hfi⟩ : ∃ l, rwF n n S1 f1 = l := ⟨_, rfl⟩
  have pv1 := Re.pv s1.re
  rw [hfi] at sf pv1
  have lf : first.length = k1 := by rw [← hfi, rwF_len, s1.cn]
  have k1n : k1 ≤ n := by rw [s1.cn]; exact cnt_le n S1
  have rf : ∀ i, i < first.length → (first.getD i []).length = n := fun i hi => by rw [pv1.row i hi, mkV_len]
  simp (disch := first | omega | (simp only [Qn] <;> omega)) only [go_sem]
  refine (begin_ok p n n (fun _ _ => 0) h5).mono ?_
  rintro w h6 ⟨E, M, ρ, rfl, kE, f6⟩
  have F6 := F5.trans f6
  simp (disch := first | omega | (simp only [Qn] <;> omega)) only [go_sem]
  refine (list_fr p E2 M2 n n S2 ρ2 f2 _ h6 ((kE2.fr f5).fr f6) (by omega)).mono ?_
  rintro vs h7 ⟨_, f7, ss⟩
  obtain ⟨second, hse⟩ : ∃ l, rwF n n S2 f2 = l := ⟨_, rfl⟩
  have pv2 := Re.pv s2.re
  rw [hse] at ss pv2
  have ls : second.length = k2 := by rw [← hse, rwF_len, s2.cn]
  have k2n : k2 ≤ n := by rw [s2.cn]; exact cnt_le n S2
  have rs : ∀ i, i < second.length → (second.getD i []).length = n := fun i hi => by rw [pv2.row i hi, mkV_len]
  have F7 := F6.trans f7
  have sf7 := sf.sr.mono (f6.trans f7)
  have wf := SV.what sf7.choose_spec.1
  have wsx := SV.what ss.sr.choose_spec.1
  have bl3 := fun hh => bls_two hh (x := vf) (u := vs) wf.1 wf.2.1 wsx.1 wsx.2.1
  simp (disch := first | omega | (simp only [Qn] <;> omega)) only [go_sem, bl3]
  have hf8 : Fr h7 (h7.new (.cells false [vf, vs])) := (Fr.refl h7).new _
  have hg8 : (h7.new (.cells false [vf, vs])).get h7.next = some (.cells false [vf, vs]) := H.get_new_same ..
  have hn8 : (h7.new (.cells false [vf, vs])).next = h7.next + 1 := H.next_new ..
  generalize h7.new (.cells false [vf, vs]) = h8 at *
  have F8 := F7.trans hf8
  obtain ⟨wsA, sA, aA⟩ := sf7.mono hf8
  obtain ⟨wsB, sB, aB⟩ := ss.sr.mono hf8
  have lwA := aA.length
  have lwB := aB.length
  refine (concatr_ok h7.next vf vs wsA wsB h8 hg8 (by omega) sA sB (by omega) (by omega)).mono ?_
  rintro w h9 ⟨o9, f9⟩
  have s9 : SR h9 w (first ++ second) := ⟨wsA ++ wsB, o9.sv, All2.append (aA.mono fun _ _ s => s.mono f9) (aB.mono fun _ _ s => s.mono f9)⟩
  have F9 := F8.trans f9
  simp (disch := first | omega | (simp only [Qn] <;> omega)) only [go_sem]
  obtain ⟨st, hst⟩ : ∃ l, first ++ second = l := ⟨_, rfl⟩
  have lst : st.length = first.length + second.length := by rw [← hst, List.length_append]
  have rst : ∀ i, i < st.length → (st.getD i []).length = n := by rw [← hst]; exact getD_app rf rs
  rw [hst] at s9
  refine (kernel_ok p n w st h9 s9 (by omega) (by omega) (by omega) rst q1 q2).mono ?_
  rintro vk hk ⟨kk, Sz, fk, hkk, sk, sK, fk'⟩
  subst hkk
  obtain ⟨K, hKe⟩ : ∃ l, krF n st.length Sz fk (n + st.length) = l := ⟨_, rfl⟩
  have hKr := hKe
  rw [krF_rwF rfl] at hKr
  have rK := Re.ker rfl sk.re
  have pvK := Re.pv rK
  rw [hKr] at pvK
  rw [hKe] at sK
  have Fk := F9.trans fk'
  have F5k : Fr h5 hk := (((f6.trans f7).trans hf8).trans f9).trans fk'
  have lvk := sK.sr.lens
  have rowK : ∀ q, q < K.length → (K.getD q []).length = st.length := fun q hq => by rw [pvK.row q hq, mkV_len]
  have rngK : ∀ q i, q < K.length → i < st.length → 0 ≤ vw K q i ∧ vw K q i < p := fun q i hq hi => by rw [pvK.vw hq hi]; exact pvK.rng q i hq hi
  have new := meet_new hp pv1 pv2 (lst ▸ pvK) (fun q hq j hj => by
    rw [hst, ← lst]
    have e := piv_at (n := st.length) (S := kS n Sz) (f := kf n fk) (i := q) (by rw [hKr]; exact hq)
    rw [hKr] at e
    rw [← Sk.zero rfl sk e.1 e.2.1 hj]
    congr 1
    exact sm_congr fun i hi => by rw [vw, e.2.2, mkV_get _ hi])
  obtain ⟨LL, hLL⟩ : ∃ l, mtL p n first K = l := ⟨_, rfl⟩
  have lLL : LL.length = K.length := by rw [← hLL, mtL_len]
  have KK := (Sp.kp hp (Nat.le_refl n) (mtL p n first K)).ind new
  rw [hLL] at KK
  have gM : M < h9.next := by have := kE.ltM; have := (((f7).trans hf8).trans f9).next; omega
  have gE : E < h9.next := by have := kE.ltE; have := (((f7).trans hf8).trans f9).next; omega
  have h9k := fk'.next
  have lK : K.length ≤ 200 := by rw [← hKe]; exact Nat.le_trans krF_len (by omega)
  have lvf : lensV vf = some (.int .i64 (first.length : Int)) := sf.sr.lens
  simp (disch := first | omega | (simp only [Qn] <;> omega)) only [go_sem, lvk]
  refine Wp_loop (fun k' vars hh => ∃ (q k : Nat) (S : Nat → Bool) (ρ : Nat → Nat) (f : Nat → Nat → Int), (∃ g : Nat → V, vars = [.int .i64 p, .int .i64 (n : Int), g 2, g 3, g 4, g 5, g 6, g 7, g 8, vf, .ptr E 0, g 11, g 12, g 13, g 14, g 15, vk, .int .i64 (K.length : Int), .int .i64 (q : Int), g 19, g 20, g 21, g 22, g 23]) ∧ q ≤ K.length ∧ (Sp p n n (vw LL) q S f k ∧ k = q) ∧ Ec hh E M n n p S ρ f h5.next ∧ (∀ c, c < n → S c = true → hk.next ≤ ρ c) ∧ Fr h5 hh ∧ Fx M hk hh ∧ k' = K.length - q) K.length
    ⟨0, 0, fun _ => false, ρ, fun _ _ => 0, ex_junk rfl, Nat.zero_le _, ⟨Sp.start p n n _ _, rfl⟩, kE.fr (((f7.trans hf8).trans f9).trans fk'), fun c _ (q : false = true) => Bool.noConfusion q, F5k, Fx.refl _ _, rfl⟩ ?_
  clear kE
  rintro k' vars hh ⟨q, k, S, ρ, f, ⟨jk, rfl⟩, hq, hφ, kE, hρ, Fh, FX, rfl⟩
  have nx := FX.next
  simp (disch := first | omega | (simp only [Qn] <;> omega)) only [go_sem]
  by_cases hlt : (q : Int) < (K.length : Int)
  · rw [decide_eq_true hlt]
    have hq' : q < K.length := by omega
    have sKh := (sK.fx gM FX).sr
    obtain ⟨id, off, ws, sl, hid, hwl, hc, hall⟩ := sKh.open
    have cq := hc q hq'
    have rq := row_at hall (i := q) hq'
    obtain ⟨wq, hwq⟩ : ∃ w, ws.getD q .undef = w := ⟨_, rfl⟩
    rw [hwq] at cq rq
    have emk := fun h' => mks_ints h' n (by omega)
    simp (disch := first | omega | (simp only [Qn] <;> omega)) only [go_sem, sl.ixa, cq, emk, lvf]
    have hfN : Fr hh (hh.new (.cells false (ints (mkV n fun _ => 0)))) := (Fr.refl hh).new _
    have hgN : (hh.new (.cells false (ints (mkV n fun _ => 0)))).get hh.next = some (.cells false (ints (mkV n fun _ => 0))) := H.get_new_same ..
    have hnN : (hh.new (.cells false (ints (mkV n fun _ => 0)))).next = hh.next + 1 := H.next_new ..
    generalize hh.new (.cells false (ints (mkV n fun _ => 0))) = hN at *
    obtain ⟨N, hNe⟩ : ∃ N, hh.next = N := ⟨_, rfl⟩
    rw [hNe] at hgN ⊢
    refine Wp_loop (fun k' vars hi => ∃ (i : Nat), (∃ g : Nat → V, vars = [.int .i64 p, .int .i64 (n : Int), g 2, g 3, g 4, g 5, g 6, g 7, g 8, vf, .ptr E 0, wq, .sl N 0 n (.kn n), g 13, g 14, g 15, vk, .int .i64 (K.length : Int), .int .i64 (q : Int), g 19, vf, .int .i64 (first.length : Int), .int .i64 (i : Int), g 23]) ∧ i ≤ first.length ∧ Bk hi N n (acF p (vw K q) (vw first) i) ∧ N < hi.next ∧ Fr hh hi ∧ k' = first.length - i) first.length
      ⟨0, ex_junk rfl, Nat.zero_le _, hgN, by omega, hfN, rfl⟩ ?_
    rintro k' vars hi ⟨i, ⟨jk2, rfl⟩, hii, bN, lN, Fi, rfl⟩
    have nhi := Fi.next
    simp (disch := first | omega | (simp only [Qn] <;> omega)) only [go_sem]
    by_cases hlt2 : (i : Int) < (first.length : Int)
    · rw [decide_eq_true hlt2]
      have hi' : i < first.length := by omega
      have sfi := sf.sr.mono Fh
      obtain ⟨idf, offf, wsf, slf, hidf, hwlf, hcf, hallf⟩ := sfi.open
      have cfi : hi.cell idf (offf + i) = some (wsf.getD i .undef) := by rw [Fi.cell (hidf (by omega))]; exact hcf i hi'
      have rfi := row_at hallf (i := i) hi'
      have rfl' := rf i hi'
      obtain ⟨idw, offw, shw, hidw, hcw⟩ := rfi.open
      rw [rfl'] at shw hidw hcw
      replace hcw : ∀ j, j < n → hh.cell idw (offw + j) = some (.int .i64 (vw first i j)) := hcw
      obtain ⟨idk, offk, shk, hidk, hck⟩ := (rq.mono Fi).open
      rw [rowK q hq'] at shk hidk hck
      have cki := hck i (by omega)
      have evk : (K.getD q []).getD i 0 = vw K q i := rfl
      rw [evk] at cki
      have rE := r1E (kE.fr Fi).gE
      have rEb : (H.mk hi.tr (hi.next + 11)).row E 0 1 = some [.int .i64 p] := rE
      have fb : Fr hi (H.mk hi.tr (hi.next + 11)) := (Fr.refl hi).bump (by omega)
      have nb : (H.mk hi.tr (hi.next + 11)).next = hi.next + 11 := rfl
      simp (disch := first | omega | (simp only [Qn] <;> omega)) only [go_sem, slf.ixa, cfi, shk.ixa, cki, rE, rEb, List.getElem?_cons_zero, List.getElem?_cons_succ]
      have idwN : idw ≠ N := by have := hidw (by omega); omega
      generalize H.mk hi.tr (hi.next + 11) = hB at *
      have bB := bN.fr fb lN
      have rk := rngK q i hq' (by omega)
      have rg : ∀ j, j < n → 0 ≤ vw first i j ∧ vw first i j < p := fun j hj => by rw [pv1.vw hi' hj]; exact pv1.rng i j hi' hj
      refine (add_ok p (vw K q i) N n n idw offw (.kn n) _ (acF p (vw K q) (vw first) i) (vw first i) [] hB bB.bt (by omega) shw (fun h0 => by have := hidw h0; omega) (fun j hj => by rw [(Fi.trans fb).cell (by have := hidw (by omega); omega)]; exact hcw j hj) (.inl idwN) (Nat.le_refl n) (by omega) ⟨by omega, q2⟩ ⟨rk.1, by omega⟩ (fun j hj => by have := acF_range (p := p) (by omega) (vw K q) (vw first) i j; omega) (fun j hj => by have := rg j hj; omega)).mono ?_
      rintro w hC ⟨bC, FC⟩
      have nC := FC.next
      simp (disch := first | omega | (simp only [Qn] <;> omega)) only [go_sem]
      rw [show (i : Int) + 1 = ((i + 1 : Nat) : Int) from by omega]
      exact ⟨first.length - (i + 1), by omega, i + 1, ex_junk rfl, by omega, bC.bk.congr fun j hj => by rw [if_pos hj, acF], by omega, Fx.fr (Fi.trans fb) (by omega) FC, rfl⟩
    rw [decide_eq_false hlt2]
    obtain ⟨rfl⟩ : i = first.length := by omega
    have kEi := kE.fr Fi
    obtain ⟨l, hl⟩ : ∃ l, mkV n (acF p (vw K q) (vw first) first.length) = l := ⟨_, rfl⟩
    have eLL : LL.getD q [] = l := by rw [← hLL, mtL_row hq', hl]
    have ll : l.length = n := by rw [← hl, mkV_len]
    have sN := bN.si lN (.kn n)
    rw [hl] at sN
    obtain ⟨u, hu⟩ : ∃ u, u = rdF p S f (fun j => (LL.getD q []).getD j 0 % p) n := ⟨_, rfl⟩
    have hqL : q < LL.length := by omega
    have hu' : u = rdF p S f (fun j => l.getD j 0 % p) n := by rw [hu, eLL]
    simp (disch := first | omega | (simp only [Qn] <;> omega)) only [go_sem]
    refine (insert_fr p E M n n S ρ f _ _ l u hi kEi (by have := (Fh.trans Fi).next; omega) sN ll (by omega) (Nat.le_refl n) q1 q2 (KK.rng q S f k hφ) hu' (by rw [hu]; exact KK.red q S f k hqL hφ)).mono ?_
    rintro w hD ⟨hF, hnx, oth, hcase⟩
    have FhD := hF h5 (Fh.trans Fi) (Nat.le_refl _)
    have FXD : Fx M hk hD := ⟨by omega, fun id h1 h2 => (oth id (by omega) h2 fun c hc hs => by have := hρ c hc hs; omega).trans ((Fi.get id (by omega)).trans (FX.get id h1 h2))⟩
    rcases hcase with ⟨rfl, hz, kE2⟩ | ⟨rfl, at_, x, N', a1, a2, a3, a4, a5, a6, a7, kE2⟩
    · simp (disch := first | omega | (simp only [Qn] <;> omega)) only [go_sem]
      rw [show (q : Int) + 1 = ((q + 1 : Nat) : Int) from by omega]
      exact ⟨K.length - (q + 1), by omega, q + 1, k, S, ρ, f, ex_junk rfl, by omega, KK.no q S f k hqL hφ (by rw [← hu]; exact hz), kE2, hρ, FhD, FXD, rfl⟩
    · simp (disch := first | omega | (simp only [Qn] <;> omega)) only [go_sem]
      rw [show (q : Int) + 1 = ((q + 1 : Nat) : Int) from by omega]
      exact ⟨K.length - (q + 1), by omega, q + 1, k + 1, _, _, _, ex_junk rfl, by omega, KK.yes q S f k u hqL hφ hu at_ x a1 a2 a3 a4 a5 a6, kE2, fun c hc hs => by
        by_cases e : c = at_
        · simp only [upN, if_pos e]; omega
        · simp only [upN, if_neg e] at hs ⊢; exact hρ c hc hs, FhD, FXD, rfl⟩
  rw [decide_eq_false hlt]
  obtain ⟨rfl⟩ : q = K.length := by omega
  simp (disch := first | omega | (simp only [Qn] <;> omega)) only [go_sem]
  refine (list_fr p E M n n S ρ f _ hh kE (by omega)).mono ?_
  rintro w hZ ⟨_, fZ, sz⟩
  simp (disch := first | omega | (simp only [Qn] <;> omega)) only [go_sem]
  have F5h := F5.next
  refine ⟨_, S1, f1, k1, S2, f2, k2, Sz, fk, S, f, k, first, second, K, rfl, s1, s2, hfi.symm, hse.symm, by rw [hst]; exact sk, by rw [hst]; exact hKe.symm, by rw [hLL]; exact hφ.1, hφ.2, sz.le (by omega), (F5.trans Fh).trans fZ⟩
end Go.Proofs.Ytlhebmcnjgagjaa

/- Layer 5: the reference's check, Basis, Rank, In, Sum. -/
namespace Go.Proofs.Ytlhebmcnjgagjaa
open Go Go.Ay
set_option maxRecDepth 100000
set_option maxHeartbeats 8000000 in
theorem ref_check5_ok (p n : Int) (v : V) (m : Nat) (us : Nat → V) (lls : Nat → List (List Int)) (id off : Nat) (h : H) (hsl : Sl v 1 m id off) (hcs : ∀ i, i < m → h.cell id (off + i) = some (us i)) (hR : ∀ i, i < m → SR h (us i) (lls i)) (hl : ∀ i, i < m → ((lls i).length : Int) ≤ 2 ^ 63 - 1) (hm : m < 1000000) :
    Ev T n_ref05_check [.int .i64 p, .int .i64 n, v] h (fun w h' => w = .int .i64 (ckF p n ((List.range m).map lls)) ∧ h' = h) := by
  obtain ⟨L, hL⟩ : ∃ L, (List.range m).map lls = L := ⟨_, rfl⟩
  have lL : L.length = m := by rw [← hL, List.length_map, List.length_range]
  have gL : ∀ j, j < m → L.getD j [] = lls j := fun j hj => by rw [← hL, List.getD_eq_getElem?_getD, List.getElem?_map, List.getElem?_range hj]; rfl
  rw [hL]
  refine Ev_of t_ref05_check rfl ?_
  simp (disch := first | omega | (simp only [Qn] <;> omega)) only [go_sem, c_ref05_check, initV_eq]
  refine (ref_field_ok p h).mono ?_
  rintro w h1 ⟨rfl, rfl⟩
  simp (disch := first | omega | (simp only [Qn] <;> omega)) only [go_sem]
  refine iteW_bool (fun hf' => ?_) (fun hf => ?_)
  rotate_left
  · simp (disch := first | omega | (simp only [Qn] <;> omega)) only [go_sem]
    exact ⟨by rw [ckF, if_pos hf], trivial⟩
  have key : ckF p n L = if n < 1 ∨ 64 < n then 2 else lckF n L := by rw [ckF, if_neg (by rw [hf']; simp)]
  rw [key]
  clear key
  simp (disch := first | omega | (simp only [Qn] <;> omega)) only [go_sem]
  by_cases hn1 : n < 1
  · rw [decide_eq_true hn1]
    simp (disch := first | omega | (simp only [Qn] <;> omega)) only [go_sem]
    rw [if_pos (.inl hn1)]
    exact ⟨rfl, trivial⟩
  rw [decide_eq_false hn1]
  simp (disch := first | omega | (simp only [Qn] <;> omega)) only [go_sem]
  refine iteW_dec (fun hn2 => ?_) (fun hn2 => ?_)
  · simp (disch := first | omega | (simp only [Qn] <;> omega)) only [go_sem]
    rw [if_pos (.inr hn2)]
    exact ⟨rfl, trivial⟩
  rw [if_neg (by omega)]
  simp (disch := first | omega | (simp only [Qn] <;> omega)) only [go_sem]
  refine Wp_loop (fun k' vars hh => hh = h1 ∧ ∃ (i : Nat), (∃ g : Nat → V, vars = [g 0, .int .i64 n, v, g 3, .int .i64 (i : Int), g 5, g 6, g 7, g 8, g 9, g 10, g 11]) ∧ i ≤ m ∧ (∀ j, j < i → (lls j).length ≤ 200 ∧ ∀ k, k < (lls j).length → (((lls j).getD k []).length : Int) = n) ∧ k' = m - i) m
    ⟨rfl, 0, ex_junk rfl, Nat.zero_le _, fun j hj => by omega, rfl⟩ ?_
  rintro k' vars hh ⟨rfl, i, ⟨g, rfl⟩, hi, hz, rfl⟩
  have hsk : lckF n L = lckF n (L.drop i) := lckF_skip (by omega) fun j hj => by rw [gL j (by omega)]; exact hz j hj
  simp (disch := first | omega | (simp only [Qn] <;> omega)) only [go_sem, hsl.lens]
  by_cases him : (i : Int) < (m : Int)
  · rw [decide_eq_true him]
    have hi' : i < m := by omega
    have hdr : L.drop i = lls i :: L.drop (i + 1) := by
      rw [List.drop_eq_getElem_cons (by omega)]
      congr 1
      rw [← gL i hi', List.getD_eq_getElem?_getD, List.getElem?_eq_getElem (by omega), Option.getD_some]
    rw [hdr, lckF] at hsk
    obtain ⟨idr, offr, ws, slr, hidr, hwlr, hcr, hallr⟩ := (hR i hi').open
    have li := hl i hi'
    simp (disch := first | omega | (simp only [Qn] <;> omega)) only [go_sem, hsl.ixa, hcs i hi', slr.lens]
    refine iteW_dec (fun h2 => ?_) (fun h2 => ?_)
    · simp (disch := first | omega | (simp only [Qn] <;> omega)) only [go_sem]
      rw [hsk, if_pos (by omega)]
      exact ⟨rfl, trivial⟩
    have h200 : (lls i).length ≤ 200 := by omega
    rw [if_neg (by omega)] at hsk
    simp (disch := first | omega | (simp only [Qn] <;> omega)) only [go_sem]
    refine Wp_loop (fun k' vars hh' => hh' = hh ∧ ∃ (k : Nat), (∃ g : Nat → V, vars = [g 0, .int .i64 n, v, g 3, .int .i64 (i : Int), .int .i64 (k : Int), g 6, g 7, g 8, g 9, g 10, g 11]) ∧ k ≤ (lls i).length ∧ (∀ j, j < k → (((lls i).getD j []).length : Int) = n) ∧ k' = (lls i).length - k) (lls i).length
      ⟨rfl, 0, ex_junk rfl, Nat.zero_le _, fun j hj => by omega, rfl⟩ ?_
    rintro k' vars h3 ⟨rfl, k, ⟨g, rfl⟩, hk, hzk, rfl⟩
    simp (disch := first | omega | (simp only [Qn] <;> omega)) only [go_sem, hsl.ixa, hcs i hi', slr.lens]
    by_cases hkl : (k : Int) < ((lls i).length : Int)
    · rw [decide_eq_true hkl]
      have hk' : k < (lls i).length := by omega
      have rk := row_at hallr hk'
      simp (disch := first | omega | (simp only [Qn] <;> omega)) only [go_sem, hsl.ixa, hcs i hi', slr.ixa, hcr k hk', rk.lens]
      refine iteW_dec (fun h4 => ?_) (fun h4 => ?_)
      · simp (disch := first | omega | (simp only [Qn] <;> omega)) only [go_sem]
        rw [hsk, if_pos]
        · exact ⟨rfl, trivial⟩
        · refine List.any_eq_true.2 ⟨(lls i).getD k [], ?_, by simpa using h4⟩
          rw [List.getD_eq_getElem?_getD, List.getElem?_eq_getElem hk']
          exact List.getElem_mem _
      simp (disch := first | omega | (simp only [Qn] <;> omega)) only [go_sem]
      rw [show (k : Int) + 1 = ((k + 1 : Nat) : Int) from by omega]
      refine ⟨(lls i).length - (k + 1), by omega, k + 1, ex_junk rfl, by omega, fun j hj => ?_, rfl⟩
      by_cases e : j = k
      · rw [e]; omega
      · exact hzk j (by omega)
    rw [decide_eq_false hkl]
    obtain rfl : k = (lls i).length := by omega
    simp (disch := first | omega | (simp only [Qn] <;> omega)) only [go_sem]
    rw [show (i : Int) + 1 = ((i + 1 : Nat) : Int) from by omega]
    refine ⟨m - (i + 1), by omega, i + 1, ex_junk rfl, by omega, fun j hj => ?_, rfl⟩
    by_cases e : j = i
    · rw [e]; exact ⟨h200, hzk⟩
    · exact hz j (by omega)
  rw [decide_eq_false him]
  obtain rfl : i = m := by omega
  simp (disch := first | omega | (simp only [Qn] <;> omega)) only [go_sem]
  rw [hsk, List.drop_eq_nil_of_le (by omega)]
  exact ⟨rfl, trivial⟩

theorem SRc.sr {h : H} {u : V} {ll : List (List Int)} {lo : Nat} (s : SRc h u ll lo) : SR h u ll := s.srf.sr
noncomputable def SumF (p n : Int) (A B : List (List Int)) : List (List Int) × Int := if ckF p n [A, B] ≠ 0 then ([], ckF p n [A, B]) else (bsF p n.toNat (A ++ B), 0)
theorem bsF_bd (p : Int) (n : Nat) (ll : List (List Int)) : (bsF p n ll).length ≤ n ∧ ∀ i, i < (bsF p n ll).length → ((bsF p n ll).getD i []).length = n := by
  unfold bsF
  split
  · refine ⟨by rw [rwF_len]; exact cnt_le _ _, fun i hi => ?_⟩
    rw [(piv_at hi).2.2, mkV_len]
  · exact ⟨Nat.zero_le _, fun i hi => absurd hi (Nat.not_lt_zero i)⟩
set_option maxHeartbeats 8000000 in
theorem ref_Basis_ok (p n : Int) (v : V) (ll : List (List Int)) (h : H) (hv : SR h v ll) (hl : (ll.length : Int) ≤ 2 ^ 63 - 1) :
    Ev T n_ref05_Basis [.int .i64 p, .int .i64 n, v] h (fun w h' => ∃ u, w = .tup [u, .int .i64 (BasisF p n ll).2] ∧ SR h' u (BasisF p n ll).1 ∧ Fr h h') := by
  refine Ev_of t_ref05_Basis rfl ?_
  have wv := SV.what hv.choose_spec.1
  simp (disch := first | omega | (simp only [Qn] <;> omega)) only [go_sem, c_ref05_Basis, initV_eq, bls_row h wv.1 wv.2.1]
  have hf1 : Fr h (h.new (.cells false [v])) := (Fr.refl h).new _
  have hg1 : (h.new (.cells false [v])).get h.next = some (.cells false [v]) := H.get_new_same ..
  have hn1 : (h.new (.cells false [v])).next = h.next + 1 := H.next_new ..
  generalize h.new (.cells false [v]) = h1 at *
  have c1 : h1.cell h.next 0 = some v := by rw [H.cell_of hg1]; rfl
  refine (ref_check5_ok p n (.sl h.next 0 1 (.kn 1)) 1 (fun _ => v) (fun _ => ll) h.next 0 h1 (sl1 ..) (fun i hi => by obtain rfl : i = 0 := (by omega); exact c1) (fun _ _ => hv.mono hf1) (fun _ _ => hl) (by omega)).mono ?_
  rintro w h2 ⟨rfl, rfl⟩
  simp only [List.range_one, List.map_cons, List.map_nil]
  simp (disch := first | omega | (simp only [Qn] <;> omega)) only [go_sem]
  refine iteW_dec (fun hz => ?_) (fun hz => ?_)
  · simp (disch := first | omega | (simp only [Qn] <;> omega)) only [go_sem]
    rw [BasisF, if_pos hz]
    exact ⟨_, rfl, SR.nils _, hf1⟩
  have hz : ckF p n [ll] = 0 := Classical.byContradiction hz
  obtain ⟨q1, q2, q3, q4, q5⟩ := ck_zero hz
  obtain ⟨q6, q7⟩ := q5 ll (List.mem_singleton.2 rfl)
  obtain ⟨N, rfl⟩ : ∃ N : Nat, n = (N : Int) := ⟨n.toNat, by omega⟩
  simp (disch := first | omega | (simp only [Qn] <;> omega)) only [go_sem]
  refine (ref_basis_ok p N v ll h2 (hv.mono hf1) (by omega) (fun i hi => by have := q7 i hi; omega) (by omega) (by omega) q1 q2).mono ?_
  rintro w h3 ⟨u, z, S, f, k, rfl, s, sr, _, _, f3⟩
  simp (disch := first | omega | (simp only [Qn] <;> omega)) only [go_sem, List.getElem?_cons_zero, List.getElem?_cons_succ]
  rw [BasisF, if_neg (by simp [hz]), Int.toNat_natCast, bsF_eq (isP_gt q1) s]
  exact ⟨_, rfl, sr.sr, hf1.trans f3⟩
set_option maxHeartbeats 8000000 in
theorem ref_Rank_ok (p n : Int) (v : V) (ll : List (List Int)) (h : H) (hv : SR h v ll) (hl : (ll.length : Int) ≤ 2 ^ 63 - 1) :
    Ev T n_ref05_Rank [.int .i64 p, .int .i64 n, v] h (fun w h' => w = .tup [.int .i64 (RankF p n ll).1, .int .i64 (RankF p n ll).2] ∧ Fr h h') := by
  refine Ev_of t_ref05_Rank rfl ?_
  simp (disch := first | omega | (simp only [Qn] <;> omega)) only [go_sem, c_ref05_Rank, initV_eq]
  refine (ref_Basis_ok p n v ll h hv hl).mono ?_
  rintro w h1 ⟨u, rfl, sr, f1⟩
  simp (disch := first | omega | (simp only [Qn] <;> omega)) only [go_sem, List.getElem?_cons_zero, List.getElem?_cons_succ, sr.lens]
  refine ⟨?_, f1⟩
  by_cases hz : ckF p n [ll] ≠ 0
  · rw [RankF, if_pos hz, BasisF, if_pos hz]; rfl
  · rw [RankF, if_neg hz, BasisF, if_neg hz]
/-- One row more: as many pivots exactly if it is in the span. -/
theorem one_more {p : Int} {n m k k' : Nat} {S S' : Nat → Bool} {f f' : Nat → Nat → Int} (hp : 1 < p) {V : Nat → Nat → Int} (s : Sp p n n V m S f k) {v : List Int} (s' : Sp p n n (vw (rwF n n S f ++ [v])) (rwF n n S f ++ [v]).length S' f' k') : (cnt n S = cnt n S') ↔ InS p n m V (fun j => v.getD j 0) := by
  have lw : (rwF n n S f ++ [v]).length = (rwF n n S f).length + 1 := by simp
  have old : ∀ i, i < (rwF n n S f).length → vw (rwF n n S f ++ [v]) i = vw (rwF n n S f) i := fun i hi => by
    funext j; simp only [vw]; rw [List.getD_eq_getElem?_getD (l := _ ++ _), List.getElem?_append_left hi, ← List.getD_eq_getElem?_getD]
  have new : vw (rwF n n S f ++ [v]) (rwF n n S f).length = fun j => v.getD j 0 := by funext j; simp [vw]
  have sub : ∀ i, i < m → InS p n (rwF n n S f ++ [v]).length (vw (rwF n n S f ++ [v])) (V i) := fun i hi =>
    (s.toB i hi).trans fun a ha => by rw [← old a ha]; exact InS.row (by omega)
  constructor
  · intro e
    have := rank_law hp s s' sub e (rwF n n S f).length (by omega)
    rw [new] at this
    exact this
  · intro hin
    have := (Sp.uniq hp s s' sub fun i hi => by
      by_cases e : i < (rwF n n S f).length
      · rw [old i e]; exact s.ofB i e
      · obtain rfl : i = (rwF n n S f).length := by omega
        rw [new]; exact hin).1
    exact cnt_congr this
set_option maxHeartbeats 8000000 in
theorem ref_In_ok (p n : Int) (v u : V) (ll : List (List Int)) (l : List Int) (h : H) (hv : SR h v ll) (hl : (ll.length : Int) ≤ 2 ^ 63 - 1) (hu : SI h u l) :
    Ev T n_ref05_In [.int .i64 p, .int .i64 n, v, u] h (fun w h' => w = .tup [.bool (InF p n ll l).1, .int .i64 (InF p n ll l).2] ∧ Fr h h') := by
  refine Ev_of t_ref05_In rfl ?_
  have wv := SV.what hv.choose_spec.1
  have wu := SV.what hu
  simp (disch := first | omega | (simp only [Qn] <;> omega)) only [go_sem, c_ref05_In, initV_eq, bls_row h wu.1 wu.2.1]
  have hf1 : Fr h (h.new (.cells false [u])) := (Fr.refl h).new _
  have hg1 : (h.new (.cells false [u])).get h.next = some (.cells false [u]) := H.get_new_same ..
  have hn1 : (h.new (.cells false [u])).next = h.next + 1 := H.next_new ..
  generalize h.new (.cells false [u]) = h1 at *
  simp (disch := first | omega | (simp only [Qn] <;> omega)) only [go_sem, bls_two h1 (u := V.sl h.next 0 1 (.kn 1)) wv.1 wv.2.1 rfl rfl]
  have hf2 : Fr h1 (h1.new (.cells false [v, .sl h.next 0 1 (.kn 1)])) := (Fr.refl h1).new _
  have hg2 : (h1.new (.cells false [v, .sl h.next 0 1 (.kn 1)])).get h1.next = some (.cells false [v, .sl h.next 0 1 (.kn 1)]) := H.get_new_same ..
  have hn2 : (h1.new (.cells false [v, .sl h.next 0 1 (.kn 1)])).next = h1.next + 1 := H.next_new ..
  generalize h1.new (.cells false [v, .sl h.next 0 1 (.kn 1)]) = h2 at *
  have F2 := hf1.trans hf2
  have c0 : h2.cell h1.next 0 = some v := by rw [H.cell_of hg2]; rfl
  have c1 : h2.cell h1.next 1 = some (.sl h.next 0 1 (.kn 1)) := by rw [H.cell_of hg2]; rfl
  have s1 : SR h2 (.sl h.next 0 1 (.kn 1)) [l] := ⟨[u], SV.mono (SV.all rfl (by omega) hg1 _) hf2, hu.mono F2, trivial⟩
  refine (ref_check5_ok p n (.sl h1.next 0 2 (.kn 2)) 2 (fun i => if i = 0 then v else .sl h.next 0 1 (.kn 1)) (fun i => if i = 0 then ll else [l]) h1.next 0 h2 (sl1 ..) (fun i hi => by
    by_cases e : i = 0
    · rw [e, if_pos rfl]; exact c0
    · obtain rfl : i = 1 := by omega
      rw [if_neg (by omega)]; exact c1) (fun i hi => by
    by_cases e : i = 0
    · simp only [if_pos e]; exact hv.mono F2
    · simp only [if_neg e]; exact s1) (fun i hi => by
    by_cases e : i = 0
    · simp only [if_pos e]; exact hl
    · simp only [if_neg e]; simp) (by omega)).mono ?_
  rintro w h3 ⟨rfl, rfl⟩
  have eL : (List.range 2).map (fun i => if i = 0 then ll else [l]) = [ll, [l]] := rfl
  rw [eL]
  simp (disch := first | omega | (simp only [Qn] <;> omega)) only [go_sem]
  refine iteW_dec (fun hz => ?_) (fun hz => ?_)
  · simp (disch := first | omega | (simp only [Qn] <;> omega)) only [go_sem]
    rw [InF, if_pos hz]
    exact ⟨rfl, F2⟩
  have hz : ckF p n [ll, [l]] = 0 := Classical.byContradiction hz
  obtain ⟨q1, q2, q3, q4, q5⟩ := ck_zero hz
  obtain ⟨q6, q7⟩ := q5 ll (List.mem_cons_self ..)
  have q8 : (l.length : Int) = n := (q5 [l] (by simp)).2 0 (by simp)
  obtain ⟨N, rfl⟩ : ∃ N : Nat, n = (N : Int) := ⟨n.toNat, by omega⟩
  simp (disch := first | omega | (simp only [Qn] <;> omega)) only [go_sem]
  refine (ref_basis_ok p N v ll h3 (hv.mono F2) (by omega) (fun i hi => by have := q7 i hi; omega) (by omega) (by omega) q1 q2).mono ?_
  rintro w h4 ⟨u4, z4, S, f, k, rfl, s, sr, _, _, f4⟩
  have F4 := F2.trans f4
  have srs := sr.sr
  obtain ⟨ws, sv, a2, fs, fws, cws⟩ := sr
  have lws := a2.length
  have bd := cnt_le N S
  rw [← rwF_len (n := N) (W := N) (S := S) (f := f)] at bd
  simp (disch := first | omega | (simp only [Qn] <;> omega)) only [go_sem, List.getElem?_cons_zero, List.getElem?_cons_succ]
  refine (ownr_ok u4 ws h4 sv (by omega)).mono ?_
  rintro w h5 ⟨o5, f5⟩
  have F5 := F4.trans f5
  simp (disch := first | omega | (simp only [Qn] <;> omega)) only [go_sem]
  have f6 : Fr h5 (h5.new (.cells false [u])) := (Fr.refl h5).new _
  have hy : SV (h5.new (.cells false [u])) (.sl h5.next 0 1 (.kn 1)) 1 [u] := SV.all rfl (by rw [H.next_new]; omega) (H.get_new_same ..) _
  obtain ⟨u7, h7, e7, a7⟩ := (o5.fr f6).app (bytes := 24) (n := ws.length) (m := 1) (by have := f5.next; have := f6.next; omega) hy (by omega) rfl (by omega) (by omega)
  have f7 := a7.fr h4 (f5.trans f6) (Nat.le_refl _)
  have F7 := F4.trans f7
  have o7 := a7.own
  have s7 : SR h7 u7 (rwF N N S f ++ [l]) := ⟨_, o7.sv, All2.snoc (a2.mono fun _ _ r => r.mono f7) (hu.mono F7)⟩
  simp (disch := first | omega | (simp only [Qn] <;> omega)) only [go_sem, bls_row h5 wu.1 wu.2.1, e7]
  refine (ref_basis_ok p N u7 (rwF N N S f ++ [l]) h7 s7 (by rw [List.length_append]; simp; omega) (getD_app (fun i hi => by rw [(piv_at hi).2.2, mkV_len]) (fun i hi => by simp at hi; subst hi; simp; omega)) (by omega) (by omega) q1 q2).mono ?_
  rintro w h8 ⟨u8, z8, S8, f8, k8, rfl, s8, sr8, _, _, g8⟩
  simp (disch := first | omega | (simp only [Qn] <;> omega)) only [go_sem, List.getElem?_cons_zero, List.getElem?_cons_succ, (srs.mono (f7.trans g8)).lens, sr8.sr.lens]
  refine ⟨?_, F7.trans g8⟩
  rw [InF, if_neg (by simp [hz]), Int.toNat_natCast]
  simp only
  congr 3
  rw [decide_eq_decide, rwF_len, rwF_len, ← one_more (isP_gt q1) s s8]
  omega
set_option maxHeartbeats 8000000 in
theorem ref_check_two (p n : Int) (va vb : V) (A B : List (List Int)) (id : Nat) (h : H) (hg : h.get id = some (.cells false [va, vb])) (ha : SR h va A) (hb : SR h vb B) (lA : (A.length : Int) ≤ 2 ^ 63 - 1) (lB : (B.length : Int) ≤ 2 ^ 63 - 1) :
    Ev T n_ref05_check [.int .i64 p, .int .i64 n, .sl id 0 2 (.kn 2)] h (fun w h' => w = .int .i64 (ckF p n [A, B]) ∧ h' = h) := by
  have c0 : h.cell id 0 = some va := by rw [H.cell_of hg]; rfl
  have c1 : h.cell id 1 = some vb := by rw [H.cell_of hg]; rfl
  refine (ref_check5_ok p n (.sl id 0 2 (.kn 2)) 2 (fun i => if i = 0 then va else vb) (fun i => if i = 0 then A else B) id 0 h (sl1 ..) (fun i hi => by
    by_cases e : i = 0
    · rw [e, if_pos rfl]; exact c0
    · obtain rfl : i = 1 := by omega
      rw [if_neg (by omega)]; exact c1) (fun i hi => by
    by_cases e : i = 0
    · simp only [if_pos e]; exact ha
    · simp only [if_neg e]; exact hb) (fun i hi => by
    by_cases e : i = 0
    · simp only [if_pos e]; exact lA
    · simp only [if_neg e]; exact lB) (by omega)).mono ?_
  rintro w h3 ⟨rfl, rfl⟩
  exact ⟨rfl, rfl⟩
set_option maxHeartbeats 8000000 in
theorem ref_Sum_ok (p n : Int) (va vb : V) (A B : List (List Int)) (h : H) (ha : SR h va A) (hb : SR h vb B) (lA : (A.length : Int) ≤ 2 ^ 63 - 1) (lB : (B.length : Int) ≤ 2 ^ 63 - 1) :
    Ev T n_ref05_Sum [.int .i64 p, .int .i64 n, va, vb] h (fun w h' => ∃ u, w = .tup [u, .int .i64 (SumF p n A B).2] ∧ SR h' u (SumF p n A B).1 ∧ Fr h h') := by
  refine Ev_of t_ref05_Sum rfl ?_
  have wa := SV.what ha.choose_spec.1
  have wb := SV.what hb.choose_spec.1
  simp (disch := first | omega | (simp only [Qn] <;> omega)) only [go_sem, c_ref05_Sum, initV_eq, bls_two h wa.1 wa.2.1 wb.1 wb.2.1]
  have hf1 : Fr h (h.new (.cells false [va, vb])) := (Fr.refl h).new _
  have hg1 : (h.new (.cells false [va, vb])).get h.next = some (.cells false [va, vb]) := H.get_new_same ..
  have hn1 : (h.new (.cells false [va, vb])).next = h.next + 1 := H.next_new ..
  generalize h.new (.cells false [va, vb]) = h1 at *
  refine (ref_check_two p n va vb A B h.next h1 hg1 (ha.mono hf1) (hb.mono hf1) lA lB).mono ?_
  rintro w h2 ⟨rfl, rfl⟩
  simp (disch := first | omega | (simp only [Qn] <;> omega)) only [go_sem]
  refine iteW_dec (fun hz => ?_) (fun hz => ?_)
  · simp (disch := first | omega | (simp only [Qn] <;> omega)) only [go_sem]
    rw [SumF, if_pos hz]
    exact ⟨_, rfl, SR.nils _, hf1⟩
  have hz : ckF p n [A, B] = 0 := Classical.byContradiction hz
  obtain ⟨q1, q2, q3, q4, q5, q6, q7, q8⟩ := ck_two hz
  obtain ⟨N, rfl⟩ : ∃ N : Nat, n = (N : Int) := ⟨n.toNat, by omega⟩
  obtain ⟨wsa, sva, a2⟩ := ha.mono hf1
  obtain ⟨wsb, svb, b2⟩ := hb.mono hf1
  have lwa := a2.length
  have lwb := b2.length
  simp (disch := first | omega | (simp only [Qn] <;> omega)) only [go_sem]
  refine (ownr_ok va wsa h2 sva (by omega)).mono ?_
  rintro w h3 ⟨o3, f3⟩
  obtain ⟨u4, h4, e4, a4⟩ := o3.app (bytes := 24) (n := wsa.length) (m := wsb.length) f3.next (svb.mono f3) (by omega) (by omega) (by omega) (by omega)
  have f4 := a4.fr h2 f3 (Nat.le_refl _)
  have o4 := a4.own
  have s4 : SR h4 u4 (A ++ B) := ⟨_, o4.sv, All2.append (a2.mono fun _ _ r => r.mono f4) (b2.mono fun _ _ r => r.mono f4)⟩
  simp (disch := first | omega | (simp only [Qn] <;> omega)) only [go_sem, e4]
  refine (ref_basis_ok p N u4 (A ++ B) h4 s4 (by rw [List.length_append]; omega) (getD_app (fun i hi => by have := q7 i hi; omega) (fun i hi => by have := q8 i hi; omega)) (by omega) (by omega) q1 q2).mono ?_
  rintro w h5 ⟨u5, z5, S, f, k, rfl, s, sr, _, _, f5⟩
  simp (disch := first | omega | (simp only [Qn] <;> omega)) only [go_sem, List.getElem?_cons_zero, List.getElem?_cons_succ]
  rw [SumF, if_neg (by simp [hz]), Int.toNat_natCast, bsF_eq (isP_gt q1) s]
  exact ⟨_, rfl, sr.sr, (hf1.trans f4).trans f5⟩
end Go.Proofs.Ytlhebmcnjgagjaa

/- Layer 5: the law of the intersection. -/
namespace Go.Proofs.Ytlhebmcnjgagjaa
open Go Go.Ay
set_option maxRecDepth 100000
theorem InS.app {p : Int} {n m : Nat} {V : Nat → Nat → Int} {A B : List (List Int)} (hA : ∀ i, i < A.length → InS p n m V (vw A i)) (hB : ∀ i, i < B.length → InS p n m V (vw B i)) : ∀ i, i < (A ++ B).length → InS p n m V (vw (A ++ B) i) := fun i hi => by
  rw [List.length_append] at hi
  by_cases e : i < A.length
  · exact (hA i e).congr fun j _ => by rw [vw_app, if_pos e]
  · exact (hB (i - A.length) (by omega)).congr fun j _ => by rw [vw_app, if_neg e]
end Go.Proofs.Ytlhebmcnjgagjaa

/- Layer 5: the tags of a system's rows. -/
namespace Go.Proofs.Ytlhebmcnjgagjaa
open Go Go.Ay
set_option maxRecDepth 100000
section
variable {p : Int} {n m W i k : Nat} {V : Nat → Nat → Int} {S : Nat → Bool} {f : Nat → Nat → Int}
theorem Sp.cut {U : Nat → Nat → Int} (hW : n ≤ W) (s : Sp p n W U i S f k) : Sp p n n U i S f k :=
  ⟨⟨fun c j hc hs hj => s.re.rng c j hc hs (by omega), s.re.one, s.re.zer, s.re.lead⟩, fun c hc hs => (s.out c hc hs).cols hW, s.inn, s.cn⟩
end
end Go.Proofs.Ytlhebmcnjgagjaa

/- Layer 5: Solve. -/
namespace Go.Proofs.Ytlhebmcnjgagjaa
open Go Go.Ay
set_option maxRecDepth 100000
end Go.Proofs.Ytlhebmcnjgagjaa

/- Layer 5: two rows appended; a taker under another's change. -/
namespace Go.Proofs.Ytlhebmcnjgagjaa
open Go Go.Ay
set_option maxRecDepth 100000
theorem vw_mkR {m n : Nat} {A : Mx} {i j : Nat} (hi : i < m) (hj : j < n) : vw (mkR m n A) i j = A i j := by rw [vw, mkR_row _ hi, mkV_get _ hj]
theorem Rws.open {h : H} {u : V} {ws : List V} {ll : List (List Int)} {lo : Nat} (r : Rws h u ws ll lo) : ∃ id off, Sl u 1 ll.length id off ∧ (0 < ll.length → id < h.next ∧ lo ≤ id) ∧ ws.length = ll.length ∧ ∀ i, i < ll.length → h.cell id (off + i) = some (ws.getD i .undef) := by
  have hl := r.row.length
  obtain ⟨id, off, h1, h2, h3⟩ := r.own.sv.shape ll.length (by rw [hl, Nat.mul_one]) (by omega)
  refine ⟨id, off, h1, fun h0 => ⟨h2 h0, ?_⟩, hl, fun i i1 => ?_⟩
  · rcases r.own with ⟨h1', _⟩ | ⟨id', n, cap, rest, h1', _, _, h4, _⟩
    · have := h1.len
      rw [h1'] at this
      simp [lenV] at this
      omega
    · have e := h1.ixa .i64 0 (by omega) (by omega)
      have hn : n = ll.length := by
        have := h1.len
        rw [h1'] at this
        simpa [lenV] using this
      rw [h1', ixaV_sl (by omega) (by omega)] at e
      simp only [Option.some.injEq, V.ptr.injEq] at e
      omega
  · rw [h3 i (by omega), List.getD_eq_getElem?_getD, List.getElem?_eq_getElem (by omega)]; rfl
theorem InS.vw {p : Int} {n m : Nat} {V : Nat → Nat → Int} {ll ll' : List (List Int)} {q q' : Nat} (h : InS p n m V (vw ll q)) (e : ll'.getD q' [] = ll.getD q []) : InS p n m V (Go.Proofs.Ytlhebmcnjgagjaa.vw ll' q') := by
  unfold Go.Proofs.Ytlhebmcnjgagjaa.vw at h ⊢
  rw [e]; exact h
end Go.Proofs.Ytlhebmcnjgagjaa

/- The law LinearBasis, walked. -/
namespace Go.Proofs.Ytlhebmcnjgagjaa
open Go Go.Ay
set_option maxRecDepth 100000
end Go.Proofs.Ytlhebmcnjgagjaa

/- Layer 5: the reference's Apply: its result lies at or behind the heap's index. -/
namespace Go.Proofs.Ytlhebmcnjgagjaa
open Go Go.Ay
set_option maxRecDepth 100000
end Go.Proofs.Ytlhebmcnjgagjaa

/- Layer 5: for LinearSolves: apply, a part of rows, a row replaced. -/
namespace Go.Proofs.Ytlhebmcnjgagjaa
open Go Go.Ay
set_option maxRecDepth 100000
theorem all2_take {α β : Type} {R : α → β → Prop} : ∀ {as : List α} {bs : List β} (k : Nat), All2 R as bs → All2 R (as.take k) (bs.take k)
  | [], [], k, _ => by rw [List.take_nil, List.take_nil]; exact trivial
  | _ :: _, _ :: _, 0, _ => trivial
  | a :: as, b :: bs, k + 1, h => ⟨h.1, all2_take k h.2⟩
  | [], _ :: _, _, h => h.elim
  | _ :: _, [], _, h => h.elim
theorem Rws.pre {h : H} {id m lo : Nat} {ws : List V} {ll : List (List Int)} (r : Rws h (.sl id 0 m (.un 1)) ws ll lo) {k : Nat} (hk : k ≤ ll.length) : Rws h (.sl id 0 k (.un 1)) (ws.take k) (ll.take k) lo := by
  have hl := r.row.length
  refine ⟨?_, all2_take k r.row, fun w hw => ?_, fun w hw => r.frs w (List.mem_of_mem_take hw)⟩
  · rcases r.own with ⟨e, _⟩ | ⟨id', n, cap, rest, e, h1, _, h3, h4, h5⟩
    · cases e
    · cases e
      exact .inr ⟨id, k, .un 1, ws.drop k ++ rest, rfl, by rw [List.length_take]; omega, .inl rfl, h3, h4, by rw [h5, ← List.append_assoc, List.take_append_drop]⟩
  · have := r.dis w (List.mem_of_mem_take hw)
    intro i o n' c e i' o' n2 c' e'
    cases e
    exact this _ _ _ _ rfl _ _ _ _ e'
end Go.Proofs.Ytlhebmcnjgagjaa

