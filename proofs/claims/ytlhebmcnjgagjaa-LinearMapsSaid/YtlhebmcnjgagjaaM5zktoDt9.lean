/- Layer 5: blocks of rows, with three lists that grow: for the reference's basis. Layer 5: the reference's basis, column by column. Layer 5: the reference's basis, column by column: the walk. Layer 5: two lists of rows in a row; Sum. Layer 5: Sum. Layer 5: the plain law of the kernel. Layer 5: the plain law of the intersection. Layer 5: Meet. Layer 5: the reference's check, Basis, Rank, In, Sum. Layer 5: the law of the intersection. Layer 5: the tags of a system's rows. Layer 5: Solve. Layer 5: two rows appended; a taker under another's change. The law LinearBasis, walked. Layer 5: the reference's Apply: its result lies at or behind the heap's index. Layer 5: for LinearSolves: apply, a part of rows, a row replaced. Layer 5: Sum and Meet by what they compute; the reference's kernel and Meet. Layer 5: the reference's Meet. The law LinearMeets, walked. Layer 5: the law LinearSpans, walked. The step of Samuelson and Berkowitz, as a convolution. -/
import Derived.Test.YtlhebmcnjgagjaaM5gtoLi2
import Derived.Test.YtlhebmcnjgagjaaL4ytoL4sd
import Derived.Test.YtlhebmcnjgagjaaL4atoDt3
import Derived.Test.YtlhebmcnjgagjaaL4setoM5f
import Derived.Test.YtlhebmcnjgagjaaAy34
/- Layer 5: blocks of rows, with three lists that grow: for the reference's basis. -/
namespace Go.Proofs.Ytlhebmcnjgagjaa
open Go Go.Ay
set_option maxRecDepth 100000
abbrev wsl (ρ : Nat → Nat) (κ : Nat → Cap) (n a : Nat) : V := V.sl (ρ a) 0 n (κ a)
structure Bz (b0 h : H) (m n : Nat) (ρ : Nat → Nat) (κ : Nat → Cap) (τ : Nat → List V) (F : Nat → Nat → Int) (ur uo up : V) (ra oa : List Nat) (ps : List Int) : Prop where
  fr : Fr b0 h
  row : ∀ a, a < m → Bt h (ρ a) n (F a) (τ a)
  inj : ∀ a b, a < m → b < m → ρ a = ρ b → a = b
  lo : ∀ a, a < m → b0.next ≤ ρ a
  lt : ∀ a, a < m → ρ a < h.next
  or : Own h ur 1 (ra.map (wsl ρ κ n)) b0.next
  oo : Own h uo 1 (oa.map (wsl ρ κ n)) b0.next
  op : Own h up 1 (ints ps) b0.next
  ar : ∀ a, a < m → Apart ur (ρ a)
  ao : ∀ a, a < m → Apart uo (ρ a)
  ap : ∀ a, a < m → Apart up (ρ a)
  d1 : Dis ur uo
  d2 : Dis ur up
  d3 : Dis uo up
  mr : ∀ a ∈ ra, a < m
  mo : ∀ a ∈ oa, a < m
  kc : ∀ a, a < m → Cap1 (wsl ρ κ n a)
section
variable {b0 h h' : H} {m n : Nat} {ρ : Nat → Nat} {κ : Nat → Cap} {τ : Nat → List V} {F : Nat → Nat → Int} {ur uo up : V} {ra oa : List Nat} {ps : List Int}
theorem dis_apart {v u : V} (d : Dis v u) {id off k : Nat} {c : Cap} (e : v = .sl id off k c) : Apart u id := fun _ _ _ _ e' => d _ _ _ _ e _ _ _ _ e'
theorem dis_symm {v u : V} (d : Dis v u) : Dis u v := fun _ _ _ _ e _ _ _ _ e' => (d _ _ _ _ e' _ _ _ _ e).symm
theorem dis_nils {u : V} : Dis .nils u := fun _ _ _ _ e => by cases e
theorem dis_rnils {u : V} : Dis u .nils := dis_symm dis_nils
theorem own_low {h : H} {v : V} {sz : Nat} {ws : List V} {b : Nat} (o : Own h v sz ws b) {id off k : Nat} {c : Cap} (e : v = .sl id off k c) : b ≤ id ∧ id < h.next := by
  rcases o with ⟨rfl, _⟩ | ⟨id', n', cap, rest, rfl, _, _, h3, h4, _⟩
  · cases e
  · cases e; exact ⟨h3, h4⟩
theorem own_newdis {h : H} {v u : V} {sz sz' : Nat} {ws us : List V} {b : Nat} (o : Own h v sz ws b) (hu : ∀ id off k c, u = .sl id off k c → h.next ≤ id) : Dis u v := fun i _ _ _ e i' _ _ _ e' => by
  have := hu _ _ _ _ e
  have := (own_low o e').2
  omega
theorem Bz.congr {F' : Nat → Nat → Int} (b : Bz b0 h m n ρ κ τ F ur uo up ra oa ps) (e : ∀ a j, a < m → j < n → F a j = F' a j) : Bz b0 h m n ρ κ τ F' ur uo up ra oa ps :=
  { b with row := fun a ha => (b.row a ha).congr fun j hj => e a j ha hj }
theorem Bz.more (b : Bz b0 h m n ρ κ τ F ur uo up ra oa ps) (f : Fr h h') : Bz b0 h' m n ρ κ τ F ur uo up ra oa ps :=
  { b with fr := b.fr.trans f, row := fun a ha => (b.row a ha).fr f (b.lt a ha), lt := fun a ha => Nat.lt_of_lt_of_le (b.lt a ha) f.next, or := b.or.fr f, oo := b.oo.fr f, op := b.op.fr f }
theorem Bz.rowset (b : Bz b0 h m n ρ κ τ F ur uo up ra oa ps) {a : Nat} (ha : a < m) (f : Fx (ρ a) h h') {w : Nat → Int} (hw : Bt h' (ρ a) n w (τ a)) : Bz b0 h' m n ρ κ τ (fun x => if x = a then w else F x) ur uo up ra oa ps :=
  { b with
    fr := Fx.fr b.fr (b.lo a ha) f
    row := fun x hx => by
      by_cases e : x = a
      · simp only [if_pos e]; rw [e]; exact hw
      · simp only [if_neg e]; exact (b.row x hx).fx f (b.lt x hx) fun q => e (b.inj x a hx ha q)
    lt := fun x hx => Nat.lt_of_lt_of_le (b.lt x hx) f.next
    or := b.or.mono f.next fun id off k c e _ hid => f.get id hid fun q => b.ar a ha id off k c e q.symm
    oo := b.oo.mono f.next fun id off k c e _ hid => f.get id hid fun q => b.ao a ha id off k c e q.symm
    op := b.op.mono f.next fun id off k c e _ hid => f.get id hid fun q => b.ap a ha id off k c e q.symm }
theorem wsl_read {ρ : Nat → Nat} {κ : Nat → Cap} {u : V} {l : List Nat} {b : Nat} (o : Own h u 1 (l.map (wsl ρ κ n)) b) : ∃ id off, Sl u 1 l.length id off ∧ ∀ i, i < l.length → h.cell id (off + i) = some (wsl ρ κ n (l.getD i 0)) := by
  obtain ⟨id, off, s, _, hc⟩ := o.sv.shape l.length (by simp) (by omega)
  refine ⟨id, off, s, fun i hi => ?_⟩
  rw [hc i (by simpa using hi), List.getElem?_map, List.getD_eq_getElem?_getD, List.getElem?_eq_getElem hi]
  rfl
theorem Bz.setr (b : Bz b0 h m n ρ κ τ F ur uo up ra oa ps) (f : Fr h h') {ur' : V} {ra' : List Nat} (o : Own h' ur' 1 (ra'.map (wsl ρ κ n)) h.next) (hm : ∀ a ∈ ra', a < m) : Bz b0 h' m n ρ κ τ F ur' uo up ra' oa ps :=
  have lw : ∀ id off k c, ur' = .sl id off k c → h.next ≤ id := fun id off k c e => (own_low o e).1
  { b.more f with
    or := o.le b.fr.next
    ar := fun a ha id off k c e => by have := lw id off k c e; have := b.lt a ha; omega
    d1 := own_newdis (sz' := 1) (us := []) b.oo lw
    d2 := own_newdis (sz' := 1) (us := []) b.op lw
    mr := hm }
/-- A row is appended to the basis. -/
theorem Bz.appo (b : Bz b0 h m n ρ κ τ F ur uo up ra oa ps) {a : Nat} (ha : a < m) {y : V} (hy : SV h y 1 [wsl ρ κ n a]) (hl : oa.length < 100000) :
    ∃ u' h', appP h 1 24 uo y = some (u', h') ∧ Bz b0 h' m n ρ κ τ F ur u' up ra (oa ++ [a]) ps ∧ h.next ≤ h'.next ∧ (∀ k, k < h.next → Apart uo k → h'.get k = h.get k) := by
  obtain ⟨v, h', e, q⟩ := b.oo.app (bytes := 24) (n := oa.length) (m := 1) b.fr.next hy (by simp) rfl (by omega) (by omega)
  have ev := app_at b.oo (n := oa.length) (by simp) (m := 1) (by omega) (by omega) hy rfl e
  have lw : ∀ id off k c, v = .sl id off k c → h.next ≤ id := fun id off k c e => by rw [ev] at e; cases e; omega
  refine ⟨v, h', e, ?_, q.next, q.get⟩
  have o2 := q.own
  exact { b with
    fr := q.fr b0 b.fr (Nat.le_refl _)
    row := fun x hx => by
      have := b.row x hx
      unfold Bt at *
      rw [q.get _ (b.lt x hx) (b.ao x hx)]; exact this
    lt := fun x hx => Nat.lt_of_lt_of_le (b.lt x hx) q.next
    or := b.or.mono q.next fun id off k c e _ hid => q.get id hid (dis_apart b.d1 e)
    oo := by rw [List.map_append]; exact o2
    op := b.op.mono q.next fun id off k c e _ hid => q.get id hid (dis_apart (dis_symm b.d3) e)
    ao := fun x hx id off k c e => by have := lw id off k c e; have := b.lt x hx; omega
    d1 := dis_symm (own_newdis (sz' := 1) (us := []) b.or lw)
    d3 := own_newdis (sz' := 1) (us := []) b.op lw
    mo := fun x hx => by
      rcases List.mem_append.1 hx with h1 | h1
      · exact b.mo x h1
      · rw [List.mem_singleton.1 h1]; exact ha }
/-- A pivot is appended. -/
theorem Bz.appp (b : Bz b0 h m n ρ κ τ F ur uo up ra oa ps) {z : Int} {y : V} (hy : SV h y 1 (ints [z])) (hl : ps.length < 100000) :
    ∃ u' h', appP h 1 8 up y = some (u', h') ∧ Bz b0 h' m n ρ κ τ F ur uo u' ra oa (ps ++ [z]) ∧ h.next ≤ h'.next := by
  obtain ⟨v, h', e, q⟩ := b.op.app (bytes := 8) (n := ps.length) (m := 1) b.fr.next hy (by rw [ints_length, Nat.mul_one]) rfl (by omega) (by omega)
  have ev := app_at b.op (n := ps.length) (by rw [ints_length, Nat.mul_one]) (m := 1) (by omega) (by omega) hy rfl e
  have lw : ∀ id off k c, v = .sl id off k c → h.next ≤ id := fun id off k c e => by rw [ev] at e; cases e; omega
  refine ⟨v, h', e, ?_, q.next⟩
  have o2 := q.own
  exact { b with
    fr := q.fr b0 b.fr (Nat.le_refl _)
    row := fun x hx => by
      have := b.row x hx
      unfold Bt at *
      rw [q.get _ (b.lt x hx) (b.ap x hx)]; exact this
    lt := fun x hx => Nat.lt_of_lt_of_le (b.lt x hx) q.next
    or := b.or.mono q.next fun id off k c e _ hid => q.get id hid (dis_apart b.d2 e)
    oo := b.oo.mono q.next fun id off k c e _ hid => q.get id hid (dis_apart b.d3 e)
    op := by rw [ints_append]; exact o2
    ap := fun x hx id off k c e => by have := lw id off k c e; have := b.lt x hx; omega
    d2 := dis_symm (own_newdis (sz' := 1) (us := []) b.or lw)
    d3 := dis_symm (own_newdis (sz' := 1) (us := []) b.oo lw) }
theorem Bz.start (h : H) (n : Nat) (ρ : Nat → Nat) (κ : Nat → Cap) (τ : Nat → List V) (F : Nat → Nat → Int) : Bz h h 0 n ρ κ τ F .nils .nils .nils (List.range 0) [] [] where
  fr := Fr.refl _
  row := fun a ha => absurd ha (Nat.not_lt_zero a)
  inj := fun a _ ha => absurd ha (Nat.not_lt_zero a)
  lo := fun a ha => absurd ha (Nat.not_lt_zero a)
  lt := fun a ha => absurd ha (Nat.not_lt_zero a)
  or := Own.nils _ _ _
  oo := Own.nils _ _ _
  op := Own.nils _ _ _
  ar := fun _ _ => Apart.nils _
  ao := fun _ _ => Apart.nils _
  ap := fun _ _ => Apart.nils _
  d1 := dis_nils
  d2 := dis_nils
  d3 := dis_nils
  mr := fun a ha => by simp at ha
  mo := fun a ha => by simp at ha
  kc := fun a ha => absurd ha (Nat.not_lt_zero a)
/-- A row comes in, at first. -/
theorem Bz.appr (b : Bz b0 h m n ρ κ τ F ur .nils .nils (List.range m) [] []) {id : Nat} {cap : Cap} {rest : List V} {y : V} (hy : SV h y 1 [V.sl id 0 n cap]) (h1 : b0.next ≤ id) (h2 : id < h.next) (h3 : ∀ j, j < m → ρ j ≠ id) (h4 : Apart ur id) (h5 : Bt h id n (F m) rest) (h6 : Cap1 (.sl id 0 n cap)) (hl : m < 100000) :
    ∃ u' h', appP h 1 24 ur y = some (u', h') ∧ Bz b0 h' (m + 1) n (upN ρ m id) (upN κ m cap) (upN τ m rest) F u' .nils .nils (List.range (m + 1)) [] [] := by
  obtain ⟨v, h', e, q⟩ := b.or.app (bytes := 24) (n := m) (m := 1) b.fr.next hy (by simp) rfl (by omega) (by omega)
  have ev := app_at b.or (n := m) (by simp) (m := 1) (by omega) (by omega) hy rfl e
  have lw : ∀ id off k c, v = .sl id off k c → h.next ≤ id := fun id off k c e => by rw [ev] at e; cases e; omega
  have o2 := q.own
  have eold : ∀ x, x < m → upN ρ m id x = ρ x := fun x hx => by simp only [upN]; rw [if_neg (by omega)]
  have enew : upN ρ m id m = id := by simp only [upN, if_true]
  have hmap : (List.range (m + 1)).map (wsl (upN ρ m id) (upN κ m cap) n) = (List.range m).map (wsl ρ κ n) ++ [V.sl id 0 n cap] := by
    rw [List.range_succ, List.map_append]
    congr 1
    · refine List.map_congr_left fun x hx => ?_
      have := List.mem_range.1 hx
      simp only [wsl, upN]
      rw [if_neg (by omega), if_neg (by omega)]
    · simp [wsl, upN]
  refine ⟨v, h', e, q.fr b0 b.fr (Nat.le_refl _), fun x hx => ?_, fun x y hx hy e => ?_, fun x hx => ?_, fun x hx => ?_, by rw [hmap]; exact o2, Own.nils _ _ _, Own.nils _ _ _, fun x hx => ?_, fun x hx => Apart.nils _, fun x hx => Apart.nils _, dis_rnils, dis_rnils, dis_nils, fun x hx => List.mem_range.1 hx, fun x hx => (by cases hx), fun x hx => ?_⟩
  · by_cases e : x = m
    · subst e
      simp only [upN, if_true]
      unfold Bt at *
      rw [q.get _ h2 h4]; exact h5
    · have := b.row x (by omega)
      unfold Bt at *
      simp only [upN, if_neg e]
      rw [q.get _ (b.lt x (by omega)) (b.ar x (by omega))]; exact this
  · by_cases e1 : x = m
    · by_cases e2 : y = m
      · omega
      · rw [e1, enew, eold y (by omega)] at e
        exact absurd e.symm (h3 y (by omega))
    · by_cases e2 : y = m
      · rw [e2, enew, eold x (by omega)] at e
        exact absurd e (h3 x (by omega))
      · rw [eold x (by omega), eold y (by omega)] at e
        exact b.inj x y (by omega) (by omega) e
  · by_cases e : x = m
    · rw [e, enew]; exact h1
    · rw [eold x (by omega)]; exact b.lo x (by omega)
  · by_cases e : x = m
    · rw [e, enew]; exact Nat.lt_of_lt_of_le h2 q.next
    · rw [eold x (by omega)]; exact Nat.lt_of_lt_of_le (b.lt x (by omega)) q.next
  · intro i off k c e2
    have := lw i off k c e2
    by_cases e : x = m
    · rw [e, enew]; omega
    · rw [eold x (by omega)]; have := b.lt x (by omega); omega
  · by_cases e : x = m
    · subst e
      simp only [wsl, upN, if_true]; exact h6
    · have := b.kc x (by omega)
      simp only [wsl, upN, if_neg e] at this ⊢; exact this
end
end Go.Proofs.Ytlhebmcnjgagjaa

/- Layer 5: the reference's basis, column by column. -/
namespace Go.Proofs.Ytlhebmcnjgagjaa
open Go Go.Ay
set_option maxRecDepth 100000
theorem own_cut {h : H} {u : V} {ws : List V} {b : Nat} (o : Own h u 1 ws b) {k : Nat} (hk : k < ws.length) :
    ∃ a c, slcV 1 u none (some (.int .i64 (k : Int))) none = some a ∧ SV h a 1 (ws.take k) ∧ slcV 1 u (some (.int .i64 ((k : Int) + 1))) none none = some c ∧ SV h c 1 (ws.drop (k + 1)) := by
  rcases o with ⟨_, e⟩ | ⟨id, n, cap, rest, rfl, h1, h2, h3, h4, h5⟩
  · rw [e] at hk; simp at hk
  · rw [Nat.mul_one] at h1
    subst h1
    have hs1 : ∀ cap', SV h (.sl id 0 k cap') 1 (ws.take k) := fun cap' => .inr ⟨id, 0, k, cap', false, ws ++ rest, rfl, by rw [List.length_take]; omega, h4, h5, by rw [List.length_append]; omega, by rw [List.drop_zero, Nat.mul_one, List.take_append_of_le_length (by omega)]⟩
    have hs2 : ∀ cap' off', (k + 1 < ws.length → off' = k + 1) → off' ≤ ws.length → SV h (.sl id off' (ws.length - (k + 1)) cap') 1 (ws.drop (k + 1)) := fun cap' off' ho hle => .inr ⟨id, off', ws.length - (k + 1), cap', false, ws ++ rest, rfl, by rw [List.length_drop]; omega, h4, h5, by
      rw [List.length_append]
      by_cases e : k + 1 < ws.length
      · have := ho e; omega
      · omega, by
      by_cases e : k + 1 < ws.length
      · rw [ho e, List.drop_append_of_le_length (by omega), Nat.mul_one, List.take_append_of_le_length (by rw [List.length_drop]; omega), ← List.length_drop, List.take_length]
      · rw [show ws.length - (k + 1) = 0 by omega, Nat.zero_mul, List.take_zero, List.drop_eq_nil_of_le (by omega)]⟩
    rcases h2 with rfl | ⟨rfl, rfl⟩
    · refine ⟨_, .sl id (if k + 1 < ws.length then k + 1 else 0) (ws.length - (k + 1)) (.un 1), slc_un (by omega) (by omega), by rw [Int.toNat_natCast]; exact hs1 _, ?_, ?_⟩
      · simp only [slcV, bndV]
        rw [if_pos ⟨by omega, by omega⟩]
        simp only [if_true]
        by_cases e : k + 1 < ws.length
        · rw [if_pos (by omega), if_pos e]
          simp only [Option.some.injEq, V.sl.injEq, true_and, and_true]
          omega
        · rw [if_neg (by omega), if_neg e, show ws.length - (k + 1) = 0 by omega]
      · exact hs2 _ _ (fun e => if_pos e) (by split <;> omega)
    · refine ⟨_, .sl id (if ws.length = k + 1 then 0 else k + 1) (ws.length - (k + 1)) (.kn (ws.length - (k + 1))), slc_kn (by omega) (by omega), by rw [Int.toNat_natCast]; exact hs1 _, ?_, ?_⟩
      · simp only [slcV, bndV]
        rw [if_pos ⟨by omega, by omega⟩]
        simp only
        rw [show ((k : Int) + 1).toNat = k + 1 by omega, if_pos (by omega)]
        simp only [Nat.zero_add, Nat.mul_one]
      · exact hs2 _ _ (fun e => if_neg (by omega)) (by split <;> omega)
theorem mem_take_succ {l : List Nat} {i : Nat} (hi : i < l.length) {x : Nat} : x ∈ l.take (i + 1) ↔ x ∈ l.take i ∨ x = l.getD i 0 := by
  rw [List.take_add_one, List.getElem?_eq_getElem hi, List.mem_append, List.getD_eq_getElem?_getD, List.getElem?_eq_getElem hi]
  simp
theorem nodup_at {l : List Nat} (hl : l.Nodup) {i : Nat} (hi : i < l.length) : l.getD i 0 ∉ l.take i := by
  intro h
  obtain ⟨j, hj, e⟩ := List.mem_iff_getElem.1 h
  rw [List.length_take] at hj
  rw [List.getElem_take, List.getD_eq_getElem?_getD, List.getElem?_eq_getElem hi, Option.getD_some] at e
  exact (List.pairwise_iff_getElem.1 hl) j i (by omega) hi (by omega) e
/-- Rows that may be cut. -/
def SRc (h : H) (u : V) (ll : List (List Int)) (lo : Nat) : Prop := ∃ ws, SV h u 1 ws ∧ All2 (SI h) ws ll ∧ Frs u lo ∧ (∀ w ∈ ws, Frs w lo) ∧ ∀ w ∈ ws, Cap1 w
theorem SRc.srf {h : H} {u : V} {ll : List (List Int)} {lo : Nat} (s : SRc h u ll lo) : SRf h u ll lo := by
  obtain ⟨ws, a, b, c, d, _⟩ := s
  exact ⟨ws, a, b, c, d⟩
theorem getD_mem {l : List Nat} {i : Nat} (hi : i < l.length) : l.getD i 0 ∈ l := by
  rw [List.getD_eq_getElem?_getD, List.getElem?_eq_getElem hi]
  exact List.getElem_mem _
end Go.Proofs.Ytlhebmcnjgagjaa

/- Layer 5: the reference's basis, column by column: the walk. -/
namespace Go.Proofs.Ytlhebmcnjgagjaa
open Go Go.Ay
set_option maxRecDepth 100000
theorem filt_succ {c : Nat} {S : Nat → Bool} : (List.range (c + 1)).filter S = (List.range c).filter S ++ (if S c then [c] else []) := by
  rw [List.range_succ, List.filter_append]
  congr 1
  cases h : S c <;> simp [List.filter, h]
set_option maxHeartbeats 32000000 in
theorem ref_basis_ok (p : Int) (n : Nat) (v : V) (ll : List (List Int)) (h : H) (hv : SR h v ll) (hl : ll.length < 100000) (hw : ∀ i, i < ll.length → (ll.getD i []).length = n) (hn1 : 1 ≤ n) (hn2 : n ≤ 1000) (hp : isP p = true) (hp2 : p < 10000) :
    Ev T n_ref05_basis [.int .i64 p, .int .i64 (n : Int), v] h (fun w h' => ∃ u z S f k, w = .tup [u, z] ∧ Sp p n n (vw ll) ll.length S f k ∧ SRc h' u (rwF n n S f) h.next ∧ SI h' z (((List.range n).filter S).map fun d : Nat => (d : Int)) ∧ (Frs z h.next ∧ k ≤ ll.length) ∧ Fr h h') := by
  have hp1 := isP_gt hp
  refine Ev_of t_ref05_basis rfl ?_
  obtain ⟨idv, offv, wsv, slv, hidv, hwlv, hcv, hallv⟩ := hv.open
  have lv := hv.lens
  simp (disch := first | omega | (simp only [Qn] <;> omega)) only [go_sem, c_ref05_basis, initV_eq]
  refine Wp_loop (fun k' vars hh => ∃ (i : Nat) (ρ : Nat → Nat) (κ : Nat → Cap) (τ : Nat → List V) (u : V), (∃ g : Nat → V, vars = [.int .i64 p, .int .i64 (n : Int), v, g 3, g 4, u, .nils, .nils, .int .i64 (i : Int), g 9, g 10, g 11, g 12, g 13, g 14, g 15, g 16, g 17, g 18, g 19, g 20]) ∧ i ≤ ll.length ∧ Bz h hh i n ρ κ τ (fun a j => vw ll a j % p) u .nils .nils (List.range i) [] [] ∧ k' = ll.length - i) ll.length
    ⟨0, fun _ => 0, fun _ => .un 1, fun _ => [], .nils, ex_junk rfl, Nat.zero_le _, Bz.start h n _ _ _ _, rfl⟩ ?_
  rintro k' vars hh ⟨i, ρ, κ, τ, u, ⟨jk, rfl⟩, hi, b, rfl⟩
  simp (disch := first | omega | (simp only [Qn] <;> omega)) only [go_sem, lv]
  by_cases hlt : (i : Int) < (ll.length : Int)
  · rw [decide_eq_true hlt]
    have hi' : i < ll.length := by omega
    have ci : hh.cell idv (offv + i) = some (wsv.getD i .undef) := by rw [b.fr.cell (hidv (by omega))]; exact hcv i hi'
    simp (disch := first | omega | (simp only [Qn] <;> omega)) only [go_sem, slv.ixa, ci]
    refine (ref_residues_ok p _ (ll.getD i []) hh ((row_at hallv hi').mono b.fr) (by rw [hw i hi']; omega) ⟨by omega, hp2⟩).mono ?_
    rintro w h2 ⟨o, f2⟩
    rw [hw i hi'] at o
    obtain ⟨id, cap, rest, rfl, i1, i2, i3⟩ := own_open o (by rw [mkV_len]; omega)
    rw [mkV_len]
    have b2 := b.more f2
    have f3 : Fr h2 (h2.new (.cells false [V.sl id 0 n cap])) := (Fr.refl h2).new _
    have b3 := b2.more f3
    have hy : SV (h2.new (.cells false [V.sl id 0 n cap])) (.sl h2.next 0 1 (.kn 1)) 1 [V.sl id 0 n cap] := SV.all rfl (by rw [H.next_new]; omega) (H.get_new_same ..) _
    have bt : Bt (h2.new (.cells false [V.sl id 0 n cap])) id n (fun j => vw ll i j % p) rest := Bt.fr i3 f3 i2
    obtain ⟨u', h4, e4, b4⟩ := b3.appr hy (by have := b.fr.next; omega) (by rw [H.next_new]; omega) (fun j hj => by have := b.lt j hj; omega) (fun id' _ _ _ e => by have := own_low b.or e; omega) bt (by have q := own_cap o; rw [mkV_len] at q; exact q) (by omega)
    simp (disch := first | omega | (simp only [Qn] <;> omega)) only [go_sem, bls_row h2 (v := V.sl id 0 n cap) rfl rfl, e4]
    rw [show (i : Int) + 1 = ((i + 1 : Nat) : Int) from by omega]
    exact ⟨ll.length - (i + 1), by omega, i + 1, _, _, _, u', ex_junk rfl, by omega, b4, rfl⟩
  rw [decide_eq_false hlt]
  obtain ⟨m, hm⟩ : ∃ m, ll.length = m := ⟨_, rfl⟩
  obtain rfl : i = m := by omega
  rw [hm]
  clear lv slv hcv hallv hidv hwlv hlt hi
  simp (disch := first | omega | (simp only [Qn] <;> omega)) only [go_sem]
  refine Wp_loop (fun k' vars hh => ∃ (c : Nat) (F : Nat → Nat → Int) (ur uo up : V) (ra : List Nat) (π : Nat → Nat) (S : Nat → Bool), (∃ g : Nat → V, vars = [.int .i64 p, .int .i64 (n : Int), g 2, g 3, g 4, ur, uo, up, g 8, .int .i64 (c : Int), g 10, g 11, g 12, g 13, g 14, g 15, g 16, g 17, g 18, g 19, g 20]) ∧ c ≤ n ∧ Bz h hh i n ρ κ τ F ur uo up ra (((List.range c).filter S).map π) (((List.range c).filter S).map fun d : Nat => (d : Int)) ∧ Cb p n i (vw ll) c S (fun d => F (π d)) ra.length (fun a => F (ra.getD a 0)) ∧ ((List.range c).filter S).length + ra.length ≤ i ∧ ra.Nodup ∧ (∀ d, d < n → S d = true → π d < i ∧ π d ∉ ra) ∧ (∀ d e, d < n → e < n → S d = true → S e = true → π d = π e → d = e) ∧ k' = n - c) n
    ⟨0, _, u, .nils, .nils, List.range i, fun _ => 0, fun _ => false, ex_junk rfl, Nat.zero_le _, b, ?_, by simp, List.nodup_range, fun _ _ h => by simp at h, fun _ _ _ _ h => by simp at h, rfl⟩ ?_
  · have e := Cb.start (show (0 : Int) < p by omega) n i (vw ll) (fun d j => vw ll 0 j % p)
    rw [List.length_range]
    exact { e with
      rg := fun a j ha hj => by rw [List.getD_eq_getElem?_getD, List.getElem?_range ha]; exact e.rg a j ha hj
      gz := fun a j ha hj => by omega
      go := fun a ha => by rw [List.getD_eq_getElem?_getD, List.getElem?_range ha]; exact e.go a ha
      inn := fun a ha => (e.inn a ha).rows fun d j hd hj => by
        simp only [gn]
        by_cases q : d < n
        · rw [if_pos q, if_pos q]
        · rw [if_neg q, if_neg q, List.getD_eq_getElem?_getD, List.getElem?_range (by omega)]; rfl }
  clear b jk
  rintro k' vars hh ⟨c, F, ur, uo, up, ra, π, S, ⟨jk, rfl⟩, hc, b, cb, hra, nd, hπ, hinj, rfl⟩
  simp (disch := first | omega | (simp only [Qn] <;> omega)) only [go_sem]
  by_cases hcn : (c : Int) < (n : Int)
  · rw [decide_eq_true hcn]
    have hc' : c < n := by omega
    obtain ⟨idr, offr, slr, hcr⟩ := wsl_read b.or
    simp (disch := first | omega | (simp only [Qn] <;> omega)) only [go_sem]
    refine Wp_loop (fun k' vars h4 => h4 = hh ∧ ∃ k : Nat, (∃ g : Nat → V, vars = [.int .i64 p, .int .i64 (n : Int), g 2, g 3, g 4, ur, uo, up, g 8, .int .i64 (c : Int), .int .i64 (k : Int), g 11, g 12, g 13, g 14, g 15, g 16, g 17, g 18, g 19, g 20]) ∧ k ≤ ra.length ∧ (∀ a, a < k → F (ra.getD a 0) c = 0) ∧ k' = ra.length - k) ra.length
      ⟨rfl, 0, ex_junk rfl, Nat.zero_le _, fun a ha => by omega, rfl⟩ ?_
    rintro k' vars h4 ⟨rfl, k, ⟨g, rfl⟩, hk, hz, rfl⟩
    simp (disch := first | omega | (simp only [Qn] <;> omega)) only [go_sem, slr.lens]
    by_cases hkr : (k : Int) < (ra.length : Int)
    · rw [decide_eq_true hkr]
      have hk' : k < ra.length := by omega
      have ck := hcr k hk'
      simp only [wsl] at ck
      have mk := b.mr _ (getD_mem hk')
      have cr := (b.row _ mk).cell hc'
      simp (disch := first | omega | (simp only [Qn] <;> omega)) only [go_sem, slr.ixa, ck, cr]
      by_cases hB : F (ra.getD k 0) c = 0
      · rw [decide_eq_true hB]
        simp (disch := first | omega | (simp only [Qn] <;> omega)) only [go_sem]
        rw [show (k : Int) + 1 = ((k + 1 : Nat) : Int) from by omega]
        refine ⟨ra.length - (k + 1), by omega, k + 1, ex_junk rfl, by omega, fun a ha => ?_, rfl⟩
        by_cases e : a = k
        · rw [e]; exact hB
        · exact hz a (by omega)
      rw [decide_eq_false hB]
      simp (disch := first | omega | (simp only [Qn] <;> omega)) only [go_sem, slr.lens]
      rw [decide_eq_false (show ¬ (k : Int) = (ra.length : Int) by omega)]
      obtain ⟨va, vc, ea, sa, ec, sc⟩ := own_cut b.or (k := k) (by simpa using hk')
      have ebl : ∀ hx : H, blsV hx 1 [.nils] 0 [] = some (.sl hx.next 0 0 (.kn 0), hx.new (.cells false [])) := fun _ => rfl
      obtain ⟨bb, hbb⟩ : ∃ bb, ra.getD k 0 = bb := ⟨_, rfl⟩
      have fB := litV_fr (Fr.refl h4) (a := h4.next) (m := h4.next + 11) (by omega) (by omega) []
      have oB : Own (litV h4 h4.next [] (h4.next + 11)) (.sl h4.next 0 0 (.kn 0)) 1 [] h4.next := .inr ⟨h4.next, 0, _, [], rfl, rfl, .inr ⟨rfl, rfl⟩, Nat.le_refl _, by rw [litV_next]; omega, litV_get ..⟩
      obtain ⟨u1, h5, e5, a5⟩ := oB.app (bytes := 24) (n := 0) (m := k) (by rw [litV_next]; omega) (SV.mono sa fB) rfl (by rw [List.length_take, List.length_map]; omega) (by omega) (by omega)
      have f5 := a5.fr h4 fB (Nat.le_refl _)
      have o5 := a5.own
      obtain ⟨u2, h6, e6, a6⟩ := o5.app (bytes := 24) (n := k) (m := ra.length - (k + 1)) f5.next (SV.mono sc f5) (by simp; omega) (by rw [List.length_drop, List.length_map]; omega) (by omega) (by omega)
      have f6 := a6.fr h4 f5 (Nat.le_refl _)
      have o6 := a6.own
      obtain ⟨ra', hra'⟩ : ∃ l, ra.take k ++ ra.drop (k + 1) = l := ⟨_, rfl⟩
      have e6' : [] ++ (List.map (wsl ρ κ n) ra).take k ++ (List.map (wsl ρ κ n) ra).drop (k + 1) = ra'.map (wsl ρ κ n) := by rw [← hra', List.map_append, List.map_take, List.map_drop, List.nil_append]
      rw [e6'] at o6
      have hr1 : ra'.length = ra.length - 1 := by rw [← hra', List.length_append, List.length_take, List.length_drop]; omega
      have hrg : ∀ a, a < ra'.length → ra'.getD a 0 = ra.getD (if a < k then a else a + 1) 0 := fun a ha => by
        rw [← hra', List.getD_eq_getElem?_getD, List.getD_eq_getElem?_getD, List.getElem?_append, List.length_take, Nat.min_eq_left (by omega)]
        split
        · rw [List.getElem?_take_of_lt (by omega)]
        · rw [List.getElem?_drop]; congr 2; omega
      have hrm : ∀ a ∈ ra', a ∈ ra := fun a ha => by
        rw [← hra'] at ha
        rcases List.mem_append.1 ha with h1 | h1
        · exact List.mem_of_mem_take h1
        · exact List.mem_of_mem_drop h1
      have hsp : ra.Nodup → ra'.Nodup ∧ bb ∉ ra' := fun nd => by
        have e : ra = ra.take k ++ bb :: ra.drop (k + 1) := by
          rw [← hbb, List.getD_eq_getElem?_getD, List.getElem?_eq_getElem hk', Option.getD_some, ← List.drop_eq_getElem_cons hk', List.take_append_drop]
        rw [e] at nd
        have q := List.nodup_append.1 nd
        have q2 := List.nodup_cons.1 q.2.1
        rw [← hra']
        refine ⟨List.nodup_append.2 ⟨q.1, q2.2, fun a ha b hb => q.2.2 a ha b (List.mem_cons_of_mem _ hb)⟩, fun hm => ?_⟩
        rcases List.mem_append.1 hm with h1 | h1
        · exact q.2.2 bb h1 bb (List.mem_cons_self ..) rfl
        · exact q2.1 h1
      obtain ⟨nd', hbn⟩ := hsp nd
      have b6 := b.setr f6 o6 fun a ha => b.mr a (hrm a ha)
      rw [hbb] at ck mk cr hB
      have hbg : F (ra.getD k 0) = F bb := by rw [hbb]
      have c6 := (b6.row bb mk).cell hc'
      have rB := cb.rg k c hk' hc'
      simp only [hbb] at rB
      simp (disch := first | omega | (simp only [Qn] <;> omega)) only [go_sem, slr.ixa, ck, ea, ec, ebl, litV_eq, e5, e6, hbb, c6]
      refine (ref_inv_ok (F bb c) p h6 hp hp2 (by omega)).mono ?_
      rintro w h7 ⟨x, rfl, x1, x2, x3, rfl⟩
      simp (disch := first | omega | (simp only [Qn] <;> omega)) only [go_sem, List.getElem?_cons_zero, List.getElem?_cons_succ]
      have rF : ∀ a j, a ∈ ra → j < n → 0 ≤ F a j ∧ F a j < p := fun a j ha hj => by
        obtain ⟨q, hq, e⟩ := List.mem_iff_getElem.1 ha
        have := cb.rg q j hq hj
        rw [List.getD_eq_getElem?_getD, List.getElem?_eq_getElem hq, Option.getD_some, e] at this
        exact this
      have rb : ∀ j, j < n → 0 ≤ F bb j ∧ F bb j < p := fun j hj => rF bb j (by rw [← hbb]; exact getD_mem hk') hj
      refine (ref_add_ok p (x + p - 1) (ρ bb) n (ρ bb) 0 (κ bb) (.sl (ρ bb) 0 n (κ bb)) (F bb) (F bb) (τ bb) h7 (b6.row bb mk) (b6.lt bb mk) (sl1 ..) (fun _ => b6.lt bb mk) (fun j hj => by rw [Nat.zero_add]; exact (b6.row bb mk).cell hj) (.inr rfl) (by omega) ⟨by omega, hp2⟩ ⟨by omega, by omega⟩ (fun j hj => by have := rb j hj; omega) (fun j hj => by have := rb j hj; omega)).mono ?_
      rintro w h8 ⟨bt8, fx8⟩
      have b8 := b6.rowset mk fx8 bt8
      obtain ⟨w1, hw1⟩ : ∃ w1 : Nat → Int, (fun j => (F bb j + F bb j * (x + p - 1)) % p) = w1 := ⟨_, rfl⟩
      rw [hw1] at b8
      have rw1 : ∀ j, j < n → 0 ≤ w1 j ∧ w1 j < p := fun j hj => by rw [← hw1]; exact tmod_range _ (by omega)
      obtain ⟨F1, hF1⟩ : ∃ F1 : Nat → Nat → Int, (fun a => if a = bb then w1 else F a) = F1 := ⟨_, rfl⟩
      rw [hF1] at b8
      have F1b : F1 bb = w1 := by rw [← hF1]; exact if_pos rfl
      have F1n : ∀ a, a ≠ bb → F1 a = F a := fun a ha => by rw [← hF1]; exact if_neg ha
      obtain ⟨nw, hnw⟩ : ∃ nw : Nat → Nat → Int, (fun a j => (F1 a j + w1 j * (p - F1 a c)) % p) = nw := ⟨_, rfl⟩
      simp (disch := first | omega | (simp only [Qn] <;> omega)) only [go_sem]
      refine Wp_loop (fun k' vars hh => ∃ (s : Nat), (∃ g : Nat → V, vars = [.int .i64 p, .int .i64 (n : Int), g 2, g 3, g 4, u2, uo, up, g 8, .int .i64 (c : Int), g 10, .sl (ρ bb) 0 n (κ bb), g 12, .int .i64 (s : Int), g 14, g 15, g 16, g 17, g 18, g 19, g 20]) ∧ s ≤ ra'.length ∧ Bz h hh i n ρ κ τ (fun a => if a ∈ ra'.take s then nw a else F1 a) u2 uo up ra' (((List.range c).filter S).map π) (((List.range c).filter S).map fun d : Nat => (d : Int)) ∧ k' = ra'.length - s) ra'.length
        ⟨0, ex_junk rfl, Nat.zero_le _, b8.congr fun a j _ _ => by simp, rfl⟩ ?_
      clear b8 bt8 fx8 b6 c6 f6 o6 a6 e6 f5 o5 a5 e5 oB fB ck ea ec sa sc hcr slr b g ebl
      rintro k' vars h9 ⟨s, ⟨g, rfl⟩, hs, b, rfl⟩
      obtain ⟨idr, offr, slr, hcr⟩ := wsl_read b.or
      simp (disch := first | omega | (simp only [Qn] <;> omega)) only [go_sem, slr.lens]
      by_cases hsr : (s : Int) < (ra'.length : Int)
      · rw [decide_eq_true hsr]
        have hs' : s < ra'.length := by omega
        obtain ⟨a, ha⟩ : ∃ a, ra'.getD s 0 = a := ⟨_, rfl⟩
        have cs := hcr s hs'
        simp only [wsl] at cs
        rw [ha] at cs
        have ain : a ∈ ra' := by rw [← ha]; exact getD_mem hs'
        have anb : a ≠ bb := fun e => hbn (e ▸ ain)
        have ma := b.mr a ain
        have hna : a ∉ ra'.take s := by rw [← ha]; exact nodup_at nd' hs'
        have hnb : bb ∉ ra'.take s := fun q => hbn (List.mem_of_mem_take q)
        have fb : Fr h9 (H.mk h9.tr (h9.next + 16)) := (Fr.refl h9).bump (by omega)
        have b10 := b.more fb
        have rowa := b10.row a ma
        have rowb := b10.row bb mk
        simp only [if_neg hna] at rowa
        simp only [if_neg hnb, F1b] at rowb
        have ca := rowa.cell hc'
        have ca' : h9.cell (ρ a) c = some (.int .i64 (F1 a c)) := ca
        have rFa : ∀ j, j < n → 0 ≤ F1 a j ∧ F1 a j < p := fun j hj => by rw [F1n a anb]; exact rF a j (hrm a ain) hj
        have rac := rFa c hc'
        simp (disch := first | omega | (simp only [Qn] <;> omega)) only [go_sem, slr.ixa, cs, ca, ca']
        refine (ref_add_ok p (p - F1 a c) (ρ a) n (ρ bb) 0 (κ a) (.sl (ρ bb) 0 n (κ bb)) (F1 a) w1 (τ a) _ rowa (b10.lt a ma) (sl1 ..) (fun _ => b10.lt bb mk) (fun j hj => by rw [Nat.zero_add]; exact rowb.cell hj) (.inr rfl) (by omega) ⟨by omega, hp2⟩ ⟨by omega, by omega⟩ (fun j hj => by have := rFa j hj; omega) (fun j hj => by have := rw1 j hj; omega)).mono ?_
        rintro w h11 ⟨bt, fx⟩
        have b11 := b10.rowset ma fx bt
        simp (disch := first | omega | (simp only [Qn] <;> omega)) only [go_sem]
        rw [show (s : Int) + 1 = ((s + 1 : Nat) : Int) from by omega]
        refine ⟨ra'.length - (s + 1), by omega, s + 1, ex_junk rfl, by omega, b11.congr fun y j hy hj => ?_, rfl⟩
        by_cases e : y = a
        · rw [if_pos e, if_pos ((mem_take_succ hs').2 (.inr (by rw [ha]; exact e))), e, ← hnw]
        · rw [if_neg e]
          by_cases e2 : y ∈ ra'.take s
          · rw [if_pos e2, if_pos ((mem_take_succ hs').2 (.inl e2))]
          · rw [if_neg e2, if_neg fun q => by
              rcases (mem_take_succ hs').1 q with q | q
              · exact e2 q
              · exact e (by rw [← ha]; exact q)]
      rw [decide_eq_false hsr]
      obtain rfl : s = ra'.length := by omega
      rw [List.take_length] at b
      obtain ⟨F2, hF2⟩ : ∃ F2 : Nat → Nat → Int, (fun a => if a ∈ ra' then nw a else F1 a) = F2 := ⟨_, rfl⟩
      rw [hF2] at b
      have F2n : ∀ a, a ∉ ra' → F2 a = F1 a := fun a ha => by rw [← hF2]; exact if_neg ha
      have F2y : ∀ a, a ∈ ra' → F2 a = nw a := fun a ha => by rw [← hF2]; exact if_pos ha
      obtain ⟨oa, hoa⟩ : ∃ oa, ((List.range c).filter S).map π = oa := ⟨_, rfl⟩
      have oam : ∀ a ∈ oa, ∃ d, d < c ∧ S d = true ∧ π d = a := fun a ha => by
        rw [← hoa] at ha
        obtain ⟨d, hd, e⟩ := List.mem_map.1 ha
        have := List.mem_filter.1 hd
        exact ⟨d, List.mem_range.1 this.1, this.2, e⟩
      have oar : ∀ a ∈ oa, a ∉ ra' ∧ a ≠ bb := fun a ha => by
        obtain ⟨d, h1, h2, rfl⟩ := oam a ha
        have := (hπ d (by omega) h2).2
        exact ⟨fun q => this (hrm _ q), fun q => this (by rw [q, ← hbb]; exact getD_mem hk')⟩
      have oal : oa.length ≤ c := by rw [← hoa, List.length_map]; exact Nat.le_trans (List.length_filter_le _ _) (by rw [List.length_range]; omega)
      have ond : oa.Nodup := by
        rw [← hoa]
        refine List.pairwise_map.2 ((List.nodup_range.sublist List.filter_sublist).imp_of_mem fun {d e} hd he hne => ?_)
        intro q
        have h1 := List.mem_filter.1 hd
        have h2 := List.mem_filter.1 he
        have l1 := List.mem_range.1 h1.1
        have l2 := List.mem_range.1 h2.1
        exact hne (hinj d e (by omega) (by omega) h1.2 h2.2 q)
      have rO : ∀ a j, a ∈ oa → j < n → 0 ≤ F a j ∧ F a j < p := fun a j ha hj => by
        obtain ⟨d, h1, h2, rfl⟩ := oam a ha
        exact cb.re.rng d j (by omega) h2 hj
      obtain ⟨no, hno⟩ : ∃ no : Nat → Nat → Int, (fun a j => (F a j + w1 j * (p - F a c)) % p) = no := ⟨_, rfl⟩
      rw [hoa] at b
      simp (disch := first | omega | (simp only [Qn] <;> omega)) only [go_sem]
      refine Wp_loop (fun k' vars hh => ∃ (s : Nat), (∃ g : Nat → V, vars = [.int .i64 p, .int .i64 (n : Int), g 2, g 3, g 4, u2, uo, up, g 8, .int .i64 (c : Int), g 10, .sl (ρ bb) 0 n (κ bb), g 12, g 13, .int .i64 (s : Int), g 15, g 16, g 17, g 18, g 19, g 20]) ∧ s ≤ oa.length ∧ Bz h hh i n ρ κ τ (fun a => if a ∈ oa.take s then no a else F2 a) u2 uo up ra' oa (((List.range c).filter S).map fun d : Nat => (d : Int)) ∧ k' = oa.length - s) oa.length
        ⟨0, ex_junk rfl, Nat.zero_le _, b.congr fun a j _ _ => by simp, rfl⟩ ?_
      clear b g slr hcr
      rintro k' vars h9 ⟨s, ⟨g, rfl⟩, hs, b, rfl⟩
      obtain ⟨ido, offo, slo, hco⟩ := wsl_read b.oo
      simp (disch := first | omega | (simp only [Qn] <;> omega)) only [go_sem, slo.lens]
      by_cases hsr : (s : Int) < (oa.length : Int)
      · rw [decide_eq_true hsr]
        have hs' : s < oa.length := by omega
        obtain ⟨a, ha⟩ : ∃ a, oa.getD s 0 = a := ⟨_, rfl⟩
        have cs := hco s hs'
        simp only [wsl] at cs
        rw [ha] at cs
        have ain : a ∈ oa := by rw [← ha]; exact getD_mem hs'
        have anb := (oar a ain).2
        have ma := b.mo a ain
        have hna : a ∉ oa.take s := by rw [← ha]; exact nodup_at ond hs'
        have hnb : bb ∉ oa.take s := fun q => (oar bb (List.mem_of_mem_take q)).2 rfl
        have fb : Fr h9 (H.mk h9.tr (h9.next + 16)) := (Fr.refl h9).bump (by omega)
        have b10 := b.more fb
        have rowa := b10.row a ma
        have rowb := b10.row bb mk
        simp only [if_neg hna, F2n a (oar a ain).1, F1n a anb] at rowa
        simp only [if_neg hnb, F2n bb hbn, F1b] at rowb
        have ca := rowa.cell hc'
        have ca' : h9.cell (ρ a) c = some (.int .i64 (F a c)) := ca
        have rFa : ∀ j, j < n → 0 ≤ F a j ∧ F a j < p := fun j hj => rO a j ain hj
        have rac := rFa c hc'
        simp (disch := first | omega | (simp only [Qn] <;> omega)) only [go_sem, slo.ixa, cs, ca, ca']
        refine (ref_add_ok p (p - F a c) (ρ a) n (ρ bb) 0 (κ a) (.sl (ρ bb) 0 n (κ bb)) (F a) w1 (τ a) _ rowa (b10.lt a ma) (sl1 ..) (fun _ => b10.lt bb mk) (fun j hj => by rw [Nat.zero_add]; exact rowb.cell hj) (.inr rfl) (by omega) ⟨by omega, hp2⟩ ⟨by omega, by omega⟩ (fun j hj => by have := rFa j hj; omega) (fun j hj => by have := rw1 j hj; omega)).mono ?_
        rintro w h11 ⟨bt, fx⟩
        have b11 := b10.rowset ma fx bt
        simp (disch := first | omega | (simp only [Qn] <;> omega)) only [go_sem]
        rw [show (s : Int) + 1 = ((s + 1 : Nat) : Int) from by omega]
        refine ⟨oa.length - (s + 1), by omega, s + 1, ex_junk rfl, by omega, b11.congr fun y j hy hj => ?_, rfl⟩
        by_cases e : y = a
        · rw [if_pos e, if_pos ((mem_take_succ hs').2 (.inr (by rw [ha]; exact e))), e, ← hno]
        · rw [if_neg e]
          by_cases e2 : y ∈ oa.take s
          · rw [if_pos e2, if_pos ((mem_take_succ hs').2 (.inl e2))]
          · rw [if_neg e2, if_neg fun q => by
              rcases (mem_take_succ hs').1 q with q | q
              · exact e2 q
              · exact e (by rw [← ha]; exact q)]
      rw [decide_eq_false hsr]
      obtain rfl : s = oa.length := by omega
      rw [List.take_length] at b
      obtain ⟨F4, hF4⟩ : ∃ F4 : Nat → Nat → Int, (fun a => if a ∈ oa then no a else F2 a) = F4 := ⟨_, rfl⟩
      rw [hF4] at b
      have F4n : ∀ a, a ∉ oa → F4 a = F2 a := fun a ha => by rw [← hF4]; exact if_neg ha
      have F4y : ∀ a, a ∈ oa → F4 a = no a := fun a ha => by rw [← hF4]; exact if_pos ha
      have f10 : Fr h9 (h9.new (.cells false [V.sl (ρ bb) 0 n (κ bb)])) := (Fr.refl h9).new _
      have b10 := b.more f10
      have hy : SV (h9.new (.cells false [V.sl (ρ bb) 0 n (κ bb)])) (.sl h9.next 0 1 (.kn 1)) 1 [V.sl (ρ bb) 0 n (κ bb)] := SV.all rfl (by rw [H.next_new]; omega) (H.get_new_same ..) _
      obtain ⟨uo', h11, e11, b11, n11, g11⟩ := b10.appo mk hy (by omega)
      have f12 : Fr h11 (h11.new (.cells false (ints [(c : Int)]))) := (Fr.refl h11).new _
      have b12 := b11.more f12
      have hy2 : SV (h11.new (.cells false (ints [(c : Int)]))) (.sl h11.next 0 1 (.kn 1)) 1 (ints [(c : Int)]) := SV.all rfl (by rw [H.next_new]; omega) (H.get_new_same ..) _
      obtain ⟨up', h13, e13, b13, n13⟩ := b12.appp hy2 (by rw [List.length_map]; exact Nat.lt_of_le_of_lt (List.length_filter_le _ _) (by rw [List.length_range]; omega))
      simp (disch := first | omega | (simp only [Qn] <;> omega)) only [go_sem, bls_row h9 (v := V.sl (ρ bb) 0 n (κ bb)) rfl rfl, e11, bls_int, e13]
      rw [show (c : Int) + 1 = ((c + 1 : Nat) : Int) from by omega]
      have sc : S c = false := by
        cases hs : S c with
        | false => rfl
        | true => exact absurd (cb.low c hc' hs) (Nat.lt_irrefl c)
      have filt' : (List.range (c + 1)).filter (fun d => if d = c then true else S d) = (List.range c).filter S ++ [c] := by
        rw [filt_succ, if_pos rfl, if_pos rfl]
        congr 1
        refine List.filter_congr fun d hd => ?_
        have := List.mem_range.1 hd
        rw [if_neg (by omega)]
      have em : ((List.range (c + 1)).filter fun d => if d = c then true else S d).map (upN π c bb) = oa ++ [bb] := by
        rw [filt', List.map_append, ← hoa]
        congr 1
        · refine List.map_congr_left fun d hd => ?_
          have := List.mem_range.1 (List.mem_filter.1 hd).1
          simp only [upN]
          rw [if_neg (by omega)]
        · simp [upN]
      have ep : ((List.range (c + 1)).filter fun d => if d = c then true else S d).map (fun d : Nat => (d : Int)) = ((List.range c).filter S).map (fun d : Nat => (d : Int)) ++ [(c : Int)] := by
        rw [filt', List.map_append]; rfl
      have bbo : bb ∉ oa := fun q => (oar bb q).2 rfl
      have F4b : F4 bb = w1 := by rw [F4n bb bbo, F2n bb hbn, F1b]
      have upc : upN π c bb c = bb := by simp [upN]
      have upd : ∀ d, d ≠ c → upN π c bb d = π d := fun d hd => by simp [upN, hd]
      have dlo : ∀ d, d < n → S d = true → d ≠ c ∧ π d ∈ oa := fun d hd hs => by
        have := cb.low d hd hs
        exact ⟨by omega, by rw [← hoa]; exact List.mem_map.2 ⟨d, List.mem_filter.2 ⟨List.mem_range.2 this, hs⟩, rfl⟩⟩
      refine ⟨n - (c + 1), by omega, c + 1, F4, u2, uo', up', ra', upN π c bb, fun d => if d = c then true else S d, ex_junk rfl, by omega, ?_, ?_, by rw [filt', List.length_append, List.length_singleton]; omega, nd', fun d hd hs => ?_, fun d e hd he hs hse q => ?_, rfl⟩
      · rw [em, ep]; exact b13
      · have hw1' : ∀ j, j < n → w1 j = (F (ra.getD k 0) j + F (ra.getD k 0) j * (x + p - 1)) % p := fun j _ => by rw [hbg, ← hw1]
        rw [hr1]
        refine cb.piv hp1 hc' hk' (x := x) (by rw [hbg]; exact x3) (w := w1) hw1' (fun j _ => by rw [upc, F4b]) (fun d j hd hs hj => ?_) fun a j ha hj => ?_
        · obtain ⟨q1, q2⟩ := dlo d hd hs
          rw [upd d q1, F4y _ q2, ← hno]
        · have hin : ra'.getD a 0 ∈ ra' := getD_mem (by omega)
          have hno' : ra'.getD a 0 ∉ oa := fun q => (oar _ q).1 hin
          rw [F4n _ hno', F2y _ hin, ← hnw]
          simp only
          rw [F1n _ fun q => hbn (q ▸ hin), hrg a (by omega)]
      · by_cases e : d = c
        · rw [e, upc]; exact ⟨mk, hbn⟩
        · rw [upd d e]
          simp only [if_neg e] at hs
          exact ⟨(hπ d hd hs).1, fun q => (hπ d hd hs).2 (hrm _ q)⟩
      · by_cases e1 : d = c
        · by_cases e2 : e = c
          · omega
          · simp only [if_neg e2] at hse
            rw [e1, upc, upd e e2] at q
            exact absurd ((dlo e he hse).2) (by rw [← q]; exact bbo)
        · simp only [if_neg e1] at hs
          by_cases e2 : e = c
          · rw [e2, upc, upd d e1] at q
            exact absurd ((dlo d hd hs).2) (by rw [q]; exact bbo)
          · simp only [if_neg e2] at hse
            rw [upd d e1, upd e e2] at q
            exact hinj d e hd he hs hse q
    · rw [decide_eq_false hkr]
      obtain rfl : k = ra.length := by omega
      simp (disch := first | omega | (simp only [Qn] <;> omega)) only [go_sem, slr.lens]
      rw [show decide True = true from rfl]
      simp (disch := first | omega | (simp only [Qn] <;> omega)) only [go_sem]
      rw [show (c : Int) + 1 = ((c + 1 : Nat) : Int) from by omega]
      have sc : S c = false := by
        cases hs : S c with
        | false => rfl
        | true => exact absurd (cb.low c hc' hs) (Nat.lt_irrefl c)
      have filt' : (List.range (c + 1)).filter S = (List.range c).filter S := by rw [filt_succ, sc]; simp
      refine ⟨n - (c + 1), by omega, c + 1, F, ur, uo, up, ra, π, S, ex_junk rfl, by omega, ?_, cb.skip fun a ha => hz a ha, by rw [filt']; exact hra, nd, hπ, hinj, rfl⟩
      rw [filt']; exact b
  rw [decide_eq_false hcn]
  obtain rfl : c = n := by omega
  simp (disch := first | omega | (simp only [Qn] <;> omega)) only [go_sem]
  have dn := cb.done
  refine ⟨uo, up, S, fun d => F (π d), cnt c S, rfl, ⟨cb.re, cb.fo, dn, rfl⟩, ⟨_, b.oo.sv, ?_, Frs.own b.oo, ?_, ?_⟩, b.op.sv, ⟨Frs.own b.op, by show ((List.range c).filter S).length ≤ _; omega⟩, b.fr⟩
  · have hS : ∀ d ∈ (List.range c).filter S, d < c ∧ S d = true := fun d hd => by
      have := List.mem_filter.1 hd
      exact ⟨List.mem_range.1 this.1, this.2⟩
    simp only [rwF]
    revert hS
    generalize (List.range c).filter S = l
    intro hS
    induction l with
    | nil => trivial
    | cons d l ih =>
      have hd := hS d (List.mem_cons_self ..)
      have md := (hπ d hd.1 hd.2).1
      exact ⟨(b.row _ md).si (b.lt _ md) _, ih fun e he => hS e (List.mem_cons_of_mem _ he)⟩
  · intro w hw2
    obtain ⟨a, ha, rfl⟩ := List.mem_map.1 hw2
    have := b.lo a (b.mo a ha)
    intro _ _ _ _ e
    cases e
    exact this
  · intro w hw2
    obtain ⟨a, ha, rfl⟩ := List.mem_map.1 hw2
    exact b.kc a (b.mo a ha)
end Go.Proofs.Ytlhebmcnjgagjaa

/- Layer 5: two lists of rows in a row; Sum. -/
namespace Go.Proofs.Ytlhebmcnjgagjaa
open Go Go.Ay
set_option maxRecDepth 100000
end Go.Proofs.Ytlhebmcnjgagjaa

/- Layer 5: Sum. -/
namespace Go.Proofs.Ytlhebmcnjgagjaa
open Go Go.Ay
set_option maxRecDepth 100000
end Go.Proofs.Ytlhebmcnjgagjaa

/- Layer 5: the plain law of the kernel. -/
namespace Go.Proofs.Ytlhebmcnjgagjaa
open Go Go.Ay
set_option maxRecDepth 100000
theorem smod_zero {p : Int} {n : Nat} {f : Nat → Int} (h : ∀ k, k < n → f k % p = 0) : sm n f % p = 0 := by
  rw [sm_mod (g := fun _ => 0) fun k hk => by rw [h k hk, Int.zero_emod], sm_nul, Int.zero_emod]
section
variable {p : Int} {n m W k : Nat} {V : Nat → Nat → Int} {S : Nat → Bool} {f : Nat → Nat → Int}
/-- The span of rows with the identity behind them. -/
abbrev Sk (p : Int) (n m W : Nat) (V : Nat → Nat → Int) (S : Nat → Bool) (f : Nat → Nat → Int) (k : Nat) : Prop := Sp p W W (vw (mkR m W (mkE n V))) m S f k
def kS (n : Nat) (S : Nat → Bool) : Nat → Bool := fun c => S (n + c)
def kf (n : Nat) (f : Nat → Nat → Int) : Nat → Nat → Int := fun c j => f (n + c) (n + j)
theorem mk_lo (hW : n + m = W) {a j : Nat} (ha : a < m) (hj : j < n) : vw (mkR m W (mkE n V)) a j = V a j := by
  rw [vw, mkR_row _ ha, mkV_get _ (by omega), mkE, if_pos hj]
theorem mk_hi (hW : n + m = W) {a j : Nat} (ha : a < m) (hj : j < m) : vw (mkR m W (mkE n V)) a (n + j) = if j = a then 1 else 0 := by
  rw [vw, mkR_row _ ha, mkV_get _ (by omega), mkE, if_neg (by omega)]
  by_cases e : j = a
  · rw [if_pos e, if_pos (by omega)]
  · rw [if_neg e, if_neg (by omega)]
theorem krF_rwF (hW : n + m = W) : krF n m S f W = rwF m m (kS n S) (kf n f) := by
  subst hW
  simp only [krF, rwF, kS, kf]
  rw [List.range_add, List.filter_append, List.filter_eq_nil_iff.2 (fun a ha => by
    have := List.mem_range.1 ha
    simp; omega), List.nil_append, List.filter_map, List.map_map]
  congr 1
  refine List.filter_congr fun c _ => ?_
  simp [kS]
theorem Re.ker (hW : n + m = W) (r : Re p W W S f) : Re p m m (kS n S) (kf n f) :=
  ⟨fun c j hc hs hj => r.rng (n + c) (n + j) (by omega) hs (by omega), fun c hc hs => r.one (n + c) (by omega) hs, fun c d hc hd hs hd2 hne => r.zer (n + c) (n + d) (by omega) (by omega) hs hd2 (by omega), fun c j hc hs hj => r.lead (n + c) (n + j) (by omega) hs (by omega)⟩
/-- The first n columns: the span of the rows. -/
theorem Sk.left (hW : n + m = W) (s : Sk p n m W V S f k) : Sp p n n V m S f (cnt n S) := by
  have r := s.re
  refine ⟨⟨fun c j hc hs hj => r.rng c j (by omega) hs (by omega), fun c hc hs => r.one c (by omega) hs, fun c d hc hd hs hd2 hne => r.zer c d (by omega) (by omega) hs hd2 hne, fun c j hc hs hj => r.lead c j (by omega) hs hj⟩, fun c hc hs => ?_, fun a ha => ?_, rfl⟩
  · exact ((s.out c (by omega) hs).cols (by omega)).rows fun i j hi hj => by rw [mk_lo hW hi hj]
  · obtain ⟨d, hd⟩ := s.inn a ha
    refine ⟨d, fun j hj => ?_⟩
    have := hd j (by omega)
    rw [mk_lo hW ha hj] at this
    rw [this, ← hW, sm_app, sm_zeros (n := m) fun c hc => ?_, Int.add_zero]
    cases hs : S (n + c) with
    | false => rw [gf_no hs, Int.mul_zero]
    | true => rw [gf_yes hs, r.lead (n + c) j (by omega) hs (by omega), Int.mul_zero]
/-- What lies behind the pivots of the last m columns is mapped to zero. -/
theorem Sk.zero (hW : n + m = W) (s : Sk p n m W V S f k) {c : Nat} (hc : c < m) (hs : kS n S c = true) {j : Nat} (hj : j < n) : sm m (fun i => kf n f c i * V i j) % p = 0 := by
  obtain ⟨d, hd⟩ := s.out (n + c) (by omega) hs
  have e : ∀ i, i < m → kf n f c i % p = d i % p := fun i hi => by
    have q := hd (n + i) (by omega)
    rw [sm_one (t := i) hi fun a ha hne => by rw [mk_hi hW ha hi, if_neg (Ne.symm hne), Int.mul_zero], mk_hi hW hi hi, if_pos rfl, Int.mul_one] at q
    exact q
  have q := hd j (by omega)
  rw [s.re.lead (n + c) j (by omega) hs (by omega), Int.zero_emod] at q
  rw [q]
  exact sm_mod fun i hi => by rw [mk_lo hW hi hj]; exact mul_mod (e i hi) rfl
/-- What is mapped to zero is a combination of them. -/
theorem Sk.all (hW : n + m = W) (s : Sk p n m W V S f k) {κ : Nat → Int} (h : ∀ j, j < n → sm m (fun i => κ i * V i j) % p = 0) : ∀ i, i < m → κ i % p = sm m (fun c => κ c * gf (kS n S) (kf n f) c i) % p := fun i hi => by
  have hv : InS p W m (vw (mkR m W (mkE n V))) (fun j => sm m (fun i => κ i * vw (mkR m W (mkE n V)) i j)) := ⟨κ, fun j _ => rfl⟩
  obtain ⟨d, hd⟩ := s.mem.1 hv
  have q := s.re.read hd (j := n + i) (by omega)
  have hi2 : ∀ c, c < m → sm m (fun i => κ i * vw (mkR m W (mkE n V)) i (n + c)) = κ c := fun c hc => by
    rw [sm_one (t := c) hc fun a ha hne => by rw [mk_hi hW ha hc, if_neg (Ne.symm hne), Int.mul_zero], mk_hi hW hc hc, if_pos rfl, Int.mul_one]
  rw [hi2 i hi, ← hW, sm_app] at q
  rw [q, ← Int.add_emod_emod, Int.add_emod, smod_zero (n := n) fun c hc => ?_]
  · rw [Int.zero_add, Int.emod_emod_of_dvd _ (Int.dvd_refl p), Int.emod_emod_of_dvd _ (Int.dvd_refl p)]
    congr 1
    refine sm_congr fun c hc => ?_
    rw [hW, hi2 c hc]
    rfl
  · have := h c hc
    rw [Int.mul_emod, hW, sm_congr (g := fun i => κ i * V i c) fun a ha => by rw [mk_lo hW ha hc], this, Int.zero_mul, Int.zero_emod]
end
end Go.Proofs.Ytlhebmcnjgagjaa

/- Layer 5: the plain law of the intersection. -/
namespace Go.Proofs.Ytlhebmcnjgagjaa
open Go Go.Ay
set_option maxRecDepth 100000
section
variable {p : Int} {n : Nat} {ll : List (List Int)} {P : Nat → Nat} {g : Nat → Nat → Int}
theorem Pv.vw (v : Pv p n ll P g) {i j : Nat} (hi : i < ll.length) (hj : j < n) : vw ll i j = g i j := by
  rw [Go.Proofs.Ytlhebmcnjgagjaa.vw, v.row i hi, mkV_get _ hj]
/-- At a pivot a combination shows its coefficient. -/
theorem Pv.at_ (v : Pv p n ll P g) (κ : Nat → Int) {t : Nat} (ht : t < ll.length) : sm ll.length (fun i => κ i * Go.Proofs.Ytlhebmcnjgagjaa.vw ll i (P t)) = κ t := by
  rw [sm_one (t := t) ht fun a ha hne => by rw [v.vw ha (v.lt t ht), v.zer t a ht ha hne, Int.mul_zero], v.vw ht (v.lt t ht), v.one t ht, Int.mul_one]
end
theorem vw_app {a b : List (List Int)} {i j : Nat} : vw (a ++ b) i j = if i < a.length then vw a i j else vw b (i - a.length) j := by
  unfold vw
  rw [List.getD_eq_getElem?_getD (l := a ++ b)]
  by_cases e : i < a.length
  · rw [if_pos e, List.getElem?_append_left e, ← List.getD_eq_getElem?_getD]
  · rw [if_neg e, List.getElem?_append_right (by omega), ← List.getD_eq_getElem?_getD]
section
variable {p : Int} {n : Nat} {first second : List (List Int)} {P1 P2 PK : Nat → Nat} {g1 g2 gK : Nat → Nat → Int} {K : List (List Int)}
end
end Go.Proofs.Ytlhebmcnjgagjaa

/- Layer 5: Meet. -/
namespace Go.Proofs.Ytlhebmcnjgagjaa
open Go Go.Ay
set_option maxRecDepth 100000
theorem getD_app {A B : List (List Int)} {n : Nat} (hA : ∀ i, i < A.length → (A.getD i []).length = n) (hB : ∀ i, i < B.length → (B.getD i []).length = n) : ∀ i, i < (A ++ B).length → ((A ++ B).getD i []).length = n := fun i hi => by
  rw [List.length_append] at hi
  rw [List.getD_eq_getElem?_getD]
  by_cases e : i < A.length
  · rw [List.getElem?_append_left e, ← List.getD_eq_getElem?_getD]; exact hA i e
  · rw [List.getElem?_append_right (by omega), ← List.getD_eq_getElem?_getD]; exact hB _ (by omega)
end Go.Proofs.Ytlhebmcnjgagjaa

/- Layer 5: the reference's check, Basis, Rank, In, Sum. -/
namespace Go.Proofs.Ytlhebmcnjgagjaa
open Go Go.Ay
set_option maxRecDepth 100000
theorem SRc.sr {h : H} {u : V} {ll : List (List Int)} {lo : Nat} (s : SRc h u ll lo) : SR h u ll := s.srf.sr
end Go.Proofs.Ytlhebmcnjgagjaa

/- Layer 5: the law of the intersection. -/
namespace Go.Proofs.Ytlhebmcnjgagjaa
open Go Go.Ay
set_option maxRecDepth 100000
theorem InS.app {p : Int} {n m : Nat} {V : Nat → Nat → Int} {A B : List (List Int)} (hA : ∀ i, i < A.length → InS p n m V (vw A i)) (hB : ∀ i, i < B.length → InS p n m V (vw B i)) : ∀ i, i < (A ++ B).length → InS p n m V (vw (A ++ B) i) := fun i hi => by
  rw [List.length_append] at hi
  by_cases e : i < A.length
  · exact (hA i e).congr fun j _ => by rw [vw_app, if_pos e]
  · exact (hB (i - A.length) (by omega)).congr fun j _ => by rw [vw_app, if_neg e]
end Go.Proofs.Ytlhebmcnjgagjaa

/- Layer 5: the tags of a system's rows. -/
namespace Go.Proofs.Ytlhebmcnjgagjaa
open Go Go.Ay
set_option maxRecDepth 100000
theorem rdF_col {p : Int} {n : Nat} {S : Nat → Bool} {f : Nat → Nat → Int} {v : Nat → Int} {j : Nat} (hv : v j = 0) (hf : ∀ c, c < n → S c = true → f c j = 0) : ∀ c, c ≤ n → rdF p S f v c j = 0
  | 0, _ => hv
  | c + 1, hc => by
    rw [rdF]
    cases hs : S c with
    | false => rw [if_neg (by simp)]; exact rdF_col hv hf c (by omega)
    | true => rw [if_pos rfl, rdF_col hv hf c (by omega), hf c (by omega) hs, Int.mul_zero, Int.add_zero, Int.zero_emod]
theorem neg_cg {p x y : Int} (h : x % p = (-y) % p) : (-x) % p = y % p := by
  have d := Int.dvd_of_emod_eq_zero (Int.emod_eq_emod_iff_emod_sub_eq_zero.1 h)
  refine Int.emod_eq_emod_iff_emod_sub_eq_zero.2 (Int.emod_eq_zero_of_dvd ?_)
  rw [show -x - y = -(x - -y) by omega]
  exact Int.dvd_neg.2 d
/-- Rows that are in the span of those before them have left no trace. -/
def Tg (p : Int) (n m : Nat) (V : Nat → Nat → Int) (i : Nat) (S : Nat → Bool) (f : Nat → Nat → Int) : Prop := ∀ t, t < m → (i ≤ t ∨ InS p n t V (V t)) → ∀ c, c < n → S c = true → f c (n + t) = 0
section
variable {p : Int} {n m W i k : Nat} {V : Nat → Nat → Int} {S : Nat → Bool} {f : Nat → Nat → Int}
theorem Sp.cut {U : Nat → Nat → Int} (hW : n ≤ W) (s : Sp p n W U i S f k) : Sp p n n U i S f k :=
  ⟨⟨fun c j hc hs hj => s.re.rng c j hc hs (by omega), s.re.one, s.re.zer, s.re.lead⟩, fun c hc hs => (s.out c hc hs).cols hW, s.inn, s.cn⟩
theorem kp_tag (hp : 1 < p) (hW : n + m = W) : Kp p n W (mkR m W (mkE n V)) (fun i S f k => Sp p n W (vw (mkR m W (mkE n V))) i S f k ∧ Tg p n m V i S f) := by
  have K := Sp.kp hp (show n ≤ W by omega) (mkR m W (mkE n V))
  refine ⟨fun i S f k h => K.rng i S f k h.1, fun i S f k hi h => K.red i S f k hi h.1, fun i S f k hi h e => ⟨K.no i S f k hi h.1 e, fun t ht q => h.2 t ht (q.imp_left fun q => by omega)⟩, fun i S f k u hi h hu at_ x h1 h2 h3 h4 h5 h6 => ⟨K.yes i S f k u hi h.1 hu at_ x h1 h2 h3 h4 h5 h6, fun t ht q c hc hs => ?_⟩⟩
  rw [mkR_len] at hi
  have f0 := h.2 t ht (q.imp_left fun q => by omega)
  have hti : t ≠ i := fun e => by
    subst e
    rcases q with q | q
    · omega
    · have s2 := h.1.cut (show n ≤ W by omega)
      have e2 : InS p n t (vw (mkR m W (mkE n V))) (fun j => ((mkR m W (mkE n V)).getD t []).getD j 0) := by
        refine (q.congr (w := fun j => ((mkR m W (mkE n V)).getD t []).getD j 0) fun j hj => ?_).rows fun a j ha hj => ?_
        · show vw (mkR m W (mkE n V)) t j % p = _
          rw [mk_lo hW hi hj]
        · rw [mk_lo hW (by omega) hj]
      have z := (s2.zero (by omega) (fun j => ((mkR m W (mkE n V)).getD t []).getD j 0)).2 e2 at_ h1
      rw [← hu] at z
      omega
  have u0 : u (n + t) = 0 := by
    rw [hu]
    refine rdF_col ?_ f0 n (Nat.le_refl n)
    show vw (mkR m W (mkE n V)) i (n + t) % p = 0
    rw [mk_hi hW hi ht, if_neg hti, Int.zero_emod]
  by_cases e : c = at_
  · simp only [if_pos e, u0, Int.mul_zero, Int.add_zero, Int.zero_emod]
  · simp only [if_neg e] at hs ⊢
    rw [nwF, f0 c hc hs, u0, Int.mul_zero, Int.add_zero, Int.zero_emod, Int.mul_zero, Int.add_zero, Int.zero_emod]
/-- What is read behind the first n columns solves the system. -/
theorem sol_law (hp : 1 < p) (hW : n + m = W) (s : Sp p n W (vw (mkR m W (mkE n V))) m S f k) (b : Nat → Int) (hb : ∀ i, i < m → b (n + i) = 0) (hz : ∀ j, j < n → rdF p S f (fun j => b j % p) n j = 0) {r : Nat → Int} (hr : ∀ i, i < m → r i % p = (- rdF p S f (fun j => b j % p) n (n + i)) % p) :
    ∀ j, j < n → sm m (fun i => r i * V i j) % p = b j % p := fun j hj => by
  have rd := fun j hj => rd_sum s.re (show n ≤ W by omega) (fun j => b j % p) n (Nat.le_refl n) j hj
  have row : ∀ c, c < n → ∀ j, j < n → gf S f c j % p = sm m (fun i => gf S f c (n + i) * V i j) % p := fun c hc j hj => by
    cases hs : S c with
    | false => rw [gf_no hs, sm_zeros fun i _ => by rw [gf_no hs, Int.zero_mul]]
    | true =>
      obtain ⟨d, hd⟩ := s.out c hc hs
      have q := hd j (by omega)
      rw [gf_yes hs, q]
      refine sm_mod fun i hi => ?_
      have q2 := hd (n + i) (by omega)
      rw [sm_one (t := i) hi fun a ha hne => by rw [mk_hi hW ha hi, if_neg (Ne.symm hne), Int.mul_zero], mk_hi hW hi hi, if_pos rfl, Int.mul_one] at q2
      rw [mk_lo hW hi hj, gf_yes hs]
      exact mul_mod q2.symm rfl
  have er : ∀ i, i < m → r i % p = sm n (fun c => b c * gf S f c (n + i)) % p := fun i hi => by
    have q := rd (n + i) (by omega)
    simp only [hb i hi, Int.zero_emod, Int.zero_sub] at q
    rw [hr i hi, neg_cg q]
    exact sm_mod fun c _ => mul_mod (mm2 p _) rfl
  have q := rd j (by omega)
  rw [hz j hj, Int.zero_emod] at q
  have q2 := sub_zero q.symm
  simp only [mm2] at q2
  rw [q2, sm_mod (g := fun i => sm n (fun c => b c * gf S f c (n + i)) * V i j) fun i hi => mul_mod (er i hi) rfl, sm_congr (g := fun i => sm n (fun c => b c * gf S f c (n + i) * V i j)) fun i _ => by rw [sm_mulr], sm_swap]
  refine sm_mod fun c hc => ?_
  rw [sm_congr (g := fun i => b c * (gf S f c (n + i) * V i j)) fun i _ => by rw [Int.mul_assoc], sm_mul]
  exact mul_mod (mm2 p _).symm (row c hc j hj).symm
end
end Go.Proofs.Ytlhebmcnjgagjaa

/- Layer 5: Solve. -/
namespace Go.Proofs.Ytlhebmcnjgagjaa
open Go Go.Ay
set_option maxRecDepth 100000
set_option maxHeartbeats 32000000 in
theorem Solve_sp (va vb : V) (a : Mat) (b : List Int) (h : H) (ha : MatV h va a) (la : (a.2.length : Int) ≤ 2 ^ 63 - 1) (hb : SI h vb b) (hc0 : checkM a = 0) (lb : b.length = (a.2.getD 0 []).length) :
    Ev T n_linear_Solve [va, vb] h (fun w h' => Fr h h' ∧ ((¬ InS a.1 b.length a.2.length (vw a.2) (fun j => b.getD j 0) ∧ w = .tup [.nils, .int .i64 18]) ∨
      (InS a.1 b.length a.2.length (vw a.2) (fun j => b.getD j 0) ∧ ∃ u r, w = .tup [u, .int .i64 0] ∧ SI h' u (mkV a.2.length r) ∧ (∀ i, i < a.2.length → 0 ≤ r i ∧ r i < a.1) ∧ (∀ j, j < b.length → sm a.2.length (fun i => r i * vw a.2 i j) % a.1 = b.getD j 0 % a.1) ∧ ∀ i, i < a.2.length → InS a.1 b.length i (vw a.2) (vw a.2 i) → r i = 0))) := by
  obtain ⟨ua, rfl, hua⟩ := ha
  obtain ⟨p, A⟩ := a
  have da := check_vd hc0
  simp only at hua la lb da hc0 ⊢
  refine Ev_of t_linear_Solve rfl ?_
  have wa := SV.what hua.choose_spec.1
  obtain ⟨n, hn⟩ : ∃ n, (A.getD 0 []).length = n := ⟨_, rfl⟩
  rw [hn] at lb da
  obtain ⟨m, hm⟩ : ∃ m, A.length = m := ⟨_, rfl⟩
  have hr1 := da.r1
  have hr2 := da.r2
  have hc1 := da.c1
  have hc2 := da.c2
  have hF := da.p
  simp only [fieldF, Bool.and_eq_true, decide_eq_true_eq] at hF
  obtain ⟨hp2, hpr⟩ := hF
  have hp := isP_gt hpr
  have hrow := da.row
  simp only at hr1 hr2 hrow
  rw [hm] at hr1 hr2
  obtain ⟨W, hW⟩ : ∃ W, n + m = W := ⟨_, rfl⟩
  simp (disch := first | omega | (simp only [Qn] <;> omega)) only [go_sem, c_linear_Solve, initV_eq, boxV_agg2 h (v := .int .i64 p) rfl wa.2.1]
  have hfx : Fr h (h.new (.cells false [.int .i64 p, ua])) := (Fr.refl h).new _
  have hgx : (h.new (.cells false [.int .i64 p, ua])).get h.next = some (.cells false [.int .i64 p, ua]) := H.get_new_same ..
  have hnx : (h.new (.cells false [.int .i64 p, ua])).next = h.next + 1 := H.next_new ..
  generalize h.new (.cells false [.int .i64 p, ua]) = hx at *
  obtain ⟨X, hX⟩ : ∃ X, h.next = X := ⟨_, rfl⟩
  rw [hX] at hgx ⊢
  simp (disch := first | omega | (simp only [Qn] <;> omega)) only [go_sem, row_two hgx]
  refine (check_ok _ (p, A) hx ⟨ua, rfl, hua.mono hfx⟩ la).mono ?_
  rintro v h5 ⟨rfl, f5⟩
  have F5 := hfx.trans f5
  have gx5 := (f5.get X (by omega)).trans hgx
  have x0 : h5.cell X 0 = some (.int .i64 p) := by rw [H.cell_of gx5]; rfl
  have x1 : h5.cell X 1 = some ua := by rw [H.cell_of gx5]; rfl
  simp (disch := first | omega | (simp only [Qn] <;> omega)) only [go_sem]
  refine iteW_dec (fun hz => absurd hc0 hz) (fun _ => ?_)
  obtain ⟨ida, offa, wsa, sua, hida, hwla, hcA, halla⟩ := (hua.mono F5).open
  have c0 : h5.cell ida offa = some (wsa.getD 0 .undef) := hcA 0 (by omega)
  have l0 := (row_at halla (i := 0) (by omega)).lens
  rw [hn] at l0
  have lvb := hb.lens
  rw [lb] at lvb
  simp (disch := first | omega | (simp only [Qn] <;> omega)) only [go_sem, x1, sua.ixa, c0, l0, lvb]
  refine iteW_dec (fun q => absurd rfl q) (fun _ => ?_)
  simp (disch := first | omega | (simp only [Qn] <;> omega)) only [go_sem, x0, x1]
  have fb : Fr h5 (H.mk h5.tr (h5.next + 9)) := (Fr.refl h5).bump (by omega)
  have nb : (H.mk h5.tr (h5.next + 9)).next = h5.next + 9 := rfl
  generalize H.mk h5.tr (h5.next + 9) = h5b at *
  refine (marked_ok n ua A h5b (hua.mono (F5.trans fb)) (by omega) (by omega) (by omega) hrow).mono ?_
  rintro w h6 ⟨s6, f6⟩
  rw [hm, hW] at s6
  have F6 := (F5.trans fb).trans f6
  have gx6 := ((fb.trans f6).get X (by have := f5.next; omega)).trans gx5
  have x06 : h6.cell X 0 = some (.int .i64 p) := by rw [H.cell_of gx6]; rfl
  obtain ⟨L2, hL2⟩ : ∃ L2, mkR m W (mkE n (vw A)) = L2 := ⟨_, rfl⟩
  have KT := kp_tag hp hW (V := vw A)
  rw [hL2] at s6 KT
  have l2 : L2.length = m := by rw [← hL2, mkR_len]
  have lr2 : ∀ i, i < L2.length → (L2.getD i []).length = W := fun i hi => by rw [← hL2, mkR_row _ (by omega), mkV_len]
  simp (disch := first | omega | (simp only [Qn] <;> omega)) only [go_sem, x06, eqV_int]
  refine (span_ok p n W L2 w _ KT h6 ⟨Sp.start p n W _ _, fun _ _ _ _ _ (q : false = true) => Bool.noConfusion q⟩ s6.sr (by omega) lr2 (by omega) (by omega) hpr hp2).mono ?_
  rintro w h7 ⟨E, M, k, S, ρ, f, rfl, ⟨s, tg⟩, hk, kE, f7⟩
  rw [l2] at s
  have F7 := F6.trans f7
  have gx7 := (f7.get X (by have := f5.next; have := (fb.trans f6).next; omega)).trans gx6
  have x17 : h7.cell X 1 = some ua := by rw [H.cell_of gx7]; rfl
  have lvA : lensV ua = some (.int .i64 (m : Int)) := by have := hua.lens; rwa [hm] at this
  have emk := fun hh => mks_ints hh m (by omega)
  have wvb := SV.what hb
  simp (disch := first | omega | (simp only [Qn] <;> omega)) only [go_sem, x17, lvA, emk, fun hh (i : Nat) => bls_two hh (x := vb) (u := .sl i 0 m (.kn m)) wvb.1 wvb.2.1 rfl rfl]
  have hf8 : Fr h7 (h7.new (.cells false (ints (mkV m fun _ => 0)))) := (Fr.refl h7).new _
  have hg8 : (h7.new (.cells false (ints (mkV m fun _ => 0)))).get h7.next = some (.cells false (ints (mkV m fun _ => 0))) := H.get_new_same ..
  have hn8 : (h7.new (.cells false (ints (mkV m fun _ => 0)))).next = h7.next + 1 := H.next_new ..
  generalize h7.new (.cells false (ints (mkV m fun _ => 0))) = h8 at *
  rw [← hn8]
  have hf9 : Fr h8 (h8.new (.cells false [vb, .sl h7.next 0 m (.kn m)])) := (Fr.refl h8).new _
  have hg9 : (h8.new (.cells false [vb, .sl h7.next 0 m (.kn m)])).get h8.next = some (.cells false [vb, .sl h7.next 0 m (.kn m)]) := H.get_new_same ..
  have hn9 : (h8.new (.cells false [vb, .sl h7.next 0 m (.kn m)])).next = h8.next + 1 := H.next_new ..
  generalize h8.new (.cells false [vb, .sl h7.next 0 m (.kn m)]) = h9 at *
  have sz9 : SI h9 (.sl h7.next 0 m (.kn m)) (mkV m fun _ => 0) := (Bk.si (show Bk h8 h7.next m fun _ => 0 from hg8) (by omega) (.kn m)).mono hf9
  have F9 := (F7.trans hf8).trans hf9
  have f79 := hf8.trans hf9
  refine (concat_ok h8.next vb _ b (mkV m fun _ => 0) h9 hg9 (by omega) (hb.mono F9) sz9 (by rw [mkV_len]; omega) (by omega) (by rw [mkV_len]; omega)).mono ?_
  rintro w h10 ⟨o10, f10⟩
  have F10 := F9.trans f10
  obtain ⟨bz, hbz⟩ : ∃ l, b ++ mkV m (fun _ => 0) = l := ⟨_, rfl⟩
  rw [hbz] at o10
  have lbz : bz.length = W := by rw [← hbz, List.length_append, mkV_len]; omega
  simp (disch := first | omega | (simp only [Qn] <;> omega)) only [go_sem]
  refine (reduced_ok p E M n W S ρ f _ w bz h10 (kE.fr (f79.trans f10)) o10.sv lbz (by omega) (by omega) ⟨by omega, hp2⟩ (fun c j hc hs hj => s.re.rng c j hc hs hj)).mono ?_
  rintro w h11 ⟨N, rfl, N1, N2, bN, f11⟩
  have F11 := F10.trans f11
  obtain ⟨u, hu⟩ : ∃ u, rdF p S f (fun i => bz.getD i 0 % p) n = u := ⟨_, rfl⟩
  rw [hu] at bN
  have ur : ∀ j, 0 ≤ u j ∧ u j < p := fun j => by rw [← hu]; exact rdF_range (by omega) (tmod_range _ (by omega)) n
  have sk := fun kk : IntKind => slc_kn (id := N) (off := 0) (len := W) (c := W) (hi := (n : Int)) (k := kk) (by omega) (by omega)
  simp only [Int.toNat_natCast] at sk
  simp (disch := first | omega | (simp only [Qn] <;> omega)) only [go_sem, sk]
  refine (max_ok _ (mkV n u) h11 (bN.pre (by omega) N2 _) (by rw [mkV_len]; omega) (by rw [mkV_len]; omega)).mono ?_
  rintro w h11' ⟨mx, rfl, rfl, hmx⟩
  have bzb : ∀ j, j < n → bz.getD j 0 = b.getD j 0 := fun j hj => by
    rw [← hbz, List.getD_eq_getElem?_getD, List.getElem?_append_left (by omega), ← List.getD_eq_getElem?_getD]
  have bz0 : ∀ i, i < m → bz.getD (n + i) 0 = 0 := fun i hi => by
    rw [← hbz, List.getD_eq_getElem?_getD, List.getElem?_append_right (by omega), ← List.getD_eq_getElem?_getD, mkV_get _ (by omega)]
  have inL : InS p n m (vw A) (fun j => b.getD j 0) ↔ ∀ j, j < n → u j = 0 := by
    have z := (s.cut (show n ≤ W by omega)).zero (by omega) (fun j => bz.getD j 0)
    rw [hu] at z
    rw [z]
    constructor
    · exact fun q => (q.congr (w := fun j => bz.getD j 0) fun j hj => by rw [bzb j hj]).rows fun a j ha hj => by rw [← hL2, mk_lo hW ha hj]
    · exact fun q => (q.congr (w := fun j => b.getD j 0) fun j hj => by rw [bzb j hj]).rows fun a j ha hj => by rw [← hL2, mk_lo hW ha hj]
  rw [lb, hm]
  have any1 := hmx 1
  simp (disch := first | omega | (simp only [Qn] <;> omega)) only [go_sem]
  refine iteW_dec (fun hpos => ?_) (fun hneg => ?_)
  · simp (disch := first | omega | (simp only [Qn] <;> omega)) only [go_sem]
    refine ⟨F11, .inl ⟨fun q => ?_, trivial⟩⟩
    rw [decide_eq_true (show (1 : Int) ≤ mx by omega)] at any1
    obtain ⟨x, hx1, hx2⟩ := List.any_eq_true.1 any1.symm
    simp only [mkV, List.mem_map, List.mem_range] at hx1
    obtain ⟨j, hj, rfl⟩ := hx1
    rw [inL.1 q j hj] at hx2
    simp at hx2
  have uz : ∀ j, j < n → u j = 0 := fun j hj => by
    rw [decide_eq_false (show ¬ (1 : Int) ≤ mx by omega)] at any1
    have := List.any_eq_false.1 any1.symm (u j) (by simp only [mkV, List.mem_map, List.mem_range]; exact ⟨j, hj, rfl⟩)
    have := ur j
    simp at *
    omega
  have kE11 := kE.fr ((f79.trans f10).trans f11)
  have gx11 : h11'.get X = some (.cells false [.int .i64 p, ua]) := (((f79.trans f10).trans f11).get X (by have := f5.next; have := ((fb.trans f6).trans f7).next; omega)).trans gx7
  have x111 : h11'.cell X 1 = some ua := by rw [H.cell_of gx11]; rfl
  simp (disch := first | omega | (simp only [Qn] <;> omega)) only [go_sem, x111, lvA, emk]
  have hf12 : Fr h11' (h11'.new (.cells false (ints (mkV m fun _ => 0)))) := (Fr.refl h11').new _
  have hg12 : (h11'.new (.cells false (ints (mkV m fun _ => 0)))).get h11'.next = some (.cells false (ints (mkV m fun _ => 0))) := H.get_new_same ..
  have hn12 : (h11'.new (.cells false (ints (mkV m fun _ => 0)))).next = h11'.next + 1 := H.next_new ..
  have cap1 : Cap1 (V.sl N 0 W (.kn W)) := fun id off m c e => by cases e; exact .inr ⟨W, rfl, Nat.le_refl _⟩
  obtain ⟨vr, evr, svr⟩ := slc_lo (bN.si N2 (.kn W)) cap1 (k := n) (by rw [mkV_len]; omega)
  have edr : (mkV W u).drop n = mkV m (fun j => u (n + j)) := mkV_eq (by rw [List.length_drop, mkV_len]; omega) fun k hk => by
    rw [List.getD_eq_getElem?_getD, List.getElem?_drop, ← List.getD_eq_getElem?_getD, mkV_get _ (by omega)]
  rw [edr] at svr
  generalize h11'.new (.cells false (ints (mkV m fun _ => 0))) = h12 at *
  rw [← hn12]
  obtain ⟨O, hO⟩ : ∃ O, h11'.next = O := ⟨_, rfl⟩
  rw [hO] at hg12 ⊢
  obtain ⟨idw, offw, shw, hidw, hcw⟩ := svr.open
  rw [mkV_len] at shw hidw hcw
  have rE := r1E (kE11.fr hf12).gE
  have e0 := (kE11.fr hf12).e0
  have rEb : (H.mk h12.tr (h12.next + 15)).row E 0 1 = some [.int .i64 p] := rE
  have e0b : (H.mk h12.tr (h12.next + 15)).cell E 0 = some (.int .i64 p) := e0
  have fb2 : Fr h12 (H.mk h12.tr (h12.next + 15)) := (Fr.refl h12).bump (by omega)
  have nb2 : (H.mk h12.tr (h12.next + 15)).next = h12.next + 15 := rfl
  simp (disch := first | omega | (simp only [Qn] <;> omega)) only [go_sem, rE, rEb, e0, e0b, evr, List.getElem?_cons_zero, List.getElem?_cons_succ]
  generalize H.mk h12.tr (h12.next + 15) = h13 at *
  have bO : Bk h13 O m (fun _ => 0) := Bk.fr (show Bk h12 O m _ from hg12) fb2 (by omega)
  refine (add_ok p (p - 1) O m m idw offw (.kn m) vr (fun _ => 0) (fun i => u (n + i)) [] h13 bO.bt (by omega) shw (fun h0 => by have := hidw h0; omega) (fun i hi => by rw [(hf12.trans fb2).cell (by have := hidw (by omega); omega)]; have := hcw i hi; rwa [mkV_get _ hi] at this) (.inl (by have := hidw (by omega); omega)) (Nat.le_refl m) (by omega) ⟨by omega, hp2⟩ (by omega) (fun i hi => by omega) (fun i hi => by have := ur (n + i); omega)).mono ?_
  rintro w h14 ⟨bR, F14⟩
  have F13 := (F11.trans hf12).trans fb2
  have F14h : Fr h h14 := Fx.fr F13 (by have := F11.next; omega) F14
  simp (disch := first | omega | (simp only [Qn] <;> omega)) only [go_sem]
  refine ⟨F14h, .inr ⟨inL.2 uz, _, fun i => (0 + (p - 1) * u (n + i)) % p, rfl, (bR.bk.congr fun i hi => by rw [if_pos hi]).si (by have := F14.next; omega) _, fun i hi => tmod_range _ (by omega), ?_, fun i hi q => ?_⟩⟩
  · intro j hj
    have := sol_law hp hW (by rw [hL2]; exact s) (fun j => bz.getD j 0) bz0 (by rw [hu]; exact uz) (r := fun i => (0 + (p - 1) * u (n + i)) % p) (fun i hi => by
      rw [hu, mm2, show 0 + (p - 1) * u (n + i) = - u (n + i) + p * u (n + i) by grind, Int.add_mul_emod_self_left]) j hj
    rw [this, bzb j hj]
  · have u0 : u (n + i) = 0 := by
      rw [← hu]
      refine rdF_col (by rw [bz0 i hi, Int.zero_emod]) (fun c hc hs => tg i hi (.inr q) c hc hs) n (Nat.le_refl n)
    simp only [u0, Int.mul_zero, Int.add_zero, Int.zero_emod]
end Go.Proofs.Ytlhebmcnjgagjaa

/- Layer 5: two rows appended; a taker under another's change. -/
namespace Go.Proofs.Ytlhebmcnjgagjaa
open Go Go.Ay
set_option maxRecDepth 100000
theorem vw_mkR {m n : Nat} {A : Mx} {i j : Nat} (hi : i < m) (hj : j < n) : vw (mkR m n A) i j = A i j := by rw [vw, mkR_row _ hi, mkV_get _ hj]
theorem Rws.open {h : H} {u : V} {ws : List V} {ll : List (List Int)} {lo : Nat} (r : Rws h u ws ll lo) : ∃ id off, Sl u 1 ll.length id off ∧ (0 < ll.length → id < h.next ∧ lo ≤ id) ∧ ws.length = ll.length ∧ ∀ i, i < ll.length → h.cell id (off + i) = some (ws.getD i .undef) := by
  have hl := r.row.length
  obtain ⟨id, off, h1, h2, h3⟩ := r.own.sv.shape ll.length (by rw [hl, Nat.mul_one]) (by omega)
  refine ⟨id, off, h1, fun h0 => ⟨h2 h0, ?_⟩, hl, fun i i1 => ?_⟩
  · rcases r.own with ⟨h1', _⟩ | ⟨id', n, cap, rest, h1', _, _, h4, _⟩
    · have := h1.len
      rw [h1'] at this
      simp [lenV] at this
      omega
    · have e := h1.ixa .i64 0 (by omega) (by omega)
      have hn : n = ll.length := by
        have := h1.len
        rw [h1'] at this
        simpa [lenV] using this
      rw [h1', ixaV_sl (by omega) (by omega)] at e
      simp only [Option.some.injEq, V.ptr.injEq] at e
      omega
  · rw [h3 i (by omega), List.getD_eq_getElem?_getD, List.getElem?_eq_getElem (by omega)]; rfl
theorem InS.vw {p : Int} {n m : Nat} {V : Nat → Nat → Int} {ll ll' : List (List Int)} {q q' : Nat} (h : InS p n m V (vw ll q)) (e : ll'.getD q' [] = ll.getD q []) : InS p n m V (Go.Proofs.Ytlhebmcnjgagjaa.vw ll' q') := by
  unfold Go.Proofs.Ytlhebmcnjgagjaa.vw at h ⊢
  rw [e]; exact h
end Go.Proofs.Ytlhebmcnjgagjaa

/- The law LinearBasis, walked. -/
namespace Go.Proofs.Ytlhebmcnjgagjaa
open Go Go.Ay
set_option maxRecDepth 100000
end Go.Proofs.Ytlhebmcnjgagjaa

/- Layer 5: the reference's Apply: its result lies at or behind the heap's index. -/
namespace Go.Proofs.Ytlhebmcnjgagjaa
open Go Go.Ay
set_option maxRecDepth 100000
end Go.Proofs.Ytlhebmcnjgagjaa

/- Layer 5: for LinearSolves: apply, a part of rows, a row replaced. -/
namespace Go.Proofs.Ytlhebmcnjgagjaa
open Go Go.Ay
set_option maxRecDepth 100000
theorem all2_take {α β : Type} {R : α → β → Prop} : ∀ {as : List α} {bs : List β} (k : Nat), All2 R as bs → All2 R (as.take k) (bs.take k)
  | [], [], k, _ => by rw [List.take_nil, List.take_nil]; exact trivial
  | _ :: _, _ :: _, 0, _ => trivial
  | a :: as, b :: bs, k + 1, h => ⟨h.1, all2_take k h.2⟩
  | [], _ :: _, _, h => h.elim
  | _ :: _, [], _, h => h.elim
theorem Rws.pre {h : H} {id m lo : Nat} {ws : List V} {ll : List (List Int)} (r : Rws h (.sl id 0 m (.un 1)) ws ll lo) {k : Nat} (hk : k ≤ ll.length) : Rws h (.sl id 0 k (.un 1)) (ws.take k) (ll.take k) lo := by
  have hl := r.row.length
  refine ⟨?_, all2_take k r.row, fun w hw => ?_, fun w hw => r.frs w (List.mem_of_mem_take hw)⟩
  · rcases r.own with ⟨e, _⟩ | ⟨id', n, cap, rest, e, h1, _, h3, h4, h5⟩
    · cases e
    · cases e
      exact .inr ⟨id, k, .un 1, ws.drop k ++ rest, rfl, by rw [List.length_take]; omega, .inl rfl, h3, h4, by rw [h5, ← List.append_assoc, List.take_append_drop]⟩
  · have := r.dis w (List.mem_of_mem_take hw)
    intro i o n' c e i' o' n2 c' e'
    cases e
    exact this _ _ _ _ rfl _ _ _ _ e'
end Go.Proofs.Ytlhebmcnjgagjaa

/- Layer 5: Sum and Meet by what they compute; the reference's kernel and Meet. -/
namespace Go.Proofs.Ytlhebmcnjgagjaa
open Go Go.Ay
set_option maxRecDepth 100000
theorem Sp.same {p : Int} {n W m k : Nat} {V V' : Nat → Nat → Int} {S : Nat → Bool} {f : Nat → Nat → Int} (s : Sp p n W V m S f k) (hW : n ≤ W) (e : ∀ i j, i < m → j < W → V i j % p = V' i j % p) : Sp p n W V' m S f k where
  re := s.re
  out := fun c hc hs => (s.out c hc hs).rows e
  inn := fun a ha => (s.inn a ha).congr fun j hj => (e a j ha (by omega)).symm
  cn := s.cn
/-- The rows with the identity behind them, as the reference makes them. -/
def mkP (p : Int) (n : Nat) (V : Nat → Nat → Int) : Nat → Nat → Int := fun i j => if j < n then V i j % p else if j = n + i then 1 else 0
theorem Sk.of_mkP {p : Int} {n m W k : Nat} {V : Nat → Nat → Int} {S : Nat → Bool} {f : Nat → Nat → Int} (s : Sp p W W (vw (mkR m W (mkP p n V))) m S f k) : Sk p n m W V S f k :=
  Sp.same s (Nat.le_refl W) fun i j hi hj => by
    rw [vw_mkR hi hj, vw_mkR hi hj, mkP, mkE]
    by_cases e : j < n
    · rw [if_pos e, if_pos e, mm2]
    · rw [if_neg e, if_neg e]
theorem mkP_row {p : Int} {n m : Nat} {V : Nat → Nat → Int} {i : Nat} (hi : i < m) : mkV n (fun j => V i j % p) ++ mkV m (fun j => if j = i then 1 else 0) = mkV (n + m) (mkP p n V i) := by
  rw [mkV_split]
  congr 1
  · exact mkV_congr fun j hj => by rw [mkP, if_pos hj]
  · refine mkV_congr fun j hj => ?_
    simp only [mkP]
    rw [if_neg (show ¬ n + j < n by omega)]
    by_cases e : j = i
    · rw [if_pos e, if_pos (by omega)]
    · rw [if_neg e, if_neg (by omega)]
/-- The rows of a basis that begin behind n, cut. -/
theorem kr_list {n m W : Nat} (hW : n + m = W) {S : Nat → Bool} {f : Nat → Nat → Int} : (((List.range W).filter S).filter (fun c => decide (n ≤ c))).map (fun c => mkV m fun j => f c (n + j)) = krF n m S f W := by
  rw [krF, List.filter_filter]
theorem rwF_get {n W : Nat} {S : Nat → Bool} {f : Nat → Nat → Int} {i : Nat} (hi : i < (rwF n W S f).length) : (rwF n W S f).getD i [] = mkV W (f (((List.range n).filter S).getD i 0)) := by
  simp only [rwF, List.length_map] at hi ⊢
  rw [List.getD_eq_getElem?_getD, List.getElem?_map, List.getD_eq_getElem?_getD, List.getElem?_eq_getElem hi]
  rfl
set_option maxHeartbeats 16000000 in
theorem ref_kernel_ok (p : Int) (n : Nat) (v : V) (ll : List (List Int)) (h : H) (hv : SR h v ll) (hl : ll.length ≤ 200) (hn1 : 1 ≤ n) (hn2 : n ≤ 64) (hw : ∀ i, i < ll.length → (ll.getD i []).length = n) (hp : isP p = true) (hp2 : p < 10000) :
    Ev T n_ref05_kernel [.int .i64 p, .int .i64 (n : Int), v] h (fun w h' => ∃ S f k, Sk p n ll.length (n + ll.length) (vw ll) S f k ∧ SRf h' w (krF n ll.length S f (n + ll.length)) h.next ∧ Fr h h') := by
  have hp1 := isP_gt hp
  refine Ev_of t_ref05_kernel rfl ?_
  obtain ⟨idv, offv, wsv, slv, hidv, hwlv, hcv, hallv⟩ := hv.open
  have lv := hv.lens
  simp (disch := first | omega | (simp only [Qn] <;> omega)) only [go_sem, c_ref05_kernel, initV_eq]
  refine Wp_loop (fun k' vars hh => ∃ (i : Nat) (u : V) (ws : List V), (∃ g : Nat → V, vars = [.int .i64 p, .int .i64 (n : Int), v, g 3, u, .int .i64 (i : Int), g 6, g 7, g 8, g 9, g 10, g 11, g 12, g 13]) ∧ i ≤ ll.length ∧ Rws hh u ws (mkR i (n + ll.length) (mkP p n (vw ll))) h.next ∧ Fr h hh ∧ k' = ll.length - i) ll.length
    ⟨0, .nils, [], ex_junk rfl, Nat.zero_le _, Rws.nils _ _, Fr.refl _, rfl⟩ ?_
  rintro k' vars hh ⟨i, u, ws, ⟨jk, rfl⟩, hi, R, F, rfl⟩
  simp (disch := first | omega | (simp only [Qn] <;> omega)) only [go_sem, lv]
  by_cases hlt : (i : Int) < (ll.length : Int)
  · rw [decide_eq_true hlt]
    have hi' : i < ll.length := by omega
    have emk := mks_ints hh ll.length (by omega)
    have pt : ∀ (h : H) (x : Nat), putO (some (.cells false (ints (mkV ll.length fun _ => 0)))) h x i [.int .i64 1] = some (h.set x (some (.cells false (ints (mkV ll.length fun j => if j = i then 1 else 0))))) := fun h x => by
      rw [putO_ints (by rw [mkV_len]; exact hi'), mkV_set]
    simp (disch := first | omega | (simp only [Qn] <;> omega)) only [go_sem, lv, emk, pt]
    obtain ⟨N, hN⟩ : ∃ N, hh.next = N := ⟨_, rfl⟩
    obtain ⟨h2, hh2⟩ : ∃ h2, (hh.new (.cells false (ints (mkV ll.length fun _ => 0)))).set hh.next (some (.cells false (ints (mkV ll.length fun j => if j = i then 1 else 0)))) = h2 := ⟨_, rfl⟩
    have k2 : Bk h2 N ll.length (fun j => if j = i then 1 else 0) := by rw [← hh2, ← hN]; exact Bk.set ..
    have f2 : Fr hh h2 := by rw [← hh2]; exact ((Fr.refl hh).new _).set (Nat.le_refl _) _
    have n2 : h2.next = hh.next + 1 := by rw [← hh2, H.next_set, H.next_new]
    rw [hh2, hN]
    clear hh2
    have F2 := F.trans f2
    have ci : h2.cell idv (offv + i) = some (wsv.getD i .undef) := by rw [F2.cell (hidv (by omega))]; exact hcv i hi'
    simp (disch := first | omega | (simp only [Qn] <;> omega)) only [go_sem, slv.ixa, ci]
    refine (ref_residues_ok p _ (ll.getD i []) h2 ((row_at hallv hi').mono F2) (by rw [hw i hi']; omega) ⟨by omega, hp2⟩).mono ?_
    rintro w h3 ⟨o, f3⟩
    rw [hw i hi'] at o
    have s3 : SI h3 (.sl N 0 ll.length (.kn ll.length)) (mkV ll.length fun j => if j = i then 1 else 0) := SI.mono (k2.si (by omega) _) f3
    obtain ⟨w4, h4, e4, a4⟩ := o.app (bytes := 8) (n := n) (m := ll.length) f3.next s3 (by rw [ints_length, mkV_len, Nat.mul_one]) (by rw [ints_length, mkV_len, Nat.mul_one]) (by omega) (by omega)
    have f4 := a4.fr h2 f3 (Nat.le_refl _)
    have o4 := a4.own
    rw [← ints_append] at o4
    have eP := mkP_row (p := p) (n := n) (V := vw ll) hi'
    replace o4 : Own h4 w4 1 (ints (mkV (n + ll.length) (mkP p n (vw ll) i))) h2.next := by rw [← eP]; exact o4
    have s4 : SI h4 w4 (mkV (n + ll.length) (mkP p n (vw ll) i)) := o4.sv
    have wh4 := SV.what s4
    have R4 := (R.fr f2).fr f4
    have f5 : Fr h4 (h4.new (.cells false [w4])) := (Fr.refl h4).new _
    have hy : SV (h4.new (.cells false [w4])) (.sl h4.next 0 1 (.kn 1)) 1 [w4] := SV.all rfl (by rw [H.next_new]; omega) (H.get_new_same ..) _
    have lws : ws.length = i := by have := R.row.length; rw [mkR_len] at this; exact this
    have fw4 : Frs w4 h2.next := Frs.own o4
    obtain ⟨u6, h6, e6, R6, n6, _, k6⟩ := (R4.fr f5).app (by have := F.next; have := f2.next; have := f4.next; have := f5.next; omega) hy (s4.mono f5) (fun i1 _ _ _ q1 i2 _ _ _ q2 => by have := fw4 _ _ _ _ q2; have := own_low R.own q1; omega) (fw4.le (by have := F.next; have := f2.next; omega)) (by omega)
    have F6 := k6 h ((F2.trans f4).trans f5) (Nat.le_refl _)
    simp (disch := first | omega | (simp only [Qn] <;> omega)) only [go_sem, e4, bls_row h4 wh4.1 wh4.2.1, e6]
    rw [← mkR_succ] at R6
    rw [show (i : Int) + 1 = ((i + 1 : Nat) : Int) from by omega]
    exact ⟨ll.length - (i + 1), by omega, i + 1, u6, _, ex_junk rfl, by omega, R6, F6, rfl⟩
  rw [decide_eq_false hlt]
  obtain rfl : i = ll.length := by omega
  obtain ⟨m, hm⟩ : ∃ m, ll.length = m := ⟨_, rfl⟩
  rw [hm] at R hl lv hlt hi
  rw [hm]
  simp (disch := first | omega | (simp only [Qn] <;> omega)) only [go_sem, lv]
  have hW : (n : Int) + (m : Int) = ((n + m : Nat) : Int) := by omega
  rw [hW]
  refine (ref_basis_ok p (n + m) u _ hh R.sr (by rw [mkR_len]; omega) (fun i hi => by rw [mkR_len] at hi; rw [mkR_row _ hi, mkV_len]) (by omega) (by omega) hp hp2).mono ?_
  rintro w h2 ⟨b, z, S, f, k, rfl, s, sr, sz, _, f2⟩
  rw [mkR_len] at s
  have F2 := F.trans f2
  obtain ⟨D, hD⟩ : ∃ D, (List.range (n + m)).filter S = D := ⟨_, rfl⟩
  have bD : (rwF (n + m) (n + m) S f).length = D.length := by rw [rwF, List.length_map, hD]
  have lD : D.length ≤ n + m := by rw [← hD]; exact Nat.le_trans (List.length_filter_le _ _) (by rw [List.length_range]; omega)
  rw [hD] at sz
  have lb := sr.sr.lens
  rw [bD] at lb
  obtain ⟨wsb, svb, allb, fub, fwb, cwb⟩ := sr
  have lwb := allb.length
  obtain ⟨idb, offb, slb, hidb, hcb⟩ := svb.shape D.length (by rw [lwb, bD, Nat.mul_one]) (by omega)
  obtain ⟨idz, offz, slz, hidz, hcz⟩ := sz.open
  rw [List.length_map] at slz hidz hcz
  simp (disch := first | omega | (simp only [Qn] <;> omega)) only [go_sem, List.getElem?_cons_zero, List.getElem?_cons_succ]
  refine Wp_loop (fun k' vars hh => ∃ (i : Nat) (u : V) (ws : List V), (∃ g : Nat → V, vars = [g 0, .int .i64 (n : Int), g 2, g 3, g 4, g 5, g 6, b, z, u, .int .i64 (i : Int), g 11, g 12, g 13]) ∧ i ≤ D.length ∧ Rws hh u ws (((D.take i).filter fun c => decide (n ≤ c)).map fun c => mkV m fun j => f c (n + j)) h2.next ∧ ws.length ≤ i ∧ Fr h2 hh ∧ k' = D.length - i) D.length
    ⟨0, .nils, [], ex_junk rfl, Nat.zero_le _, Rws.nils _ _, Nat.zero_le _, Fr.refl _, rfl⟩ ?_
  clear R jk ws u
  rintro k' vars h3 ⟨i, u, ws, ⟨jk, rfl⟩, hi, R, lws, f3, rfl⟩
  simp (disch := first | omega | (simp only [Qn] <;> omega)) only [go_sem, lb]
  by_cases hlt : (i : Int) < (D.length : Int)
  · rw [decide_eq_true hlt]
    have hi' : i < D.length := by omega
    obtain ⟨c, hc⟩ : ∃ c, D.getD i 0 = c := ⟨_, rfl⟩
    have cD : c ∈ D := by rw [← hc]; exact getD_mem hi'
    have hcW : c < n + m ∧ S c = true := by
      rw [← hD] at cD
      have := List.mem_filter.1 cD
      exact ⟨List.mem_range.1 this.1, this.2⟩
    have cz : h3.cell idz (offz + i) = some (.int .i64 (c : Int)) := by
      rw [f3.cell (hidz (by omega)), hcz i hi', List.getD_eq_getElem?_getD, List.getElem?_map, List.getElem?_eq_getElem hi', ← hc, List.getD_eq_getElem?_getD, List.getElem?_eq_getElem hi']
      rfl
    have tk : ∀ P : Nat → Bool, (D.take (i + 1)).filter P = (D.take i).filter P ++ (if P c then [c] else []) := fun P => by
      rw [List.take_add_one, List.getElem?_eq_getElem hi', List.filter_append]
      congr 1
      rw [← hc, List.getD_eq_getElem?_getD, List.getElem?_eq_getElem hi', Option.getD_some]
      cases h : P D[i] <;> simp [List.filter, h]
    simp (disch := first | omega | (simp only [Qn] <;> omega)) only [go_sem, slz.ixa, cz]
    refine iteW_dec (fun hge => ?_) (fun hge => ?_)
    · have wb : h3.cell idb (offb + i) = some (wsb.getD i .undef) := by
        rw [f3.cell (hidb (by omega)), hcb i (by omega), List.getD_eq_getElem?_getD, List.getElem?_eq_getElem (by omega)]
        rfl
      have rb := (row_at allb (i := i) (by omega)).mono f3
      rw [rwF_get (by omega), hD, hc] at rb
      have cb : Cap1 (wsb.getD i .undef) := by
        rw [List.getD_eq_getElem?_getD, List.getElem?_eq_getElem (by omega)]
        exact cwb _ (List.getElem_mem _)
      have hm0 : n < (mkV (n + m) (f c)).length := by rw [mkV_len]; omega
      obtain ⟨v', ev', sv'⟩ := slc_lo rb cb hm0
      have ed : (mkV (n + m) (f c)).drop n = mkV m fun j => f c (n + j) := by
        rw [mkV_split, List.drop_left' (mkV_len ..)]
      rw [ed] at sv'
      simp (disch := first | omega | (simp only [Qn] <;> omega)) only [go_sem, slb.ixa, wb, ev']
      refine (own_ok v' _ h3 sv' (by rw [mkV_len]; omega)).mono ?_
      rintro w h4 ⟨o4, f4, _⟩
      have s4 : SI h4 w (mkV m fun j => f c (n + j)) := o4.sv
      have wh4 := SV.what s4
      have f5 : Fr h4 (h4.new (.cells false [w])) := (Fr.refl h4).new _
      have hy : SV (h4.new (.cells false [w])) (.sl h4.next 0 1 (.kn 1)) 1 [w] := SV.all rfl (by rw [H.next_new]; omega) (H.get_new_same ..) _
      have fw4 : Frs w h3.next := Frs.own o4
      have nF := F2.next
      have n3 := f3.next
      obtain ⟨u6, h6, e6, R6, n6, _, k6⟩ := ((R.fr f4).fr f5).app (by have := f4.next; have := f5.next; omega) hy (s4.mono f5) (fun i1 _ _ _ q1 i2 _ _ _ q2 => by have := fw4 _ _ _ _ q2; have := own_low R.own q1; omega) (fw4.le (by omega)) (by omega)
      have F6 := k6 h2 ((f3.trans f4).trans f5) (Nat.le_refl _)
      simp (disch := first | omega | (simp only [Qn] <;> omega)) only [go_sem, bls_row h4 wh4.1 wh4.2.1, e6]
      rw [show (i : Int) + 1 = ((i + 1 : Nat) : Int) from by omega]
      refine ⟨D.length - (i + 1), by omega, i + 1, u6, ws ++ [w], ex_junk rfl, by omega, ?_, by rw [List.length_append, List.length_singleton]; omega, ?_, rfl⟩
      · rw [tk, if_pos (by simp; omega), List.map_append]; exact R6
      · exact F6
    · simp (disch := first | omega | (simp only [Qn] <;> omega)) only [go_sem]
      rw [show (i : Int) + 1 = ((i + 1 : Nat) : Int) from by omega]
      refine ⟨D.length - (i + 1), by omega, i + 1, u, ws, ex_junk rfl, by omega, ?_, by omega, f3, rfl⟩
      rw [tk, if_neg (by simp; omega), List.append_nil]; exact R
  rw [decide_eq_false hlt]
  obtain rfl : i = D.length := by omega
  simp (disch := first | omega | (simp only [Qn] <;> omega)) only [go_sem]
  rw [List.take_length, ← hD, kr_list rfl] at R
  refine ⟨S, f, k, Sk.of_mkP s, ⟨ws, R.own.sv, R.row, (Frs.own R.own).le F2.next, fun w hw => (R.frs w hw).le F2.next⟩, F2.trans f3⟩
end Go.Proofs.Ytlhebmcnjgagjaa

/- Layer 5: the reference's Meet. -/
namespace Go.Proofs.Ytlhebmcnjgagjaa
open Go Go.Ay
set_option maxRecDepth 100000
theorem kr_range {p : Int} {n m W k : Nat} {S : Nat → Bool} {f : Nat → Nat → Int} (hW : n + m = W) (r : Re p W W S f) {i j : Nat} (hi : i < (krF n m S f W).length) (hj : j < m) : 0 ≤ vw (krF n m S f W) i j ∧ vw (krF n m S f W) i j < p := by
  rw [krF_rwF hW] at hi ⊢
  obtain ⟨a1, a2, a3⟩ := piv_at hi
  rw [vw, a3, mkV_get _ hj]
  exact (Re.ker hW r).rng _ j a1 a2 hj
end Go.Proofs.Ytlhebmcnjgagjaa

/- The law LinearMeets, walked. -/
namespace Go.Proofs.Ytlhebmcnjgagjaa
open Go Go.Ay
set_option maxRecDepth 100000
end Go.Proofs.Ytlhebmcnjgagjaa

/- Layer 5: the law LinearSpans, walked. -/
namespace Go.Proofs.Ytlhebmcnjgagjaa
open Go Go.Ay
set_option maxRecDepth 100000
set_option maxHeartbeats 8000000 in
theorem large5_ok (v : V) (id off n : Nat) (us : Nat → V) (lls : Nat → List (List Int)) (h : H) (hsl : Sl v 1 n id off) (hcs : ∀ i, i < n → h.cell id (off + i) = some (us i)) (hR : ∀ i, i < n → SR h (us i) (lls i)) (hl : ∀ i, i < n → ((lls i).length : Int) ≤ 2 ^ 63 - 1) (hn : n < 1000) :
    Ev T n_law05_large [v] h (fun w h' => h' = h ∧ ∃ b, w = .bool b ∧ (b = false → ∀ i, i < n → (lls i).length ≤ 8 ∧ ∀ r ∈ lls i, r.length ≤ 8)) := by
  refine Ev_of t_law05_large rfl ?_
  simp (disch := first | omega | (simp only [Qn] <;> omega)) only [go_sem, c_law05_large, initV_eq]
  refine Wp_loop (fun k' vars h1 => h1 = h ∧ ∃ i : Nat, (∃ g : Nat → V, vars = [v, .bool false, .int .i64 (i : Int), g 3, g 4, g 5, g 6, g 7]) ∧ i ≤ n ∧ (∀ k, k < i → (lls k).length ≤ 8 ∧ ∀ r ∈ lls k, r.length ≤ 8) ∧ k' = n - i) n
    ⟨rfl, 0, ex_junk rfl, Nat.zero_le _, fun k hk => by omega, rfl⟩ ?_
  rintro k' vars h1 ⟨rfl, i, ⟨g, rfl⟩, hi, hgood, rfl⟩
  simp (disch := first | omega | (simp only [Qn] <;> omega)) only [go_sem, hsl.lens]
  by_cases hlt : (i : Int) < (n : Int)
  · rw [decide_eq_true hlt]
    have ci := hcs i (by omega)
    have si := hR i (by omega)
    have li := hl i (by omega)
    obtain ⟨u, hu⟩ : ∃ u, us i = u := ⟨_, rfl⟩
    obtain ⟨ll, hll⟩ : ∃ ll, lls i = ll := ⟨_, rfl⟩
    rw [hu] at ci si
    rw [hll] at si li
    simp (disch := first | omega | (simp only [Qn] <;> omega)) only [go_sem, hsl.ixa, ci, si.lens]
    by_cases h6 : (8 : Int) < (ll.length : Int)
    · rw [decide_eq_true h6]
      simp (disch := first | omega | (simp only [Qn] <;> omega)) only [go_sem]
      exact ⟨true, rfl, fun e => by cases e⟩
    rw [decide_eq_false h6]
    obtain ⟨idu, offu, ws, su, hidu, hwl, hcu, hall⟩ := si.open
    simp (disch := first | omega | (simp only [Qn] <;> omega)) only [go_sem]
    refine Wp_loop (fun k' vars h2 => h2 = h1 ∧ ∃ j : Nat, (∃ g : Nat → V, vars = [v, .bool false, .int .i64 (i : Int), .int .i64 (j : Int), g 4, g 5, g 6, g 7]) ∧ j ≤ ll.length ∧ (∀ r ∈ ll.take j, r.length ≤ 8) ∧ k' = ll.length - j) ll.length
      ⟨rfl, 0, ex_junk rfl, Nat.zero_le _, fun r hr => by simp at hr, rfl⟩ ?_
    rintro k' vars h2 ⟨rfl, j, ⟨g, rfl⟩, hj, hrow, rfl⟩
    simp (disch := first | omega | (simp only [Qn] <;> omega)) only [go_sem, hsl.ixa, ci, si.lens]
    by_cases hjl : (j : Int) < (ll.length : Int)
    · rw [decide_eq_true hjl]
      have cj := hcu j (by omega)
      have rj := row_at hall (i := j) (by omega)
      have lj := rj.lens
      have ej : ll.getD j [] = ll[j]'(by omega) := by rw [List.getD_eq_getElem?_getD, List.getElem?_eq_getElem (by omega)]; rfl
      obtain ⟨r, hr⟩ : ∃ r, ll.getD j [] = r := ⟨_, rfl⟩
      rw [hr] at lj ej
      simp (disch := first | omega | (simp only [Qn] <;> omega)) only [go_sem, hsl.ixa, ci, su.ixa, cj, lj]
      by_cases hr6 : (8 : Int) < (r.length : Int)
      · rw [decide_eq_true hr6]
        simp (disch := first | omega | (simp only [Qn] <;> omega)) only [go_sem]
        exact ⟨true, rfl, fun e => by cases e⟩
      rw [decide_eq_false hr6]
      simp (disch := first | omega | (simp only [Qn] <;> omega)) only [go_sem]
      refine ⟨ll.length - (j + 1), by omega, j + 1, ex_junk rfl, by omega, fun x hx => ?_, rfl⟩
      rw [List.take_add_one, List.getElem?_eq_getElem (by omega), ← ej] at hx
      rcases List.mem_append.1 hx with hx | hx
      · exact hrow x hx
      · simp at hx; rw [hx]; omega
    · rw [decide_eq_false hjl]
      simp (disch := first | omega | (simp only [Qn] <;> omega)) only [go_sem]
      refine ⟨n - (i + 1), by omega, i + 1, ex_junk rfl, by omega, fun k hk => ?_, rfl⟩
      by_cases e : k = i
      · subst e
        rw [hll]
        refine ⟨by omega, fun r hr => hrow r ?_⟩
        rw [List.take_of_length_le (by omega)]; exact hr
      · exact hgood k (by omega)
  · rw [decide_eq_false hlt]
    simp (disch := first | omega | (simp only [Qn] <;> omega)) only [go_sem]
    refine ⟨false, rfl, fun _ k hk => hgood k (by omega)⟩
end Go.Proofs.Ytlhebmcnjgagjaa

/- The step of Samuelson and Berkowitz, as a convolution. -/
namespace Go.Ay
theorem chp_conv (k : Nat) (A : Mx) (i : Nat) (hi : i < k + 2) : chp (k + 1) A (k + 1 - i) = sm (i + 1) (fun j => if j ≤ k then tzB k A (i - j) * chp k A (k - j) else 0) := by
  rw [chp_succ k A (k + 1 - i) (by omega)]
  rw [← sm_rev (i + 1) (fun j => if j ≤ k then tzB k A (i - j) * chp k A (k - j) else 0)]
  rw [sm_first]
  simp only [Nat.add_sub_cancel, Nat.sub_zero]
  have e0 : (if i ≤ k then tzB k A (i - i) * chp k A (k - i) else 0) = shf (chp k A) (k + 1 - i) := by
    by_cases h : i ≤ k
    · rw [if_pos h, Nat.sub_self]
      simp only [tzB, shf, Int.one_mul]
      rw [if_neg (by omega), show k + 1 - i - 1 = k - i by omega]
    · rw [if_neg h]
      simp only [shf]
      rw [if_pos (by omega)]
  rw [e0]
  cases i with
  | zero =>
    rw [show k + 1 - 0 = k + 1 by omega, chp_high k A (k + 1) (by omega), show k - (k + 1) = 0 by omega]
    simp [sm]
  | succ i =>
    rw [sm_first, show i + 1 - (0 + 1) = i by omega, if_pos (show i ≤ k by omega), show i + 1 - i = 1 by omega, show k - i = k + 1 - (i + 1) by omega, show k - (k + 1 - (i + 1)) = i by omega]
    have ec : sm i (fun s => if i + 1 - (s + 1 + 1) ≤ k then tzB k A (i + 1 - (i + 1 - (s + 1 + 1))) * chp k A (k - (i + 1 - (s + 1 + 1))) else 0) = sm i (fun s => tzB k A (s + 2) * chp k A (k + 1 - (i + 1) + 1 + s)) := sm_congr fun s hs => by
      rw [show i + 1 - (s + 1 + 1) = i - 1 - s by omega, if_pos (by omega), show i + 1 - (i - 1 - s) = s + 2 by omega, show k - (i - 1 - s) = k + 1 - (i + 1) + 1 + s by omega]
    omega
end Go.Ay

