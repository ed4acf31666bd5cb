/- Rows of rows, and a matrix, as a law is given them. -/
import Derived.Test.YtlhebmcnjgagjaaAy32
import Derived.Deep.Matrix
namespace Go.Ay
open Go Go.RowKit Go.WideShapes Go.ChangeShapes Go.ChangeAt

section
variable {P : Program} {W : World}
variable {Hh : Type} {enc : TypeId × Value → Hh} {base : Nat} {held : Bool}

theorem cell_block {a : Addr} {v : Value} (h : W.cell? a = some v) : a.spot = none ∧ ∃ c el fr, W.heap[a.block]? = some (.cells c el fr) ∧ c[a.off]? = some v := by
  unfold World.cell? at h
  split at h
  · rename_i c el fr hc
    split at h
    · cases h
    · rename_i hs
      refine ⟨by cases hh : a.spot <;> simp_all, c, el, fr, hc, h⟩
  · cases h
theorem cell_at {ab ao i : Nat} {c : Array Value} {el : TypeId} {fr : Nat × Nat} {v : Value} (hc : W.heap[ab]? = some (.cells c el fr)) (h : W.cell? (Addr.add ⟨ab, ao, none⟩ i) = some v) : c[ao + i]? = some v := by
  unfold World.cell? Addr.add at h
  by_cases h0 : i = 0
  · subst h0
    simp only [if_true, hc, Option.isSome_none, Bool.false_eq_true, if_false] at h
    exact h
  · simp only [h0, if_false, hc, Option.isSome_none, Bool.false_eq_true] at h
    exact h

def InI (n : Int) : Prop := -9223372036854775808 ≤ n ∧ n < 9223372036854775808
theorem wf_in {n : Int} (h : (Lit.int .i64 n).wf = true) : InI n := by
  simp only [Lit.wf] at h
  have e1 : IntKind.i64.min = -9223372036854775808 := by decide
  have e2 : IntKind.i64.max = 9223372036854775807 := by decide
  simp [e1, e2] at h
  exact ⟨by omega, by omega⟩

/-- What can be appended to it is known. -/
def Kn (u : V) : Prop := ∀ id off m c, u = .sl id off m c → ∃ k, c = .kn k ∧ m ≤ k
/-- One row. -/
theorem in_row {A : Option Addr} {L C : Nat} {Z : List Int} (hL : L ≤ C) (hZ : Z.length = C) (hn : A = none → C = 0) (hc : ∀ a', A = some a' → ∀ c, c < C → W.cell? (a'.add c) = some (.int .i64 (Z.getD c 0)))
    {os : List Ob} {ps : List (Nat × Nat × Nat)} (I : Ins P W os ps) :
    ∃ os' ps' u, Ins P W (os ++ os') (ps ++ ps') ∧ VR (mOf (ps ++ ps')) u (.slice A L C) ∧ SI (Go.Ay.H.ofObs (os ++ os')) u (Z.take L) ∧ u.one = true ∧ Kn u := by
  cases A with
  | none =>
    have h0 := hn rfl
    subst h0
    have hl0 : L = 0 := by omega
    subst hl0
    exact ⟨[], [], .nils, by simpa using I, rfl, by simpa using SI.nils _, rfl, fun _ _ _ _ e => by cases e⟩
  | some a =>
    by_cases h0 : C = 0
    · subst h0
      have hl0 : L = 0 := by omega
      subst hl0
      exact ⟨[], [], .emp a, by simpa using I, rfl, by simpa using SI.emp _ a, rfl, fun _ _ _ _ e => by cases e⟩
    · have hcc := hc a rfl
      obtain ⟨ab, ao, asp⟩ := a
      have hfirst := hcc 0 (by omega)
      have e0 : Addr.add ⟨ab, ao, asp⟩ 0 = ⟨ab, ao, asp⟩ := by simp [Addr.add]
      rw [e0] at hfirst
      obtain ⟨hsp, c, el, fr, hcells, _⟩ := cell_block hfirst
      simp only at hsp hcells
      subst hsp
      have hcell : ∀ i, i < C → c[ao + i]? = some (.int .i64 (Z.getD i 0)) := fun i hi => cell_at hcells (hcc i hi)
      have hle : ao + C ≤ c.size := by
        have := (Array.getElem?_eq_some_iff.1 (hcell (C - 1) (by omega))).1
        omega
      have hlt : (Z.take L).length = L := by rw [List.length_take]; omega
      refine ⟨[.cells true (ints (Z.take L))], [(ab, ao, c.size)], .sl os.length 0 L (.kn C), I.push ⟨c, el, fr, hcells, rfl, by rw [ints_length, hlt]; show ao + L ≤ c.size; omega, fun i v hv => ?_, fun h => by cases h⟩, ⟨(ab, ao, c.size), C, 0, ?_, ?_, hL, fun _ => rfl, rfl, rfl⟩, ?_, rfl, fun _ _ _ _ e => by cases e; exact ⟨_, rfl, hL⟩⟩
      · have hi := (List.getElem?_eq_some_iff.1 hv).1
        rw [ints_length, hlt] at hi
        rw [ints_getD (by rw [hlt]; exact hi)] at hv
        simp only [Option.some.injEq] at hv
        subst hv
        refine ⟨rfl, _, hcell i (by omega), ?_⟩
        have : (Z.take L).getD i 0 = Z.getD i 0 := by
          rw [List.getD_eq_getElem?_getD, List.getElem?_take_of_lt hi, ← List.getD_eq_getElem?_getD]
        rw [this]; rfl
      · simp only [mOf]
        rw [I.len, List.getElem?_append_right (Nat.le_refl _), Nat.sub_self]; rfl
      · rfl
      · have := SI.own (h := Go.Ay.H.ofObs (os ++ [.cells true (ints (Z.take L))])) (id := os.length) (ro := true) (l := Z.take L) (by rw [ofObs_next, List.length_append]; simp) (by rw [ofObs_get, List.getElem?_append_right (Nat.le_refl _), Nat.sub_self]; rfl) (.kn C)
        rw [hlt] at this
        exact this

theorem All2.snoc {α β : Type} {R : α → β → Prop} {as : List α} {bs : List β} {a : α} {b : β} (h : All2 R as bs) (k : R a b) : All2 R (as ++ [a]) (bs ++ [b]) := All2.append h ⟨k, trivial⟩

/-- The rows. -/
theorem in_rowsN {A : Nat → Option Addr} {L C : Nat → Nat} {Z : Nat → List Int} : ∀ (n : Nat), (∀ r, r < n → L r ≤ C r ∧ (Z r).length = C r ∧ (A r = none → C r = 0) ∧ ∀ a', A r = some a' → ∀ c, c < C r → W.cell? (a'.add c) = some (.int .i64 ((Z r).getD c 0))) →
    ∀ {os : List Ob} {ps : List (Nat × Nat × Nat)}, Ins P W os ps → ∃ os' ps' ws, Ins P W (os ++ os') (ps ++ ps') ∧ All2 (VR (mOf (ps ++ ps'))) ws ((List.range n).map fun r => Value.slice (A r) (L r) (C r)) ∧
      All2 (SI (Go.Ay.H.ofObs (os ++ os'))) ws ((List.range n).map fun r => (Z r).take (L r)) ∧ ∀ w ∈ ws, w.one = true ∧ Kn w
  | 0, _, os, ps, I => ⟨[], [], [], by simpa using I, trivial, trivial, by simp⟩
  | n + 1, h, os, ps, I => by
    obtain ⟨os1, ps1, ws, I1, v1, s1, o1⟩ := in_rowsN n (fun r hr => h r (by omega)) I
    obtain ⟨h1, h2, h3, h4⟩ := h n (by omega)
    obtain ⟨os2, ps2, u, I2, v2, s2, o2, kn2⟩ := in_row h1 h2 h3 h4 I1
    rw [List.append_assoc, List.append_assoc] at I2
    refine ⟨os1 ++ os2, ps1 ++ ps2, ws ++ [u], I2, ?_, ?_, ?_⟩
    · rw [List.range_succ, List.map_append, ← List.append_assoc ps]
      exact All2.snoc (v1.mono fun a b r => VR.mono (mOf_ext _ _) _ _ r) v2
    · rw [List.range_succ, List.map_append, ← List.append_assoc os]
      exact All2.snoc (s1.mono fun a b r => r.mono (Ins.fr _ _)) s2
    · intro w hw
      rcases List.mem_append.1 hw with hw | hw
      · exact o1 w hw
      · rw [List.mem_singleton.1 hw]; exact ⟨o2, kn2⟩

/-- What a list of lists may be: no more than can be counted; numbers of the machine. -/
structure Fits (ll : List (List Int)) : Prop where
  len : (ll.length : Int) ≤ 2 ^ 63 - 1
  row : ∀ r ∈ ll, (r.length : Int) ≤ 2 ^ 63 - 1
  num : ∀ r ∈ ll, ∀ z ∈ r, InI z

/-- Rows that came in. -/
def SRk (h : H) (u : V) (ll : List (List Int)) : Prop := ∃ ws, SV h u 1 ws ∧ All2 (SI h) ws ll ∧ ∀ w ∈ ws, Kn w
theorem SRk.sr {h : H} {u : V} {ll : List (List Int)} (s : SRk h u ll) : SR h u ll := by
  obtain ⟨ws, h1, h2, _⟩ := s; exact ⟨ws, h1, h2⟩
theorem SRk.mono {h h' : H} {u : V} {ll : List (List Int)} (s : SRk h u ll) (f : Fr h h') : SRk h' u ll := by
  obtain ⟨ws, h1, h2, h3⟩ := s; exact ⟨ws, h1.mono f, h2.mono fun _ _ r => r.mono f, h3⟩
theorem SRk.nils (h : H) : SRk h .nils [] := ⟨[], SV.nils h 1, trivial, fun _ h => by cases h⟩
/-- A slice of slices of integers, by its cell's value. -/
theorem in_rows {t e q : TypeId} {r : Reach} {b0 : Nat} {v : Value} {fuel : Nat} {x : DataW Hh × List MemPlace} (ht : P.underlying t = some (.slice e)) (he : P.underlying e = some (.slice q)) (hq : P.underlying q = some (.int .i64)) (hce : P.cellsOf e = 1) (hcq : P.cellsOf q = 1)
    (hval : Cell.ok P W r b0 t v) (hd : DataW.trod enc P W base (fun _ => true) held fuel t [v] = some x) {os : List Ob} {ps : List (Nat × Nat × Nat)} (I : Ins P W os ps) :
    ∃ os' ps' u ll, Ins P W (os ++ os') (ps ++ ps') ∧ VR (mOf (ps ++ ps')) u v ∧ SRk (Go.Ay.H.ofObs (os ++ os')) u ll ∧ Fits ll := by
  rcases Go.Deep.open_int_rows ht he hq hce hcq hd with ⟨h1, h2⟩ | ⟨a, len, cap, A, L, C, Z, h1, _, h3, h4, _, hrow⟩
  · simp only [List.cons.injEq, and_true] at h1
    subst h1
    exact ⟨[], [], .nils, [], by simpa using I, rfl, by simpa using SRk.nils _, by simp, by simp, by simp⟩
  · simp only [List.cons.injEq, and_true] at h1
    subst h1
    have hok : len ≤ cap ∧ (cap : Int) ≤ IntKind.i64.max ∧ W.has P r b0 a e cap := by
      simpa only [Cell.ok, ht] using hval
    obtain ⟨hsp, c, el, fr, hcells, hoff⟩ := has_cells hok.2.2
    obtain ⟨ab, ao, asp⟩ := a
    simp only at hsp hcells hoff
    subst hsp
    have hmx : ∀ k : Nat, k ≤ maxLen → (k : Int) ≤ 2 ^ 63 - 1 := fun k hk => by
      have : maxLen ≤ 9223372036854775807 := by decide
      omega
    obtain ⟨os1, ps1, ws, I1, v1, s1, o1⟩ := in_rowsN (P := P) len (fun r hr => by
      obtain ⟨_, a2, _, a4, _, a6, a7⟩ := hrow r (by omega)
      exact ⟨a2, a4, a6, fun a' ha' => (a7 a' ha').2⟩) I
    have hwl : ws.length = len := by rw [v1.length]; simp
    have hcell : ∀ i, i < len → c[ao + i]? = some (.slice (A i) (L i) (C i)) := fun i hi => cell_at hcells (hrow i (by omega)).1
    have hle : ao + len ≤ c.size := by
      cases len with
      | zero => exact hoff
      | succ k =>
        have := (Array.getElem?_eq_some_iff.1 (hcell k (by omega))).1
        omega
    have I2 : Ins P W ((os ++ os1) ++ [.cells true ws]) ((ps ++ ps1) ++ [(ab, ao, c.size)]) := I1.push ⟨c, el, fr, hcells, rfl, by rw [hwl]; exact hle, fun i v hv => by
      have hi := (List.getElem?_eq_some_iff.1 hv).1
      rw [hwl] at hi
      have hg := v1.get i (by omega) (by simpa using hi)
      rw [List.getElem_map, List.getElem_range] at hg
      have e1 : ws[i]'(by omega) = v := (List.getElem?_eq_some_iff.1 hv).2
      rw [e1] at hg
      exact ⟨(o1 v (by rw [← e1]; exact List.getElem_mem _)).1, _, hcell i hi, hg⟩, fun h => by cases h⟩
    refine ⟨os1 ++ [.cells true ws], ps1 ++ [(ab, ao, c.size)], .sl (os ++ os1).length 0 len (.kn cap), (List.range len).map fun r => (Z r).take (L r), by rw [← List.append_assoc, ← List.append_assoc]; exact I2, ⟨(ab, ao, c.size), cap, 0, ?_, rfl, h3, fun _ => rfl, rfl, rfl⟩, ⟨ws, ?_, ?_, fun w hw => (o1 w hw).2⟩, ?_, ?_, ?_⟩
    · simp only [mOf]
      rw [← List.append_assoc, I1.len, List.getElem?_append_right (Nat.le_refl _), Nat.sub_self]; rfl
    · rw [← List.append_assoc]
      exact SV.all (by rw [hwl, Nat.mul_one]) (by rw [ofObs_next, List.length_append (as := os ++ os1)]; simp) (by rw [ofObs_get, List.getElem?_append_right (Nat.le_refl _), Nat.sub_self]; rfl) _
    · rw [← List.append_assoc]
      exact s1.mono fun a b r => r.mono (Ins.fr _ _)
    · rw [List.length_map, List.length_range]; exact hmx _ (by omega)
    · intro l hl
      obtain ⟨r, hr, rfl⟩ := List.mem_map.1 hl
      obtain ⟨_, a2, a3, a4, _⟩ := hrow r (by have := List.mem_range.1 hr; omega)
      exact hmx _ (by rw [List.length_take]; omega)
    · intro l hl z hz
      obtain ⟨r, hr, rfl⟩ := List.mem_map.1 hl
      obtain ⟨_, _, _, _, a5, _⟩ := hrow r (by have := List.mem_range.1 hr; omega)
      exact wf_in (a5 z (List.mem_of_mem_take hz))

/-- A number and rows. -/
theorem in_mat {t e q : TypeId} {f0 f1 : Field} {r : Reach} {b0 : Nat} {v : Value} {d : DataW Hh} {qq : List MemPlace} (ht : P.underlying t = some (.struct #[f0, f1]))
    (ho0 : f0.offset = 0) (ho1 : f1.offset = 1) (hc0 : P.cellsOf f0.type = 1) (hc1 : P.cellsOf f1.type = 1) (hct : P.cellsOf t = 2) (hcs : P.cellTypes P.depth t = some [f0.type, f1.type])
    (hu0 : P.underlying f0.type = some (.int .i64)) (hu1 : P.underlying f1.type = some (.slice e)) (he : P.underlying e = some (.slice q)) (hq : P.underlying q = some (.int .i64)) (hce : P.cellsOf e = 1) (hcq : P.cellsOf q = 1)
    (hval : Value.okWide P W r b0 t v) (hd : DataW.Trod enc P W base (fun _ => true) held t v d qq) {os : List Ob} {ps : List (Nat × Nat × Nat)} (I : Ins P W os ps) :
    ∃ os' ps' n u ll, Ins P W (os ++ os') (ps ++ ps') ∧ VR (mOf (ps ++ ps')) (.agg [.int .i64 n, u]) v ∧ SRk (Go.Ay.H.ofObs (os ++ os')) u ll ∧ Fits ll ∧ InI n := by
  obtain ⟨c0, c1, fu, y0, y1, rfl, k0, k1, h0, h1⟩ := open_two ht ho0 ho1 hc0 hc1 hct hcs hval hd
  obtain ⟨n, rfl, hn⟩ := cell_int hu0 k0
  have k1' : Cell.ok P W r b0 f1.type c1 := by simpa only [Cell.okWide, hu1] using k1
  obtain ⟨os', ps', u, ll, I', hv, hs, hf⟩ := in_rows hu1 he hq hce hcq k1' h1 I
  exact ⟨os', ps', n, u, ll, I', ⟨#[.int .i64 n, c1], rfl, rfl, hv, trivial⟩, hs, hf, hn⟩
end
end Go.Ay

