/- Each operation of the intermediate code is the model's. -/
import Derived.Test.YtddpkbicnolafaaGreatAy4
namespace Go.Ay
open Go

def Yields (P : Program) (o : Oper) (a : Act) (w : World) (x : Value) (w' : World) : Prop :=
  (execOp a.eval o).run P w = .ok (.value x) w' ∨ ((execOp a.eval o).run P w = .ok .skip w' ∧ x = undef)

section
variable {P : Program} {m : M} {h : H} {w : World}

/-- What one operation comes to. -/
def Comes1 (P : Program) (m : M) (h : H) (w : World) (s : Sem Value) (v : V) (h' : H) : Prop :=
  ∃ x w' m', s.run P w = .ok x w' ∧ VR m' v x ∧ Adv P m h w m' h' w'

theorem Comes1.still (hr : HR P m h w) (hf : Fresh m h.next) {s : Sem Value} {v : V} {x : Value} (h1 : s.run P w = .ok x w) (h2 : VR m v x) : Comes1 P m h w s v h :=
  ⟨x, w, m, h1, h2, Adv.refl hr hf⟩

theorem arith_sound {op : BinOp} {k : IntKind} {a b : Int} {v : V} (he : arith op k a b = some v) (t : TypeId) : ∃ x, (binOp op t (.int k a) (.int k b)).run P w = .ok x w ∧ VR m v x := by
  cases op <;> simp only [arith] at he <;> first
    | (cases he; done)
    | (cases he; exact ⟨_, by simp [binOp, Op.intArith, Op.intCmp, Op.intBits]; done, rfl⟩)
    | (split at he
       · cases he
       · rename_i hb
         cases he
         exact ⟨_, by simp [binOp, Op.intDiv, hb], rfl⟩)

theorem shft_sound {op : BinOp} {k : IntKind} {a b : Int} {j : IntKind} {v : V} (he : shft op k a b = some v) (t : TypeId) : ∃ x, (binOp op t (.int k a) (.int j b)).run P w = .ok x w ∧ VR m v x := by
  unfold shft at he
  split at he
  · cases he
  · rename_i hb
    cases op <;> simp only at he <;> first
      | (cases he; done)
      | (cases he; exact ⟨_, by simp [binOp, Op.shift, hb], rfl⟩)

theorem eqGuard_int (op : BinOp) (t : TypeId) (x y : Operand) (k : IntKind) (a : Int) (b : Value) : (eqGuard op t x y (.int k a) b).run P w = .ok () w := by
  unfold eqGuard
  cases op <;> simp
theorem eqGuard_bool (op : BinOp) (t : TypeId) (x y : Operand) (a : Bool) (b : Value) : (eqGuard op t x y (.bool a) b).run P w = .ok () w := by
  unfold eqGuard
  cases op <;> simp
theorem eqGuard_slice (op : BinOp) (t : TypeId) (x y : Operand) (a : Option Addr) (n c : Nat) (b : Value) : (eqGuard op t x y (.slice a n c) b).run P w = .ok () w := by
  unfold eqGuard
  cases op <;> simp

theorem VR.int {k : IntKind} {n : Int} {x : Value} (h : VR m (.int k n) x) : x = .int k n := h
/-- The length of a slice. -/
theorem lenV_sound {v : V} {x : Value} {n : Nat} (hx : VR m v x) (he : lenV v = some n) : ∃ a c, x = .slice a n c := by
  cases v <;> simp only [lenV] at he <;> try cases he
  · obtain ⟨p, c, o', _, rfl, _⟩ := hx; exact ⟨_, _, rfl⟩
  · exact ⟨none, 0, hx⟩
  · exact ⟨some _, 0, hx⟩

/-- The cells of a slice, however many draws there have been. -/
theorem slice_cells (hr : HR P m h w) {v : V} {x : Value} {n sz : Nat} {ws : List V} (hx : VR m v x) (hn : lenV v = some n) (hs : h.slice sz v = some ws) :
    ∃ xs : List Value, (∀ d, (Builtin.firstCells sz n x).run P { w with drawn := d } = .ok xs.toArray { w with drawn := d }) ∧ VRs m ws xs ∧ (∀ u ∈ ws, u.one = true) ∧ xs.length = n * sz := by
  cases v <;> simp only [lenV] at hn <;> try cases hn
  · rename_i id off cap
    simp only [H.slice] at hs
    obtain ⟨p, c, elem, fr, hp, hb, _, hle, hvr, h1⟩ := row_cells hr hs
    obtain ⟨p', c', o', hp', rfl, _, ho, _⟩ := hx
    rw [hp] at hp'; cases hp'
    by_cases hn0 : 0 < n
    · obtain rfl := ho hn0
      exact ⟨_, fun d => run_loadCells_row (w := { w with drawn := d }) hb hle, hvr, h1, by simp; omega⟩
    · obtain rfl : n = 0 := by omega
      have hw : ws = [] := List.eq_nil_of_length_eq_zero (by rw [VRs.length hvr]; simp)
      subst hw
      exact ⟨[], fun d => by simp only [Builtin.firstCells, Nat.zero_mul, loadCells, loadCellsFrom]; rfl, trivial, by simp, by simp⟩
  · simp only [H.slice] at hs
    cases hs
    obtain rfl : x = .slice none 0 0 := hx
    exact ⟨[], fun d => by simp [Builtin.firstCells], trivial, by simp, by simp⟩
  · simp only [H.slice] at hs
    cases hs
    obtain rfl : x = .slice (some _) 0 0 := hx
    exact ⟨[], fun d => by simp only [Builtin.firstCells, Nat.zero_mul, loadCells, loadCellsFrom]; rfl, trivial, by simp, by simp⟩

theorem bounds_ok {k : IntKind} {n : Int} {y : Nat} {code : BoundsCode} (h0 : 0 ≤ n) (h1 : n ≤ y) : (Instr.sliceBound (.int k n) y code).run P w = .ok n.toNat w := by
  simp [Instr.sliceBound, asIntOf, h0, h1]

def OptR (m : M) (o : Option V) (x : Option Value) : Prop := match o, x with | none, none => True | some v, some x => VR m v x | _, _ => False

def bndS (xo : Option Value) (d top : Nat) (code : BoundsCode) : Sem Nat := match xo with | some v => Instr.sliceBound v top code | none => pure d

theorem bndV_sound {o : Option V} {xo : Option Value} (hx : OptR m o xo) {d top r : Nat} (he : bndV o d top = some r) (code : BoundsCode) :
    (bndS xo d top code).run P w = .ok r w := by
  cases o with
  | none =>
    cases xo with
    | none => simp only [bndV] at he; cases he; rfl
    | some x => exact hx.elim
  | some v =>
    cases xo with
    | none => exact hx.elim
    | some x =>
      cases v <;> simp only [bndV] at he <;> try cases he
      rename_i k n
      split at he
      · rename_i hc
        cases he
        obtain rfl : x = .int k n := hx
        exact bounds_ok hc.1 hc.2
      · cases he

theorem sliceBounds_sound {xlo xhi : Option Value} {len c l hh : Nat} (r1 : (bndS xhi len c .sliceAcap).run P w = .ok hh w) (r2 : (bndS xlo 0 hh .sliceB).run P w = .ok l w) :
    (Instr.sliceBounds true len c xlo xhi none).run P w = .ok (l, hh, c) w := by
  cases xhi with
  | none =>
    cases xlo with
    | none => simp only [bndS, Sem.run_pure] at r1 r2; cases r1; cases r2; simp [Instr.sliceBounds]
    | some y => simp only [bndS, Sem.run_pure] at r1 r2; cases r1; simp [Instr.sliceBounds, r2]
  | some z =>
    cases xlo with
    | none => simp only [bndS, Sem.run_pure] at r1 r2; cases r2; simp [Instr.sliceBounds, r1]
    | some y => simp only [bndS] at r1 r2; simp [Instr.sliceBounds, r1, r2]

theorem bndV_le {o : Option V} {d top r : Nat} (he : bndV o d top = some r) (hd : d ≤ top) : r ≤ top := by
  unfold bndV at he
  split at he
  · cases he; exact hd
  · split at he
    · rename_i hc; cases he; omega
    · cases he
  · cases he

theorem slc_sound (hr : HR P m h w) (hf : Fresh m h.next) {t e : TypeId} {sz : Nat} (ht : P.underlying t = some (.slice e)) (hs : sizeT P e = some sz)
    {v u : V} {x : Value} {lo hi mx : Option V} {xlo xhi xmx : Option Value} (hx : VR m v x) (hlo : OptR m lo xlo) (hhi : OptR m hi xhi) (hmx : OptR m mx xmx) (he : slcV sz v lo hi mx = some u) :
    Comes1 P m h w (Instr.sliceAt t x xlo xhi xmx) u h := by
  have hsz := run_sizeOf_of (w := w) hs
  cases v <;> simp only [slcV] at he <;> try cases he
  · rename_i id off len cap
    obtain ⟨p, c, o', hp, rfl, hlc, ho, hcap⟩ := hx
    cases mx with
    | some _ => cases he
    | none =>
      cases xmx with
      | some _ => exact hmx.elim
      | none =>
        cases cap with
        | kn k =>
          simp only at hcap he; obtain ⟨hcap, rfl⟩ := hcap; subst hcap
          cases ehh : bndV hi len c with
          | none => simp [ehh] at he
          | some hh =>
            simp only [ehh] at he
            cases el : bndV lo 0 hh with
            | none => simp [el] at he
            | some l =>
              simp only [el] at he
              have hhle := bndV_le ehh hlc
              have hll := bndV_le el (Nat.zero_le _)
              have rb := sliceBounds_sound (P := P) (w := w) (bndV_sound hhi ehh .sliceAcap) (bndV_sound hlo el .sliceB)
              split at he
              · cases he
                by_cases hcl : c = l
                · rw [if_pos hcl]
                  refine ⟨.slice (some ⟨p.1, p.2.1 + o', none⟩) (hh - l) (c - l), w, m, ?_, ⟨p, _, _, hp, rfl, by omega, fun _ => rfl, rfl, rfl⟩, Adv.refl hr hf⟩
                  simp only [Instr.sliceAt, Sem.run_bind, run_underlying ht, Result.andThen_ok, Instr.slice, rb, hsz, Sem.run_pure, if_pos hcl]
                · rw [if_neg hcl]
                  refine ⟨.slice (some ⟨p.1, p.2.1 + (o' + l * sz), none⟩) (hh - l) (c - l), w, m, ?_, ⟨p, _, _, hp, rfl, by omega, fun _ => rfl, rfl, rfl⟩, Adv.refl hr hf⟩
                  simp only [Instr.sliceAt, Sem.run_bind, run_underlying ht, Result.andThen_ok, Instr.slice, rb, hsz, Sem.run_pure, if_neg hcl, Option.map_some, addr_add, Nat.add_assoc]
              · cases he
        | un e =>
          simp only at hcap he
          cases ehh : bndV hi len len with
          | none => simp [ehh] at he
          | some hh =>
            simp only [ehh] at he
            cases el : bndV lo 0 hh with
            | none => simp [el] at he
            | some l =>
              simp only [el] at he
              have hhle := bndV_le ehh (Nat.le_refl _)
              have hll := bndV_le el (Nat.zero_le _)
              have eh' : bndV hi len c = some hh := by
                cases hi with
                | none => exact ehh
                | some y =>
                  cases y <;> simp only [bndV] at ehh ⊢ <;> try cases ehh
                  rename_i k n
                  split at ehh
                  · rename_i hc; cases ehh
                    rw [if_pos ⟨hc.1, by omega⟩]
                  · cases ehh
              have rb := sliceBounds_sound (P := P) (w := w) (bndV_sound hhi eh' .sliceAcap) (bndV_sound hlo el .sliceB)
              by_cases hes : e = sz
              · subst hes
                rw [if_pos rfl] at he
                by_cases hl : l < len
                · rw [if_pos hl] at he
                  cases he
                  have hcl : c ≠ l := by omega
                  obtain rfl := ho (by omega)
                  refine ⟨.slice (some ⟨p.1, p.2.1 + (o' + l * e), none⟩) (hh - l) (c - l), w, m, ?_, ⟨p, _, _, hp, rfl, by omega, fun _ => rfl, ?_⟩, Adv.refl hr hf⟩
                  · simp only [Instr.sliceAt, Sem.run_bind, run_underlying ht, Result.andThen_ok, Instr.slice, rb, hsz, Sem.run_pure, if_neg hcl, Option.map_some, addr_add, Nat.add_assoc]
                  · simp only
                    have : (c - l) * e + l * e = c * e := by rw [← Nat.add_mul]; congr 1; omega
                    omega
                · rw [if_neg hl] at he
                  cases he
                  obtain rfl : hh = l := by omega
                  by_cases hcl : c = hh
                  · refine ⟨.slice (some ⟨p.1, p.2.1 + o', none⟩) (hh - hh) (c - hh), w, m, ?_, ⟨p, _, o', hp, by rw [Nat.sub_self], by omega, fun h => by omega, ?_⟩, Adv.refl hr hf⟩
                    · simp only [Instr.sliceAt, Sem.run_bind, run_underlying ht, Result.andThen_ok, Instr.slice, rb, hsz, Sem.run_pure, if_pos hcl]
                    · simp only
                      have : (c - hh) * e ≤ c * e := Nat.mul_le_mul_right _ (by omega)
                      omega
                  · refine ⟨.slice (some ⟨p.1, p.2.1 + (o' + hh * e), none⟩) (hh - hh) (c - hh), w, m, ?_, ⟨p, _, o' + hh * e, hp, by rw [Nat.sub_self], by omega, fun h => by omega, ?_⟩, Adv.refl hr hf⟩
                    · simp only [Instr.sliceAt, Sem.run_bind, run_underlying ht, Result.andThen_ok, Instr.slice, rb, hsz, Sem.run_pure, if_neg hcl, Option.map_some, addr_add, Nat.add_assoc]
                    · simp only
                      have : (c - hh) * e + hh * e = c * e := by rw [← Nat.add_mul]; congr 1; omega
                      omega
              · rw [if_neg hes] at he; cases he
  · cases mx with
    | some _ => simp at he
    | none =>
      cases xmx with
      | some _ => exact hmx.elim
      | none =>
        obtain rfl : x = .slice none 0 0 := hx
        cases ehh : bndV hi 0 0 with
        | none => simp [ehh] at he
        | some hh =>
          simp only [ehh] at he
          cases el : bndV lo 0 hh with
          | none => simp [el] at he
          | some l =>
            simp only [el] at he
            cases he
            have rb := sliceBounds_sound (P := P) (w := w) (bndV_sound hhi ehh .sliceAcap) (bndV_sound hlo el .sliceB)
            have hh0 : hh = 0 := by have := bndV_le ehh (Nat.le_refl _); omega
            subst hh0
            have hl0 : l = 0 := by have := bndV_le el (Nat.le_refl _); omega
            subst hl0
            refine Comes1.still hr hf (x := .slice none 0 0) ?_ rfl
            simp [Instr.sliceAt, run_underlying ht, Instr.slice, rb, hsz]

end
end Go.Ay

