/- A struct of an integer and a list, as a law is given it. -/
import Derived.Test.YtlhebmcnjgagjaaAy31
import Derived.ChangeSame
namespace Go.Ay
open Go Go.RowKit Go.WideShapes Go.ChangeShapes Go.ChangeAt

section
variable {P : Program} {W : World}
variable {Hh : Type} {enc : TypeId × Value → Hh} {base : Nat} {held : Bool}

/-- Its two cells. -/
theorem open_two {t : TypeId} {f0 f1 : Field} {r : Reach} {b0 : Nat} {v : Value} {d : DataW Hh} {q : List MemPlace} (ht : P.underlying t = some (.struct #[f0, f1]))
    (ho0 : f0.offset = 0) (ho1 : f1.offset = 1) (hc0 : P.cellsOf f0.type = 1) (hc1 : P.cellsOf f1.type = 1) (hct : P.cellsOf t = 2) (hcs : P.cellTypes P.depth t = some [f0.type, f1.type])
    (hval : Value.okWide P W r b0 t v) (hd : DataW.Trod enc P W base (fun _ => true) held t v d q) :
    ∃ c0 c1 n y0 y1, v = .agg #[c0, c1] ∧ Cell.okWide P W r b0 f0.type c0 ∧ Cell.okWide P W r b0 f1.type c1 ∧ DataW.trod enc P W base (fun _ => true) held n f0.type [c0] = some y0 ∧ DataW.trod enc P W base (fun _ => true) held n f1.type [c1] = some y1 := by
  obtain ⟨fuel, hd⟩ := hd
  simp only [Value.okWide, ht] at hval
  obtain ⟨cs, rfl, hsz, ts, hts, _, hok⟩ := hval
  rw [hct] at hsz
  rw [hcs] at hts
  cases hts
  obtain ⟨l⟩ := cs
  match l, hsz with
  | [c0, c1], _ =>
    obtain ⟨y0, y1, n, _, _, h0, h1⟩ := trod_struct2 ht hd
    rw [ho0, hc0] at h0
    rw [ho1, hc1] at h1
    obtain ⟨t0, e0, k0⟩ := hok 0 c0 rfl
    obtain ⟨t1, e1, k1⟩ := hok 1 c1 rfl
    cases e0
    cases e1
    exact ⟨c0, c1, n, y0, y1, rfl, k0, k1, h0, h1⟩
  | [], h => cases h
  | [_], h => cases h
  | _ :: _ :: _ :: _, h => simp at h

theorem cell_int {t : TypeId} {r : Reach} {b0 : Nat} {v : Value} (ht : P.underlying t = some (.int .i64)) (hval : Cell.okWide P W r b0 t v) : ∃ n, v = .int .i64 n ∧ (-9223372036854775808 ≤ n ∧ n < 9223372036854775808) := by
  have h2 : Cell.ok P W r b0 t v := by simpa only [Cell.okWide, ht] using hval
  have e1 : IntKind.i64.min = -9223372036854775808 := by decide
  have e2 : IntKind.i64.max = 9223372036854775807 := by decide
  simp only [Cell.ok, ht] at h2
  cases v <;> first | exact h2.elim | skip
  rename_i k n
  obtain ⟨rfl, h3, h4⟩ := h2
  rw [e1] at h3
  rw [e2] at h4
  exact ⟨n, rfl, h3, by omega⟩

end
end Go.Ay

