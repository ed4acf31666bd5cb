/- Arguments that are slices of slices of integers. -/
import Derived.Test.YtlhebmcnjgagjaaAy34
namespace Go.Ay
open Go
section
variable {P : Program} {W : World} {base : Nat} {held : Bool} {Hh : Type} {enc : TypeId × Value → Hh}
theorem in_rows_wide {t e q : TypeId} {r : Reach} {b0 : Nat} {v : Value} {d : DataW Hh} {qq : List MemPlace} (ht : P.underlying t = some (.slice e)) (he : P.underlying e = some (.slice q)) (hq : P.underlying q = some (.int .i64)) (hce : P.cellsOf e = 1) (hcq : P.cellsOf q = 1)
    (hval : Value.okWide P W r b0 t v) (hd : DataW.Trod enc P W base (fun _ => true) held t v d qq) {os : List Ob} {ps : List (Nat × Nat × Nat)} (I : Ins P W os ps) :
    ∃ os' ps' u ll, Ins P W (os ++ os') (ps ++ ps') ∧ VR (mOf (ps ++ ps')) u v ∧ SRk (Go.Ay.H.ofObs (os ++ os')) u ll ∧ Fits ll := by
  obtain ⟨fuel, hd⟩ := hd
  have hv : Cell.ok P W r b0 t v := by
    simp only [Value.okWide, ht] at hval
    simpa only [Cell.okWide, ht] using hval
  have hcl : v.cells.toList = [v] := by
    have : Cell.ok P W r b0 t v := hv
    simp only [Cell.ok, ht] at this
    cases v <;> first | rfl | exact this.elim
  rw [hcl] at hd
  exact in_rows ht he hq hce hcq hv hd I
end
end Go.Ay

