/- What a law is given, as objects of the abstract machine. -/
import Derived.Test.YtonhijbeddcmpaaAy24
import Derived.Test.YtonhijbeddcmpaaAy26
import Derived.ChangeSlices
namespace Go.Ay
open Go Go.RowKit Go.WideShapes Go.ChangeShapes Go.ChangeAt

section
variable {P : Program} {W : World}

def mOf (ps : List (Nat × Nat × Nat)) : M := fun id => ps[id]?
theorem mOf_ext (ps qs : List (Nat × Nat × Nat)) : Ext (mOf ps) (mOf (ps ++ qs)) := fun id p h => by
  simp only [mOf] at *
  rw [List.getElem?_append_left (List.getElem?_eq_some_iff.1 h).1]; exact h

/-- The objects that were given. -/
structure Ins (P : Program) (W : World) (os : List Ob) (ps : List (Nat × Nat × Nat)) : Prop where
  len : os.length = ps.length
  ok : ∀ (i : Nat) (o : Ob) (p : Nat × Nat × Nat), os[i]? = some o → ps[i]? = some p → o.rw = false ∧ OR P (mOf ps) o p W
theorem Ins.nil : Ins P W [] [] := ⟨rfl, fun i o p h => by simp at h⟩
theorem Ins.push {os : List Ob} {ps : List (Nat × Nat × Nat)} (I : Ins P W os ps) {vs : List V} {p : Nat × Nat × Nat} (h : OR P (mOf ps) (.cells true vs) p W) : Ins P W (os ++ [.cells true vs]) (ps ++ [p]) := by
  refine ⟨by rw [List.length_append, List.length_append, I.len]; rfl, fun i o q ho hq => ?_⟩
  by_cases hi : i < os.length
  · rw [List.getElem?_append_left hi] at ho
    rw [List.getElem?_append_left (by rw [← I.len]; exact hi)] at hq
    obtain ⟨h1, h2⟩ := I.ok i o q ho hq
    exact ⟨h1, h2.mono (mOf_ext _ _) rfl⟩
  · rw [List.getElem?_append_right (by omega)] at ho
    rw [List.getElem?_append_right (by have := I.len; omega)] at hq
    have h0 : i - os.length = 0 := by
      have := (List.getElem?_eq_some_iff.1 ho).1
      simp at this; omega
    rw [h0] at ho
    rw [← I.len, h0] at hq
    simp only [List.getElem?_cons_zero, Option.some.injEq] at ho hq
    subst ho; subst hq
    exact ⟨rfl, h.mono (mOf_ext _ _) rfl⟩
theorem Ins.fr (os os' : List Ob) : Fr (Go.Ay.H.ofObs os) (Go.Ay.H.ofObs (os ++ os')) := by
  refine ⟨by rw [ofObs_next, ofObs_next, List.length_append]; omega, fun id hid => ?_⟩
  rw [ofObs_next] at hid
  rw [ofObs_get, ofObs_get, List.getElem?_append_left hid]

variable {Hh : Type} {enc : TypeId × Value → Hh} {base : Nat} {held : Bool}

end
end Go.Ay

