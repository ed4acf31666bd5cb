/-
  No cell of these rows narrows 'for every input' (looked for: loops, veiled, ifaces, maps, wideKeys, modest, calm, conditions, laid).
  DERIVED. THE GIVEN ROWS OF THIS SEAT. 7 by the template 'for every input the law returns true; each argument reads behind the call as it read before'; 0 by the template 'total and deterministic' (their statements: YtddpkbicnolafaaGreatTotals.lean).
  GIVEN WITH THE SEED: the statements are not yours to turn. If you find one false, say at which input.
  Laid BY PROGRAM, IN A SANDBOX (cutbox-rows.mjs): the forced cells as the released guide's own fill.sh prints them over the translation 854ed8aa2ed9d9a4… (all of the seat's roots in one cut). By AI agents, Wed Nov 11 2026. No macro, syntax, notation, axiom, sorry.
-/
import Derived.Test.YtddpkbicnolafaaGreatChecked
import GoSem.Claim
import GoSem.ClaimJoined
import GoSem.ClaimMapViews
import Derived.JoinedTies
import Derived.KernelRfl
namespace Go.Proofs.YtddpkbicnolafaaGreat
/- THE CELL 'sum', in the pinned program and in every row, IS THE sha256 OF THE DUMP (.gsa) THAT YtddpkbicnolafaaGreatProg.lean LOADS. Nothing in Lean hashes anything: it is a label: what it is worth is what the hold of that sum in a sandbox is worth. -/
noncomputable def Tryz.pinned : Pinned := { name := "ytddpkbicnolafaagreat", sum := "854ed8aa2ed9d9a422dc8b7a877d8bd062b68606055a36ae39a4a234d425e6db", checked := Tryz.checked }
namespace Rows
def none {H : Type} : Left H := { results := [], args := [] }

/-- 'cayleylaw15.ClassesPowers': WHATEVER THE INPUT: true; the input reads as it did. -/
def classesPowersSpec : ChangeSpec := { name := "classesPowers", fn := fun _ => fun
  | [d1, d2] => { results := [.lit (.bool true)], args := [d1, d2] }
  | _ => none }
def classesPowersRow : OpenClaim := { program := "ytddpkbicnolafaagreat", sum := "854ed8aa2ed9d9a422dc8b7a877d8bd062b68606055a36ae39a4a234d425e6db", func := "cayley/cayleylaw15.ClassesPowers", spec := "classesPowers", unfollowed := true, recurses := true, apart := false }
def ClassesPowersSaid : Prop := classesPowersRow.holds Tryz.pinned (OpenSpec.ofChange classesPowersSpec)

/-- ITS FALSE NEIGHBOUR: 'it returns false'. Refute it at one input. -/
def classesPowersWrong : ChangeSpec := { name := "classesPowers", fn := fun _ => fun
  | [d1, d2] => { results := [.lit (.bool false)], args := [d1, d2] }
  | _ => none }
def ClassesPowersWrongFalsely : Prop := classesPowersRow.holds Tryz.pinned (OpenSpec.ofChange classesPowersWrong)

/-- 'cayleylaw15.ClassesLists': WHATEVER THE INPUT: true; the input reads as it did. -/
def classesListsSpec : ChangeSpec := { name := "classesLists", fn := fun _ => fun
  | [d1, d2] => { results := [.lit (.bool true)], args := [d1, d2] }
  | _ => none }
def classesListsRow : OpenClaim := { program := "ytddpkbicnolafaagreat", sum := "854ed8aa2ed9d9a422dc8b7a877d8bd062b68606055a36ae39a4a234d425e6db", func := "cayley/cayleylaw15.ClassesLists", spec := "classesLists", unfollowed := true, recurses := true, apart := false }
def ClassesListsSaid : Prop := classesListsRow.holds Tryz.pinned (OpenSpec.ofChange classesListsSpec)

/-- ITS FALSE NEIGHBOUR: 'it returns false'. Refute it at one input. -/
def classesListsWrong : ChangeSpec := { name := "classesLists", fn := fun _ => fun
  | [d1, d2] => { results := [.lit (.bool false)], args := [d1, d2] }
  | _ => none }
def ClassesListsWrongFalsely : Prop := classesListsRow.holds Tryz.pinned (OpenSpec.ofChange classesListsWrong)

/-- 'cayleylaw15.ClassesGroups': WHATEVER THE INPUT: true; the input reads as it did. -/
def classesGroupsSpec : ChangeSpec := { name := "classesGroups", fn := fun _ => fun
  | [d1, d2] => { results := [.lit (.bool true)], args := [d1, d2] }
  | _ => none }
def classesGroupsRow : OpenClaim := { program := "ytddpkbicnolafaagreat", sum := "854ed8aa2ed9d9a422dc8b7a877d8bd062b68606055a36ae39a4a234d425e6db", func := "cayley/cayleylaw15.ClassesGroups", spec := "classesGroups", unfollowed := true, recurses := true, apart := false }
def ClassesGroupsSaid : Prop := classesGroupsRow.holds Tryz.pinned (OpenSpec.ofChange classesGroupsSpec)

/-- ITS FALSE NEIGHBOUR: 'it returns false'. Refute it at one input. -/
def classesGroupsWrong : ChangeSpec := { name := "classesGroups", fn := fun _ => fun
  | [d1, d2] => { results := [.lit (.bool false)], args := [d1, d2] }
  | _ => none }
def ClassesGroupsWrongFalsely : Prop := classesGroupsRow.holds Tryz.pinned (OpenSpec.ofChange classesGroupsWrong)

/-- 'cayleylaw15.ClassesKnown': WHATEVER THE INPUT: true; the input reads as it did. -/
def classesKnownSpec : ChangeSpec := { name := "classesKnown", fn := fun _ => fun
  | [] => { results := [.lit (.bool true)], args := [] }
  | _ => none }
def classesKnownRow : OpenClaim := { program := "ytddpkbicnolafaagreat", sum := "854ed8aa2ed9d9a422dc8b7a877d8bd062b68606055a36ae39a4a234d425e6db", func := "cayley/cayleylaw15.ClassesKnown", spec := "classesKnown", unfollowed := true, recurses := true, apart := false }
def ClassesKnownSaid : Prop := classesKnownRow.holds Tryz.pinned (OpenSpec.ofChange classesKnownSpec)

/-- ITS FALSE NEIGHBOUR: 'it returns false'. Refute it at one input. -/
def classesKnownWrong : ChangeSpec := { name := "classesKnown", fn := fun _ => fun
  | [] => { results := [.lit (.bool false)], args := [] }
  | _ => none }
def ClassesKnownWrongFalsely : Prop := classesKnownRow.holds Tryz.pinned (OpenSpec.ofChange classesKnownWrong)

/-- 'cayleylaw15.ClassesCount': WHATEVER THE INPUT: true; the input reads as it did. -/
def classesCountSpec : ChangeSpec := { name := "classesCount", fn := fun _ => fun
  | [d] => { results := [.lit (.bool true)], args := [d] }
  | _ => none }
def classesCountRow : OpenClaim := { program := "ytddpkbicnolafaagreat", sum := "854ed8aa2ed9d9a422dc8b7a877d8bd062b68606055a36ae39a4a234d425e6db", func := "cayley/cayleylaw15.ClassesCount", spec := "classesCount", unfollowed := true, recurses := true, apart := false }
def ClassesCountSaid : Prop := classesCountRow.holds Tryz.pinned (OpenSpec.ofChange classesCountSpec)

/-- ITS FALSE NEIGHBOUR: 'it returns false'. Refute it at one input. -/
def classesCountWrong : ChangeSpec := { name := "classesCount", fn := fun _ => fun
  | [d] => { results := [.lit (.bool false)], args := [d] }
  | _ => none }
def ClassesCountWrongFalsely : Prop := classesCountRow.holds Tryz.pinned (OpenSpec.ofChange classesCountWrong)

/-- 'cayleylaw15.ClassesMaps': WHATEVER THE INPUT: true; the input reads as it did. -/
def classesMapsSpec : ChangeSpec := { name := "classesMaps", fn := fun _ => fun
  | [d1, d2, d3] => { results := [.lit (.bool true)], args := [d1, d2, d3] }
  | _ => none }
def classesMapsRow : OpenClaim := { program := "ytddpkbicnolafaagreat", sum := "854ed8aa2ed9d9a422dc8b7a877d8bd062b68606055a36ae39a4a234d425e6db", func := "cayley/cayleylaw15.ClassesMaps", spec := "classesMaps", unfollowed := true, recurses := true, apart := false }
def ClassesMapsSaid : Prop := classesMapsRow.holds Tryz.pinned (OpenSpec.ofChange classesMapsSpec)

/-- ITS FALSE NEIGHBOUR: 'it returns false'. Refute it at one input. -/
def classesMapsWrong : ChangeSpec := { name := "classesMaps", fn := fun _ => fun
  | [d1, d2, d3] => { results := [.lit (.bool false)], args := [d1, d2, d3] }
  | _ => none }
def ClassesMapsWrongFalsely : Prop := classesMapsRow.holds Tryz.pinned (OpenSpec.ofChange classesMapsWrong)

/-- 'cayleylaw15.ClassesConj': WHATEVER THE INPUT: true; the input reads as it did. -/
def classesConjSpec : ChangeSpec := { name := "classesConj", fn := fun _ => fun
  | [d1, d2] => { results := [.lit (.bool true)], args := [d1, d2] }
  | _ => none }
def classesConjRow : OpenClaim := { program := "ytddpkbicnolafaagreat", sum := "854ed8aa2ed9d9a422dc8b7a877d8bd062b68606055a36ae39a4a234d425e6db", func := "cayley/cayleylaw15.ClassesConj", spec := "classesConj", unfollowed := true, recurses := true, apart := false }
def ClassesConjSaid : Prop := classesConjRow.holds Tryz.pinned (OpenSpec.ofChange classesConjSpec)

/-- ITS FALSE NEIGHBOUR: 'it returns false'. Refute it at one input. -/
def classesConjWrong : ChangeSpec := { name := "classesConj", fn := fun _ => fun
  | [d1, d2] => { results := [.lit (.bool false)], args := [d1, d2] }
  | _ => none }
def ClassesConjWrongFalsely : Prop := classesConjRow.holds Tryz.pinned (OpenSpec.ofChange classesConjWrong)

/- THE SECOND FORM. 'bulk': how many values and letters a reading holds, each counted each time it is reached (what is shared counts as often as it is met; a slice's spare places count too). A statement '..UptoSaid' is the law's where the arguments, and the package variables that the reading takes, are together of bulk at most 1048576: NARROWER than '..Said'. Prove '..Said' where nothing that the law and all that it calls make is longer than what came in: it says more and counts as full. Else prove '..UptoSaid'. A law counts once. -/
mutual
def uptoBulk {H : Type} : DataW H → Nat
  | .lit (.string bytes) => bytes.length + 1
  | .lit _ => 1
  | .nil => 1
  | .ptr d => uptoBulk d + 1
  | .slice elems spare => uptoBulkAll elems + uptoBulkAll spare + 1
  | .agg parts => uptoBulkAll parts + 1
  | .iface _ d => uptoBulk d + 1
  | .map entries => uptoBulkEntries entries + 1
  | .held _ => 1
def uptoBulkAll {H : Type} : List (DataW H) → Nat
  | [] => 0
  | d :: r => uptoBulk d + uptoBulkAll r
def uptoBulkEntries {H : Type} : List (Lit × DataW H) → Nat
  | [] => 0
  | x :: r => uptoBulkEntry x + uptoBulkEntries r
def uptoBulkEntry {H : Type} : Lit × DataW H → Nat
  | (.string bytes, d) => bytes.length + uptoBulk d + 1
  | (_, d) => uptoBulk d + 1
 end
def uptoSmall : (H : Type) → List (DataW H) → Bool := fun _ ds => decide (uptoBulkAll ds ≤ 1048576)
def OpenSpec.upto (s : _root_.Go.ChangeSpec) : _root_.Go.OpenSpec := { _root_.Go.OpenSpec.ofChange s with cond := some uptoSmall }

/-- 'cayleylaw15.ClassesPowers', WHERE WHAT IT READS IS OF BULK AT MOST 1048576: true; the input reads as it did. -/
def classesPowersUptoRow : OpenClaim := { program := "ytddpkbicnolafaagreat", sum := "854ed8aa2ed9d9a422dc8b7a877d8bd062b68606055a36ae39a4a234d425e6db", func := "cayley/cayleylaw15.ClassesPowers", spec := "classesPowers", unfollowed := true, recurses := true, apart := false, narrowed := true }
def ClassesPowersUptoSaid : Prop := classesPowersUptoRow.holds Tryz.pinned (OpenSpec.upto classesPowersSpec)

/-- 'cayleylaw15.ClassesLists', WHERE WHAT IT READS IS OF BULK AT MOST 1048576: true; the input reads as it did. -/
def classesListsUptoRow : OpenClaim := { program := "ytddpkbicnolafaagreat", sum := "854ed8aa2ed9d9a422dc8b7a877d8bd062b68606055a36ae39a4a234d425e6db", func := "cayley/cayleylaw15.ClassesLists", spec := "classesLists", unfollowed := true, recurses := true, apart := false, narrowed := true }
def ClassesListsUptoSaid : Prop := classesListsUptoRow.holds Tryz.pinned (OpenSpec.upto classesListsSpec)

/-- 'cayleylaw15.ClassesGroups', WHERE WHAT IT READS IS OF BULK AT MOST 1048576: true; the input reads as it did. -/
def classesGroupsUptoRow : OpenClaim := { program := "ytddpkbicnolafaagreat", sum := "854ed8aa2ed9d9a422dc8b7a877d8bd062b68606055a36ae39a4a234d425e6db", func := "cayley/cayleylaw15.ClassesGroups", spec := "classesGroups", unfollowed := true, recurses := true, apart := false, narrowed := true }
def ClassesGroupsUptoSaid : Prop := classesGroupsUptoRow.holds Tryz.pinned (OpenSpec.upto classesGroupsSpec)

/-- 'cayleylaw15.ClassesKnown', WHERE WHAT IT READS IS OF BULK AT MOST 1048576: true; the input reads as it did. -/
def classesKnownUptoRow : OpenClaim := { program := "ytddpkbicnolafaagreat", sum := "854ed8aa2ed9d9a422dc8b7a877d8bd062b68606055a36ae39a4a234d425e6db", func := "cayley/cayleylaw15.ClassesKnown", spec := "classesKnown", unfollowed := true, recurses := true, apart := false, narrowed := true }
def ClassesKnownUptoSaid : Prop := classesKnownUptoRow.holds Tryz.pinned (OpenSpec.upto classesKnownSpec)

/-- 'cayleylaw15.ClassesCount', WHERE WHAT IT READS IS OF BULK AT MOST 1048576: true; the input reads as it did. -/
def classesCountUptoRow : OpenClaim := { program := "ytddpkbicnolafaagreat", sum := "854ed8aa2ed9d9a422dc8b7a877d8bd062b68606055a36ae39a4a234d425e6db", func := "cayley/cayleylaw15.ClassesCount", spec := "classesCount", unfollowed := true, recurses := true, apart := false, narrowed := true }
def ClassesCountUptoSaid : Prop := classesCountUptoRow.holds Tryz.pinned (OpenSpec.upto classesCountSpec)

/-- 'cayleylaw15.ClassesMaps', WHERE WHAT IT READS IS OF BULK AT MOST 1048576: true; the input reads as it did. -/
def classesMapsUptoRow : OpenClaim := { program := "ytddpkbicnolafaagreat", sum := "854ed8aa2ed9d9a422dc8b7a877d8bd062b68606055a36ae39a4a234d425e6db", func := "cayley/cayleylaw15.ClassesMaps", spec := "classesMaps", unfollowed := true, recurses := true, apart := false, narrowed := true }
def ClassesMapsUptoSaid : Prop := classesMapsUptoRow.holds Tryz.pinned (OpenSpec.upto classesMapsSpec)

/-- 'cayleylaw15.ClassesConj', WHERE WHAT IT READS IS OF BULK AT MOST 1048576: true; the input reads as it did. -/
def classesConjUptoRow : OpenClaim := { program := "ytddpkbicnolafaagreat", sum := "854ed8aa2ed9d9a422dc8b7a877d8bd062b68606055a36ae39a4a234d425e6db", func := "cayley/cayleylaw15.ClassesConj", spec := "classesConj", unfollowed := true, recurses := true, apart := false, narrowed := true }
def ClassesConjUptoSaid : Prop := classesConjUptoRow.holds Tryz.pinned (OpenSpec.upto classesConjSpec)

end Rows
end Go.Proofs.YtddpkbicnolafaaGreat
