/-
  No cell of these rows narrows 'for every input' (looked for: loops, veiled, ifaces, maps, wideKeys, modest, calm, conditions, laid).
  DERIVED. THE GIVEN ROWS OF THIS SEAT. 7 by the template 'for every input the law returns true; each argument reads behind the call as it read before'; 0 by the template 'total and deterministic' (their statements: YtcdbmkidaecdiaaGreatTotals.lean).
  GIVEN WITH THE SEED: the statements are not yours to turn. If you find one false, say at which input.
  Laid BY PROGRAM, IN A SANDBOX (cutbox-rows.mjs): the forced cells as the released guide's own fill.sh prints them over the translation a9dd564ab9560308… (all of the seat's roots in one cut). By AI agents, Wed Nov 11 2026. No macro, syntax, notation, axiom, sorry.
-/
import Derived.Test.YtcdbmkidaecdiaaGreatChecked
import GoSem.Claim
import GoSem.ClaimJoined
import GoSem.ClaimMapViews
import Derived.JoinedTies
import Derived.KernelRfl
namespace Go.Proofs.YtcdbmkidaecdiaaGreat
/- THE CELL 'sum', in the pinned program and in every row, IS THE sha256 OF THE DUMP (.gsa) THAT YtcdbmkidaecdiaaGreatProg.lean LOADS. Nothing in Lean hashes anything: it is a label: what it is worth is what the hold of that sum in a sandbox is worth. -/
noncomputable def Tryz.pinned : Pinned := { name := "ytcdbmkidaecdiaagreat", sum := "a9dd564ab95603080ab4f6a4fbc667bf045d26a3fff88259c4dc3ff5cca7756d", checked := Tryz.checked }
namespace Rows
def none {H : Type} : Left H := { results := [], args := [] }

/-- 'cayleylaw16.SeriesChiefs': WHATEVER THE INPUT: true; the input reads as it did. -/
def seriesChiefsSpec : ChangeSpec := { name := "seriesChiefs", fn := fun _ => fun
  | [d] => { results := [.lit (.bool true)], args := [d] }
  | _ => none }
def seriesChiefsRow : OpenClaim := { program := "ytcdbmkidaecdiaagreat", sum := "a9dd564ab95603080ab4f6a4fbc667bf045d26a3fff88259c4dc3ff5cca7756d", func := "cayley/cayleylaw16.SeriesChiefs", spec := "seriesChiefs", unfollowed := true, recurses := true, apart := false }
def SeriesChiefsSaid : Prop := seriesChiefsRow.holds Tryz.pinned (OpenSpec.ofChange seriesChiefsSpec)

/-- ITS FALSE NEIGHBOUR: 'it returns false'. Refute it at one input. -/
def seriesChiefsWrong : ChangeSpec := { name := "seriesChiefs", fn := fun _ => fun
  | [d] => { results := [.lit (.bool false)], args := [d] }
  | _ => none }
def SeriesChiefsWrongFalsely : Prop := seriesChiefsRow.holds Tryz.pinned (OpenSpec.ofChange seriesChiefsWrong)

/-- 'cayleylaw16.SeriesLists': WHATEVER THE INPUT: true; the input reads as it did. -/
def seriesListsSpec : ChangeSpec := { name := "seriesLists", fn := fun _ => fun
  | [d] => { results := [.lit (.bool true)], args := [d] }
  | _ => none }
def seriesListsRow : OpenClaim := { program := "ytcdbmkidaecdiaagreat", sum := "a9dd564ab95603080ab4f6a4fbc667bf045d26a3fff88259c4dc3ff5cca7756d", func := "cayley/cayleylaw16.SeriesLists", spec := "seriesLists", unfollowed := true, recurses := true, apart := false }
def SeriesListsSaid : Prop := seriesListsRow.holds Tryz.pinned (OpenSpec.ofChange seriesListsSpec)

/-- ITS FALSE NEIGHBOUR: 'it returns false'. Refute it at one input. -/
def seriesListsWrong : ChangeSpec := { name := "seriesLists", fn := fun _ => fun
  | [d] => { results := [.lit (.bool false)], args := [d] }
  | _ => none }
def SeriesListsWrongFalsely : Prop := seriesListsRow.holds Tryz.pinned (OpenSpec.ofChange seriesListsWrong)

/-- 'cayleylaw16.SeriesNormals': WHATEVER THE INPUT: true; the input reads as it did. -/
def seriesNormalsSpec : ChangeSpec := { name := "seriesNormals", fn := fun _ => fun
  | [d] => { results := [.lit (.bool true)], args := [d] }
  | _ => none }
def seriesNormalsRow : OpenClaim := { program := "ytcdbmkidaecdiaagreat", sum := "a9dd564ab95603080ab4f6a4fbc667bf045d26a3fff88259c4dc3ff5cca7756d", func := "cayley/cayleylaw16.SeriesNormals", spec := "seriesNormals", unfollowed := true, recurses := true, apart := false }
def SeriesNormalsSaid : Prop := seriesNormalsRow.holds Tryz.pinned (OpenSpec.ofChange seriesNormalsSpec)

/-- ITS FALSE NEIGHBOUR: 'it returns false'. Refute it at one input. -/
def seriesNormalsWrong : ChangeSpec := { name := "seriesNormals", fn := fun _ => fun
  | [d] => { results := [.lit (.bool false)], args := [d] }
  | _ => none }
def SeriesNormalsWrongFalsely : Prop := seriesNormalsRow.holds Tryz.pinned (OpenSpec.ofChange seriesNormalsWrong)

/-- 'cayleylaw16.SeriesKnown': WHATEVER THE INPUT: true; the input reads as it did. -/
def seriesKnownSpec : ChangeSpec := { name := "seriesKnown", fn := fun _ => fun
  | [] => { results := [.lit (.bool true)], args := [] }
  | _ => none }
def seriesKnownRow : OpenClaim := { program := "ytcdbmkidaecdiaagreat", sum := "a9dd564ab95603080ab4f6a4fbc667bf045d26a3fff88259c4dc3ff5cca7756d", func := "cayley/cayleylaw16.SeriesKnown", spec := "seriesKnown", unfollowed := true, recurses := true, apart := false }
def SeriesKnownSaid : Prop := seriesKnownRow.holds Tryz.pinned (OpenSpec.ofChange seriesKnownSpec)

/-- ITS FALSE NEIGHBOUR: 'it returns false'. Refute it at one input. -/
def seriesKnownWrong : ChangeSpec := { name := "seriesKnown", fn := fun _ => fun
  | [] => { results := [.lit (.bool false)], args := [] }
  | _ => none }
def SeriesKnownWrongFalsely : Prop := seriesKnownRow.holds Tryz.pinned (OpenSpec.ofChange seriesKnownWrong)

/-- 'cayleylaw16.SeriesNormal': WHATEVER THE INPUT: true; the input reads as it did. -/
def seriesNormalSpec : ChangeSpec := { name := "seriesNormal", fn := fun _ => fun
  | [d1, d2, d3] => { results := [.lit (.bool true)], args := [d1, d2, d3] }
  | _ => none }
def seriesNormalRow : OpenClaim := { program := "ytcdbmkidaecdiaagreat", sum := "a9dd564ab95603080ab4f6a4fbc667bf045d26a3fff88259c4dc3ff5cca7756d", func := "cayley/cayleylaw16.SeriesNormal", spec := "seriesNormal", unfollowed := true, recurses := true, apart := false }
def SeriesNormalSaid : Prop := seriesNormalRow.holds Tryz.pinned (OpenSpec.ofChange seriesNormalSpec)

/-- ITS FALSE NEIGHBOUR: 'it returns false'. Refute it at one input. -/
def seriesNormalWrong : ChangeSpec := { name := "seriesNormal", fn := fun _ => fun
  | [d1, d2, d3] => { results := [.lit (.bool false)], args := [d1, d2, d3] }
  | _ => none }
def SeriesNormalWrongFalsely : Prop := seriesNormalRow.holds Tryz.pinned (OpenSpec.ofChange seriesNormalWrong)

/-- 'cayleylaw16.SeriesFactors': WHATEVER THE INPUT: true; the input reads as it did. -/
def seriesFactorsSpec : ChangeSpec := { name := "seriesFactors", fn := fun _ => fun
  | [d] => { results := [.lit (.bool true)], args := [d] }
  | _ => none }
def seriesFactorsRow : OpenClaim := { program := "ytcdbmkidaecdiaagreat", sum := "a9dd564ab95603080ab4f6a4fbc667bf045d26a3fff88259c4dc3ff5cca7756d", func := "cayley/cayleylaw16.SeriesFactors", spec := "seriesFactors", unfollowed := true, recurses := true, apart := false }
def SeriesFactorsSaid : Prop := seriesFactorsRow.holds Tryz.pinned (OpenSpec.ofChange seriesFactorsSpec)

/-- ITS FALSE NEIGHBOUR: 'it returns false'. Refute it at one input. -/
def seriesFactorsWrong : ChangeSpec := { name := "seriesFactors", fn := fun _ => fun
  | [d] => { results := [.lit (.bool false)], args := [d] }
  | _ => none }
def SeriesFactorsWrongFalsely : Prop := seriesFactorsRow.holds Tryz.pinned (OpenSpec.ofChange seriesFactorsWrong)

/-- 'cayleylaw16.SeriesBelow': WHATEVER THE INPUT: true; the input reads as it did. -/
def seriesBelowSpec : ChangeSpec := { name := "seriesBelow", fn := fun _ => fun
  | [d1, d2, d3] => { results := [.lit (.bool true)], args := [d1, d2, d3] }
  | _ => none }
def seriesBelowRow : OpenClaim := { program := "ytcdbmkidaecdiaagreat", sum := "a9dd564ab95603080ab4f6a4fbc667bf045d26a3fff88259c4dc3ff5cca7756d", func := "cayley/cayleylaw16.SeriesBelow", spec := "seriesBelow", unfollowed := true, recurses := true, apart := false }
def SeriesBelowSaid : Prop := seriesBelowRow.holds Tryz.pinned (OpenSpec.ofChange seriesBelowSpec)

/-- ITS FALSE NEIGHBOUR: 'it returns false'. Refute it at one input. -/
def seriesBelowWrong : ChangeSpec := { name := "seriesBelow", fn := fun _ => fun
  | [d1, d2, d3] => { results := [.lit (.bool false)], args := [d1, d2, d3] }
  | _ => none }
def SeriesBelowWrongFalsely : Prop := seriesBelowRow.holds Tryz.pinned (OpenSpec.ofChange seriesBelowWrong)

/- THE SECOND FORM. 'bulk': how many values and letters a reading holds, each counted each time it is reached (what is shared counts as often as it is met; a slice's spare places count too). A statement '..UptoSaid' is the law's where the arguments, and the package variables that the reading takes, are together of bulk at most 1048576: NARROWER than '..Said'. Prove '..Said' where nothing that the law and all that it calls make is longer than what came in: it says more and counts as full. Else prove '..UptoSaid'. A law counts once. -/
mutual
def uptoBulk {H : Type} : DataW H → Nat
  | .lit (.string bytes) => bytes.length + 1
  | .lit _ => 1
  | .nil => 1
  | .ptr d => uptoBulk d + 1
  | .slice elems spare => uptoBulkAll elems + uptoBulkAll spare + 1
  | .agg parts => uptoBulkAll parts + 1
  | .iface _ d => uptoBulk d + 1
  | .map entries => uptoBulkEntries entries + 1
  | .held _ => 1
def uptoBulkAll {H : Type} : List (DataW H) → Nat
  | [] => 0
  | d :: r => uptoBulk d + uptoBulkAll r
def uptoBulkEntries {H : Type} : List (Lit × DataW H) → Nat
  | [] => 0
  | x :: r => uptoBulkEntry x + uptoBulkEntries r
def uptoBulkEntry {H : Type} : Lit × DataW H → Nat
  | (.string bytes, d) => bytes.length + uptoBulk d + 1
  | (_, d) => uptoBulk d + 1
 end
def uptoSmall : (H : Type) → List (DataW H) → Bool := fun _ ds => decide (uptoBulkAll ds ≤ 1048576)
def OpenSpec.upto (s : _root_.Go.ChangeSpec) : _root_.Go.OpenSpec := { _root_.Go.OpenSpec.ofChange s with cond := some uptoSmall }

/-- 'cayleylaw16.SeriesChiefs', WHERE WHAT IT READS IS OF BULK AT MOST 1048576: true; the input reads as it did. -/
def seriesChiefsUptoRow : OpenClaim := { program := "ytcdbmkidaecdiaagreat", sum := "a9dd564ab95603080ab4f6a4fbc667bf045d26a3fff88259c4dc3ff5cca7756d", func := "cayley/cayleylaw16.SeriesChiefs", spec := "seriesChiefs", unfollowed := true, recurses := true, apart := false, narrowed := true }
def SeriesChiefsUptoSaid : Prop := seriesChiefsUptoRow.holds Tryz.pinned (OpenSpec.upto seriesChiefsSpec)

/-- 'cayleylaw16.SeriesLists', WHERE WHAT IT READS IS OF BULK AT MOST 1048576: true; the input reads as it did. -/
def seriesListsUptoRow : OpenClaim := { program := "ytcdbmkidaecdiaagreat", sum := "a9dd564ab95603080ab4f6a4fbc667bf045d26a3fff88259c4dc3ff5cca7756d", func := "cayley/cayleylaw16.SeriesLists", spec := "seriesLists", unfollowed := true, recurses := true, apart := false, narrowed := true }
def SeriesListsUptoSaid : Prop := seriesListsUptoRow.holds Tryz.pinned (OpenSpec.upto seriesListsSpec)

/-- 'cayleylaw16.SeriesNormals', WHERE WHAT IT READS IS OF BULK AT MOST 1048576: true; the input reads as it did. -/
def seriesNormalsUptoRow : OpenClaim := { program := "ytcdbmkidaecdiaagreat", sum := "a9dd564ab95603080ab4f6a4fbc667bf045d26a3fff88259c4dc3ff5cca7756d", func := "cayley/cayleylaw16.SeriesNormals", spec := "seriesNormals", unfollowed := true, recurses := true, apart := false, narrowed := true }
def SeriesNormalsUptoSaid : Prop := seriesNormalsUptoRow.holds Tryz.pinned (OpenSpec.upto seriesNormalsSpec)

/-- 'cayleylaw16.SeriesKnown', WHERE WHAT IT READS IS OF BULK AT MOST 1048576: true; the input reads as it did. -/
def seriesKnownUptoRow : OpenClaim := { program := "ytcdbmkidaecdiaagreat", sum := "a9dd564ab95603080ab4f6a4fbc667bf045d26a3fff88259c4dc3ff5cca7756d", func := "cayley/cayleylaw16.SeriesKnown", spec := "seriesKnown", unfollowed := true, recurses := true, apart := false, narrowed := true }
def SeriesKnownUptoSaid : Prop := seriesKnownUptoRow.holds Tryz.pinned (OpenSpec.upto seriesKnownSpec)

/-- 'cayleylaw16.SeriesNormal', WHERE WHAT IT READS IS OF BULK AT MOST 1048576: true; the input reads as it did. -/
def seriesNormalUptoRow : OpenClaim := { program := "ytcdbmkidaecdiaagreat", sum := "a9dd564ab95603080ab4f6a4fbc667bf045d26a3fff88259c4dc3ff5cca7756d", func := "cayley/cayleylaw16.SeriesNormal", spec := "seriesNormal", unfollowed := true, recurses := true, apart := false, narrowed := true }
def SeriesNormalUptoSaid : Prop := seriesNormalUptoRow.holds Tryz.pinned (OpenSpec.upto seriesNormalSpec)

/-- 'cayleylaw16.SeriesFactors', WHERE WHAT IT READS IS OF BULK AT MOST 1048576: true; the input reads as it did. -/
def seriesFactorsUptoRow : OpenClaim := { program := "ytcdbmkidaecdiaagreat", sum := "a9dd564ab95603080ab4f6a4fbc667bf045d26a3fff88259c4dc3ff5cca7756d", func := "cayley/cayleylaw16.SeriesFactors", spec := "seriesFactors", unfollowed := true, recurses := true, apart := false, narrowed := true }
def SeriesFactorsUptoSaid : Prop := seriesFactorsUptoRow.holds Tryz.pinned (OpenSpec.upto seriesFactorsSpec)

/-- 'cayleylaw16.SeriesBelow', WHERE WHAT IT READS IS OF BULK AT MOST 1048576: true; the input reads as it did. -/
def seriesBelowUptoRow : OpenClaim := { program := "ytcdbmkidaecdiaagreat", sum := "a9dd564ab95603080ab4f6a4fbc667bf045d26a3fff88259c4dc3ff5cca7756d", func := "cayley/cayleylaw16.SeriesBelow", spec := "seriesBelow", unfollowed := true, recurses := true, apart := false, narrowed := true }
def SeriesBelowUptoSaid : Prop := seriesBelowUptoRow.holds Tryz.pinned (OpenSpec.upto seriesBelowSpec)

end Rows
end Go.Proofs.YtcdbmkidaecdiaaGreat
