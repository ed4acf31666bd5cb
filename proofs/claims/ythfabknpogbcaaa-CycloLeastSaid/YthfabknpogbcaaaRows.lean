/-
  No cell of these rows narrows 'for every input' (looked for: loops, veiled, ifaces, maps, wideKeys, modest, calm, conditions, laid).
  DERIVED. THE GIVEN ROWS OF THIS SEAT. 7 by the template 'for every input the law returns true; each argument reads behind the call as it read before'; 0 by the template 'total and deterministic' (their statements: YthfabknpogbcaaaTotals.lean).
  GIVEN WITH THE SEED: the statements are not yours to turn. If you find one false, say at which input.
  Laid BY PROGRAM, IN A SANDBOX (cutbox-rows.mjs): the forced cells as the released guide's own fill.sh prints them over the translation f4f45123cf346870… (all of the seat's roots in one cut). By AI agents, Wed Nov 11 2026. No macro, syntax, notation, axiom, sorry.
-/
import Derived.Test.YthfabknpogbcaaaChecked
import GoSem.Claim
import GoSem.ClaimJoined
import GoSem.ClaimMapViews
import Derived.JoinedTies
import Derived.KernelRfl
namespace Go.Proofs.Ythfabknpogbcaaa
/- THE CELL 'sum', in the pinned program and in every row, IS THE sha256 OF THE DUMP (.gsa) THAT YthfabknpogbcaaaProg.lean LOADS. Nothing in Lean hashes anything: it is a label: what it is worth is what the hold of that sum in a sandbox is worth. -/
noncomputable def Try.pinned : Pinned := { name := "ythfabknpogbcaaa", sum := "f4f45123cf346870e4b01a6080eaf09205a1c69a6e99b392353564df1b82341d", checked := Try.checked }
namespace Rows
def none {H : Type} : Left H := { results := [], args := [] }

/-- 'cayleylaw06.CycloMakes': WHATEVER THE INPUT: true; the input reads as it did. -/
def cycloMakesSpec : ChangeSpec := { name := "cycloMakes", fn := fun _ => fun
  | [d1, d2, d3] => { results := [.lit (.bool true)], args := [d1, d2, d3] }
  | _ => none }
def cycloMakesRow : OpenClaim := { program := "ythfabknpogbcaaa", sum := "f4f45123cf346870e4b01a6080eaf09205a1c69a6e99b392353564df1b82341d", func := "cayley/cayleylaw06.CycloMakes", spec := "cycloMakes", unfollowed := true, recurses := true, apart := false }
def CycloMakesSaid : Prop := cycloMakesRow.holds Try.pinned (OpenSpec.ofChange cycloMakesSpec)

/-- ITS FALSE NEIGHBOUR: 'it returns false'. Refute it at one input. -/
def cycloMakesWrong : ChangeSpec := { name := "cycloMakes", fn := fun _ => fun
  | [d1, d2, d3] => { results := [.lit (.bool false)], args := [d1, d2, d3] }
  | _ => none }
def CycloMakesWrongFalsely : Prop := cycloMakesRow.holds Try.pinned (OpenSpec.ofChange cycloMakesWrong)

/-- 'cayleylaw06.CycloLeast': WHATEVER THE INPUT: true; the input reads as it did. -/
def cycloLeastSpec : ChangeSpec := { name := "cycloLeast", fn := fun _ => fun
  | [d1, d2, d3] => { results := [.lit (.bool true)], args := [d1, d2, d3] }
  | _ => none }
def cycloLeastRow : OpenClaim := { program := "ythfabknpogbcaaa", sum := "f4f45123cf346870e4b01a6080eaf09205a1c69a6e99b392353564df1b82341d", func := "cayley/cayleylaw06.CycloLeast", spec := "cycloLeast", unfollowed := true, recurses := true, apart := false }
def CycloLeastSaid : Prop := cycloLeastRow.holds Try.pinned (OpenSpec.ofChange cycloLeastSpec)

/-- ITS FALSE NEIGHBOUR: 'it returns false'. Refute it at one input. -/
def cycloLeastWrong : ChangeSpec := { name := "cycloLeast", fn := fun _ => fun
  | [d1, d2, d3] => { results := [.lit (.bool false)], args := [d1, d2, d3] }
  | _ => none }
def CycloLeastWrongFalsely : Prop := cycloLeastRow.holds Try.pinned (OpenSpec.ofChange cycloLeastWrong)

/-- 'cayleylaw06.CycloGalois': WHATEVER THE INPUT: true; the input reads as it did. -/
def cycloGaloisSpec : ChangeSpec := { name := "cycloGalois", fn := fun _ => fun
  | [d1, d2, d3, d4] => { results := [.lit (.bool true)], args := [d1, d2, d3, d4] }
  | _ => none }
def cycloGaloisRow : OpenClaim := { program := "ythfabknpogbcaaa", sum := "f4f45123cf346870e4b01a6080eaf09205a1c69a6e99b392353564df1b82341d", func := "cayley/cayleylaw06.CycloGalois", spec := "cycloGalois", unfollowed := true, recurses := true, apart := false }
def CycloGaloisSaid : Prop := cycloGaloisRow.holds Try.pinned (OpenSpec.ofChange cycloGaloisSpec)

/-- ITS FALSE NEIGHBOUR: 'it returns false'. Refute it at one input. -/
def cycloGaloisWrong : ChangeSpec := { name := "cycloGalois", fn := fun _ => fun
  | [d1, d2, d3, d4] => { results := [.lit (.bool false)], args := [d1, d2, d3, d4] }
  | _ => none }
def CycloGaloisWrongFalsely : Prop := cycloGaloisRow.holds Try.pinned (OpenSpec.ofChange cycloGaloisWrong)

/-- 'cayleylaw06.CycloSums': WHATEVER THE INPUT: true; the input reads as it did. -/
def cycloSumsSpec : ChangeSpec := { name := "cycloSums", fn := fun _ => fun
  | [d1, d2, d3, d4] => { results := [.lit (.bool true)], args := [d1, d2, d3, d4] }
  | _ => none }
def cycloSumsRow : OpenClaim := { program := "ythfabknpogbcaaa", sum := "f4f45123cf346870e4b01a6080eaf09205a1c69a6e99b392353564df1b82341d", func := "cayley/cayleylaw06.CycloSums", spec := "cycloSums", unfollowed := true, recurses := true, apart := false }
def CycloSumsSaid : Prop := cycloSumsRow.holds Try.pinned (OpenSpec.ofChange cycloSumsSpec)

/-- ITS FALSE NEIGHBOUR: 'it returns false'. Refute it at one input. -/
def cycloSumsWrong : ChangeSpec := { name := "cycloSums", fn := fun _ => fun
  | [d1, d2, d3, d4] => { results := [.lit (.bool false)], args := [d1, d2, d3, d4] }
  | _ => none }
def CycloSumsWrongFalsely : Prop := cycloSumsRow.holds Try.pinned (OpenSpec.ofChange cycloSumsWrong)

/-- 'cayleylaw06.CycloRing': WHATEVER THE INPUT: true; the input reads as it did. -/
def cycloRingSpec : ChangeSpec := { name := "cycloRing", fn := fun _ => fun
  | [d1, d2, d3] => { results := [.lit (.bool true)], args := [d1, d2, d3] }
  | _ => none }
def cycloRingRow : OpenClaim := { program := "ythfabknpogbcaaa", sum := "f4f45123cf346870e4b01a6080eaf09205a1c69a6e99b392353564df1b82341d", func := "cayley/cayleylaw06.CycloRing", spec := "cycloRing", unfollowed := true, recurses := true, apart := false }
def CycloRingSaid : Prop := cycloRingRow.holds Try.pinned (OpenSpec.ofChange cycloRingSpec)

/-- ITS FALSE NEIGHBOUR: 'it returns false'. Refute it at one input. -/
def cycloRingWrong : ChangeSpec := { name := "cycloRing", fn := fun _ => fun
  | [d1, d2, d3] => { results := [.lit (.bool false)], args := [d1, d2, d3] }
  | _ => none }
def CycloRingWrongFalsely : Prop := cycloRingRow.holds Try.pinned (OpenSpec.ofChange cycloRingWrong)

/-- 'cayleylaw06.CycloCalls': WHATEVER THE INPUT: true; the input reads as it did. -/
def cycloCallsSpec : ChangeSpec := { name := "cycloCalls", fn := fun _ => fun
  | [d1, d2, d3] => { results := [.lit (.bool true)], args := [d1, d2, d3] }
  | _ => none }
def cycloCallsRow : OpenClaim := { program := "ythfabknpogbcaaa", sum := "f4f45123cf346870e4b01a6080eaf09205a1c69a6e99b392353564df1b82341d", func := "cayley/cayleylaw06.CycloCalls", spec := "cycloCalls", unfollowed := true, recurses := true, apart := false }
def CycloCallsSaid : Prop := cycloCallsRow.holds Try.pinned (OpenSpec.ofChange cycloCallsSpec)

/-- ITS FALSE NEIGHBOUR: 'it returns false'. Refute it at one input. -/
def cycloCallsWrong : ChangeSpec := { name := "cycloCalls", fn := fun _ => fun
  | [d1, d2, d3] => { results := [.lit (.bool false)], args := [d1, d2, d3] }
  | _ => none }
def CycloCallsWrongFalsely : Prop := cycloCallsRow.holds Try.pinned (OpenSpec.ofChange cycloCallsWrong)

/-- 'cayleylaw06.CycloNames': WHATEVER THE INPUT: true; the input reads as it did. -/
def cycloNamesSpec : ChangeSpec := { name := "cycloNames", fn := fun _ => fun
  | [] => { results := [.lit (.bool true)], args := [] }
  | _ => none }
def cycloNamesRow : OpenClaim := { program := "ythfabknpogbcaaa", sum := "f4f45123cf346870e4b01a6080eaf09205a1c69a6e99b392353564df1b82341d", func := "cayley/cayleylaw06.CycloNames", spec := "cycloNames", unfollowed := true, recurses := true, apart := false }
def CycloNamesSaid : Prop := cycloNamesRow.holds Try.pinned (OpenSpec.ofChange cycloNamesSpec)

/-- ITS FALSE NEIGHBOUR: 'it returns false'. Refute it at one input. -/
def cycloNamesWrong : ChangeSpec := { name := "cycloNames", fn := fun _ => fun
  | [] => { results := [.lit (.bool false)], args := [] }
  | _ => none }
def CycloNamesWrongFalsely : Prop := cycloNamesRow.holds Try.pinned (OpenSpec.ofChange cycloNamesWrong)

/- THE SECOND FORM. 'bulk': how many values and letters a reading holds, each counted each time it is reached (what is shared counts as often as it is met; a slice's spare places count too). A statement '..UptoSaid' is the law's where the arguments, and the package variables that the reading takes, are together of bulk at most 1048576: NARROWER than '..Said'. Prove '..Said' where nothing that the law and all that it calls make is longer than what came in: it says more and counts as full. Else prove '..UptoSaid'. A law counts once. -/
mutual
def uptoBulk {H : Type} : DataW H → Nat
  | .lit (.string bytes) => bytes.length + 1
  | .lit _ => 1
  | .nil => 1
  | .ptr d => uptoBulk d + 1
  | .slice elems spare => uptoBulkAll elems + uptoBulkAll spare + 1
  | .agg parts => uptoBulkAll parts + 1
  | .iface _ d => uptoBulk d + 1
  | .map entries => uptoBulkEntries entries + 1
  | .held _ => 1
def uptoBulkAll {H : Type} : List (DataW H) → Nat
  | [] => 0
  | d :: r => uptoBulk d + uptoBulkAll r
def uptoBulkEntries {H : Type} : List (Lit × DataW H) → Nat
  | [] => 0
  | x :: r => uptoBulkEntry x + uptoBulkEntries r
def uptoBulkEntry {H : Type} : Lit × DataW H → Nat
  | (.string bytes, d) => bytes.length + uptoBulk d + 1
  | (_, d) => uptoBulk d + 1
 end
def uptoSmall : (H : Type) → List (DataW H) → Bool := fun _ ds => decide (uptoBulkAll ds ≤ 1048576)
def OpenSpec.upto (s : _root_.Go.ChangeSpec) : _root_.Go.OpenSpec := { _root_.Go.OpenSpec.ofChange s with cond := some uptoSmall }

/-- 'cayleylaw06.CycloMakes', WHERE WHAT IT READS IS OF BULK AT MOST 1048576: true; the input reads as it did. -/
def cycloMakesUptoRow : OpenClaim := { program := "ythfabknpogbcaaa", sum := "f4f45123cf346870e4b01a6080eaf09205a1c69a6e99b392353564df1b82341d", func := "cayley/cayleylaw06.CycloMakes", spec := "cycloMakes", unfollowed := true, recurses := true, apart := false, narrowed := true }
def CycloMakesUptoSaid : Prop := cycloMakesUptoRow.holds Try.pinned (OpenSpec.upto cycloMakesSpec)

/-- 'cayleylaw06.CycloLeast', WHERE WHAT IT READS IS OF BULK AT MOST 1048576: true; the input reads as it did. -/
def cycloLeastUptoRow : OpenClaim := { program := "ythfabknpogbcaaa", sum := "f4f45123cf346870e4b01a6080eaf09205a1c69a6e99b392353564df1b82341d", func := "cayley/cayleylaw06.CycloLeast", spec := "cycloLeast", unfollowed := true, recurses := true, apart := false, narrowed := true }
def CycloLeastUptoSaid : Prop := cycloLeastUptoRow.holds Try.pinned (OpenSpec.upto cycloLeastSpec)

/-- 'cayleylaw06.CycloGalois', WHERE WHAT IT READS IS OF BULK AT MOST 1048576: true; the input reads as it did. -/
def cycloGaloisUptoRow : OpenClaim := { program := "ythfabknpogbcaaa", sum := "f4f45123cf346870e4b01a6080eaf09205a1c69a6e99b392353564df1b82341d", func := "cayley/cayleylaw06.CycloGalois", spec := "cycloGalois", unfollowed := true, recurses := true, apart := false, narrowed := true }
def CycloGaloisUptoSaid : Prop := cycloGaloisUptoRow.holds Try.pinned (OpenSpec.upto cycloGaloisSpec)

/-- 'cayleylaw06.CycloSums', WHERE WHAT IT READS IS OF BULK AT MOST 1048576: true; the input reads as it did. -/
def cycloSumsUptoRow : OpenClaim := { program := "ythfabknpogbcaaa", sum := "f4f45123cf346870e4b01a6080eaf09205a1c69a6e99b392353564df1b82341d", func := "cayley/cayleylaw06.CycloSums", spec := "cycloSums", unfollowed := true, recurses := true, apart := false, narrowed := true }
def CycloSumsUptoSaid : Prop := cycloSumsUptoRow.holds Try.pinned (OpenSpec.upto cycloSumsSpec)

/-- 'cayleylaw06.CycloRing', WHERE WHAT IT READS IS OF BULK AT MOST 1048576: true; the input reads as it did. -/
def cycloRingUptoRow : OpenClaim := { program := "ythfabknpogbcaaa", sum := "f4f45123cf346870e4b01a6080eaf09205a1c69a6e99b392353564df1b82341d", func := "cayley/cayleylaw06.CycloRing", spec := "cycloRing", unfollowed := true, recurses := true, apart := false, narrowed := true }
def CycloRingUptoSaid : Prop := cycloRingUptoRow.holds Try.pinned (OpenSpec.upto cycloRingSpec)

/-- 'cayleylaw06.CycloCalls', WHERE WHAT IT READS IS OF BULK AT MOST 1048576: true; the input reads as it did. -/
def cycloCallsUptoRow : OpenClaim := { program := "ythfabknpogbcaaa", sum := "f4f45123cf346870e4b01a6080eaf09205a1c69a6e99b392353564df1b82341d", func := "cayley/cayleylaw06.CycloCalls", spec := "cycloCalls", unfollowed := true, recurses := true, apart := false, narrowed := true }
def CycloCallsUptoSaid : Prop := cycloCallsUptoRow.holds Try.pinned (OpenSpec.upto cycloCallsSpec)

/-- 'cayleylaw06.CycloNames', WHERE WHAT IT READS IS OF BULK AT MOST 1048576: true; the input reads as it did. -/
def cycloNamesUptoRow : OpenClaim := { program := "ythfabknpogbcaaa", sum := "f4f45123cf346870e4b01a6080eaf09205a1c69a6e99b392353564df1b82341d", func := "cayley/cayleylaw06.CycloNames", spec := "cycloNames", unfollowed := true, recurses := true, apart := false, narrowed := true }
def CycloNamesUptoSaid : Prop := cycloNamesUptoRow.holds Try.pinned (OpenSpec.upto cycloNamesSpec)

end Rows
end Go.Proofs.Ythfabknpogbcaaa
