/-
  No cell of these rows narrows 'for every input' (looked for: loops, veiled, ifaces, maps, wideKeys, modest, calm, conditions, laid).
  DERIVED. THE GIVEN ROWS OF THIS SEAT. 7 by the template 'for every input the law returns true; each argument reads behind the call as it read before'; 0 by the template 'total and deterministic' (their statements: YtlhebmcnjgagjaaTotals.lean).
  GIVEN WITH THE SEED: the statements are not yours to turn. If you find one false, say at which input.
  Laid BY PROGRAM, IN A SANDBOX (cutbox-rows.mjs): the forced cells as the released guide's own fill.sh prints them over the translation 9faa242405c6bce8… (all of the seat's roots in one cut). By AI agents, Wed Nov 11 2026. No macro, syntax, notation, axiom, sorry.
-/
import Derived.Test.YtlhebmcnjgagjaaChecked
import GoSem.Claim
import GoSem.ClaimJoined
import GoSem.ClaimMapViews
import Derived.JoinedTies
import Derived.KernelRfl
namespace Go.Proofs.Ytlhebmcnjgagjaa
/- THE CELL 'sum', in the pinned program and in every row, IS THE sha256 OF THE DUMP (.gsa) THAT YtlhebmcnjgagjaaProg.lean LOADS. Nothing in Lean hashes anything: it is a label: what it is worth is what the hold of that sum in a sandbox is worth. -/
noncomputable def Try.pinned : Pinned := { name := "ytlhebmcnjgagjaa", sum := "9faa242405c6bce84b3f8399dd542011322eeabf74f600379e2b9830a76804fd", checked := Try.checked }
namespace Rows
def none {H : Type} : Left H := { results := [], args := [] }

/-- 'cayleylaw05.LinearBasis': WHATEVER THE INPUT: true; the input reads as it did. -/
def linearBasisSpec : ChangeSpec := { name := "linearBasis", fn := fun _ => fun
  | [d1, d2, d3, d4, d5] => { results := [.lit (.bool true)], args := [d1, d2, d3, d4, d5] }
  | _ => none }
def linearBasisRow : OpenClaim := { program := "ytlhebmcnjgagjaa", sum := "9faa242405c6bce84b3f8399dd542011322eeabf74f600379e2b9830a76804fd", func := "cayley/cayleylaw05.LinearBasis", spec := "linearBasis", unfollowed := true, recurses := true, apart := false }
def LinearBasisSaid : Prop := linearBasisRow.holds Try.pinned (OpenSpec.ofChange linearBasisSpec)

/-- ITS FALSE NEIGHBOUR: 'it returns false'. Refute it at one input. -/
def linearBasisWrong : ChangeSpec := { name := "linearBasis", fn := fun _ => fun
  | [d1, d2, d3, d4, d5] => { results := [.lit (.bool false)], args := [d1, d2, d3, d4, d5] }
  | _ => none }
def LinearBasisWrongFalsely : Prop := linearBasisRow.holds Try.pinned (OpenSpec.ofChange linearBasisWrong)

/-- 'cayleylaw05.LinearSolves': WHATEVER THE INPUT: true; the input reads as it did. -/
def linearSolvesSpec : ChangeSpec := { name := "linearSolves", fn := fun _ => fun
  | [d1, d2, d3, d4] => { results := [.lit (.bool true)], args := [d1, d2, d3, d4] }
  | _ => none }
def linearSolvesRow : OpenClaim := { program := "ytlhebmcnjgagjaa", sum := "9faa242405c6bce84b3f8399dd542011322eeabf74f600379e2b9830a76804fd", func := "cayley/cayleylaw05.LinearSolves", spec := "linearSolves", unfollowed := true, recurses := true, apart := false }
def LinearSolvesSaid : Prop := linearSolvesRow.holds Try.pinned (OpenSpec.ofChange linearSolvesSpec)

/-- ITS FALSE NEIGHBOUR: 'it returns false'. Refute it at one input. -/
def linearSolvesWrong : ChangeSpec := { name := "linearSolves", fn := fun _ => fun
  | [d1, d2, d3, d4] => { results := [.lit (.bool false)], args := [d1, d2, d3, d4] }
  | _ => none }
def LinearSolvesWrongFalsely : Prop := linearSolvesRow.holds Try.pinned (OpenSpec.ofChange linearSolvesWrong)

/-- 'cayleylaw05.LinearSpans': WHATEVER THE INPUT: true; the input reads as it did. -/
def linearSpansSpec : ChangeSpec := { name := "linearSpans", fn := fun _ => fun
  | [d1, d2, d3, d4, d5] => { results := [.lit (.bool true)], args := [d1, d2, d3, d4, d5] }
  | _ => none }
def linearSpansRow : OpenClaim := { program := "ytlhebmcnjgagjaa", sum := "9faa242405c6bce84b3f8399dd542011322eeabf74f600379e2b9830a76804fd", func := "cayley/cayleylaw05.LinearSpans", spec := "linearSpans", unfollowed := true, recurses := true, apart := false }
def LinearSpansSaid : Prop := linearSpansRow.holds Try.pinned (OpenSpec.ofChange linearSpansSpec)

/-- ITS FALSE NEIGHBOUR: 'it returns false'. Refute it at one input. -/
def linearSpansWrong : ChangeSpec := { name := "linearSpans", fn := fun _ => fun
  | [d1, d2, d3, d4, d5] => { results := [.lit (.bool false)], args := [d1, d2, d3, d4, d5] }
  | _ => none }
def LinearSpansWrongFalsely : Prop := linearSpansRow.holds Try.pinned (OpenSpec.ofChange linearSpansWrong)

/-- 'cayleylaw05.LinearMeets': WHATEVER THE INPUT: true; the input reads as it did. -/
def linearMeetsSpec : ChangeSpec := { name := "linearMeets", fn := fun _ => fun
  | [d1, d2, d3, d4, d5] => { results := [.lit (.bool true)], args := [d1, d2, d3, d4, d5] }
  | _ => none }
def linearMeetsRow : OpenClaim := { program := "ytlhebmcnjgagjaa", sum := "9faa242405c6bce84b3f8399dd542011322eeabf74f600379e2b9830a76804fd", func := "cayley/cayleylaw05.LinearMeets", spec := "linearMeets", unfollowed := true, recurses := true, apart := false }
def LinearMeetsSaid : Prop := linearMeetsRow.holds Try.pinned (OpenSpec.ofChange linearMeetsSpec)

/-- ITS FALSE NEIGHBOUR: 'it returns false'. Refute it at one input. -/
def linearMeetsWrong : ChangeSpec := { name := "linearMeets", fn := fun _ => fun
  | [d1, d2, d3, d4, d5] => { results := [.lit (.bool false)], args := [d1, d2, d3, d4, d5] }
  | _ => none }
def LinearMeetsWrongFalsely : Prop := linearMeetsRow.holds Try.pinned (OpenSpec.ofChange linearMeetsWrong)

/-- 'cayleylaw05.LinearEigen': WHATEVER THE INPUT: true; the input reads as it did. -/
def linearEigenSpec : ChangeSpec := { name := "linearEigen", fn := fun _ => fun
  | [d1, d2, d3] => { results := [.lit (.bool true)], args := [d1, d2, d3] }
  | _ => none }
def linearEigenRow : OpenClaim := { program := "ytlhebmcnjgagjaa", sum := "9faa242405c6bce84b3f8399dd542011322eeabf74f600379e2b9830a76804fd", func := "cayley/cayleylaw05.LinearEigen", spec := "linearEigen", unfollowed := true, recurses := true, apart := false }
def LinearEigenSaid : Prop := linearEigenRow.holds Try.pinned (OpenSpec.ofChange linearEigenSpec)

/-- ITS FALSE NEIGHBOUR: 'it returns false'. Refute it at one input. -/
def linearEigenWrong : ChangeSpec := { name := "linearEigen", fn := fun _ => fun
  | [d1, d2, d3] => { results := [.lit (.bool false)], args := [d1, d2, d3] }
  | _ => none }
def LinearEigenWrongFalsely : Prop := linearEigenRow.holds Try.pinned (OpenSpec.ofChange linearEigenWrong)

/-- 'cayleylaw05.LinearMaps': WHATEVER THE INPUT: true; the input reads as it did. -/
def linearMapsSpec : ChangeSpec := { name := "linearMaps", fn := fun _ => fun
  | [d1, d2, d3] => { results := [.lit (.bool true)], args := [d1, d2, d3] }
  | _ => none }
def linearMapsRow : OpenClaim := { program := "ytlhebmcnjgagjaa", sum := "9faa242405c6bce84b3f8399dd542011322eeabf74f600379e2b9830a76804fd", func := "cayley/cayleylaw05.LinearMaps", spec := "linearMaps", unfollowed := true, recurses := true, apart := false }
def LinearMapsSaid : Prop := linearMapsRow.holds Try.pinned (OpenSpec.ofChange linearMapsSpec)

/-- ITS FALSE NEIGHBOUR: 'it returns false'. Refute it at one input. -/
def linearMapsWrong : ChangeSpec := { name := "linearMaps", fn := fun _ => fun
  | [d1, d2, d3] => { results := [.lit (.bool false)], args := [d1, d2, d3] }
  | _ => none }
def LinearMapsWrongFalsely : Prop := linearMapsRow.holds Try.pinned (OpenSpec.ofChange linearMapsWrong)

/-- 'cayleylaw05.LinearNames': WHATEVER THE INPUT: true; the input reads as it did. -/
def linearNamesSpec : ChangeSpec := { name := "linearNames", fn := fun _ => fun
  | [] => { results := [.lit (.bool true)], args := [] }
  | _ => none }
def linearNamesRow : OpenClaim := { program := "ytlhebmcnjgagjaa", sum := "9faa242405c6bce84b3f8399dd542011322eeabf74f600379e2b9830a76804fd", func := "cayley/cayleylaw05.LinearNames", spec := "linearNames", unfollowed := true, recurses := true, apart := false }
def LinearNamesSaid : Prop := linearNamesRow.holds Try.pinned (OpenSpec.ofChange linearNamesSpec)

/-- ITS FALSE NEIGHBOUR: 'it returns false'. Refute it at one input. -/
def linearNamesWrong : ChangeSpec := { name := "linearNames", fn := fun _ => fun
  | [] => { results := [.lit (.bool false)], args := [] }
  | _ => none }
def LinearNamesWrongFalsely : Prop := linearNamesRow.holds Try.pinned (OpenSpec.ofChange linearNamesWrong)

/- THE SECOND FORM. 'bulk': how many values and letters a reading holds, each counted each time it is reached (what is shared counts as often as it is met; a slice's spare places count too). A statement '..UptoSaid' is the law's where the arguments, and the package variables that the reading takes, are together of bulk at most 1048576: NARROWER than '..Said'. Prove '..Said' where nothing that the law and all that it calls make is longer than what came in: it says more and counts as full. Else prove '..UptoSaid'. A law counts once. -/
mutual
def uptoBulk {H : Type} : DataW H → Nat
  | .lit (.string bytes) => bytes.length + 1
  | .lit _ => 1
  | .nil => 1
  | .ptr d => uptoBulk d + 1
  | .slice elems spare => uptoBulkAll elems + uptoBulkAll spare + 1
  | .agg parts => uptoBulkAll parts + 1
  | .iface _ d => uptoBulk d + 1
  | .map entries => uptoBulkEntries entries + 1
  | .held _ => 1
def uptoBulkAll {H : Type} : List (DataW H) → Nat
  | [] => 0
  | d :: r => uptoBulk d + uptoBulkAll r
def uptoBulkEntries {H : Type} : List (Lit × DataW H) → Nat
  | [] => 0
  | x :: r => uptoBulkEntry x + uptoBulkEntries r
def uptoBulkEntry {H : Type} : Lit × DataW H → Nat
  | (.string bytes, d) => bytes.length + uptoBulk d + 1
  | (_, d) => uptoBulk d + 1
 end
def uptoSmall : (H : Type) → List (DataW H) → Bool := fun _ ds => decide (uptoBulkAll ds ≤ 1048576)
def OpenSpec.upto (s : _root_.Go.ChangeSpec) : _root_.Go.OpenSpec := { _root_.Go.OpenSpec.ofChange s with cond := some uptoSmall }

/-- 'cayleylaw05.LinearBasis', WHERE WHAT IT READS IS OF BULK AT MOST 1048576: true; the input reads as it did. -/
def linearBasisUptoRow : OpenClaim := { program := "ytlhebmcnjgagjaa", sum := "9faa242405c6bce84b3f8399dd542011322eeabf74f600379e2b9830a76804fd", func := "cayley/cayleylaw05.LinearBasis", spec := "linearBasis", unfollowed := true, recurses := true, apart := false, narrowed := true }
def LinearBasisUptoSaid : Prop := linearBasisUptoRow.holds Try.pinned (OpenSpec.upto linearBasisSpec)

/-- 'cayleylaw05.LinearSolves', WHERE WHAT IT READS IS OF BULK AT MOST 1048576: true; the input reads as it did. -/
def linearSolvesUptoRow : OpenClaim := { program := "ytlhebmcnjgagjaa", sum := "9faa242405c6bce84b3f8399dd542011322eeabf74f600379e2b9830a76804fd", func := "cayley/cayleylaw05.LinearSolves", spec := "linearSolves", unfollowed := true, recurses := true, apart := false, narrowed := true }
def LinearSolvesUptoSaid : Prop := linearSolvesUptoRow.holds Try.pinned (OpenSpec.upto linearSolvesSpec)

/-- 'cayleylaw05.LinearSpans', WHERE WHAT IT READS IS OF BULK AT MOST 1048576: true; the input reads as it did. -/
def linearSpansUptoRow : OpenClaim := { program := "ytlhebmcnjgagjaa", sum := "9faa242405c6bce84b3f8399dd542011322eeabf74f600379e2b9830a76804fd", func := "cayley/cayleylaw05.LinearSpans", spec := "linearSpans", unfollowed := true, recurses := true, apart := false, narrowed := true }
def LinearSpansUptoSaid : Prop := linearSpansUptoRow.holds Try.pinned (OpenSpec.upto linearSpansSpec)

/-- 'cayleylaw05.LinearMeets', WHERE WHAT IT READS IS OF BULK AT MOST 1048576: true; the input reads as it did. -/
def linearMeetsUptoRow : OpenClaim := { program := "ytlhebmcnjgagjaa", sum := "9faa242405c6bce84b3f8399dd542011322eeabf74f600379e2b9830a76804fd", func := "cayley/cayleylaw05.LinearMeets", spec := "linearMeets", unfollowed := true, recurses := true, apart := false, narrowed := true }
def LinearMeetsUptoSaid : Prop := linearMeetsUptoRow.holds Try.pinned (OpenSpec.upto linearMeetsSpec)

/-- 'cayleylaw05.LinearEigen', WHERE WHAT IT READS IS OF BULK AT MOST 1048576: true; the input reads as it did. -/
def linearEigenUptoRow : OpenClaim := { program := "ytlhebmcnjgagjaa", sum := "9faa242405c6bce84b3f8399dd542011322eeabf74f600379e2b9830a76804fd", func := "cayley/cayleylaw05.LinearEigen", spec := "linearEigen", unfollowed := true, recurses := true, apart := false, narrowed := true }
def LinearEigenUptoSaid : Prop := linearEigenUptoRow.holds Try.pinned (OpenSpec.upto linearEigenSpec)

/-- 'cayleylaw05.LinearMaps', WHERE WHAT IT READS IS OF BULK AT MOST 1048576: true; the input reads as it did. -/
def linearMapsUptoRow : OpenClaim := { program := "ytlhebmcnjgagjaa", sum := "9faa242405c6bce84b3f8399dd542011322eeabf74f600379e2b9830a76804fd", func := "cayley/cayleylaw05.LinearMaps", spec := "linearMaps", unfollowed := true, recurses := true, apart := false, narrowed := true }
def LinearMapsUptoSaid : Prop := linearMapsUptoRow.holds Try.pinned (OpenSpec.upto linearMapsSpec)

/-- 'cayleylaw05.LinearNames', WHERE WHAT IT READS IS OF BULK AT MOST 1048576: true; the input reads as it did. -/
def linearNamesUptoRow : OpenClaim := { program := "ytlhebmcnjgagjaa", sum := "9faa242405c6bce84b3f8399dd542011322eeabf74f600379e2b9830a76804fd", func := "cayley/cayleylaw05.LinearNames", spec := "linearNames", unfollowed := true, recurses := true, apart := false, narrowed := true }
def LinearNamesUptoSaid : Prop := linearNamesUptoRow.holds Try.pinned (OpenSpec.upto linearNamesSpec)

end Rows
end Go.Proofs.Ytlhebmcnjgagjaa
