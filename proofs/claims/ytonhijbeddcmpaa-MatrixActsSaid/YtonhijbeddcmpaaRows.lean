/-
  No cell of these rows narrows 'for every input' (looked for: loops, veiled, ifaces, maps, wideKeys, modest, calm, conditions, laid).
  DERIVED. THE GIVEN ROWS OF THIS SEAT. 8 by the template 'for every input the law returns true; each argument reads behind the call as it read before'; 0 by the template 'total and deterministic' (their statements: YtonhijbeddcmpaaTotals.lean).
  GIVEN WITH THE SEED: the statements are not yours to turn. If you find one false, say at which input.
  Laid BY PROGRAM, IN A SANDBOX (cutbox-rows.mjs): the forced cells as the released guide's own fill.sh prints them over the translation 35839f61f78e6e0e… (all of the seat's roots in one cut). By AI agents, Wed Nov 11 2026. No macro, syntax, notation, axiom, sorry.
-/
import Derived.Test.YtonhijbeddcmpaaChecked
import GoSem.Claim
import GoSem.ClaimJoined
import GoSem.ClaimMapViews
import Derived.JoinedTies
import Derived.KernelRfl
namespace Go.Proofs.Ytonhijbeddcmpaa
/- THE CELL 'sum', in the pinned program and in every row, IS THE sha256 OF THE DUMP (.gsa) THAT YtonhijbeddcmpaaProg.lean LOADS. Nothing in Lean hashes anything: it is a label: what it is worth is what the hold of that sum in a sandbox is worth. -/
noncomputable def Try.pinned : Pinned := { name := "ytonhijbeddcmpaa", sum := "35839f61f78e6e0e32c7044eb04ccb6681eed6e3b33fedf30b3168573cdf5bd8", checked := Try.checked }
namespace Rows
def none {H : Type} : Left H := { results := [], args := [] }

/-- 'cayleylaw04.MatrixOrders': WHATEVER THE INPUT: true; the input reads as it did. -/
def matrixOrdersSpec : ChangeSpec := { name := "matrixOrders", fn := fun _ => fun
  | [d] => { results := [.lit (.bool true)], args := [d] }
  | _ => none }
def matrixOrdersRow : OpenClaim := { program := "ytonhijbeddcmpaa", sum := "35839f61f78e6e0e32c7044eb04ccb6681eed6e3b33fedf30b3168573cdf5bd8", func := "cayley/cayleylaw04.MatrixOrders", spec := "matrixOrders", unfollowed := true, recurses := true, apart := false }
def MatrixOrdersSaid : Prop := matrixOrdersRow.holds Try.pinned (OpenSpec.ofChange matrixOrdersSpec)

/-- ITS FALSE NEIGHBOUR: 'it returns false'. Refute it at one input. -/
def matrixOrdersWrong : ChangeSpec := { name := "matrixOrders", fn := fun _ => fun
  | [d] => { results := [.lit (.bool false)], args := [d] }
  | _ => none }
def MatrixOrdersWrongFalsely : Prop := matrixOrdersRow.holds Try.pinned (OpenSpec.ofChange matrixOrdersWrong)

/-- 'cayleylaw04.MatrixActs': WHATEVER THE INPUT: true; the input reads as it did. -/
def matrixActsSpec : ChangeSpec := { name := "matrixActs", fn := fun _ => fun
  | [d1, d2] => { results := [.lit (.bool true)], args := [d1, d2] }
  | _ => none }
def matrixActsRow : OpenClaim := { program := "ytonhijbeddcmpaa", sum := "35839f61f78e6e0e32c7044eb04ccb6681eed6e3b33fedf30b3168573cdf5bd8", func := "cayley/cayleylaw04.MatrixActs", spec := "matrixActs", unfollowed := true, recurses := true, apart := false }
def MatrixActsSaid : Prop := matrixActsRow.holds Try.pinned (OpenSpec.ofChange matrixActsSpec)

/-- ITS FALSE NEIGHBOUR: 'it returns false'. Refute it at one input. -/
def matrixActsWrong : ChangeSpec := { name := "matrixActs", fn := fun _ => fun
  | [d1, d2] => { results := [.lit (.bool false)], args := [d1, d2] }
  | _ => none }
def MatrixActsWrongFalsely : Prop := matrixActsRow.holds Try.pinned (OpenSpec.ofChange matrixActsWrong)

/-- 'cayleylaw04.MatrixInverse': WHATEVER THE INPUT: true; the input reads as it did. -/
def matrixInverseSpec : ChangeSpec := { name := "matrixInverse", fn := fun _ => fun
  | [d1, d2, d3, d4, d5] => { results := [.lit (.bool true)], args := [d1, d2, d3, d4, d5] }
  | _ => none }
def matrixInverseRow : OpenClaim := { program := "ytonhijbeddcmpaa", sum := "35839f61f78e6e0e32c7044eb04ccb6681eed6e3b33fedf30b3168573cdf5bd8", func := "cayley/cayleylaw04.MatrixInverse", spec := "matrixInverse", unfollowed := true, recurses := true, apart := false }
def MatrixInverseSaid : Prop := matrixInverseRow.holds Try.pinned (OpenSpec.ofChange matrixInverseSpec)

/-- ITS FALSE NEIGHBOUR: 'it returns false'. Refute it at one input. -/
def matrixInverseWrong : ChangeSpec := { name := "matrixInverse", fn := fun _ => fun
  | [d1, d2, d3, d4, d5] => { results := [.lit (.bool false)], args := [d1, d2, d3, d4, d5] }
  | _ => none }
def MatrixInverseWrongFalsely : Prop := matrixInverseRow.holds Try.pinned (OpenSpec.ofChange matrixInverseWrong)

/-- 'cayleylaw04.MatrixRing': WHATEVER THE INPUT: true; the input reads as it did. -/
def matrixRingSpec : ChangeSpec := { name := "matrixRing", fn := fun _ => fun
  | [d1, d2, d3, d4] => { results := [.lit (.bool true)], args := [d1, d2, d3, d4] }
  | _ => none }
def matrixRingRow : OpenClaim := { program := "ytonhijbeddcmpaa", sum := "35839f61f78e6e0e32c7044eb04ccb6681eed6e3b33fedf30b3168573cdf5bd8", func := "cayley/cayleylaw04.MatrixRing", spec := "matrixRing", unfollowed := true, recurses := true, apart := false }
def MatrixRingSaid : Prop := matrixRingRow.holds Try.pinned (OpenSpec.ofChange matrixRingSpec)

/-- ITS FALSE NEIGHBOUR: 'it returns false'. Refute it at one input. -/
def matrixRingWrong : ChangeSpec := { name := "matrixRing", fn := fun _ => fun
  | [d1, d2, d3, d4] => { results := [.lit (.bool false)], args := [d1, d2, d3, d4] }
  | _ => none }
def MatrixRingWrongFalsely : Prop := matrixRingRow.holds Try.pinned (OpenSpec.ofChange matrixRingWrong)

/-- 'cayleylaw04.MatrixCalls': WHATEVER THE INPUT: true; the input reads as it did. -/
def matrixCallsSpec : ChangeSpec := { name := "matrixCalls", fn := fun _ => fun
  | [d1, d2, d3, d4, d5] => { results := [.lit (.bool true)], args := [d1, d2, d3, d4, d5] }
  | _ => none }
def matrixCallsRow : OpenClaim := { program := "ytonhijbeddcmpaa", sum := "35839f61f78e6e0e32c7044eb04ccb6681eed6e3b33fedf30b3168573cdf5bd8", func := "cayley/cayleylaw04.MatrixCalls", spec := "matrixCalls", unfollowed := true, recurses := true, apart := false }
def MatrixCallsSaid : Prop := matrixCallsRow.holds Try.pinned (OpenSpec.ofChange matrixCallsSpec)

/-- ITS FALSE NEIGHBOUR: 'it returns false'. Refute it at one input. -/
def matrixCallsWrong : ChangeSpec := { name := "matrixCalls", fn := fun _ => fun
  | [d1, d2, d3, d4, d5] => { results := [.lit (.bool false)], args := [d1, d2, d3, d4, d5] }
  | _ => none }
def MatrixCallsWrongFalsely : Prop := matrixCallsRow.holds Try.pinned (OpenSpec.ofChange matrixCallsWrong)

/-- 'cayleylaw04.MatrixPoly': WHATEVER THE INPUT: true; the input reads as it did. -/
def matrixPolySpec : ChangeSpec := { name := "matrixPoly", fn := fun _ => fun
  | [d1, d2, d3] => { results := [.lit (.bool true)], args := [d1, d2, d3] }
  | _ => none }
def matrixPolyRow : OpenClaim := { program := "ytonhijbeddcmpaa", sum := "35839f61f78e6e0e32c7044eb04ccb6681eed6e3b33fedf30b3168573cdf5bd8", func := "cayley/cayleylaw04.MatrixPoly", spec := "matrixPoly", unfollowed := true, recurses := true, apart := false }
def MatrixPolySaid : Prop := matrixPolyRow.holds Try.pinned (OpenSpec.ofChange matrixPolySpec)

/-- ITS FALSE NEIGHBOUR: 'it returns false'. Refute it at one input. -/
def matrixPolyWrong : ChangeSpec := { name := "matrixPoly", fn := fun _ => fun
  | [d1, d2, d3] => { results := [.lit (.bool false)], args := [d1, d2, d3] }
  | _ => none }
def MatrixPolyWrongFalsely : Prop := matrixPolyRow.holds Try.pinned (OpenSpec.ofChange matrixPolyWrong)

/-- 'cayleylaw04.MatrixValues': WHATEVER THE INPUT: true; the input reads as it did. -/
def matrixValuesSpec : ChangeSpec := { name := "matrixValues", fn := fun _ => fun
  | [d1, d2] => { results := [.lit (.bool true)], args := [d1, d2] }
  | _ => none }
def matrixValuesRow : OpenClaim := { program := "ytonhijbeddcmpaa", sum := "35839f61f78e6e0e32c7044eb04ccb6681eed6e3b33fedf30b3168573cdf5bd8", func := "cayley/cayleylaw04.MatrixValues", spec := "matrixValues", unfollowed := true, recurses := true, apart := false }
def MatrixValuesSaid : Prop := matrixValuesRow.holds Try.pinned (OpenSpec.ofChange matrixValuesSpec)

/-- ITS FALSE NEIGHBOUR: 'it returns false'. Refute it at one input. -/
def matrixValuesWrong : ChangeSpec := { name := "matrixValues", fn := fun _ => fun
  | [d1, d2] => { results := [.lit (.bool false)], args := [d1, d2] }
  | _ => none }
def MatrixValuesWrongFalsely : Prop := matrixValuesRow.holds Try.pinned (OpenSpec.ofChange matrixValuesWrong)

/-- 'cayleylaw04.MatrixNames': WHATEVER THE INPUT: true; the input reads as it did. -/
def matrixNamesSpec : ChangeSpec := { name := "matrixNames", fn := fun _ => fun
  | [] => { results := [.lit (.bool true)], args := [] }
  | _ => none }
def matrixNamesRow : OpenClaim := { program := "ytonhijbeddcmpaa", sum := "35839f61f78e6e0e32c7044eb04ccb6681eed6e3b33fedf30b3168573cdf5bd8", func := "cayley/cayleylaw04.MatrixNames", spec := "matrixNames", unfollowed := true, recurses := true, apart := false }
def MatrixNamesSaid : Prop := matrixNamesRow.holds Try.pinned (OpenSpec.ofChange matrixNamesSpec)

/-- ITS FALSE NEIGHBOUR: 'it returns false'. Refute it at one input. -/
def matrixNamesWrong : ChangeSpec := { name := "matrixNames", fn := fun _ => fun
  | [] => { results := [.lit (.bool false)], args := [] }
  | _ => none }
def MatrixNamesWrongFalsely : Prop := matrixNamesRow.holds Try.pinned (OpenSpec.ofChange matrixNamesWrong)

/- THE SECOND FORM. 'bulk': how many values and letters a reading holds, each counted each time it is reached (what is shared counts as often as it is met; a slice's spare places count too). A statement '..UptoSaid' is the law's where the arguments, and the package variables that the reading takes, are together of bulk at most 1048576: NARROWER than '..Said'. Prove '..Said' where nothing that the law and all that it calls make is longer than what came in: it says more and counts as full. Else prove '..UptoSaid'. A law counts once. -/
mutual
def uptoBulk {H : Type} : DataW H → Nat
  | .lit (.string bytes) => bytes.length + 1
  | .lit _ => 1
  | .nil => 1
  | .ptr d => uptoBulk d + 1
  | .slice elems spare => uptoBulkAll elems + uptoBulkAll spare + 1
  | .agg parts => uptoBulkAll parts + 1
  | .iface _ d => uptoBulk d + 1
  | .map entries => uptoBulkEntries entries + 1
  | .held _ => 1
def uptoBulkAll {H : Type} : List (DataW H) → Nat
  | [] => 0
  | d :: r => uptoBulk d + uptoBulkAll r
def uptoBulkEntries {H : Type} : List (Lit × DataW H) → Nat
  | [] => 0
  | x :: r => uptoBulkEntry x + uptoBulkEntries r
def uptoBulkEntry {H : Type} : Lit × DataW H → Nat
  | (.string bytes, d) => bytes.length + uptoBulk d + 1
  | (_, d) => uptoBulk d + 1
 end
def uptoSmall : (H : Type) → List (DataW H) → Bool := fun _ ds => decide (uptoBulkAll ds ≤ 1048576)
def OpenSpec.upto (s : _root_.Go.ChangeSpec) : _root_.Go.OpenSpec := { _root_.Go.OpenSpec.ofChange s with cond := some uptoSmall }

/-- 'cayleylaw04.MatrixOrders', WHERE WHAT IT READS IS OF BULK AT MOST 1048576: true; the input reads as it did. -/
def matrixOrdersUptoRow : OpenClaim := { program := "ytonhijbeddcmpaa", sum := "35839f61f78e6e0e32c7044eb04ccb6681eed6e3b33fedf30b3168573cdf5bd8", func := "cayley/cayleylaw04.MatrixOrders", spec := "matrixOrders", unfollowed := true, recurses := true, apart := false, narrowed := true }
def MatrixOrdersUptoSaid : Prop := matrixOrdersUptoRow.holds Try.pinned (OpenSpec.upto matrixOrdersSpec)

/-- 'cayleylaw04.MatrixActs', WHERE WHAT IT READS IS OF BULK AT MOST 1048576: true; the input reads as it did. -/
def matrixActsUptoRow : OpenClaim := { program := "ytonhijbeddcmpaa", sum := "35839f61f78e6e0e32c7044eb04ccb6681eed6e3b33fedf30b3168573cdf5bd8", func := "cayley/cayleylaw04.MatrixActs", spec := "matrixActs", unfollowed := true, recurses := true, apart := false, narrowed := true }
def MatrixActsUptoSaid : Prop := matrixActsUptoRow.holds Try.pinned (OpenSpec.upto matrixActsSpec)

/-- 'cayleylaw04.MatrixInverse', WHERE WHAT IT READS IS OF BULK AT MOST 1048576: true; the input reads as it did. -/
def matrixInverseUptoRow : OpenClaim := { program := "ytonhijbeddcmpaa", sum := "35839f61f78e6e0e32c7044eb04ccb6681eed6e3b33fedf30b3168573cdf5bd8", func := "cayley/cayleylaw04.MatrixInverse", spec := "matrixInverse", unfollowed := true, recurses := true, apart := false, narrowed := true }
def MatrixInverseUptoSaid : Prop := matrixInverseUptoRow.holds Try.pinned (OpenSpec.upto matrixInverseSpec)

/-- 'cayleylaw04.MatrixRing', WHERE WHAT IT READS IS OF BULK AT MOST 1048576: true; the input reads as it did. -/
def matrixRingUptoRow : OpenClaim := { program := "ytonhijbeddcmpaa", sum := "35839f61f78e6e0e32c7044eb04ccb6681eed6e3b33fedf30b3168573cdf5bd8", func := "cayley/cayleylaw04.MatrixRing", spec := "matrixRing", unfollowed := true, recurses := true, apart := false, narrowed := true }
def MatrixRingUptoSaid : Prop := matrixRingUptoRow.holds Try.pinned (OpenSpec.upto matrixRingSpec)

/-- 'cayleylaw04.MatrixCalls', WHERE WHAT IT READS IS OF BULK AT MOST 1048576: true; the input reads as it did. -/
def matrixCallsUptoRow : OpenClaim := { program := "ytonhijbeddcmpaa", sum := "35839f61f78e6e0e32c7044eb04ccb6681eed6e3b33fedf30b3168573cdf5bd8", func := "cayley/cayleylaw04.MatrixCalls", spec := "matrixCalls", unfollowed := true, recurses := true, apart := false, narrowed := true }
def MatrixCallsUptoSaid : Prop := matrixCallsUptoRow.holds Try.pinned (OpenSpec.upto matrixCallsSpec)

/-- 'cayleylaw04.MatrixPoly', WHERE WHAT IT READS IS OF BULK AT MOST 1048576: true; the input reads as it did. -/
def matrixPolyUptoRow : OpenClaim := { program := "ytonhijbeddcmpaa", sum := "35839f61f78e6e0e32c7044eb04ccb6681eed6e3b33fedf30b3168573cdf5bd8", func := "cayley/cayleylaw04.MatrixPoly", spec := "matrixPoly", unfollowed := true, recurses := true, apart := false, narrowed := true }
def MatrixPolyUptoSaid : Prop := matrixPolyUptoRow.holds Try.pinned (OpenSpec.upto matrixPolySpec)

/-- 'cayleylaw04.MatrixValues', WHERE WHAT IT READS IS OF BULK AT MOST 1048576: true; the input reads as it did. -/
def matrixValuesUptoRow : OpenClaim := { program := "ytonhijbeddcmpaa", sum := "35839f61f78e6e0e32c7044eb04ccb6681eed6e3b33fedf30b3168573cdf5bd8", func := "cayley/cayleylaw04.MatrixValues", spec := "matrixValues", unfollowed := true, recurses := true, apart := false, narrowed := true }
def MatrixValuesUptoSaid : Prop := matrixValuesUptoRow.holds Try.pinned (OpenSpec.upto matrixValuesSpec)

/-- 'cayleylaw04.MatrixNames', WHERE WHAT IT READS IS OF BULK AT MOST 1048576: true; the input reads as it did. -/
def matrixNamesUptoRow : OpenClaim := { program := "ytonhijbeddcmpaa", sum := "35839f61f78e6e0e32c7044eb04ccb6681eed6e3b33fedf30b3168573cdf5bd8", func := "cayley/cayleylaw04.MatrixNames", spec := "matrixNames", unfollowed := true, recurses := true, apart := false, narrowed := true }
def MatrixNamesUptoSaid : Prop := matrixNamesUptoRow.holds Try.pinned (OpenSpec.upto matrixNamesSpec)

end Rows
end Go.Proofs.Ytonhijbeddcmpaa
