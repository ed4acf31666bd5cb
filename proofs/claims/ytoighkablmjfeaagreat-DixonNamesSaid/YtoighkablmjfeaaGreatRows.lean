/-
  No cell of these rows narrows 'for every input' (looked for: loops, veiled, ifaces, maps, wideKeys, modest, calm, conditions, laid).
  DERIVED. THE GIVEN ROWS OF THIS SEAT. 6 by the template 'for every input the law returns true; each argument reads behind the call as it read before'; 0 by the template 'total and deterministic' (their statements: YtoighkablmjfeaaGreatTotals.lean).
  GIVEN WITH THE SEED: the statements are not yours to turn. If you find one false, say at which input.
  Laid BY PROGRAM, IN A SANDBOX (cutbox-rows.mjs): the forced cells as the released guide's own fill.sh prints them over the translation d771d9477f2e3867… (all of the seat's roots in one cut). By AI agents, Wed Nov 11 2026. No macro, syntax, notation, axiom, sorry.
-/
import Derived.Test.YtoighkablmjfeaaGreatChecked
import GoSem.Claim
import GoSem.ClaimJoined
import GoSem.ClaimMapViews
import Derived.JoinedTies
import Derived.KernelRfl
namespace Go.Proofs.YtoighkablmjfeaaGreat
/- THE CELL 'sum', in the pinned program and in every row, IS THE sha256 OF THE DUMP (.gsa) THAT YtoighkablmjfeaaGreatProg.lean LOADS. Nothing in Lean hashes anything: it is a label: what it is worth is what the hold of that sum in a sandbox is worth. -/
noncomputable def Tryz.pinned : Pinned := { name := "ytoighkablmjfeaagreat", sum := "d771d9477f2e3867e31f3c139138e48edc56eebc3331c4eee1e4b0806d59ba3f", checked := Tryz.checked }
namespace Rows
def none {H : Type} : Left H := { results := [], args := [] }

/-- 'cayleylaw28.DixonOrthogonal': WHATEVER THE INPUT: true; the input reads as it did. -/
def dixonOrthogonalSpec : ChangeSpec := { name := "dixonOrthogonal", fn := fun _ => fun
  | [d] => { results := [.lit (.bool true)], args := [d] }
  | _ => none }
def dixonOrthogonalRow : OpenClaim := { program := "ytoighkablmjfeaagreat", sum := "d771d9477f2e3867e31f3c139138e48edc56eebc3331c4eee1e4b0806d59ba3f", func := "cayley/cayleylaw28.DixonOrthogonal", spec := "dixonOrthogonal", unfollowed := true, recurses := true, plainKeys := false, apart := false }
def DixonOrthogonalSaid : Prop := dixonOrthogonalRow.holds Tryz.pinned (OpenSpec.ofChange dixonOrthogonalSpec)

/-- ITS FALSE NEIGHBOUR: 'it returns false'. Refute it at one input. -/
def dixonOrthogonalWrong : ChangeSpec := { name := "dixonOrthogonal", fn := fun _ => fun
  | [d] => { results := [.lit (.bool false)], args := [d] }
  | _ => none }
def DixonOrthogonalWrongFalsely : Prop := dixonOrthogonalRow.holds Tryz.pinned (OpenSpec.ofChange dixonOrthogonalWrong)

/-- 'cayleylaw28.DixonPrimes': WHATEVER THE INPUT: true; the input reads as it did. -/
def dixonPrimesSpec : ChangeSpec := { name := "dixonPrimes", fn := fun _ => fun
  | [d] => { results := [.lit (.bool true)], args := [d] }
  | _ => none }
def dixonPrimesRow : OpenClaim := { program := "ytoighkablmjfeaagreat", sum := "d771d9477f2e3867e31f3c139138e48edc56eebc3331c4eee1e4b0806d59ba3f", func := "cayley/cayleylaw28.DixonPrimes", spec := "dixonPrimes", unfollowed := true, recurses := true, plainKeys := false, apart := false }
def DixonPrimesSaid : Prop := dixonPrimesRow.holds Tryz.pinned (OpenSpec.ofChange dixonPrimesSpec)

/-- ITS FALSE NEIGHBOUR: 'it returns false'. Refute it at one input. -/
def dixonPrimesWrong : ChangeSpec := { name := "dixonPrimes", fn := fun _ => fun
  | [d] => { results := [.lit (.bool false)], args := [d] }
  | _ => none }
def DixonPrimesWrongFalsely : Prop := dixonPrimesRow.holds Tryz.pinned (OpenSpec.ofChange dixonPrimesWrong)

/-- 'cayleylaw28.DixonCentral': WHATEVER THE INPUT: true; the input reads as it did. -/
def dixonCentralSpec : ChangeSpec := { name := "dixonCentral", fn := fun _ => fun
  | [d1, d2] => { results := [.lit (.bool true)], args := [d1, d2] }
  | _ => none }
def dixonCentralRow : OpenClaim := { program := "ytoighkablmjfeaagreat", sum := "d771d9477f2e3867e31f3c139138e48edc56eebc3331c4eee1e4b0806d59ba3f", func := "cayley/cayleylaw28.DixonCentral", spec := "dixonCentral", unfollowed := true, recurses := true, plainKeys := false, apart := false }
def DixonCentralSaid : Prop := dixonCentralRow.holds Tryz.pinned (OpenSpec.ofChange dixonCentralSpec)

/-- ITS FALSE NEIGHBOUR: 'it returns false'. Refute it at one input. -/
def dixonCentralWrong : ChangeSpec := { name := "dixonCentral", fn := fun _ => fun
  | [d1, d2] => { results := [.lit (.bool false)], args := [d1, d2] }
  | _ => none }
def DixonCentralWrongFalsely : Prop := dixonCentralRow.holds Tryz.pinned (OpenSpec.ofChange dixonCentralWrong)

/-- 'cayleylaw28.DixonDegrees': WHATEVER THE INPUT: true; the input reads as it did. -/
def dixonDegreesSpec : ChangeSpec := { name := "dixonDegrees", fn := fun _ => fun
  | [d] => { results := [.lit (.bool true)], args := [d] }
  | _ => none }
def dixonDegreesRow : OpenClaim := { program := "ytoighkablmjfeaagreat", sum := "d771d9477f2e3867e31f3c139138e48edc56eebc3331c4eee1e4b0806d59ba3f", func := "cayley/cayleylaw28.DixonDegrees", spec := "dixonDegrees", unfollowed := true, recurses := true, plainKeys := false, apart := false }
def DixonDegreesSaid : Prop := dixonDegreesRow.holds Tryz.pinned (OpenSpec.ofChange dixonDegreesSpec)

/-- ITS FALSE NEIGHBOUR: 'it returns false'. Refute it at one input. -/
def dixonDegreesWrong : ChangeSpec := { name := "dixonDegrees", fn := fun _ => fun
  | [d] => { results := [.lit (.bool false)], args := [d] }
  | _ => none }
def DixonDegreesWrongFalsely : Prop := dixonDegreesRow.holds Tryz.pinned (OpenSpec.ofChange dixonDegreesWrong)

/-- 'cayleylaw28.DixonNames': WHATEVER THE INPUT: true; the input reads as it did. -/
def dixonNamesSpec : ChangeSpec := { name := "dixonNames", fn := fun _ => fun
  | [] => { results := [.lit (.bool true)], args := [] }
  | _ => none }
def dixonNamesRow : OpenClaim := { program := "ytoighkablmjfeaagreat", sum := "d771d9477f2e3867e31f3c139138e48edc56eebc3331c4eee1e4b0806d59ba3f", func := "cayley/cayleylaw28.DixonNames", spec := "dixonNames", unfollowed := true, recurses := true, plainKeys := false, apart := false }
def DixonNamesSaid : Prop := dixonNamesRow.holds Tryz.pinned (OpenSpec.ofChange dixonNamesSpec)

/-- ITS FALSE NEIGHBOUR: 'it returns false'. Refute it at one input. -/
def dixonNamesWrong : ChangeSpec := { name := "dixonNames", fn := fun _ => fun
  | [] => { results := [.lit (.bool false)], args := [] }
  | _ => none }
def DixonNamesWrongFalsely : Prop := dixonNamesRow.holds Tryz.pinned (OpenSpec.ofChange dixonNamesWrong)

/-- 'cayleylaw28.DixonMatches': WHATEVER THE INPUT: true; the input reads as it did. -/
def dixonMatchesSpec : ChangeSpec := { name := "dixonMatches", fn := fun _ => fun
  | [d1, d2, d3] => { results := [.lit (.bool true)], args := [d1, d2, d3] }
  | _ => none }
def dixonMatchesRow : OpenClaim := { program := "ytoighkablmjfeaagreat", sum := "d771d9477f2e3867e31f3c139138e48edc56eebc3331c4eee1e4b0806d59ba3f", func := "cayley/cayleylaw28.DixonMatches", spec := "dixonMatches", unfollowed := true, recurses := true, plainKeys := false, apart := false }
def DixonMatchesSaid : Prop := dixonMatchesRow.holds Tryz.pinned (OpenSpec.ofChange dixonMatchesSpec)

/-- ITS FALSE NEIGHBOUR: 'it returns false'. Refute it at one input. -/
def dixonMatchesWrong : ChangeSpec := { name := "dixonMatches", fn := fun _ => fun
  | [d1, d2, d3] => { results := [.lit (.bool false)], args := [d1, d2, d3] }
  | _ => none }
def DixonMatchesWrongFalsely : Prop := dixonMatchesRow.holds Tryz.pinned (OpenSpec.ofChange dixonMatchesWrong)

/- THE SECOND FORM. 'bulk': how many values and letters a reading holds, each counted each time it is reached (what is shared counts as often as it is met; a slice's spare places count too). A statement '..UptoSaid' is the law's where the arguments, and the package variables that the reading takes, are together of bulk at most 1048576: NARROWER than '..Said'. Prove '..Said' where nothing that the law and all that it calls make is longer than what came in: it says more and counts as full. Else prove '..UptoSaid'. A law counts once. -/
mutual
def uptoBulk {H : Type} : DataW H → Nat
  | .lit (.string bytes) => bytes.length + 1
  | .lit _ => 1
  | .nil => 1
  | .ptr d => uptoBulk d + 1
  | .slice elems spare => uptoBulkAll elems + uptoBulkAll spare + 1
  | .agg parts => uptoBulkAll parts + 1
  | .iface _ d => uptoBulk d + 1
  | .map entries => uptoBulkEntries entries + 1
  | .held _ => 1
def uptoBulkAll {H : Type} : List (DataW H) → Nat
  | [] => 0
  | d :: r => uptoBulk d + uptoBulkAll r
def uptoBulkEntries {H : Type} : List (Lit × DataW H) → Nat
  | [] => 0
  | x :: r => uptoBulkEntry x + uptoBulkEntries r
def uptoBulkEntry {H : Type} : Lit × DataW H → Nat
  | (.string bytes, d) => bytes.length + uptoBulk d + 1
  | (_, d) => uptoBulk d + 1
 end
def uptoSmall : (H : Type) → List (DataW H) → Bool := fun _ ds => decide (uptoBulkAll ds ≤ 1048576)
def OpenSpec.upto (s : _root_.Go.ChangeSpec) : _root_.Go.OpenSpec := { _root_.Go.OpenSpec.ofChange s with cond := some uptoSmall }

/-- 'cayleylaw28.DixonOrthogonal', WHERE WHAT IT READS IS OF BULK AT MOST 1048576: true; the input reads as it did. -/
def dixonOrthogonalUptoRow : OpenClaim := { program := "ytoighkablmjfeaagreat", sum := "d771d9477f2e3867e31f3c139138e48edc56eebc3331c4eee1e4b0806d59ba3f", func := "cayley/cayleylaw28.DixonOrthogonal", spec := "dixonOrthogonal", unfollowed := true, recurses := true, plainKeys := false, apart := false, narrowed := true }
def DixonOrthogonalUptoSaid : Prop := dixonOrthogonalUptoRow.holds Tryz.pinned (OpenSpec.upto dixonOrthogonalSpec)

/-- 'cayleylaw28.DixonPrimes', WHERE WHAT IT READS IS OF BULK AT MOST 1048576: true; the input reads as it did. -/
def dixonPrimesUptoRow : OpenClaim := { program := "ytoighkablmjfeaagreat", sum := "d771d9477f2e3867e31f3c139138e48edc56eebc3331c4eee1e4b0806d59ba3f", func := "cayley/cayleylaw28.DixonPrimes", spec := "dixonPrimes", unfollowed := true, recurses := true, plainKeys := false, apart := false, narrowed := true }
def DixonPrimesUptoSaid : Prop := dixonPrimesUptoRow.holds Tryz.pinned (OpenSpec.upto dixonPrimesSpec)

/-- 'cayleylaw28.DixonCentral', WHERE WHAT IT READS IS OF BULK AT MOST 1048576: true; the input reads as it did. -/
def dixonCentralUptoRow : OpenClaim := { program := "ytoighkablmjfeaagreat", sum := "d771d9477f2e3867e31f3c139138e48edc56eebc3331c4eee1e4b0806d59ba3f", func := "cayley/cayleylaw28.DixonCentral", spec := "dixonCentral", unfollowed := true, recurses := true, plainKeys := false, apart := false, narrowed := true }
def DixonCentralUptoSaid : Prop := dixonCentralUptoRow.holds Tryz.pinned (OpenSpec.upto dixonCentralSpec)

/-- 'cayleylaw28.DixonDegrees', WHERE WHAT IT READS IS OF BULK AT MOST 1048576: true; the input reads as it did. -/
def dixonDegreesUptoRow : OpenClaim := { program := "ytoighkablmjfeaagreat", sum := "d771d9477f2e3867e31f3c139138e48edc56eebc3331c4eee1e4b0806d59ba3f", func := "cayley/cayleylaw28.DixonDegrees", spec := "dixonDegrees", unfollowed := true, recurses := true, plainKeys := false, apart := false, narrowed := true }
def DixonDegreesUptoSaid : Prop := dixonDegreesUptoRow.holds Tryz.pinned (OpenSpec.upto dixonDegreesSpec)

/-- 'cayleylaw28.DixonNames', WHERE WHAT IT READS IS OF BULK AT MOST 1048576: true; the input reads as it did. -/
def dixonNamesUptoRow : OpenClaim := { program := "ytoighkablmjfeaagreat", sum := "d771d9477f2e3867e31f3c139138e48edc56eebc3331c4eee1e4b0806d59ba3f", func := "cayley/cayleylaw28.DixonNames", spec := "dixonNames", unfollowed := true, recurses := true, plainKeys := false, apart := false, narrowed := true }
def DixonNamesUptoSaid : Prop := dixonNamesUptoRow.holds Tryz.pinned (OpenSpec.upto dixonNamesSpec)

/-- 'cayleylaw28.DixonMatches', WHERE WHAT IT READS IS OF BULK AT MOST 1048576: true; the input reads as it did. -/
def dixonMatchesUptoRow : OpenClaim := { program := "ytoighkablmjfeaagreat", sum := "d771d9477f2e3867e31f3c139138e48edc56eebc3331c4eee1e4b0806d59ba3f", func := "cayley/cayleylaw28.DixonMatches", spec := "dixonMatches", unfollowed := true, recurses := true, plainKeys := false, apart := false, narrowed := true }
def DixonMatchesUptoSaid : Prop := dixonMatchesUptoRow.holds Tryz.pinned (OpenSpec.upto dixonMatchesSpec)

end Rows
end Go.Proofs.YtoighkablmjfeaaGreat
