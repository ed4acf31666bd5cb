/-
  No cell of these rows narrows 'for every input' (looked for: loops, veiled, ifaces, maps, wideKeys, modest, calm, conditions, laid).
  DERIVED. THE GIVEN ROWS OF THIS SEAT. 7 by the template 'for every input the law returns true; each argument reads behind the call as it read before'; 0 by the template 'total and deterministic' (their statements: YtapfcpkecmmagaaGreatTotals.lean).
  GIVEN WITH THE SEED: the statements are not yours to turn. If you find one false, say at which input.
  Laid BY PROGRAM, IN A SANDBOX (cutbox-rows.mjs): the forced cells as the released guide's own fill.sh prints them over the translation eebeeacb844144e5… (all of the seat's roots in one cut). By AI agents, Wed Nov 11 2026. No macro, syntax, notation, axiom, sorry.
-/
import Derived.Test.YtapfcpkecmmagaaGreatChecked
import GoSem.Claim
import GoSem.ClaimJoined
import GoSem.ClaimMapViews
import Derived.JoinedTies
import Derived.KernelRfl
namespace Go.Proofs.YtapfcpkecmmagaaGreat
/- THE CELL 'sum', in the pinned program and in every row, IS THE sha256 OF THE DUMP (.gsa) THAT YtapfcpkecmmagaaGreatProg.lean LOADS. Nothing in Lean hashes anything: it is a label: what it is worth is what the hold of that sum in a sandbox is worth. -/
noncomputable def Tryz.pinned : Pinned := { name := "ytapfcpkecmmagaagreat", sum := "eebeeacb844144e5720e1d74c6a3fdf8d244b4fb3fac33ac4dbd38d125a32a9b", checked := Tryz.checked }
namespace Rows
def none {H : Type} : Left H := { results := [], args := [] }

/-- 'cayleylaw27.AlgebraCounts': WHATEVER THE INPUT: true; the input reads as it did. -/
def algebraCountsSpec : ChangeSpec := { name := "algebraCounts", fn := fun _ => fun
  | [d1, d2] => { results := [.lit (.bool true)], args := [d1, d2] }
  | _ => none }
def algebraCountsRow : OpenClaim := { program := "ytapfcpkecmmagaagreat", sum := "eebeeacb844144e5720e1d74c6a3fdf8d244b4fb3fac33ac4dbd38d125a32a9b", func := "cayley/cayleylaw27.AlgebraCounts", spec := "algebraCounts", unfollowed := true, recurses := true, plainKeys := false, apart := false }
def AlgebraCountsSaid : Prop := algebraCountsRow.holds Tryz.pinned (OpenSpec.ofChange algebraCountsSpec)

/-- ITS FALSE NEIGHBOUR: 'it returns false'. Refute it at one input. -/
def algebraCountsWrong : ChangeSpec := { name := "algebraCounts", fn := fun _ => fun
  | [d1, d2] => { results := [.lit (.bool false)], args := [d1, d2] }
  | _ => none }
def AlgebraCountsWrongFalsely : Prop := algebraCountsRow.holds Tryz.pinned (OpenSpec.ofChange algebraCountsWrong)

/-- 'cayleylaw27.AlgebraPairs': WHATEVER THE INPUT: true; the input reads as it did. -/
def algebraPairsSpec : ChangeSpec := { name := "algebraPairs", fn := fun _ => fun
  | [d1, d2, d3] => { results := [.lit (.bool true)], args := [d1, d2, d3] }
  | _ => none }
def algebraPairsRow : OpenClaim := { program := "ytapfcpkecmmagaagreat", sum := "eebeeacb844144e5720e1d74c6a3fdf8d244b4fb3fac33ac4dbd38d125a32a9b", func := "cayley/cayleylaw27.AlgebraPairs", spec := "algebraPairs", unfollowed := true, recurses := true, plainKeys := false, apart := false }
def AlgebraPairsSaid : Prop := algebraPairsRow.holds Tryz.pinned (OpenSpec.ofChange algebraPairsSpec)

/-- ITS FALSE NEIGHBOUR: 'it returns false'. Refute it at one input. -/
def algebraPairsWrong : ChangeSpec := { name := "algebraPairs", fn := fun _ => fun
  | [d1, d2, d3] => { results := [.lit (.bool false)], args := [d1, d2, d3] }
  | _ => none }
def AlgebraPairsWrongFalsely : Prop := algebraPairsRow.holds Tryz.pinned (OpenSpec.ofChange algebraPairsWrong)

/-- 'cayleylaw27.AlgebraFrobenius': WHATEVER THE INPUT: true; the input reads as it did. -/
def algebraFrobeniusSpec : ChangeSpec := { name := "algebraFrobenius", fn := fun _ => fun
  | [d1, d2] => { results := [.lit (.bool true)], args := [d1, d2] }
  | _ => none }
def algebraFrobeniusRow : OpenClaim := { program := "ytapfcpkecmmagaagreat", sum := "eebeeacb844144e5720e1d74c6a3fdf8d244b4fb3fac33ac4dbd38d125a32a9b", func := "cayley/cayleylaw27.AlgebraFrobenius", spec := "algebraFrobenius", unfollowed := true, recurses := true, plainKeys := false, apart := false }
def AlgebraFrobeniusSaid : Prop := algebraFrobeniusRow.holds Tryz.pinned (OpenSpec.ofChange algebraFrobeniusSpec)

/-- ITS FALSE NEIGHBOUR: 'it returns false'. Refute it at one input. -/
def algebraFrobeniusWrong : ChangeSpec := { name := "algebraFrobenius", fn := fun _ => fun
  | [d1, d2] => { results := [.lit (.bool false)], args := [d1, d2] }
  | _ => none }
def AlgebraFrobeniusWrongFalsely : Prop := algebraFrobeniusRow.holds Tryz.pinned (OpenSpec.ofChange algebraFrobeniusWrong)

/-- 'cayleylaw27.AlgebraMatches': WHATEVER THE INPUT: true; the input reads as it did. -/
def algebraMatchesSpec : ChangeSpec := { name := "algebraMatches", fn := fun _ => fun
  | [d1, d2, d3, d4, d5] => { results := [.lit (.bool true)], args := [d1, d2, d3, d4, d5] }
  | _ => none }
def algebraMatchesRow : OpenClaim := { program := "ytapfcpkecmmagaagreat", sum := "eebeeacb844144e5720e1d74c6a3fdf8d244b4fb3fac33ac4dbd38d125a32a9b", func := "cayley/cayleylaw27.AlgebraMatches", spec := "algebraMatches", unfollowed := true, recurses := true, plainKeys := false, apart := false }
def AlgebraMatchesSaid : Prop := algebraMatchesRow.holds Tryz.pinned (OpenSpec.ofChange algebraMatchesSpec)

/-- ITS FALSE NEIGHBOUR: 'it returns false'. Refute it at one input. -/
def algebraMatchesWrong : ChangeSpec := { name := "algebraMatches", fn := fun _ => fun
  | [d1, d2, d3, d4, d5] => { results := [.lit (.bool false)], args := [d1, d2, d3, d4, d5] }
  | _ => none }
def AlgebraMatchesWrongFalsely : Prop := algebraMatchesRow.holds Tryz.pinned (OpenSpec.ofChange algebraMatchesWrong)

/-- 'cayleylaw27.AlgebraRing': WHATEVER THE INPUT: true; the input reads as it did. -/
def algebraRingSpec : ChangeSpec := { name := "algebraRing", fn := fun _ => fun
  | [d1, d2] => { results := [.lit (.bool true)], args := [d1, d2] }
  | _ => none }
def algebraRingRow : OpenClaim := { program := "ytapfcpkecmmagaagreat", sum := "eebeeacb844144e5720e1d74c6a3fdf8d244b4fb3fac33ac4dbd38d125a32a9b", func := "cayley/cayleylaw27.AlgebraRing", spec := "algebraRing", unfollowed := true, recurses := true, plainKeys := false, apart := false }
def AlgebraRingSaid : Prop := algebraRingRow.holds Tryz.pinned (OpenSpec.ofChange algebraRingSpec)

/-- ITS FALSE NEIGHBOUR: 'it returns false'. Refute it at one input. -/
def algebraRingWrong : ChangeSpec := { name := "algebraRing", fn := fun _ => fun
  | [d1, d2] => { results := [.lit (.bool false)], args := [d1, d2] }
  | _ => none }
def AlgebraRingWrongFalsely : Prop := algebraRingRow.holds Tryz.pinned (OpenSpec.ofChange algebraRingWrong)

/-- 'cayleylaw27.AlgebraNames': WHATEVER THE INPUT: true; the input reads as it did. -/
def algebraNamesSpec : ChangeSpec := { name := "algebraNames", fn := fun _ => fun
  | [] => { results := [.lit (.bool true)], args := [] }
  | _ => none }
def algebraNamesRow : OpenClaim := { program := "ytapfcpkecmmagaagreat", sum := "eebeeacb844144e5720e1d74c6a3fdf8d244b4fb3fac33ac4dbd38d125a32a9b", func := "cayley/cayleylaw27.AlgebraNames", spec := "algebraNames", unfollowed := true, recurses := true, plainKeys := false, apart := false }
def AlgebraNamesSaid : Prop := algebraNamesRow.holds Tryz.pinned (OpenSpec.ofChange algebraNamesSpec)

/-- ITS FALSE NEIGHBOUR: 'it returns false'. Refute it at one input. -/
def algebraNamesWrong : ChangeSpec := { name := "algebraNames", fn := fun _ => fun
  | [] => { results := [.lit (.bool false)], args := [] }
  | _ => none }
def AlgebraNamesWrongFalsely : Prop := algebraNamesRow.holds Tryz.pinned (OpenSpec.ofChange algebraNamesWrong)

/-- 'cayleylaw27.AlgebraSums': WHATEVER THE INPUT: true; the input reads as it did. -/
def algebraSumsSpec : ChangeSpec := { name := "algebraSums", fn := fun _ => fun
  | [d1, d2, d3] => { results := [.lit (.bool true)], args := [d1, d2, d3] }
  | _ => none }
def algebraSumsRow : OpenClaim := { program := "ytapfcpkecmmagaagreat", sum := "eebeeacb844144e5720e1d74c6a3fdf8d244b4fb3fac33ac4dbd38d125a32a9b", func := "cayley/cayleylaw27.AlgebraSums", spec := "algebraSums", unfollowed := true, recurses := true, plainKeys := false, apart := false }
def AlgebraSumsSaid : Prop := algebraSumsRow.holds Tryz.pinned (OpenSpec.ofChange algebraSumsSpec)

/-- ITS FALSE NEIGHBOUR: 'it returns false'. Refute it at one input. -/
def algebraSumsWrong : ChangeSpec := { name := "algebraSums", fn := fun _ => fun
  | [d1, d2, d3] => { results := [.lit (.bool false)], args := [d1, d2, d3] }
  | _ => none }
def AlgebraSumsWrongFalsely : Prop := algebraSumsRow.holds Tryz.pinned (OpenSpec.ofChange algebraSumsWrong)

/- THE SECOND FORM. 'bulk': how many values and letters a reading holds, each counted each time it is reached (what is shared counts as often as it is met; a slice's spare places count too). A statement '..UptoSaid' is the law's where the arguments, and the package variables that the reading takes, are together of bulk at most 1048576: NARROWER than '..Said'. Prove '..Said' where nothing that the law and all that it calls make is longer than what came in: it says more and counts as full. Else prove '..UptoSaid'. A law counts once. -/
mutual
def uptoBulk {H : Type} : DataW H → Nat
  | .lit (.string bytes) => bytes.length + 1
  | .lit _ => 1
  | .nil => 1
  | .ptr d => uptoBulk d + 1
  | .slice elems spare => uptoBulkAll elems + uptoBulkAll spare + 1
  | .agg parts => uptoBulkAll parts + 1
  | .iface _ d => uptoBulk d + 1
  | .map entries => uptoBulkEntries entries + 1
  | .held _ => 1
def uptoBulkAll {H : Type} : List (DataW H) → Nat
  | [] => 0
  | d :: r => uptoBulk d + uptoBulkAll r
def uptoBulkEntries {H : Type} : List (Lit × DataW H) → Nat
  | [] => 0
  | x :: r => uptoBulkEntry x + uptoBulkEntries r
def uptoBulkEntry {H : Type} : Lit × DataW H → Nat
  | (.string bytes, d) => bytes.length + uptoBulk d + 1
  | (_, d) => uptoBulk d + 1
 end
def uptoSmall : (H : Type) → List (DataW H) → Bool := fun _ ds => decide (uptoBulkAll ds ≤ 1048576)
def OpenSpec.upto (s : _root_.Go.ChangeSpec) : _root_.Go.OpenSpec := { _root_.Go.OpenSpec.ofChange s with cond := some uptoSmall }

/-- 'cayleylaw27.AlgebraCounts', WHERE WHAT IT READS IS OF BULK AT MOST 1048576: true; the input reads as it did. -/
def algebraCountsUptoRow : OpenClaim := { program := "ytapfcpkecmmagaagreat", sum := "eebeeacb844144e5720e1d74c6a3fdf8d244b4fb3fac33ac4dbd38d125a32a9b", func := "cayley/cayleylaw27.AlgebraCounts", spec := "algebraCounts", unfollowed := true, recurses := true, plainKeys := false, apart := false, narrowed := true }
def AlgebraCountsUptoSaid : Prop := algebraCountsUptoRow.holds Tryz.pinned (OpenSpec.upto algebraCountsSpec)

/-- 'cayleylaw27.AlgebraPairs', WHERE WHAT IT READS IS OF BULK AT MOST 1048576: true; the input reads as it did. -/
def algebraPairsUptoRow : OpenClaim := { program := "ytapfcpkecmmagaagreat", sum := "eebeeacb844144e5720e1d74c6a3fdf8d244b4fb3fac33ac4dbd38d125a32a9b", func := "cayley/cayleylaw27.AlgebraPairs", spec := "algebraPairs", unfollowed := true, recurses := true, plainKeys := false, apart := false, narrowed := true }
def AlgebraPairsUptoSaid : Prop := algebraPairsUptoRow.holds Tryz.pinned (OpenSpec.upto algebraPairsSpec)

/-- 'cayleylaw27.AlgebraFrobenius', WHERE WHAT IT READS IS OF BULK AT MOST 1048576: true; the input reads as it did. -/
def algebraFrobeniusUptoRow : OpenClaim := { program := "ytapfcpkecmmagaagreat", sum := "eebeeacb844144e5720e1d74c6a3fdf8d244b4fb3fac33ac4dbd38d125a32a9b", func := "cayley/cayleylaw27.AlgebraFrobenius", spec := "algebraFrobenius", unfollowed := true, recurses := true, plainKeys := false, apart := false, narrowed := true }
def AlgebraFrobeniusUptoSaid : Prop := algebraFrobeniusUptoRow.holds Tryz.pinned (OpenSpec.upto algebraFrobeniusSpec)

/-- 'cayleylaw27.AlgebraMatches', WHERE WHAT IT READS IS OF BULK AT MOST 1048576: true; the input reads as it did. -/
def algebraMatchesUptoRow : OpenClaim := { program := "ytapfcpkecmmagaagreat", sum := "eebeeacb844144e5720e1d74c6a3fdf8d244b4fb3fac33ac4dbd38d125a32a9b", func := "cayley/cayleylaw27.AlgebraMatches", spec := "algebraMatches", unfollowed := true, recurses := true, plainKeys := false, apart := false, narrowed := true }
def AlgebraMatchesUptoSaid : Prop := algebraMatchesUptoRow.holds Tryz.pinned (OpenSpec.upto algebraMatchesSpec)

/-- 'cayleylaw27.AlgebraRing', WHERE WHAT IT READS IS OF BULK AT MOST 1048576: true; the input reads as it did. -/
def algebraRingUptoRow : OpenClaim := { program := "ytapfcpkecmmagaagreat", sum := "eebeeacb844144e5720e1d74c6a3fdf8d244b4fb3fac33ac4dbd38d125a32a9b", func := "cayley/cayleylaw27.AlgebraRing", spec := "algebraRing", unfollowed := true, recurses := true, plainKeys := false, apart := false, narrowed := true }
def AlgebraRingUptoSaid : Prop := algebraRingUptoRow.holds Tryz.pinned (OpenSpec.upto algebraRingSpec)

/-- 'cayleylaw27.AlgebraNames', WHERE WHAT IT READS IS OF BULK AT MOST 1048576: true; the input reads as it did. -/
def algebraNamesUptoRow : OpenClaim := { program := "ytapfcpkecmmagaagreat", sum := "eebeeacb844144e5720e1d74c6a3fdf8d244b4fb3fac33ac4dbd38d125a32a9b", func := "cayley/cayleylaw27.AlgebraNames", spec := "algebraNames", unfollowed := true, recurses := true, plainKeys := false, apart := false, narrowed := true }
def AlgebraNamesUptoSaid : Prop := algebraNamesUptoRow.holds Tryz.pinned (OpenSpec.upto algebraNamesSpec)

/-- 'cayleylaw27.AlgebraSums', WHERE WHAT IT READS IS OF BULK AT MOST 1048576: true; the input reads as it did. -/
def algebraSumsUptoRow : OpenClaim := { program := "ytapfcpkecmmagaagreat", sum := "eebeeacb844144e5720e1d74c6a3fdf8d244b4fb3fac33ac4dbd38d125a32a9b", func := "cayley/cayleylaw27.AlgebraSums", spec := "algebraSums", unfollowed := true, recurses := true, plainKeys := false, apart := false, narrowed := true }
def AlgebraSumsUptoSaid : Prop := algebraSumsUptoRow.holds Tryz.pinned (OpenSpec.upto algebraSumsSpec)

end Rows
end Go.Proofs.YtapfcpkecmmagaaGreat
