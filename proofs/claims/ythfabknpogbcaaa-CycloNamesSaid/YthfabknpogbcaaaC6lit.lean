/- Literals and boxes for straight walks. -/
import Derived.Test.YthfabknpogbcaaaC6q
namespace Go.Proofs.Ythfabknpogbcaaa
open Go Go.Ay
set_option maxRecDepth 100000
noncomputable section

theorem bls_one (h : H) (a : Int) : blsV h 1 [.int .i64 0] 1 [(0, 1, .int .i64 a)] = some (.sl h.next 0 1 (.kn 1), h.new (.cells false (ints [a]))) := rfl
theorem bls_two (h : H) (a b : Int) : blsV h 1 [.int .i64 0] 2 [(0, 1, .int .i64 a), (1, 1, .int .i64 b)] = some (.sl h.next 0 2 (.kn 2), h.new (.cells false (ints [a, b]))) := rfl
theorem bls_four (h : H) (a b c d : Int) : blsV h 1 [.int .i64 0] 4 [(0, 1, .int .i64 a), (1, 1, .int .i64 b), (2, 1, .int .i64 c), (3, 1, .int .i64 d)] = some (.sl h.next 0 4 (.kn 4), h.new (.cells false (ints [a, b, c, d]))) := rfl
theorem bls_five (h : H) (a b c d e : Int) : blsV h 1 [.int .i64 0] 5 [(0, 1, .int .i64 a), (1, 1, .int .i64 b), (2, 1, .int .i64 c), (3, 1, .int .i64 d), (4, 1, .int .i64 e)] = some (.sl h.next 0 5 (.kn 5), h.new (.cells false (ints [a, b, c, d, e]))) := rfl
theorem bls_six (h : H) (a b c d e f : Int) : blsV h 1 [.int .i64 0] 6 [(0, 1, .int .i64 a), (1, 1, .int .i64 b), (2, 1, .int .i64 c), (3, 1, .int .i64 d), (4, 1, .int .i64 e), (5, 1, .int .i64 f)] = some (.sl h.next 0 6 (.kn 6), h.new (.cells false (ints [a, b, c, d, e, f]))) := rfl
/-- A literal list. -/
theorem lit_si (h : H) (l : List Int) (n : Nat) (hn : l.length = n) : SI (h.new (.cells false (ints l))) (.sl h.next 0 n (.kn n)) l := by
  subst hn; exact SI.own (h := h.new (.cells false (ints l))) (id := h.next) (by rw [H.next_new]; omega) (H.get_new_same ..) _
theorem lit_fr (h : H) (l : List Int) : Fr h (h.new (.cells false (ints l))) := (Fr.refl h).new _
theorem Bx.cv' {h : H} {id : Nat} {N : Int} {A : List Int} (b : Bx h id (N, A)) : ∃ u, h.row id 0 2 = some [.int .i64 N, u] ∧ CycV h (.agg [.int .i64 N, u]) (N, A) := b.cv
theorem Bxs.at {h : H} {L : List (Nat × (Int × List Int))} (b : Bxs h L) (i id : Nat) (N : Int) (A : List Int) (e : L[i]? = some (id, (N, A))) : ∃ u, h.row id 0 2 = some [.int .i64 N, u] ∧ CycV h (.agg [.int .i64 N, u]) (N, A) := (b i _ e).cv'
/-- A literal struct. -/
theorem lit_bld (n : Int) (vc : V) {h : H} {l : List Int} (hc : SI h vc l) : bldV [.int .i64 0, .nils] [(0, 1, .int .i64 n), (1, 1, vc)] = some (.agg [.int .i64 n, vc]) :=
  bldV_two (z1 := .int .i64 0) (z2 := .nils) (v := .int .i64 n) (u := vc) rfl rfl hc.what.1 hc.what.2.1
theorem nil_bld : bldV [.int .i64 0, .nils] [] = some (.agg [.int .i64 0, .nils]) := rfl
end
end Go.Proofs.Ythfabknpogbcaaa
