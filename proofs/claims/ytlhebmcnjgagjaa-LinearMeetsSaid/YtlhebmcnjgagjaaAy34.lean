/- Rows of rows, and a matrix, as a law is given them. -/
import Derived.Test.YtlhebmcnjgagjaaAy32
import Derived.Deep.Matrix
namespace Go.Ay
open Go Go.RowKit Go.WideShapes Go.ChangeShapes Go.ChangeAt

section
variable {P : Program} {W : World}
variable {Hh : Type} {enc : TypeId × Value → Hh} {base : Nat} {held : Bool}

/-- What can be appended to it is known. -/
def Kn (u : V) : Prop := ∀ id off m c, u = .sl id off m c → ∃ k, c = .kn k ∧ m ≤ k
/-- Rows that came in. -/
def SRk (h : H) (u : V) (ll : List (List Int)) : Prop := ∃ ws, SV h u 1 ws ∧ All2 (SI h) ws ll ∧ ∀ w ∈ ws, Kn w
theorem SRk.sr {h : H} {u : V} {ll : List (List Int)} (s : SRk h u ll) : SR h u ll := by
  obtain ⟨ws, h1, h2, _⟩ := s; exact ⟨ws, h1, h2⟩
theorem SRk.mono {h h' : H} {u : V} {ll : List (List Int)} (s : SRk h u ll) (f : Fr h h') : SRk h' u ll := by
  obtain ⟨ws, h1, h2, h3⟩ := s; exact ⟨ws, h1.mono f, h2.mono fun _ _ r => r.mono f, h3⟩
theorem SRk.nils (h : H) : SRk h .nils [] := ⟨[], SV.nils h 1, trivial, fun _ h => by cases h⟩
theorem trodAll_five {H : Type} {enc : TypeId × Value → H} {P : Program} {w : World} {base : Nat} {spare : Nat → Bool} {held : Bool} {a b c d e : TypeId} {args : Array Value} {ds : List (DataW H)} {ps : List MemPlace}
    (h : DataW.TrodAll enc P w base spare held [a, b, c, d, e] args.toList ds ps) :
    ∃ va vb vc vd ve da db dc dd de pa pb pc pd pe, args = #[va, vb, vc, vd, ve] ∧ ds = [da, db, dc, dd, de] ∧ ps = pa ++ pb ++ pc ++ pd ++ pe ∧ DataW.Trod enc P w base spare held a va da pa ∧ DataW.Trod enc P w base spare held b vb db pb ∧ DataW.Trod enc P w base spare held c vc dc pc ∧ DataW.Trod enc P w base spare held d vd dd pd ∧ DataW.Trod enc P w base spare held e ve de pe := by
  obtain ⟨v0, w0, d0, e0, p0, q0, hargs, rfl, rfl, h0, r0⟩ := trodAll_cons h
  obtain ⟨v1, w1, d1, e1, p1, q1, rfl, rfl, rfl, h1, r1⟩ := trodAll_cons r0
  obtain ⟨v2, w2, d2, e2, p2, q2, rfl, rfl, rfl, h2, r2⟩ := trodAll_cons r1
  obtain ⟨v3, w3, d3, e3, p3, q3, rfl, rfl, rfl, h3, r3⟩ := trodAll_cons r2
  obtain ⟨v4, w4, d4, e4, p4, q4, rfl, rfl, rfl, h4, r4⟩ := trodAll_cons r3
  obtain ⟨rfl, rfl, rfl⟩ := trodAll_nil r4
  exact ⟨v0, v1, v2, v3, v4, d0, d1, d2, d3, d4, p0, p1, p2, p3, p4, by cases args; simp_all, rfl, by simp, h0, h1, h2, h3, h4⟩
end
end Go.Ay

