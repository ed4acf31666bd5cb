/- MatrixInverse(l, p, n, x, y) answers true, whatever the arguments; the arguments read as they did. No conditions. -/
import Derived.Test.YtonhijbeddcmpaaM4rftoM4rl
import Derived.Test.YtonhijbeddcmpaaC4tab
import Derived.Test.YtonhijbeddcmpaaAy32
import Derived.Test.YtonhijbeddcmpaaRows
namespace Go.Proofs.Ytonhijbeddcmpaa
open Go Go.Ay Go.RowKit Go.WideShapes Go.ChangeShapes Go.ChangeAt
set_option maxRecDepth 100000

theorem Try.own2 : ownKnob Try.prog.godebug = none := by kernel_rfl
theorem Try.laidOut2 : laidOutB Try.prog = true := by kernel_rfl
theorem Try.mixed2 : Try.prog.follows .mixedOrders = true := by kernel_rfl

theorem trodAll_5 {H : Type} {enc : TypeId × Value → H} {P : Program} {w : World} {base : Nat} {spare : Nat → Bool} {held : Bool} {a b c d e : TypeId} {args : Array Value} {ds : List (DataW H)} {ps : List MemPlace}
    (h : DataW.TrodAll enc P w base spare held [a, b, c, d, e] args.toList ds ps) :
    ∃ va vb vc vd ve da db dc dd de pa pb pc pd pe, args = #[va, vb, vc, vd, ve] ∧ ds = [da, db, dc, dd, de] ∧ ps = pa ++ pb ++ pc ++ pd ++ pe ∧ DataW.Trod enc P w base spare held a va da pa ∧ DataW.Trod enc P w base spare held b vb db pb ∧ DataW.Trod enc P w base spare held c vc dc pc ∧ DataW.Trod enc P w base spare held d vd dd pd ∧ DataW.Trod enc P w base spare held e ve de pe := by
  obtain ⟨v0, w0, d0, e0, p0, q0, hargs, rfl, rfl, h0, r0⟩ := trodAll_cons h
  obtain ⟨v1, w1, d1, e1, p1, q1, rfl, rfl, rfl, h1, r1⟩ := trodAll_cons r0
  obtain ⟨v2, w2, d2, e2, p2, q2, rfl, rfl, rfl, h2, r2⟩ := trodAll_cons r1
  obtain ⟨v3, w3, d3, e3, p3, q3, rfl, rfl, rfl, h3, r3⟩ := trodAll_cons r2
  obtain ⟨v4, w4, d4, e4, p4, q4, rfl, rfl, rfl, h4, r4⟩ := trodAll_cons r3
  obtain ⟨rfl, rfl, rfl⟩ := trodAll_nil r4
  exact ⟨v0, v1, v2, v3, v4, d0, d1, d2, d3, d4, p0, p1, p2, p3, p4, by cases args; simp_all, rfl, by simp, h0, h1, h2, h3, h4⟩

theorem inverse_lifted (os : Os) (started : os.Started) (H : Type) (enc : TypeId × Value → H) :
    ReturnsInHanded {} Try.checked os 5 .any (Rows.matrixInverseSpec.pre6 enc Try.prog Try.f5 Rows.matrixInverseRow.domain false) (Rows.matrixInverseSpec.post enc Try.prog Try.f5 false true false false) := by
  refine returnsInHanded_of_change (C := Try.checked) Try.own2 started (by kernel_rfl) Try.func5
    (ChangeSpec.witness6 (enc := enc) (C := Try.checked) false ⟨#[], #[.slice none 0 0, .int .i64 0, .int .i64 0, .int .i64 0, .int .i64 0], []⟩ 8 (by kernel_rfl) (by kernel_rfl) (by kernel_rfl) (by kernel_rfl)) ?_
  intro W base args ds gs before hval0 hW hcnd _
  have hval : ∀ (j : Nat) t v, Try.f5.params[j]? = some t → args[j]? = some v → Value.okWide Try.prog W .any base t v := hval0
  have hW' := hW
  obtain ⟨p, q, hA0, hV, rfl, hfz, hnd⟩ := hW
  have hA : DataW.TrodAll enc Try.prog W 0 (fun _ => true) true Try.f5.params.toList args.toList ds p := hA0
  rw [Try.params5] at hA hval
  obtain ⟨v0, v1, v2, v3, v4, d0, d1, d2, d3, d4, p0, p1, p2, p3, p4, rfl, rfl, rfl, h0, h1, h2, h3, h4⟩ := trodAll_5 hA
  obtain ⟨rfl, rfl⟩ := trodVars_none hV
  obtain ⟨os', ps', u, l, I, hv, hs, hl, hz⟩ := in_slice (e := 3) Try.underlying30 Try.underlying3 (by kernel_rfl) (hval 0 30 v0 rfl rfl) h0 Ins.nil
  obtain ⟨a, rfl, wa⟩ := in_int Try.underlying3 (hval 1 3 v1 rfl rfl) h1
  obtain ⟨b, rfl, wb⟩ := in_int Try.underlying3 (hval 2 3 v2 rfl rfl) h2
  obtain ⟨c, rfl, wc⟩ := in_int Try.underlying3 (hval 3 3 v3 rfl rfl) h3
  obtain ⟨d, rfl, wd⟩ := in_int Try.underlying3 (hval 4 3 v4 rfl rfl) h4
  exact law_calls (tb := 4) (C := Try.checked) Try.mixed2 pok Try.laidOut2 (inverse_ok u l a b c d _ hs hl) I ⟨hv, rfl, rfl, rfl, rfl, trivial⟩ rfl (by kernel_rfl) (by kernel_rfl) (by kernel_rfl) hW' rfl

theorem inverse_holds : Rows.MatrixInverseSaid :=
  OpenClaim.holds_of_wide 5 Try.f5 rfl rfl rfl rfl rfl rfl rfl ⟨rfl, rfl, rfl, rfl, rfl⟩ rfl rfl rfl rfl rfl (by kernel_rfl) Try.func5 (by kernel_rfl)
    (of_decide_eq_true (by kernel_rfl)) (by unfold Func.isWrapper; rw [if_neg (of_decide_eq_false (by kernel_rfl))]; exact ⟨rfl, rfl⟩)
    (fun os started H enc _ => inverse_lifted os started H enc)
end Go.Proofs.Ytonhijbeddcmpaa
