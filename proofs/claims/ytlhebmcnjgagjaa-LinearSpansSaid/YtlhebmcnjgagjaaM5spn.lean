/- LinearSpans(p, n, a, b, v) answers true, whatever the arguments; the arguments read as they did. No conditions. -/
import Derived.Test.YtlhebmcnjgagjaaM5zotoM5sp
import Derived.Test.YtlhebmcnjgagjaaC5tab
import Derived.Test.YtlhebmcnjgagjaaAy35
import Derived.Test.YtlhebmcnjgagjaaRows
namespace Go.Proofs.Ytlhebmcnjgagjaa
open Go Go.Ay Go.RowKit Go.WideShapes Go.ChangeShapes Go.ChangeAt
set_option maxRecDepth 100000

theorem Try.own2 : ownKnob Try.prog.godebug = none := by kernel_rfl
theorem Try.laidOut2 : laidOutB Try.prog = true := by kernel_rfl
theorem Try.mixed2 : Try.prog.follows .mixedOrders = true := by kernel_rfl

theorem spans_lifted (os : Os) (started : os.Started) (H : Type) (enc : TypeId × Value → H) :
    ReturnsInHanded {} Try.checked os 5 .any (Rows.linearSpansSpec.pre6 enc Try.prog Try.f5 Rows.linearSpansRow.domain false) (Rows.linearSpansSpec.post enc Try.prog Try.f5 false true false false) := by
  refine returnsInHanded_of_change (C := Try.checked) Try.own2 started (by kernel_rfl) Try.func5
    (ChangeSpec.witness6 (enc := enc) (C := Try.checked) false ⟨#[], #[.int .i64 0, .int .i64 0, .slice none 0 0, .slice none 0 0, .slice none 0 0], []⟩ 8 (by kernel_rfl) (by kernel_rfl) (by kernel_rfl) (by kernel_rfl)) ?_
  intro W base args ds gs before hval0 hW hcnd _
  have hval : ∀ (j : Nat) t v, Try.f5.params[j]? = some t → args[j]? = some v → Value.okWide Try.prog W .any base t v := hval0
  have hW' := hW
  obtain ⟨p, q, hA0, hV, rfl, hfz, hnd⟩ := hW
  have hA : DataW.TrodAll enc Try.prog W 0 (fun _ => true) true Try.f5.params.toList args.toList ds p := hA0
  rw [Try.params5] at hA hval
  obtain ⟨v0, v1, v2, v3, v4, d0, d1, d2, d3, d4, p0, p1, p2, p3, p4, rfl, rfl, rfl, h0, h1, h2, h3, h4⟩ := trodAll_five hA
  obtain ⟨rfl, rfl⟩ := trodVars_none hV
  obtain ⟨a, rfl, wa⟩ := in_int Try.underlying3 (hval 0 3 v0 rfl rfl) h0
  obtain ⟨b, rfl, wb⟩ := in_int Try.underlying3 (hval 1 3 v1 rfl rfl) h1
  obtain ⟨os1, ps1, u1, l1, I1, hv1, hs1, hf1⟩ := in_rows_wide Try.underlying29 Try.underlying22 Try.underlying3 (by kernel_rfl) (by kernel_rfl) (hval 2 29 v2 rfl rfl) h2 Ins.nil
  obtain ⟨os2, ps2, u2, l2, I2, hv2, hs2, hf2⟩ := in_rows_wide Try.underlying29 Try.underlying22 Try.underlying3 (by kernel_rfl) (by kernel_rfl) (hval 3 29 v3 rfl rfl) h3 I1
  obtain ⟨os3, ps3, u3, l3, I3, hv3, hs3, hl3, hz3⟩ := in_slice (e := 3) Try.underlying22 Try.underlying3 (by kernel_rfl) (hval 4 22 v4 rfl rfl) h4 I2
  exact law_calls (tb := 4) (C := Try.checked) Try.mixed2 pok Try.laidOut2 (spans_ok a b u1 u2 u3 l1 l2 l3 _ ((hs1.mono (Ins.fr _ _)).mono (Ins.fr _ _)).sr (hs2.mono (Ins.fr _ _)).sr hs3 hf1.len hf2.len) I3 ⟨rfl, rfl, VR.mono (mOf_ext _ _) _ _ (VR.mono (mOf_ext _ _) _ _ hv1), VR.mono (mOf_ext _ _) _ _ hv2, hv3, trivial⟩ rfl (by kernel_rfl) (by kernel_rfl) (by kernel_rfl) hW' rfl

theorem spans_holds : Rows.LinearSpansSaid :=
  OpenClaim.holds_of_wide 5 Try.f5 rfl rfl rfl rfl rfl rfl rfl ⟨rfl, rfl, rfl, rfl, rfl⟩ rfl rfl rfl rfl rfl (by kernel_rfl) Try.func5 (by kernel_rfl)
    (of_decide_eq_true (by kernel_rfl)) (by unfold Func.isWrapper; rw [if_neg (of_decide_eq_false (by kernel_rfl))]; exact ⟨rfl, rfl⟩)
    (fun os started H enc _ => spans_lifted os started H enc)
end Go.Proofs.Ytlhebmcnjgagjaa

