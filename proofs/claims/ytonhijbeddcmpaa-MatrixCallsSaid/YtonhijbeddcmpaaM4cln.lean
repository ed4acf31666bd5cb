/- MatrixCalls(a, b, v, n, p) answers true, whatever the arguments; the arguments read as they did. No conditions. -/
import Derived.Test.YtonhijbeddcmpaaM4satoM4sb
import Derived.Test.YtonhijbeddcmpaaC4tab
import Derived.Test.YtonhijbeddcmpaaAy34
import Derived.Test.YtonhijbeddcmpaaRows
namespace Go.Proofs.Ytonhijbeddcmpaa
open Go Go.Ay Go.RowKit Go.WideShapes Go.ChangeShapes Go.ChangeAt
set_option maxRecDepth 100000

theorem Try.own2 : ownKnob Try.prog.godebug = none := by kernel_rfl
theorem Try.laidOut2 : laidOutB Try.prog = true := by kernel_rfl
theorem Try.mixed2 : Try.prog.follows .mixedOrders = true := by kernel_rfl

theorem matT : ∃ f0 f1 : Field, Try.prog.underlying 24 = some (.struct #[f0, f1]) ∧ f0.offset = 0 ∧ f1.offset = 1 ∧ f0.type = 3 ∧ f1.type = 22 := by
  refine ⟨_, _, Try.underlying24, ?_, ?_, ?_, ?_⟩ <;> rfl

theorem calls_lifted (os : Os) (started : os.Started) (H : Type) (enc : TypeId × Value → H) :
    ReturnsInHanded {} Try.checked os 7 .any (Rows.matrixCallsSpec.pre6 enc Try.prog Try.f7 Rows.matrixCallsRow.domain false) (Rows.matrixCallsSpec.post enc Try.prog Try.f7 false true false false) := by
  refine returnsInHanded_of_change (C := Try.checked) Try.own2 started (by kernel_rfl) Try.func7
    (ChangeSpec.witness6 (enc := enc) (C := Try.checked) false ⟨#[], #[.agg #[.int .i64 0, .slice none 0 0], .agg #[.int .i64 0, .slice none 0 0], .slice none 0 0, .int .i64 0, .int .i64 0], []⟩ 8 (by kernel_rfl) (by kernel_rfl) (by kernel_rfl) (by kernel_rfl)) ?_
  intro W base args ds gs before hval0 hW hcnd _
  have hval : ∀ (j : Nat) t v, Try.f7.params[j]? = some t → args[j]? = some v → Value.okWide Try.prog W .any base t v := hval0
  have hW' := hW
  obtain ⟨p, q, hA0, hV, rfl, hfz, hnd⟩ := hW
  have hA : DataW.TrodAll enc Try.prog W 0 (fun _ => true) true Try.f7.params.toList args.toList ds p := hA0
  rw [Try.params7] at hA hval
  obtain ⟨v0, v1, v2, v3, v4, d0, d1, d2, d3, d4, p0, p1, p2, p3, p4, rfl, rfl, rfl, h0, h1, h2, h3, h4⟩ := trodAll_five hA
  obtain ⟨rfl, rfl⟩ := trodVars_none hV
  obtain ⟨f0, f1, ht, o0, o1, t0, t1⟩ := matT
  have hc0 : Try.prog.cellsOf f0.type = 1 := by rw [t0]; kernel_rfl
  have hc1 : Try.prog.cellsOf f1.type = 1 := by rw [t1]; kernel_rfl
  have hu0 : Try.prog.underlying f0.type = some (.int .i64) := by rw [t0]; exact Try.underlying3
  have hu1 : Try.prog.underlying f1.type = some (.slice 30) := by rw [t1]; exact Try.underlying22
  have hct : Try.prog.cellTypes Try.prog.depth 24 = some [f0.type, f1.type] := by rw [t0, t1]; kernel_rfl
  obtain ⟨os1, ps1, n1, u1, l1, I1, hv1, hs1, hf1, hn1⟩ := in_mat ht o0 o1 hc0 hc1 (by kernel_rfl) hct hu0 hu1 Try.underlying30 Try.underlying3 (by kernel_rfl) (by kernel_rfl) (hval 0 24 v0 rfl rfl) h0 Ins.nil
  obtain ⟨os2, ps2, n2, u2, l2, I2, hv2, hs2, hf2, hn2⟩ := in_mat ht o0 o1 hc0 hc1 (by kernel_rfl) hct hu0 hu1 Try.underlying30 Try.underlying3 (by kernel_rfl) (by kernel_rfl) (hval 1 24 v1 rfl rfl) h1 I1
  obtain ⟨os3, ps3, u3, l3, I3, hv3, hs3, hl3, hz3⟩ := in_slice (e := 3) Try.underlying30 Try.underlying3 (by kernel_rfl) (hval 2 30 v2 rfl rfl) h2 I2
  obtain ⟨a, rfl, wa⟩ := in_int Try.underlying3 (hval 3 3 v3 rfl rfl) h3
  obtain ⟨b, rfl, wb⟩ := in_int Try.underlying3 (hval 4 3 v4 rfl rfl) h4
  exact law_calls (tb := 4) (C := Try.checked) Try.mixed2 pok Try.laidOut2 (calls_ok _ _ u3 (n1, l1) (n2, l2) l3 a b _ ⟨u1, rfl, (hs1.mono (Ins.fr _ _)).mono (Ins.fr _ _)⟩ ⟨u2, rfl, hs2.mono (Ins.fr _ _)⟩ hs3 hf1.len hf2.len hl3) I3 ⟨VR.mono (mOf_ext _ _) _ _ (VR.mono (mOf_ext _ _) _ _ hv1), VR.mono (mOf_ext _ _) _ _ hv2, hv3, rfl, rfl, trivial⟩ rfl (by kernel_rfl) (by kernel_rfl) (by kernel_rfl) hW' rfl

theorem calls_holds : Rows.MatrixCallsSaid :=
  OpenClaim.holds_of_wide 7 Try.f7 rfl rfl rfl rfl rfl rfl rfl ⟨rfl, rfl, rfl, rfl, rfl⟩ rfl rfl rfl rfl rfl (by kernel_rfl) Try.func7 (by kernel_rfl)
    (of_decide_eq_true (by kernel_rfl)) (by unfold Func.isWrapper; rw [if_neg (of_decide_eq_false (by kernel_rfl))]; exact ⟨rfl, rfl⟩)
    (fun os started H enc _ => calls_lifted os started H enc)
end Go.Proofs.Ytonhijbeddcmpaa
