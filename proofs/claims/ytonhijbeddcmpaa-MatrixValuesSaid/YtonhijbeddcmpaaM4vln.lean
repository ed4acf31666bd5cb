/- MatrixValues(a, n) answers true, whatever the arguments; the arguments read as they did. No conditions. -/
import Derived.Test.YtonhijbeddcmpaaM4thtoM4ti
import Derived.Test.YtonhijbeddcmpaaC4tab
import Derived.Test.YtonhijbeddcmpaaAy34
import Derived.Test.YtonhijbeddcmpaaRows
namespace Go.Proofs.Ytonhijbeddcmpaa
open Go Go.Ay Go.RowKit Go.WideShapes Go.ChangeShapes Go.ChangeAt
set_option maxRecDepth 100000

theorem Try.own5 : ownKnob Try.prog.godebug = none := by kernel_rfl
theorem Try.laidOut5 : laidOutB Try.prog = true := by kernel_rfl
theorem Try.mixed5 : Try.prog.follows .mixedOrders = true := by kernel_rfl

theorem matT5 : ∃ f0 f1 : Field, Try.prog.underlying 24 = some (.struct #[f0, f1]) ∧ f0.offset = 0 ∧ f1.offset = 1 ∧ f0.type = 3 ∧ f1.type = 22 := by
  refine ⟨_, _, Try.underlying24, ?_, ?_, ?_, ?_⟩ <;> rfl

theorem values_lifted (os : Os) (started : os.Started) (H : Type) (enc : TypeId × Value → H) :
    ReturnsInHanded {} Try.checked os 9 .any (Rows.matrixValuesSpec.pre6 enc Try.prog Try.f9 Rows.matrixValuesRow.domain false) (Rows.matrixValuesSpec.post enc Try.prog Try.f9 false true false false) := by
  refine returnsInHanded_of_change (C := Try.checked) Try.own5 started (by kernel_rfl) Try.func9
    (ChangeSpec.witness6 (enc := enc) (C := Try.checked) false ⟨#[], #[.agg #[.int .i64 0, .slice none 0 0], .int .i64 0], []⟩ 8 (by kernel_rfl) (by kernel_rfl) (by kernel_rfl) (by kernel_rfl)) ?_
  intro W base args ds gs before hval0 hW hcnd _
  have hval : ∀ (j : Nat) t v, Try.f9.params[j]? = some t → args[j]? = some v → Value.okWide Try.prog W .any base t v := hval0
  have hW' := hW
  obtain ⟨p, q, hA0, hV, rfl, hfz, hnd⟩ := hW
  have hA : DataW.TrodAll enc Try.prog W 0 (fun _ => true) true Try.f9.params.toList args.toList ds p := hA0
  rw [Try.params9] at hA hval
  obtain ⟨v0, v1, d0, d1, p0, p1, rfl, rfl, rfl, h0, h1⟩ := trodAll_two hA
  obtain ⟨rfl, rfl⟩ := trodVars_none hV
  obtain ⟨f0, f1, ht, o0, o1, t0, t1⟩ := matT5
  have hc0 : Try.prog.cellsOf f0.type = 1 := by rw [t0]; kernel_rfl
  have hc1 : Try.prog.cellsOf f1.type = 1 := by rw [t1]; kernel_rfl
  have hu0 : Try.prog.underlying f0.type = some (.int .i64) := by rw [t0]; exact Try.underlying3
  have hu1 : Try.prog.underlying f1.type = some (.slice 30) := by rw [t1]; exact Try.underlying22
  have hct : Try.prog.cellTypes Try.prog.depth 24 = some [f0.type, f1.type] := by rw [t0, t1]; kernel_rfl
  obtain ⟨os1, ps1, n1, u1, l1, I1, hv1, hs1, hf1, hn1⟩ := in_mat ht o0 o1 hc0 hc1 (by kernel_rfl) hct hu0 hu1 Try.underlying30 Try.underlying3 (by kernel_rfl) (by kernel_rfl) (hval 0 24 v0 rfl rfl) h0 Ins.nil
  obtain ⟨a, rfl, wa⟩ := in_int Try.underlying3 (hval 1 3 v1 rfl rfl) h1
  exact law_calls (tb := 4) (C := Try.checked) Try.mixed5 pok Try.laidOut5 (values_ok _ (n1, l1) a _ ⟨u1, rfl, hs1⟩ hf1.len wa) I1 ⟨hv1, rfl, trivial⟩ rfl (by kernel_rfl) (by kernel_rfl) (by kernel_rfl) hW' rfl

theorem values_holds : Rows.MatrixValuesSaid :=
  OpenClaim.holds_of_wide 9 Try.f9 rfl rfl rfl rfl rfl rfl rfl ⟨rfl, rfl, rfl, rfl, rfl⟩ rfl rfl rfl rfl rfl (by kernel_rfl) Try.func9 (by kernel_rfl)
    (of_decide_eq_true (by kernel_rfl)) (by unfold Func.isWrapper; rw [if_neg (of_decide_eq_false (by kernel_rfl))]; exact ⟨rfl, rfl⟩)
    (fun os started H enc _ => values_lifted os started H enc)
end Go.Proofs.Ytonhijbeddcmpaa

