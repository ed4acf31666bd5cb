/- MatrixOrders(a) answers true, whatever the arguments; the arguments read as they did. No conditions. -/
import Derived.Test.YtonhijbeddcmpaaM4tctoM4tm
import Derived.Test.YtonhijbeddcmpaaC4tab
import Derived.Test.YtonhijbeddcmpaaAy34
import Derived.Test.YtonhijbeddcmpaaRows
namespace Go.Proofs.Ytonhijbeddcmpaa
open Go Go.Ay Go.RowKit Go.WideShapes Go.ChangeShapes Go.ChangeAt
set_option maxRecDepth 100000

theorem Try.own7 : ownKnob Try.prog.godebug = none := by kernel_rfl
theorem Try.laidOut7 : laidOutB Try.prog = true := by kernel_rfl
theorem Try.mixed7 : Try.prog.follows .mixedOrders = true := by kernel_rfl

theorem matT7 : ∃ f0 f1 : Field, Try.prog.underlying 24 = some (.struct #[f0, f1]) ∧ f0.offset = 0 ∧ f1.offset = 1 ∧ f0.type = 3 ∧ f1.type = 22 := by
  refine ⟨_, _, Try.underlying24, ?_, ?_, ?_, ?_⟩ <;> rfl

theorem orders_lifted (os : Os) (started : os.Started) (H : Type) (enc : TypeId × Value → H) :
    ReturnsInHanded {} Try.checked os 3 .any (Rows.matrixOrdersSpec.pre6 enc Try.prog Try.f3 Rows.matrixOrdersRow.domain false) (Rows.matrixOrdersSpec.post enc Try.prog Try.f3 false true false false) := by
  refine returnsInHanded_of_change (C := Try.checked) Try.own7 started (by kernel_rfl) Try.func3
    (ChangeSpec.witness6 (enc := enc) (C := Try.checked) false ⟨#[], #[.agg #[.int .i64 0, .slice none 0 0]], []⟩ 8 (by kernel_rfl) (by kernel_rfl) (by kernel_rfl) (by kernel_rfl)) ?_
  intro W base args ds gs before hval0 hW hcnd _
  have hval : ∀ (j : Nat) t v, Try.f3.params[j]? = some t → args[j]? = some v → Value.okWide Try.prog W .any base t v := hval0
  have hW' := hW
  obtain ⟨p, q, hA0, hV, rfl, hfz, hnd⟩ := hW
  have hA : DataW.TrodAll enc Try.prog W 0 (fun _ => true) true Try.f3.params.toList args.toList ds p := hA0
  rw [Try.params3] at hA hval
  obtain ⟨v0, d0, rfl, rfl, h0⟩ := trodAll_one hA
  obtain ⟨rfl, rfl⟩ := trodVars_none hV
  obtain ⟨f0, f1, ht, o0, o1, t0, t1⟩ := matT7
  have hc0 : Try.prog.cellsOf f0.type = 1 := by rw [t0]; kernel_rfl
  have hc1 : Try.prog.cellsOf f1.type = 1 := by rw [t1]; kernel_rfl
  have hu0 : Try.prog.underlying f0.type = some (.int .i64) := by rw [t0]; exact Try.underlying3
  have hu1 : Try.prog.underlying f1.type = some (.slice 30) := by rw [t1]; exact Try.underlying22
  have hct : Try.prog.cellTypes Try.prog.depth 24 = some [f0.type, f1.type] := by rw [t0, t1]; kernel_rfl
  obtain ⟨os1, ps1, n1, u1, l1, I1, hv1, hs1, hf1, hn1⟩ := in_mat ht o0 o1 hc0 hc1 (by kernel_rfl) hct hu0 hu1 Try.underlying30 Try.underlying3 (by kernel_rfl) (by kernel_rfl) (hval 0 24 v0 rfl rfl) h0 Ins.nil
  exact law_calls (tb := 4) (C := Try.checked) Try.mixed7 pok Try.laidOut7 (orders_ok _ (n1, l1) _ ⟨u1, rfl, hs1.sr⟩ hf1.len) I1 ⟨hv1, trivial⟩ rfl (by kernel_rfl) (by kernel_rfl) (by kernel_rfl) hW' rfl

theorem orders_holds : Rows.MatrixOrdersSaid :=
  OpenClaim.holds_of_wide 3 Try.f3 rfl rfl rfl rfl rfl rfl rfl ⟨rfl, rfl, rfl, rfl, rfl⟩ rfl rfl rfl rfl rfl (by kernel_rfl) Try.func3 (by kernel_rfl)
    (of_decide_eq_true (by kernel_rfl)) (by unfold Func.isWrapper; rw [if_neg (of_decide_eq_false (by kernel_rfl))]; exact ⟨rfl, rfl⟩)
    (fun os started H enc _ => orders_lifted os started H enc)
end Go.Proofs.Ytonhijbeddcmpaa

