/- MatrixActs(l, k) answers true, whatever the arguments; the arguments read as they did. No conditions. -/
import Derived.Test.YtonhijbeddcmpaaM4tctoM4vd
import Derived.Test.YtonhijbeddcmpaaC4tab
import Derived.Test.YtonhijbeddcmpaaAy34
import Derived.Test.YtonhijbeddcmpaaRows
namespace Go.Proofs.Ytonhijbeddcmpaa
open Go Go.Ay Go.RowKit Go.WideShapes Go.ChangeShapes Go.ChangeAt
set_option maxRecDepth 100000

theorem Try.own9 : ownKnob Try.prog.godebug = none := by kernel_rfl
theorem Try.laidOut9 : laidOutB Try.prog = true := by kernel_rfl
theorem Try.mixed9 : Try.prog.follows .mixedOrders = true := by kernel_rfl

theorem acts_lifted (os : Os) (started : os.Started) (H : Type) (enc : TypeId × Value → H) :
    ReturnsInHanded {} Try.checked os 4 .any (Rows.matrixActsSpec.pre6 enc Try.prog Try.f4 Rows.matrixActsRow.domain false) (Rows.matrixActsSpec.post enc Try.prog Try.f4 false true false false) := by
  refine returnsInHanded_of_change (C := Try.checked) Try.own9 started (by kernel_rfl) Try.func4
    (ChangeSpec.witness6 (enc := enc) (C := Try.checked) false ⟨#[], #[.slice none 0 0, .int .i64 0], []⟩ 8 (by kernel_rfl) (by kernel_rfl) (by kernel_rfl) (by kernel_rfl)) ?_
  intro W base args ds gs before hval0 hW hcnd _
  have hval : ∀ (j : Nat) t v, Try.f4.params[j]? = some t → args[j]? = some v → Value.okWide Try.prog W .any base t v := hval0
  have hW' := hW
  obtain ⟨p, q, hA0, hV, rfl, hfz, hnd⟩ := hW
  have hA : DataW.TrodAll enc Try.prog W 0 (fun _ => true) true Try.f4.params.toList args.toList ds p := hA0
  rw [Try.params4] at hA hval
  obtain ⟨v0, v1, d0, d1, p0, p1, rfl, rfl, rfl, h0, h1⟩ := trodAll_two hA
  obtain ⟨rfl, rfl⟩ := trodVars_none hV
  obtain ⟨os', ps', u, l, I, hv, hs, hl, hz⟩ := in_slice (e := 3) Try.underlying30 Try.underlying3 (by kernel_rfl) (hval 0 30 v0 rfl rfl) h0 Ins.nil
  obtain ⟨a, rfl, wa⟩ := in_int Try.underlying3 (hval 1 3 v1 rfl rfl) h1
  exact law_calls (tb := 4) (C := Try.checked) Try.mixed9 pok Try.laidOut9 (acts_ok u l a _ hs hl) I ⟨hv, rfl, trivial⟩ rfl (by kernel_rfl) (by kernel_rfl) (by kernel_rfl) hW' rfl

theorem acts_holds : Rows.MatrixActsSaid :=
  OpenClaim.holds_of_wide 4 Try.f4 rfl rfl rfl rfl rfl rfl rfl ⟨rfl, rfl, rfl, rfl, rfl⟩ rfl rfl rfl rfl rfl (by kernel_rfl) Try.func4 (by kernel_rfl)
    (of_decide_eq_true (by kernel_rfl)) (by unfold Func.isWrapper; rw [if_neg (of_decide_eq_false (by kernel_rfl))]; exact ⟨rfl, rfl⟩)
    (fun os started H enc _ => acts_lifted os started H enc)
end Go.Proofs.Ytonhijbeddcmpaa

