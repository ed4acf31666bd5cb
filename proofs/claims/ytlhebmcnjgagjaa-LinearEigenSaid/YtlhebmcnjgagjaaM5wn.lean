/- LinearEigen(l, p, n) answers true, whatever the arguments; the arguments read as they did. No conditions. -/
import Derived.Test.YtlhebmcnjgagjaaM5ztoM5wc
import Derived.Test.YtlhebmcnjgagjaaC5tab
import Derived.Test.YtlhebmcnjgagjaaAy34
import Derived.Test.YtlhebmcnjgagjaaRows
namespace Go.Proofs.Ytlhebmcnjgagjaa
open Go Go.Ay Go.RowKit Go.WideShapes Go.ChangeShapes Go.ChangeAt
set_option maxRecDepth 100000

theorem Try.own2 : ownKnob Try.prog.godebug = none := by kernel_rfl
theorem Try.laidOut2 : laidOutB Try.prog = true := by kernel_rfl
theorem Try.mixed2 : Try.prog.follows .mixedOrders = true := by kernel_rfl

theorem eigen_lifted (os : Os) (started : os.Started) (H : Type) (enc : TypeId × Value → H) :
    ReturnsInHanded {} Try.checked os 7 .any (Rows.linearEigenSpec.pre6 enc Try.prog Try.f7 Rows.linearEigenRow.domain false) (Rows.linearEigenSpec.post enc Try.prog Try.f7 false true false false) := by
  refine returnsInHanded_of_change (C := Try.checked) Try.own2 started (by kernel_rfl) Try.func7
    (ChangeSpec.witness6 (enc := enc) (C := Try.checked) false ⟨#[], #[.slice none 0 0, .int .i64 0, .int .i64 0], []⟩ 8 (by kernel_rfl) (by kernel_rfl) (by kernel_rfl) (by kernel_rfl)) ?_
  intro W base args ds gs before hval0 hW hcnd _
  have hval : ∀ (j : Nat) t v, Try.f7.params[j]? = some t → args[j]? = some v → Value.okWide Try.prog W .any base t v := hval0
  have hW' := hW
  obtain ⟨p, q, hA0, hV, rfl, hfz, hnd⟩ := hW
  have hA : DataW.TrodAll enc Try.prog W 0 (fun _ => true) true Try.f7.params.toList args.toList ds p := hA0
  rw [Try.params7] at hA hval
  obtain ⟨v0, v1, v2, d0, d1, d2, p0, p1, p2, rfl, rfl, rfl, h0, h1, h2⟩ := trodAll_three hA
  obtain ⟨rfl, rfl⟩ := trodVars_none hV
  obtain ⟨os1, ps1, u1, l1, I1, hv1, hs1, hl1, hz1⟩ := in_slice (e := 3) Try.underlying22 Try.underlying3 (by kernel_rfl) (hval 0 22 v0 rfl rfl) h0 Ins.nil
  obtain ⟨a, rfl, wa⟩ := in_int Try.underlying3 (hval 1 3 v1 rfl rfl) h1
  obtain ⟨b, rfl, wb⟩ := in_int Try.underlying3 (hval 2 3 v2 rfl rfl) h2
  exact law_calls (tb := 4) (C := Try.checked) Try.mixed2 pok Try.laidOut2 (eigen_ok u1 l1 a b _ hs1 hl1) I1 ⟨hv1, rfl, rfl, trivial⟩ rfl (by kernel_rfl) (by kernel_rfl) (by kernel_rfl) hW' rfl

theorem eigen_holds : Rows.LinearEigenSaid :=
  OpenClaim.holds_of_wide 7 Try.f7 rfl rfl rfl rfl rfl rfl rfl ⟨rfl, rfl, rfl, rfl, rfl⟩ rfl rfl rfl rfl rfl (by kernel_rfl) Try.func7 (by kernel_rfl)
    (of_decide_eq_true (by kernel_rfl)) (by unfold Func.isWrapper; rw [if_neg (of_decide_eq_false (by kernel_rfl))]; exact ⟨rfl, rfl⟩)
    (fun os started H enc _ => eigen_lifted os started H enc)
end Go.Proofs.Ytlhebmcnjgagjaa

