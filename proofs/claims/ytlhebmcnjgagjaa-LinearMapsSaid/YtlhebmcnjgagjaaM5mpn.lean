/- LinearMaps(a, b, x) answers true, whatever the arguments; the arguments read as they did. No conditions. -/
import Derived.Test.YtlhebmcnjgagjaaM5vftoM5mp
import Derived.Test.YtlhebmcnjgagjaaC5tab
import Derived.Test.YtlhebmcnjgagjaaAy35
import Derived.Test.YtlhebmcnjgagjaaRows
namespace Go.Proofs.Ytlhebmcnjgagjaa
open Go Go.Ay Go.RowKit Go.WideShapes Go.ChangeShapes Go.ChangeAt
set_option maxRecDepth 100000

theorem Try.own2 : ownKnob Try.prog.godebug = none := by kernel_rfl
theorem Try.laidOut2 : laidOutB Try.prog = true := by kernel_rfl
theorem Try.mixed2 : Try.prog.follows .mixedOrders = true := by kernel_rfl

theorem matT : ∃ f0 f1 : Field, Try.prog.underlying 44 = some (.struct #[f0, f1]) ∧ f0.offset = 0 ∧ f1.offset = 1 ∧ f0.type = 3 ∧ f1.type = 29 := by
  refine ⟨_, _, Try.underlying44, ?_, ?_, ?_, ?_⟩ <;> rfl

theorem maps_lifted (os : Os) (started : os.Started) (H : Type) (enc : TypeId × Value → H) :
    ReturnsInHanded {} Try.checked os 8 .any (Rows.linearMapsSpec.pre6 enc Try.prog Try.f8 Rows.linearMapsRow.domain false) (Rows.linearMapsSpec.post enc Try.prog Try.f8 false true false false) := by
  refine returnsInHanded_of_change (C := Try.checked) Try.own2 started (by kernel_rfl) Try.func8
    (ChangeSpec.witness6 (enc := enc) (C := Try.checked) false ⟨#[], #[.agg #[.int .i64 0, .slice none 0 0], .slice none 0 0, .int .i64 0], []⟩ 8 (by kernel_rfl) (by kernel_rfl) (by kernel_rfl) (by kernel_rfl)) ?_
  intro W base args ds gs before hval0 hW hcnd _
  have hval : ∀ (j : Nat) t v, Try.f8.params[j]? = some t → args[j]? = some v → Value.okWide Try.prog W .any base t v := hval0
  have hW' := hW
  obtain ⟨p, q, hA0, hV, rfl, hfz, hnd⟩ := hW
  have hA : DataW.TrodAll enc Try.prog W 0 (fun _ => true) true Try.f8.params.toList args.toList ds p := hA0
  rw [Try.params8] at hA hval
  obtain ⟨v0, v1, v2, d0, d1, d2, p0, p1, p2, rfl, rfl, rfl, h0, h1, h2⟩ := trodAll_three hA
  obtain ⟨rfl, rfl⟩ := trodVars_none hV
  obtain ⟨f0, f1, ht, o0, o1, t0, t1⟩ := matT
  have hc0 : Try.prog.cellsOf f0.type = 1 := by rw [t0]; kernel_rfl
  have hc1 : Try.prog.cellsOf f1.type = 1 := by rw [t1]; kernel_rfl
  have hu0 : Try.prog.underlying f0.type = some (.int .i64) := by rw [t0]; exact Try.underlying3
  have hu1 : Try.prog.underlying f1.type = some (.slice 22) := by rw [t1]; exact Try.underlying29
  have hct : Try.prog.cellTypes Try.prog.depth 44 = some [f0.type, f1.type] := by rw [t0, t1]; kernel_rfl
  obtain ⟨os1, ps1, n1, u1, l1, I1, hv1, hs1, hf1, hn1⟩ := in_mat ht o0 o1 hc0 hc1 (by kernel_rfl) hct hu0 hu1 Try.underlying22 Try.underlying3 (by kernel_rfl) (by kernel_rfl) (hval 0 44 v0 rfl rfl) h0 Ins.nil
  obtain ⟨os2, ps2, u2, l2, I2, hv2, hs2, hl2, hz2⟩ := in_slice (e := 3) Try.underlying22 Try.underlying3 (by kernel_rfl) (hval 1 22 v1 rfl rfl) h1 I1
  obtain ⟨x, rfl, wx⟩ := in_int Try.underlying3 (hval 2 3 v2 rfl rfl) h2
  exact law_calls (tb := 4) (C := Try.checked) Try.mixed2 pok Try.laidOut2 (maps_ok _ u2 (n1, l1) l2 x _ ⟨u1, rfl, hs1.mono (Ins.fr _ _)⟩ hs2 hf1.len hl2) I2 ⟨VR.mono (mOf_ext _ _) _ _ hv1, hv2, rfl, trivial⟩ rfl (by kernel_rfl) (by kernel_rfl) (by kernel_rfl) hW' rfl

theorem maps_holds : Rows.LinearMapsSaid :=
  OpenClaim.holds_of_wide 8 Try.f8 rfl rfl rfl rfl rfl rfl rfl ⟨rfl, rfl, rfl, rfl, rfl⟩ rfl rfl rfl rfl rfl (by kernel_rfl) Try.func8 (by kernel_rfl)
    (of_decide_eq_true (by kernel_rfl)) (by unfold Func.isWrapper; rw [if_neg (of_decide_eq_false (by kernel_rfl))]; exact ⟨rfl, rfl⟩)
    (fun os started H enc _ => maps_lifted os started H enc)
end Go.Proofs.Ytlhebmcnjgagjaa

