/- CycloMakes(n, k, c) and CycloCalls(a, b, k) answer true, whatever the arguments; the arguments read as they did. No conditions. -/
import Derived.Test.YthfabknpogbcaaaC6mk
import Derived.Test.YthfabknpogbcaaaC6tab
import Derived.Test.YthfabknpogbcaaaAy32
import Derived.Test.YthfabknpogbcaaaRows
namespace Go.Proofs.Ythfabknpogbcaaa
open Go Go.Ay Go.RowKit Go.WideShapes Go.ChangeShapes Go.ChangeAt

theorem Try.own : ownKnob Try.prog.godebug = none := by kernel_rfl
theorem Try.laidOut : laidOutB Try.prog = true := by kernel_rfl
theorem Try.mixed : Try.prog.follows .mixedOrders = true := by kernel_rfl

theorem makes_lifted (os : Os) (started : os.Started) (H : Type) (enc : TypeId × Value → H) :
    ReturnsInHanded {} Try.checked os 3 .any (Rows.cycloMakesSpec.pre6 enc Try.prog Try.f3 Rows.cycloMakesRow.domain false) (Rows.cycloMakesSpec.post enc Try.prog Try.f3 false true false false) := by
  refine returnsInHanded_of_change (C := Try.checked) Try.own started (by kernel_rfl) Try.func3
    (ChangeSpec.witness6 (enc := enc) (C := Try.checked) false ⟨#[], #[.int .i64 0, .int .i64 0, .slice none 0 0], []⟩ 8 (by kernel_rfl) (by kernel_rfl) (by kernel_rfl) (by kernel_rfl)) ?_
  intro W base args ds gs before hval0 hW hcnd _
  have hval : ∀ (j : Nat) t v, Try.f3.params[j]? = some t → args[j]? = some v → Value.okWide Try.prog W .any base t v := hval0
  have hW' := hW
  obtain ⟨p, q, hA0, hV, rfl, hfz, hnd⟩ := hW
  have hA : DataW.TrodAll enc Try.prog W 0 (fun _ => true) true Try.f3.params.toList args.toList ds p := hA0
  rw [Try.params3] at hA hval
  obtain ⟨v0, v1, v2, d0, d1, d2, p0, p1, p2, rfl, rfl, rfl, h0, h1, h2⟩ := trodAll_three hA
  obtain ⟨rfl, rfl⟩ := trodVars_none hV
  obtain ⟨a, rfl, wa⟩ := in_int Try.underlying3 (hval 0 3 v0 rfl rfl) h0
  obtain ⟨b, rfl, wb⟩ := in_int Try.underlying3 (hval 1 3 v1 rfl rfl) h1
  obtain ⟨os', ps', u, l, I, hv, hs, hl, hz⟩ := in_slice (e := 3) Try.underlying22 Try.underlying3 (by kernel_rfl) (hval 2 22 v2 rfl rfl) h2 Ins.nil
  exact law_calls (tb := 4) (C := Try.checked) Try.mixed pok Try.laidOut (makes_ok a b u l _ hs hl) I ⟨rfl, rfl, hv, trivial⟩ rfl (by kernel_rfl) (by kernel_rfl) (by kernel_rfl) hW' rfl

theorem makes_holds : Rows.CycloMakesSaid :=
  OpenClaim.holds_of_wide 3 Try.f3 rfl rfl rfl rfl rfl rfl rfl ⟨rfl, rfl, rfl, rfl, rfl⟩ rfl rfl rfl rfl rfl (by kernel_rfl) Try.func3 (by kernel_rfl)
    (of_decide_eq_true (by kernel_rfl)) (by unfold Func.isWrapper; rw [if_neg (of_decide_eq_false (by kernel_rfl))]; exact ⟨rfl, rfl⟩)
    (fun os started H enc _ => makes_lifted os started H enc)

theorem cycT : ∃ f0 f1 : Field, Try.prog.underlying 28 = some (.struct #[f0, f1]) ∧ f0.offset = 0 ∧ f1.offset = 1 ∧ f0.type = 3 ∧ f1.type = 22 := by
  refine ⟨_, _, Try.underlying28, ?_, ?_, ?_, ?_⟩ <;> rfl

theorem calls_lifted (os : Os) (started : os.Started) (H : Type) (enc : TypeId × Value → H) :
    ReturnsInHanded {} Try.checked os 8 .any (Rows.cycloCallsSpec.pre6 enc Try.prog Try.f8 Rows.cycloCallsRow.domain false) (Rows.cycloCallsSpec.post enc Try.prog Try.f8 false true false false) := by
  refine returnsInHanded_of_change (C := Try.checked) Try.own started (by kernel_rfl) Try.func8
    (ChangeSpec.witness6 (enc := enc) (C := Try.checked) false ⟨#[], #[.agg #[.int .i64 0, .slice none 0 0], .agg #[.int .i64 0, .slice none 0 0], .int .i64 0], []⟩ 8 (by kernel_rfl) (by kernel_rfl) (by kernel_rfl) (by kernel_rfl)) ?_
  intro W base args ds gs before hval0 hW hcnd _
  have hval : ∀ (j : Nat) t v, Try.f8.params[j]? = some t → args[j]? = some v → Value.okWide Try.prog W .any base t v := hval0
  have hW' := hW
  obtain ⟨p, q, hA0, hV, rfl, hfz, hnd⟩ := hW
  have hA : DataW.TrodAll enc Try.prog W 0 (fun _ => true) true Try.f8.params.toList args.toList ds p := hA0
  rw [Try.params8] at hA hval
  obtain ⟨v0, v1, v2, d0, d1, d2, p0, p1, p2, rfl, rfl, rfl, h0, h1, h2⟩ := trodAll_three hA
  obtain ⟨rfl, rfl⟩ := trodVars_none hV
  obtain ⟨f0, f1, ht, o0, o1, t0, t1⟩ := cycT
  have hc0 : Try.prog.cellsOf f0.type = 1 := by rw [t0]; kernel_rfl
  have hc1 : Try.prog.cellsOf f1.type = 1 := by rw [t1]; kernel_rfl
  have hu0 : Try.prog.underlying f0.type = some (.int .i64) := by rw [t0]; exact Try.underlying3
  have hu1 : Try.prog.underlying f1.type = some (.slice 3) := by rw [t1]; exact Try.underlying22
  have hct : Try.prog.cellTypes Try.prog.depth 28 = some [f0.type, f1.type] := by rw [t0, t1]; kernel_rfl
  obtain ⟨os1, ps1, n1, u1, l1, I1, hv1, hs1, hl1, hz1, hn1⟩ := in_cyc ht o0 o1 hc0 hc1 (by kernel_rfl) hct hu0 hu1 Try.underlying3 (by kernel_rfl) (hval 0 28 v0 rfl rfl) h0 Ins.nil
  obtain ⟨os2, ps2, n2, u2, l2, I2, hv2, hs2, hl2, hz2, hn2⟩ := in_cyc ht o0 o1 hc0 hc1 (by kernel_rfl) hct hu0 hu1 Try.underlying3 (by kernel_rfl) (hval 1 28 v1 rfl rfl) h1 I1
  obtain ⟨k, rfl, wk⟩ := in_int Try.underlying3 (hval 2 3 v2 rfl rfl) h2
  exact law_calls (tb := 4) (C := Try.checked) Try.mixed pok Try.laidOut (calls_ok _ _ (n1, l1) (n2, l2) k _ ⟨u1, rfl, hs1.mono (Ins.fr _ _)⟩ ⟨u2, rfl, hs2⟩ hz1 hz2 hl1 hl2) I2 ⟨VR.mono (mOf_ext _ _) _ _ hv1, hv2, rfl, trivial⟩ rfl (by kernel_rfl) (by kernel_rfl) (by kernel_rfl) hW' rfl

theorem calls_holds : Rows.CycloCallsSaid :=
  OpenClaim.holds_of_wide 8 Try.f8 rfl rfl rfl rfl rfl rfl rfl ⟨rfl, rfl, rfl, rfl, rfl⟩ rfl rfl rfl rfl rfl (by kernel_rfl) Try.func8 (by kernel_rfl)
    (of_decide_eq_true (by kernel_rfl)) (by unfold Func.isWrapper; rw [if_neg (of_decide_eq_false (by kernel_rfl))]; exact ⟨rfl, rfl⟩)
    (fun os started H enc _ => calls_lifted os started H enc)
end Go.Proofs.Ythfabknpogbcaaa
