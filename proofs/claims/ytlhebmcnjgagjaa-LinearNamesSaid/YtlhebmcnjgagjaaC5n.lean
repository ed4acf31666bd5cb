/- LinearNames() answers true, in every world and on every tape. No conditions. -/
import Derived.Test.YtlhebmcnjgagjaaC5cut
import Derived.Test.YtlhebmcnjgagjaaC5tab
import Derived.Test.YtlhebmcnjgagjaaAy24
import Derived.Test.YtlhebmcnjgagjaaRows
namespace Go.Proofs.Ytlhebmcnjgagjaa
open Go Go.Ay Go.RowKit Go.WideShapes Go.ChangeShapes Go.ChangeAt

theorem Try.own : ownKnob Try.prog.godebug = none := by kernel_rfl
theorem Try.laidOut : laidOutB Try.prog = true := by kernel_rfl
theorem Try.mixed : Try.prog.follows .mixedOrders = true := by kernel_rfl

theorem names_bool : ∃ N f h', (lev T N f).1 9 [] (Go.Ay.H.ofObs []) = some (.bool true, h') := by
  obtain ⟨N, f, x0, h', he, rfl⟩ := names_ev
  exact ⟨N, f, h', he⟩

theorem names_lifted (os : Os) (started : os.Started) (H : Type) (enc : TypeId × Value → H) :
    ReturnsInHanded {} Try.checked os 9 .any (Rows.linearNamesSpec.pre6 enc Try.prog Try.f9 Rows.linearNamesRow.domain false) (Rows.linearNamesSpec.post enc Try.prog Try.f9 false true false false) := by
  refine returnsInHanded_of_change (C := Try.checked) Try.own started (by kernel_rfl) Try.func9
    (ChangeSpec.witness6 (enc := enc) (C := Try.checked) false ⟨#[], #[], []⟩ 8 (by kernel_rfl) (by kernel_rfl) (by kernel_rfl) (by kernel_rfl)) ?_
  intro W base args ds gs before hval0 hW hcnd _
  have hW' := hW
  obtain ⟨p, q, hA0, hV, rfl, hfz, hnd⟩ := hW
  have hA : DataW.TrodAll enc Try.prog W 0 (fun _ => true) true Try.f9.params.toList args.toList ds p := hA0
  rw [Try.params9] at hA
  obtain ⟨rfl, rfl, rfl⟩ := trodAll_none hA
  obtain ⟨rfl, rfl⟩ := trodVars_none hV
  obtain ⟨N, f, h', he⟩ := names_bool
  obtain ⟨hr, hl⟩ := init_rel (P := Try.prog) (w := W) (os := []) (ps := []) rfl (fun i o p h => by simp at h)
  refine (call_sound' Try.mixed pok he (xs := #[]) trivial hr hl).mono fun e W' ⟨x, m', he, hv, hadv⟩ => ?_
  have : x = .bool true := hv
  subst this
  exact ⟨_, he, law_post (tb := 4) Try.laidOut rfl (by kernel_rfl) (by kernel_rfl) (by kernel_rfl) hW' rfl (hadv.below (ofObs_ro (by simp)))⟩

theorem names_holds : Rows.LinearNamesSaid :=
  OpenClaim.holds_of_wide 9 Try.f9 rfl rfl rfl rfl rfl rfl rfl ⟨rfl, rfl, rfl, rfl, rfl⟩ rfl rfl rfl rfl rfl (by kernel_rfl) Try.func9 (by kernel_rfl)
    (of_decide_eq_true (by kernel_rfl)) (by unfold Func.isWrapper; rw [if_neg (of_decide_eq_false (by kernel_rfl))]; exact ⟨rfl, rfl⟩)
    (fun os started H enc _ => names_lifted os started H enc)
end Go.Proofs.Ytlhebmcnjgagjaa
