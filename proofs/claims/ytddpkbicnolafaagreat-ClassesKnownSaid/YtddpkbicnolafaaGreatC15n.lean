/- ClassesKnown() answers true, in every world and on every tape. No conditions. -/
import Derived.Test.YtddpkbicnolafaaGreatC15cut
import Derived.Test.YtddpkbicnolafaaGreatC15tab
import Derived.Test.YtddpkbicnolafaaGreatAy24
import Derived.Test.YtddpkbicnolafaaGreatRows
namespace Go.Proofs.YtddpkbicnolafaaGreat
open Go Go.Ay Go.RowKit Go.WideShapes Go.ChangeShapes Go.ChangeAt

theorem own : ownKnob Tryz.prog.godebug = none := by kernel_rfl
theorem laidOut : laidOutB Tryz.prog = true := by kernel_rfl
theorem mixed : Tryz.prog.follows .mixedOrders = true := by kernel_rfl

theorem names_bool : ∃ N f h', (lev T N f).1 6 [] (Go.Ay.H.ofObs []) = some (.bool true, h') := by
  obtain ⟨N, f, x0, h', he, rfl⟩ := names_ev
  exact ⟨N, f, h', he⟩

theorem names_lifted (os : Os) (started : os.Started) (H : Type) (enc : TypeId × Value → H) :
    ReturnsInHanded {} Tryz.checked os 6 .any (Rows.classesKnownSpec.pre6 enc Tryz.prog Tryz.f6 Rows.classesKnownRow.domain false) (Rows.classesKnownSpec.post enc Tryz.prog Tryz.f6 false true false false) := by
  refine returnsInHanded_of_change (C := Tryz.checked) own started (by kernel_rfl) Tryz.func6
    (ChangeSpec.witness6 (enc := enc) (C := Tryz.checked) false ⟨#[], #[], []⟩ 8 (by kernel_rfl) (by kernel_rfl) (by kernel_rfl) (by kernel_rfl)) ?_
  intro W base args ds gs before hval0 hW hcnd _
  have hW' := hW
  obtain ⟨p, q, hA0, hV, rfl, hfz, hnd⟩ := hW
  have hA : DataW.TrodAll enc Tryz.prog W 0 (fun _ => true) true Tryz.f6.params.toList args.toList ds p := hA0
  rw [Tryz.params6] at hA
  obtain ⟨rfl, rfl, rfl⟩ := trodAll_none hA
  obtain ⟨rfl, rfl⟩ := trodVars_none hV
  obtain ⟨N, f, h', he⟩ := names_bool
  obtain ⟨hr, hl⟩ := init_rel (P := Tryz.prog) (w := W) (os := []) (ps := []) rfl (fun i o p h => by simp at h)
  refine (call_sound' mixed pok he (xs := #[]) trivial hr hl).mono fun e W' ⟨x, m', he, hv, hadv⟩ => ?_
  have : x = .bool true := hv
  subst this
  exact ⟨_, he, law_post (tb := 4) laidOut rfl (by kernel_rfl) (by kernel_rfl) (by kernel_rfl) hW' rfl (hadv.below (ofObs_ro (by simp)))⟩

theorem known_holds : Rows.ClassesKnownSaid :=
  OpenClaim.holds_of_wide 6 Tryz.f6 rfl rfl rfl rfl rfl rfl rfl ⟨rfl, rfl, rfl, rfl, rfl⟩ rfl rfl rfl rfl rfl (by kernel_rfl) Tryz.func6 (by kernel_rfl)
    (of_decide_eq_true (by kernel_rfl)) (by unfold Func.isWrapper; rw [if_neg (of_decide_eq_false (by kernel_rfl))]; exact ⟨rfl, rfl⟩)
    (fun os started H enc _ => names_lifted os started H enc)
end Go.Proofs.YtddpkbicnolafaaGreat

