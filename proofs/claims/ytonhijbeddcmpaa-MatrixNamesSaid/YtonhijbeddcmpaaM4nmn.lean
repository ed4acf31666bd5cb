/- MatrixNames() answers true, in every world and on every tape. No conditions. -/
import Derived.Test.YtonhijbeddcmpaaM4tctoM4nb
import Derived.Test.YtonhijbeddcmpaaC4tab
import Derived.Test.YtonhijbeddcmpaaAy24
import Derived.Test.YtonhijbeddcmpaaRows
namespace Go.Proofs.Ytonhijbeddcmpaa
open Go Go.Ay Go.RowKit Go.WideShapes Go.ChangeShapes Go.ChangeAt

theorem Try.own8 : ownKnob Try.prog.godebug = none := by kernel_rfl
theorem Try.laidOut8 : laidOutB Try.prog = true := by kernel_rfl
theorem Try.mixed8 : Try.prog.follows .mixedOrders = true := by kernel_rfl

theorem names_run : ∃ N f h', (lev T N f).1 10 [] (Go.Ay.H.ofObs []) = some (.bool true, h') := by
  obtain ⟨N, f, x0, h', he, rfl⟩ := names_ok (Go.Ay.H.ofObs [])
  exact ⟨N, f, h', he⟩

theorem names_lifted (os : Os) (started : os.Started) (H : Type) (enc : TypeId × Value → H) :
    ReturnsInHanded {} Try.checked os 10 .any (Rows.matrixNamesSpec.pre6 enc Try.prog Try.f10 Rows.matrixNamesRow.domain false) (Rows.matrixNamesSpec.post enc Try.prog Try.f10 false true false false) := by
  refine returnsInHanded_of_change (C := Try.checked) Try.own8 started (by kernel_rfl) Try.func10
    (ChangeSpec.witness6 (enc := enc) (C := Try.checked) false ⟨#[], #[], []⟩ 8 (by kernel_rfl) (by kernel_rfl) (by kernel_rfl) (by kernel_rfl)) ?_
  intro W base args ds gs before hval0 hW hcnd _
  have hW' := hW
  obtain ⟨p, q, hA0, hV, rfl, hfz, hnd⟩ := hW
  have hA : DataW.TrodAll enc Try.prog W 0 (fun _ => true) true Try.f10.params.toList args.toList ds p := hA0
  rw [Try.params10] at hA
  obtain ⟨rfl, rfl, rfl⟩ := trodAll_none hA
  obtain ⟨rfl, rfl⟩ := trodVars_none hV
  obtain ⟨N, f, h', he⟩ := names_run
  obtain ⟨hr, hl⟩ := init_rel (P := Try.prog) (w := W) (os := []) (ps := []) rfl (fun i o p h => by simp at h)
  refine (call_sound' Try.mixed8 pok he (xs := #[]) trivial hr hl).mono fun e W' ⟨x, m', he, hv, hadv⟩ => ?_
  have : x = .bool true := hv
  subst this
  exact ⟨_, he, law_post (tb := 4) Try.laidOut8 rfl (by kernel_rfl) (by kernel_rfl) (by kernel_rfl) hW' rfl (hadv.below (ofObs_ro (by simp)))⟩

theorem names_holds : Rows.MatrixNamesSaid :=
  OpenClaim.holds_of_wide 10 Try.f10 rfl rfl rfl rfl rfl rfl rfl ⟨rfl, rfl, rfl, rfl, rfl⟩ rfl rfl rfl rfl rfl (by kernel_rfl) Try.func10 (by kernel_rfl)
    (of_decide_eq_true (by kernel_rfl)) (by unfold Func.isWrapper; rw [if_neg (of_decide_eq_false (by kernel_rfl))]; exact ⟨rfl, rfl⟩)
    (fun os started H enc _ => names_lifted os started H enc)
end Go.Proofs.Ytonhijbeddcmpaa

