/- DixonNames() answers true, whatever the arguments; the arguments read as they did. No conditions. -/
import Derived.Test.YtoighkablmjfeaaGreatQ2toAy43
import Derived.Test.YtoighkablmjfeaaGreatC28tab
import Derived.Test.YtoighkablmjfeaaGreatM5etoP8i
import Derived.Test.YtoighkablmjfeaaGreatRows
namespace Go.Proofs.YtoighkablmjfeaaGreat
open Go Go.Ay Go.RowKit Go.WideShapes Go.ChangeShapes Go.ChangeAt
set_option maxRecDepth 100000
theorem own28:ownKnob Tryz.prog.godebug=none:=by kernel_rfl
theorem laidOut28:laidOutB Tryz.prog=true:=by kernel_rfl
theorem mixed28:Tryz.prog.follows .mixedOrders=true:=by kernel_rfl
theorem names_lifted (os:Os)(started:os.Started)(H:Type)(enc:TypeId×Value->H):
  ReturnsInHanded {} Tryz.checked os 7 .any (Rows.dixonNamesSpec.pre6 enc Tryz.prog Tryz.f7 Rows.dixonNamesRow.domain false) (Rows.dixonNamesSpec.post enc Tryz.prog Tryz.f7 false true false false):=by
 refine returnsInHanded_of_change (C:=Tryz.checked) own28 started (by kernel_rfl) Tryz.func7
  (ChangeSpec.witness6 (enc:=enc) (C:=Tryz.checked) false ⟨#[],#[], []⟩ 8 (by kernel_rfl) (by kernel_rfl) (by kernel_rfl) (by kernel_rfl)) ?_
 intro W base args ds gs before hval0 hW hcnd _
 have hval: ∀(j:Nat) t v,Tryz.f7.params[j]? =some t->args[j]? =some v->Value.okWide Tryz.prog W .any base t v:=hval0
 have hW':=hW
 obtain⟨p,q,hA0,hV,rfl,hfz,hnd⟩:=hW
 have hA:DataW.TrodAll enc Tryz.prog W 0 (λ_=>true) true Tryz.f7.params.toList args.toList ds p:=hA0
 rw[Tryz.params7] at hA hval
 obtain⟨rfl,rfl,rfl⟩:=trodAll_none hA
 obtain⟨rfl,rfl⟩:=trodVars_none hV
 exact NV (tb:=4) (C:=Tryz.checked) mixed28 pok laidOut28 ((ahW _).mono λ_ _ x=>x.1) Ins.nil trivial rfl (by kernel_rfl) (by kernel_rfl) (by kernel_rfl) hW' rfl
theorem names_holds:Rows.DixonNamesSaid:=
 OpenClaim.holds_of_wide 7 Tryz.f7 rfl rfl rfl rfl rfl rfl rfl ⟨rfl,rfl,rfl,rfl,rfl⟩ rfl rfl rfl rfl rfl (by kernel_rfl) Tryz.func7 (by kernel_rfl)
  (of_decide_eq_true (by kernel_rfl)) (by unfold Func.isWrapper;rw[if_neg (of_decide_eq_false (by kernel_rfl))];exact⟨rfl,rfl⟩)
  (λos started H enc _=>names_lifted os started H enc)
end Go.Proofs.YtoighkablmjfeaaGreat
