/- AlgebraNames() answers true, whatever the arguments; the arguments read as they did. No conditions. -/
import Derived.Test.YtapfcpkecmmagaaGreatR13toR29
import Derived.Test.YtapfcpkecmmagaaGreatC27tab
import Derived.Test.YtapfcpkecmmagaaGreatAy34
import Derived.Test.YtapfcpkecmmagaaGreatRows
namespace Go.Proofs.YtapfcpkecmmagaaGreat
open Go Go.Ay Go.RowKit Go.WideShapes Go.ChangeShapes Go.ChangeAt
set_option maxRecDepth 100000
theorem own27:ownKnob Tryz.prog.godebug=none:=by kernel_rfl
theorem laidOut27:laidOutB Tryz.prog=true:=by kernel_rfl
theorem mixed27:Tryz.prog.follows .mixedOrders=true:=by kernel_rfl
theorem names_lifted (os:Os)(started:os.Started)(H:Type)(enc:TypeId×Value->H):
  ReturnsInHanded {} Tryz.checked os 8 .any (Rows.algebraNamesSpec.pre6 enc Tryz.prog Tryz.f8 Rows.algebraNamesRow.domain false) (Rows.algebraNamesSpec.post enc Tryz.prog Tryz.f8 false true false false):=by
 refine returnsInHanded_of_change (C:=Tryz.checked) own27 started (by kernel_rfl) Tryz.func8
  (ChangeSpec.witness6 (enc:=enc) (C:=Tryz.checked) false ⟨#[],#[], []⟩ 8 (by kernel_rfl) (by kernel_rfl) (by kernel_rfl) (by kernel_rfl)) ?_
 intro W base args ds gs before hval0 hW hcnd _
 have hval: ∀(j:Nat) t v,Tryz.f8.params[j]? =some t->args[j]? =some v->Value.okWide Tryz.prog W .any base t v:=hval0
 have hW':=hW
 obtain⟨p,q,hA0,hV,rfl,hfz,hnd⟩:=hW
 have hA:DataW.TrodAll enc Tryz.prog W 0 (λ_=>true) true Tryz.f8.params.toList args.toList ds p:=hA0
 rw[Tryz.params8] at hA hval
 obtain⟨rfl,rfl,rfl⟩:=trodAll_none hA
 obtain⟨rfl,rfl⟩:=trodVars_none hV
 exact AX (tb:=4) (C:=Tryz.checked) mixed27 pok laidOut27 ((HP _).mono λ_ _ x=>x.1) Ins.nil trivial rfl (by kernel_rfl) (by kernel_rfl) (by kernel_rfl) hW' rfl
theorem names_holds:Rows.AlgebraNamesSaid:=
 OpenClaim.holds_of_wide 8 Tryz.f8 rfl rfl rfl rfl rfl rfl rfl ⟨rfl,rfl,rfl,rfl,rfl⟩ rfl rfl rfl rfl rfl (by kernel_rfl) Tryz.func8 (by kernel_rfl)
  (of_decide_eq_true (by kernel_rfl)) (by unfold Func.isWrapper;rw[if_neg (of_decide_eq_false (by kernel_rfl))];exact⟨rfl,rfl⟩)
  (λos started H enc _=>names_lifted os started H enc)
end Go.Proofs.YtapfcpkecmmagaaGreat
