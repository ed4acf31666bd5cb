/- SeriesKnown() answers true, whatever the arguments; the arguments read as they did. No conditions. -/
import Derived.Test.YtcdbmkidaecdiaaGreatSn3toU64
import Derived.Test.YtcdbmkidaecdiaaGreatC16tab
import Derived.Test.YtcdbmkidaecdiaaGreatAy34
import Derived.Test.YtcdbmkidaecdiaaGreatRows
namespace Go.Proofs.YtcdbmkidaecdiaaGreat
open Go Go.Ay Go.RowKit Go.WideShapes Go.ChangeShapes Go.ChangeAt
set_option maxRecDepth 100000
theorem own16:ownKnob Tryz.prog.godebug=none:=by kernel_rfl
theorem laidOut16:laidOutB Tryz.prog=true:=by kernel_rfl
theorem mixed16:Tryz.prog.follows .mixedOrders=true:=by kernel_rfl
theorem known_lifted (os:Os)(started:os.Started)(H:Type)(enc:TypeId×Value->H):
  ReturnsInHanded {} Tryz.checked os 6 .any (Rows.seriesKnownSpec.pre6 enc Tryz.prog Tryz.f6 Rows.seriesKnownRow.domain false) (Rows.seriesKnownSpec.post enc Tryz.prog Tryz.f6 false true false false):=by
 refine returnsInHanded_of_change (C:=Tryz.checked) own16 started (by kernel_rfl) Tryz.func6
  (ChangeSpec.witness6 (enc:=enc) (C:=Tryz.checked) false ⟨#[],#[], []⟩ 8 (by kernel_rfl) (by kernel_rfl) (by kernel_rfl) (by kernel_rfl)) ?_
 intro W base args ds gs before hval0 hW hcnd _
 have hval: ∀(j:Nat) t v,Tryz.f6.params[j]? =some t->args[j]? =some v->Value.okWide Tryz.prog W .any base t v:=hval0
 have hW':=hW
 obtain⟨p,q,hA0,hV,rfl,hfz,hnd⟩:=hW
 have hA:DataW.TrodAll enc Tryz.prog W 0 (λ_=>true) true Tryz.f6.params.toList args.toList ds p:=hA0
 rw[Tryz.params6] at hA hval
 obtain⟨rfl,rfl,rfl⟩:=trodAll_none hA
 obtain⟨rfl,rfl⟩:=trodVars_none hV
 exact LM (tb:=4) (C:=Tryz.checked) mixed16 pok laidOut16 ((BH _).mono λ_ _ x=>x.1) Ins.nil trivial rfl (by kernel_rfl) (by kernel_rfl) (by kernel_rfl) hW' rfl
theorem known_holds:Rows.SeriesKnownSaid:=
 OpenClaim.holds_of_wide 6 Tryz.f6 rfl rfl rfl rfl rfl rfl rfl ⟨rfl,rfl,rfl,rfl,rfl⟩ rfl rfl rfl rfl rfl (by kernel_rfl) Tryz.func6 (by kernel_rfl)
  (of_decide_eq_true (by kernel_rfl)) (by unfold Func.isWrapper;rw[if_neg (of_decide_eq_false (by kernel_rfl))];exact⟨rfl,rfl⟩)
  (λos started H enc _=>known_lifted os started H enc)
end Go.Proofs.YtcdbmkidaecdiaaGreat
