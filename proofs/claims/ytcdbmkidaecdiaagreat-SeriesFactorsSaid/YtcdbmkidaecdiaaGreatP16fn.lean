/- SeriesFactors(l) answers true, whatever the argument; it reads as it did. No conditions. -/
import Derived.Test.YtcdbmkidaecdiaaGreatU53toW6
import Derived.Test.YtcdbmkidaecdiaaGreatC16tab
import Derived.Test.YtcdbmkidaecdiaaGreatAy34
import Derived.Test.YtcdbmkidaecdiaaGreatRows
namespace Go.Proofs.YtcdbmkidaecdiaaGreat
open Go Go.Ay Go.RowKit Go.WideShapes Go.ChangeShapes Go.ChangeAt
set_option maxRecDepth 100000
theorem own16:ownKnob Tryz.prog.godebug=none:=by kernel_rfl
theorem laidOut16:laidOutB Tryz.prog=true:=by kernel_rfl
theorem mixed16:Tryz.prog.follows .mixedOrders=true:=by kernel_rfl
theorem factors_lifted (os:Os)(started:os.Started)(H:Type)(enc:TypeId×Value->H):
  ReturnsInHanded {} Tryz.checked os 8 .any (Rows.seriesFactorsSpec.pre6 enc Tryz.prog Tryz.f8 Rows.seriesFactorsRow.domain false) (Rows.seriesFactorsSpec.post enc Tryz.prog Tryz.f8 false true false false):=by
 refine returnsInHanded_of_change (C:=Tryz.checked) own16 started (by kernel_rfl) Tryz.func8
  (ChangeSpec.witness6 (enc:=enc) (C:=Tryz.checked) false ⟨#[],#[.slice none 0 0], []⟩ 8 (by kernel_rfl) (by kernel_rfl) (by kernel_rfl) (by kernel_rfl)) ?_
 intro W base args ds gs before hval0 hW hcnd _
 have hval: ∀(j:Nat) t v,Tryz.f8.params[j]? =some t->args[j]? =some v->Value.okWide Tryz.prog W .any base t v:=hval0
 have hW':=hW
 obtain⟨p,q,hA0,hV,rfl,hfz,hnd⟩:=hW
 have hA:DataW.TrodAll enc Tryz.prog W 0 (λ_=>true) true Tryz.f8.params.toList args.toList ds p:=hA0
 rw[Tryz.params8] at hA hval
 obtain⟨v0,d0,rfl,rfl,h0⟩:=trodAll_one hA
 obtain⟨rfl,rfl⟩:=trodVars_none hV
 obtain⟨os1,ps1,u,l,I,hv,hs,hl,hz⟩:=amK (e:=3) Tryz.underlying44 Tryz.underlying3 (by kernel_rfl) (hval 0 44 v0 rfl rfl) h0 Ins.nil
 exact amZ (tb:=4) (C:=Tryz.checked) mixed16 pok laidOut16 ((ajR u l _ hs hl).mono λ_ _ x=>x.1) I ⟨hv,trivial⟩ rfl (by kernel_rfl) (by kernel_rfl) (by kernel_rfl) hW' rfl
theorem factors_holds:Rows.SeriesFactorsSaid:=
 OpenClaim.holds_of_wide 8 Tryz.f8 rfl rfl rfl rfl rfl rfl rfl ⟨rfl,rfl,rfl,rfl,rfl⟩ rfl rfl rfl rfl rfl (by kernel_rfl) Tryz.func8 (by kernel_rfl)
  (of_decide_eq_true (by kernel_rfl)) (by unfold Func.isWrapper;rw[if_neg (of_decide_eq_false (by kernel_rfl))];exact⟨rfl,rfl⟩)
  (λos started H enc _=>factors_lifted os started H enc)
end Go.Proofs.YtcdbmkidaecdiaaGreat
