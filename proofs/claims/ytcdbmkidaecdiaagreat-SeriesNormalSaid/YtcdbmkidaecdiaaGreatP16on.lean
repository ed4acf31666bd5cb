/- SeriesNormal(l, m, n) answers true, whatever the arguments; they read as they did. No conditions. -/
import Derived.Test.YtcdbmkidaecdiaaGreatU55toW3
import Derived.Test.YtcdbmkidaecdiaaGreatC16tab
import Derived.Test.YtcdbmkidaecdiaaGreatAy34
import Derived.Test.YtcdbmkidaecdiaaGreatRows
namespace Go.Proofs.YtcdbmkidaecdiaaGreat
open Go Go.Ay Go.RowKit Go.WideShapes Go.ChangeShapes Go.ChangeAt
set_option maxRecDepth 100000
theorem own16:ownKnob Tryz.prog.godebug=none:=by kernel_rfl
theorem laidOut16:laidOutB Tryz.prog=true:=by kernel_rfl
theorem mixed16:Tryz.prog.follows .mixedOrders=true:=by kernel_rfl
theorem normal_lifted (os:Os)(started:os.Started)(H:Type)(enc:TypeId×Value->H):
  ReturnsInHanded {} Tryz.checked os 7 .any (Rows.seriesNormalSpec.pre6 enc Tryz.prog Tryz.f7 Rows.seriesNormalRow.domain false) (Rows.seriesNormalSpec.post enc Tryz.prog Tryz.f7 false true false false):=by
 refine returnsInHanded_of_change (C:=Tryz.checked) own16 started (by kernel_rfl) Tryz.func7
  (ChangeSpec.witness6 (enc:=enc) (C:=Tryz.checked) false ⟨#[],#[.slice none 0 0,.int .i64 0,.int .i64 0], []⟩ 8 (by kernel_rfl) (by kernel_rfl) (by kernel_rfl) (by kernel_rfl)) ?_
 intro W base args ds gs before hval0 hW hcnd _
 have hval: ∀(j:Nat) t v,Tryz.f7.params[j]? =some t->args[j]? =some v->Value.okWide Tryz.prog W .any base t v:=hval0
 have hW':=hW
 obtain⟨p,q,hA0,hV,rfl,hfz,hnd⟩:=hW
 have hA:DataW.TrodAll enc Tryz.prog W 0 (λ_=>true) true Tryz.f7.params.toList args.toList ds p:=hA0
 rw[Tryz.params7] at hA hval
 obtain⟨v0,v1,v2,d0,d1,d2,p0,p1,p2,rfl,rfl,rfl,h0,h1,h2⟩:=trodAll_three hA
 obtain⟨rfl,rfl⟩:=trodVars_none hV
 obtain⟨os1,ps1,u,l,I,hv,hs,hl,hz⟩:=amK (e:=3) Tryz.underlying44 Tryz.underlying3 (by kernel_rfl) (hval 0 44 v0 rfl rfl) h0 Ins.nil
 obtain⟨a,rfl,wa⟩:=alX Tryz.underlying3 (hval 1 3 v1 rfl rfl) h1
 obtain⟨b,rfl,wb⟩:=alX Tryz.underlying3 (hval 2 3 v2 rfl rfl) h2
 exact LM (tb:=4) (C:=Tryz.checked) mixed16 pok laidOut16 ((alA u l a b _ hs hl).mono λ_ _ x=>x.1) I ⟨hv,rfl,rfl,trivial⟩ rfl (by kernel_rfl) (by kernel_rfl) (by kernel_rfl) hW' rfl
theorem normal_holds:Rows.SeriesNormalSaid:=
 OpenClaim.holds_of_wide 7 Tryz.f7 rfl rfl rfl rfl rfl rfl rfl ⟨rfl,rfl,rfl,rfl,rfl⟩ rfl rfl rfl rfl rfl (by kernel_rfl) Tryz.func7 (by kernel_rfl)
  (of_decide_eq_true (by kernel_rfl)) (by unfold Func.isWrapper;rw[if_neg (of_decide_eq_false (by kernel_rfl))];exact⟨rfl,rfl⟩)
  (λos started H enc _=>normal_lifted os started H enc)
end Go.Proofs.YtcdbmkidaecdiaaGreat
