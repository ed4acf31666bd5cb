/- SeriesBelow(l, sub, m) answers true, whatever the arguments; they read as they did. No conditions. -/
import Derived.Test.YtcdbmkidaecdiaaGreatU50toW10
import Derived.Test.YtcdbmkidaecdiaaGreatC16tab
import Derived.Test.YtcdbmkidaecdiaaGreatAy34
import Derived.Test.YtcdbmkidaecdiaaGreatRows
namespace Go.Proofs.YtcdbmkidaecdiaaGreat
open Go Go.Ay Go.RowKit Go.WideShapes Go.ChangeShapes Go.ChangeAt
set_option maxRecDepth 100000
theorem own16:ownKnob Tryz.prog.godebug=none:=by kernel_rfl
theorem laidOut16:laidOutB Tryz.prog=true:=by kernel_rfl
theorem mixed16:Tryz.prog.follows .mixedOrders=true:=by kernel_rfl
theorem below_lifted (os:Os)(started:os.Started)(H:Type)(enc:TypeId×Value->H):
  ReturnsInHanded {} Tryz.checked os 9 .any (Rows.seriesBelowSpec.pre6 enc Tryz.prog Tryz.f9 Rows.seriesBelowRow.domain false) (Rows.seriesBelowSpec.post enc Tryz.prog Tryz.f9 false true false false):=by
 refine returnsInHanded_of_change (C:=Tryz.checked) own16 started (by kernel_rfl) Tryz.func9
  (ChangeSpec.witness6 (enc:=enc) (C:=Tryz.checked) false ⟨#[],#[.slice none 0 0,.slice none 0 0,.slice none 0 0], []⟩ 8 (by kernel_rfl) (by kernel_rfl) (by kernel_rfl) (by kernel_rfl)) ?_
 intro W base args ds gs before hval0 hW hcnd _
 have hval: ∀(j:Nat) t v,Tryz.f9.params[j]? =some t->args[j]? =some v->Value.okWide Tryz.prog W .any base t v:=hval0
 have hW':=hW
 obtain⟨p,q,hA0,hV,rfl,hfz,hnd⟩:=hW
 have hA:DataW.TrodAll enc Tryz.prog W 0 (λ_=>true) true Tryz.f9.params.toList args.toList ds p:=hA0
 rw[Tryz.params9] at hA hval
 obtain⟨v0,v1,v2,d0,d1,d2,p0,p1,p2,rfl,rfl,rfl,h0,h1,h2⟩:=trodAll_three hA
 obtain⟨rfl,rfl⟩:=trodVars_none hV
 obtain⟨os1,ps1,u1,l1,I1,hv1,hs1,hl1,hz1⟩:=Pf (e:=3) Tryz.underlying44 Tryz.underlying3 (by kernel_rfl) (hval 0 44 v0 rfl rfl) h0 Ins.nil
 obtain⟨os2,ps2,u2,l2,I2,hv2,hs2,hl2,hz2⟩:=Pf (e:=3) Tryz.underlying44 Tryz.underlying3 (by kernel_rfl) (hval 1 44 v1 rfl rfl) h1 I1
 obtain⟨os3,ps3,u3,l3,I3,hv3,hs3,hl3,hz3⟩:=Pf (e:=3) Tryz.underlying44 Tryz.underlying3 (by kernel_rfl) (hval 2 44 v2 rfl rfl) h2 I2
 exact MH (tb:=4) (C:=Tryz.checked) mixed16 pok laidOut16 ((JN u1 u2 u3 l1 l2 l3 _ ((hs1.mono (Ins.fr _ _)).mono (Ins.fr _ _)) (hs2.mono (Ins.fr _ _)) hs3 hl1 hl2 hl3).mono λ_ _ x=>x.1) I3 ⟨VR.mono (Hp _ _) _ _ (VR.mono (Hp _ _) _ _ hv1),VR.mono (Hp _ _) _ _ hv2,hv3,trivial⟩ rfl (by kernel_rfl) (by kernel_rfl) (by kernel_rfl) hW' rfl
theorem below_holds:Rows.SeriesBelowSaid:=
 OpenClaim.holds_of_wide 9 Tryz.f9 rfl rfl rfl rfl rfl rfl rfl ⟨rfl,rfl,rfl,rfl,rfl⟩ rfl rfl rfl rfl rfl (by kernel_rfl) Tryz.func9 (by kernel_rfl)
  (of_decide_eq_true (by kernel_rfl)) (by unfold Func.isWrapper;rw[if_neg (of_decide_eq_false (by kernel_rfl))];exact⟨rfl,rfl⟩)
  (λos started H enc _=>below_lifted os started H enc)
end Go.Proofs.YtcdbmkidaecdiaaGreat
