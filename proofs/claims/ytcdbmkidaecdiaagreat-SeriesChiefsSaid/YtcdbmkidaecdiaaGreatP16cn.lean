/- SeriesChiefs(c) answers true, whatever the argument; the argument reads as it did. No conditions. -/
import Derived.Test.YtcdbmkidaecdiaaGreatZ1toAy43
import Derived.Test.YtcdbmkidaecdiaaGreatC16tab
import Derived.Test.YtcdbmkidaecdiaaGreatAy31toAy41
import Derived.Test.YtcdbmkidaecdiaaGreatRows
namespace Go.Proofs.YtcdbmkidaecdiaaGreat
open Go Go.Ay Go.RowKit Go.WideShapes Go.ChangeShapes Go.ChangeAt
set_option maxRecDepth 100000
theorem own16:ownKnob Tryz.prog.godebug=none:=by kernel_rfl
theorem laidOut16:laidOutB Tryz.prog=true:=by kernel_rfl
theorem mixed16:Tryz.prog.follows .mixedOrders=true:=by kernel_rfl
theorem cap_kn {w:V}(k:Kn w):Wg w:=λid off len cap e=> .inr (k id off len cap e)
theorem chiefs_lifted (os:Os)(started:os.Started)(H:Type)(enc:TypeId×Value->H):
  ReturnsInHanded {} Tryz.checked os 3 .any (Rows.seriesChiefsSpec.pre6 enc Tryz.prog Tryz.f3 Rows.seriesChiefsRow.domain false) (Rows.seriesChiefsSpec.post enc Tryz.prog Tryz.f3 false true false false):=by
 refine returnsInHanded_of_change (C:=Tryz.checked) own16 started (by kernel_rfl) Tryz.func3
  (ChangeSpec.witness6 (enc:=enc) (C:=Tryz.checked) false ⟨#[],#[.agg #[.int .i64 0,.slice none 0 0,.slice none 0 0]], []⟩ 8 (by kernel_rfl) (by kernel_rfl) (by kernel_rfl) (by kernel_rfl)) ?_
 intro W base args ds gs before hval0 hW hcnd _
 have hval: ∀(j:Nat) t v,Tryz.f3.params[j]? =some t->args[j]? =some v->Value.okWide Tryz.prog W .any base t v:=hval0
 have hW':=hW
 obtain⟨p,q,hA0,hV,rfl,hfz,hnd⟩:=hW
 have hA:DataW.TrodAll enc Tryz.prog W 0 (λ_=>true) true Tryz.f3.params.toList args.toList ds p:=hA0
 rw[Tryz.params3] at hA hval
 obtain⟨v0,d0,rfl,rfl,h0⟩:=trodAll_one hA
 obtain⟨rfl,rfl⟩:=trodVars_none hV
 obtain⟨os1,ps1,d,u,w,ll,lll,I,hv,su,ws,sw,aw1,kw⟩:=TR (e:=46) (q:=45) (s:=3) (e1:=44) (q1:=3) Tryz.underlying25 rfl rfl rfl (by kernel_rfl) (by kernel_rfl) (by kernel_rfl) (by kernel_rfl) (by kernel_rfl)
  Tryz.underlying3 Tryz.underlying22 Tryz.underlying44 Tryz.underlying3 (by kernel_rfl) (by kernel_rfl) Tryz.underlying23 Tryz.underlying46 Tryz.underlying45 Tryz.underlying3 (by kernel_rfl) (by kernel_rfl) (by kernel_rfl) (hval 0 25 v0 rfl rfl) h0 Ins.nil
 have hc:Hd (Go.Ay.H.mX (([]++os1))) (.agg [.int .i64 d,u,w]) d ll lll:=⟨u,w,rfl,su,ws,sw,aw1,λv hv=>cap_kn (kw v hv)⟩
 exact JL (tb:=4) (C:=Tryz.checked) mixed16 pok laidOut16 ((Ui _ d ll lll _ hc).mono λ_ _ x=>x.1) I ⟨hv,trivial⟩ rfl (by kernel_rfl) (by kernel_rfl) (by kernel_rfl) hW' rfl
theorem chiefs_holds:Rows.SeriesChiefsSaid:=
 OpenClaim.holds_of_wide 3 Tryz.f3 rfl rfl rfl rfl rfl rfl rfl ⟨rfl,rfl,rfl,rfl,rfl⟩ rfl rfl rfl rfl rfl (by kernel_rfl) Tryz.func3 (by kernel_rfl)
  (of_decide_eq_true (by kernel_rfl)) (by unfold Func.isWrapper;rw[if_neg (of_decide_eq_false (by kernel_rfl))];exact⟨rfl,rfl⟩)
  (λos started H enc _=>chiefs_lifted os started H enc)
end Go.Proofs.YtcdbmkidaecdiaaGreat
