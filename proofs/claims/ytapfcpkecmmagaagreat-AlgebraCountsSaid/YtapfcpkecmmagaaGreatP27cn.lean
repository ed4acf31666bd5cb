/- AlgebraCounts(c, n) answers true, whatever the arguments; the arguments read as they did. No conditions. -/
import Derived.Test.YtapfcpkecmmagaaGreatP9ltoR48
import Derived.Test.YtapfcpkecmmagaaGreatC27tab
import Derived.Test.YtapfcpkecmmagaaGreatAy41
import Derived.Test.YtapfcpkecmmagaaGreatRows
namespace Go.Proofs.YtapfcpkecmmagaaGreat
open Go Go.Ay Go.RowKit Go.WideShapes Go.ChangeShapes Go.ChangeAt
set_option maxRecDepth 100000
theorem own27:ownKnob Tryz.prog.godebug=none:=by kernel_rfl
theorem laidOut27:laidOutB Tryz.prog=true:=by kernel_rfl
theorem mixed27:Tryz.prog.follows .mixedOrders=true:=by kernel_rfl
theorem cap_kn {w:V}(k:Kn w):CapOk w:=λid off len cap e=> .inr (k id off len cap e)
theorem counts_lifted (os:Os)(started:os.Started)(H:Type)(enc:TypeId×Value->H):
  ReturnsInHanded {} Tryz.checked os 3 .any (Rows.algebraCountsSpec.pre6 enc Tryz.prog Tryz.f3 Rows.algebraCountsRow.domain false) (Rows.algebraCountsSpec.post enc Tryz.prog Tryz.f3 false true false false):=by
 refine returnsInHanded_of_change (C:=Tryz.checked) own27 started (by kernel_rfl) Tryz.func3
  (ChangeSpec.witness6 (enc:=enc) (C:=Tryz.checked) false ⟨#[],#[.agg #[.int .i64 0,.slice none 0 0,.slice none 0 0],.int .i64 0], []⟩ 8 (by kernel_rfl) (by kernel_rfl) (by kernel_rfl) (by kernel_rfl)) ?_
 intro W base args ds gs before hval0 hW hcnd _
 have hval: ∀(j:Nat) t v,Tryz.f3.params[j]? =some t->args[j]? =some v->Value.okWide Tryz.prog W .any base t v:=hval0
 have hW':=hW
 obtain⟨p,q,hA0,hV,rfl,hfz,hnd⟩:=hW
 have hA:DataW.TrodAll enc Tryz.prog W 0 (λ_=>true) true Tryz.f3.params.toList args.toList ds p:=hA0
 rw[Tryz.params3] at hA hval
 obtain⟨v0,v1,d0,d1,p0,p1,rfl,rfl,rfl,h0,h1⟩:=trodAll_two hA
 obtain⟨rfl,rfl⟩:=trodVars_none hV
 obtain⟨os1,ps1,d,u,w,ll,lll,I,hv,su,ws,sw,aw,kw⟩:=Xd (e:=35) (q:=47) (s:=3) (e1:=28) (q1:=3) Tryz.underlying25 rfl rfl rfl (by kernel_rfl) (by kernel_rfl) (by kernel_rfl) (by kernel_rfl) (by kernel_rfl)
  Tryz.underlying3 Tryz.underlying22 Tryz.underlying28 Tryz.underlying3 (by kernel_rfl) (by kernel_rfl) Tryz.underlying23 Tryz.underlying35 Tryz.underlying47 Tryz.underlying3 (by kernel_rfl) (by kernel_rfl) (by kernel_rfl) (hval 0 25 v0 rfl rfl) h0 Ins.nil
 obtain⟨z,rfl,wz⟩:=DA Tryz.underlying3 (hval 1 3 v1 rfl rfl) h1
 have hc:ChI (Go.Ay.H.jP (([]++os1))) (.agg [.int .i64 d,u,w]) d ll lll:=⟨u,w,rfl,su,ws,sw,aw,λv hv=>cap_kn (kw v hv)⟩
 exact Ry (tb:=4) (C:=Tryz.checked) mixed27 pok laidOut27 ((counts_ok _ z d ll lll _ wz hc).mono λ_ _ x=>x.1) I ⟨hv,rfl,trivial⟩ rfl (by kernel_rfl) (by kernel_rfl) (by kernel_rfl) hW' rfl
theorem counts_holds:Rows.AlgebraCountsSaid:=
 OpenClaim.holds_of_wide 3 Tryz.f3 rfl rfl rfl rfl rfl rfl rfl ⟨rfl,rfl,rfl,rfl,rfl⟩ rfl rfl rfl rfl rfl (by kernel_rfl) Tryz.func3 (by kernel_rfl)
  (of_decide_eq_true (by kernel_rfl)) (by unfold Func.isWrapper;rw[if_neg (of_decide_eq_false (by kernel_rfl))];exact⟨rfl,rfl⟩)
  (λos started H enc _=>counts_lifted os started H enc)
end Go.Proofs.YtapfcpkecmmagaaGreat
