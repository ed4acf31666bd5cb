/- AlgebraMatches(c, i, x, y, l) answers true, whatever the arguments; the arguments read as they did. No conditions. -/
import Derived.Test.YtapfcpkecmmagaaGreatR46toR47
import Derived.Test.YtapfcpkecmmagaaGreatC27tab
import Derived.Test.YtapfcpkecmmagaaGreatAy41
import Derived.Test.YtapfcpkecmmagaaGreatAy34
import Derived.Test.YtapfcpkecmmagaaGreatRows
namespace Go.Proofs.YtapfcpkecmmagaaGreat
open Go Go.Ay Go.RowKit Go.WideShapes Go.ChangeShapes Go.ChangeAt
set_option maxRecDepth 100000
theorem own27:ownKnob Tryz.prog.godebug=none:=by kernel_rfl
theorem laidOut27:laidOutB Tryz.prog=true:=by kernel_rfl
theorem mixed27:Tryz.prog.follows .mixedOrders=true:=by kernel_rfl
theorem cap_kn {w:V}(k:Kn w):CapOk w:=λid off len cap e=> .inr (k id off len cap e)
theorem matches_lifted (os:Os)(started:os.Started)(H:Type)(enc:TypeId×Value->H):
  ReturnsInHanded {} Tryz.checked os 6 .any (Rows.algebraMatchesSpec.pre6 enc Tryz.prog Tryz.f6 Rows.algebraMatchesRow.domain false) (Rows.algebraMatchesSpec.post enc Tryz.prog Tryz.f6 false true false false):=by
 refine returnsInHanded_of_change (C:=Tryz.checked) own27 started (by kernel_rfl) Tryz.func6
  (ChangeSpec.witness6 (enc:=enc) (C:=Tryz.checked) false ⟨#[],#[.agg #[.int .i64 0,.slice none 0 0,.slice none 0 0],.int .i64 0,.slice none 0 0,.slice none 0 0,.slice none 0 0], []⟩ 8 (by kernel_rfl) (by kernel_rfl) (by kernel_rfl) (by kernel_rfl)) ?_
 intro W base args ds gs before hval0 hW hcnd _
 have hval: ∀(j:Nat) t v,Tryz.f6.params[j]? =some t->args[j]? =some v->Value.okWide Tryz.prog W .any base t v:=hval0
 have hW':=hW
 obtain⟨p,q,hA0,hV,rfl,hfz,hnd⟩:=hW
 have hA:DataW.TrodAll enc Tryz.prog W 0 (λ_=>true) true Tryz.f6.params.toList args.toList ds p:=hA0
 rw[Tryz.params6] at hA hval
 obtain⟨v0,v1,v2,v3,v4,d0,d1,d2,d3,d4,p0,p1,p2,p3,p4,rfl,rfl,rfl,h0,h1,h2,h3,h4⟩:=Hl hA
 obtain⟨rfl,rfl⟩:=trodVars_none hV
 obtain⟨os1,ps1,d,u,w,ll,lll,I,hv,su,ws,sw,aw,kw⟩:=Yb (e:=35) (q:=47) (s:=3) (e1:=28) (q1:=3) Tryz.underlying25 rfl rfl rfl (by kernel_rfl) (by kernel_rfl) (by kernel_rfl) (by kernel_rfl) (by kernel_rfl)
  Tryz.underlying3 Tryz.underlying22 Tryz.underlying28 Tryz.underlying3 (by kernel_rfl) (by kernel_rfl) Tryz.underlying23 Tryz.underlying35 Tryz.underlying47 Tryz.underlying3 (by kernel_rfl) (by kernel_rfl) (by kernel_rfl) (hval 0 25 v0 rfl rfl) h0 Ins.nil
 obtain⟨z,rfl,wz⟩:=GD Tryz.underlying3 (hval 1 3 v1 rfl rfl) h1
 obtain⟨os2,ps2,x,mx,I2,hv2,hs2,_,_⟩:=Bq (e:=3) Tryz.underlying28 Tryz.underlying3 (by kernel_rfl) (hval 2 28 v2 rfl rfl) h2 I
 obtain⟨os3,ps3,y,my,I3,hv3,hs3,_,_⟩:=Bq (e:=3) Tryz.underlying28 Tryz.underlying3 (by kernel_rfl) (hval 3 28 v3 rfl rfl) h3 I2
 obtain⟨os4,ps4,l,ml,I4,hv4,hs4,_,_⟩:=Bq (e:=3) Tryz.underlying28 Tryz.underlying3 (by kernel_rfl) (hval 4 28 v4 rfl rfl) h4 I3
 have hc0:ChI (Go.Ay.H.iT (([]++os1))) (.agg [.int .i64 d,u,w]) d ll lll:=⟨u,w,rfl,su,ws,sw,aw,λv hv=>cap_kn (kw v hv)⟩
 have hc:=ChI.mono (ChI.mono (ChI.mono hc0 (Ins.fr _ os2)) (Ins.fr _ os3)) (Ins.fr _ os4)
 have hx:=SI.mono (SI.mono hs2 (Ins.fr _ os3)) (Ins.fr _ os4)
 have hy:=SI.mono hs3 (Ins.fr _ os4)
 exact Rf (tb:=4) (C:=Tryz.checked) mixed27 pok laidOut27 ((Lg _ x y l z d ll lll mx my ml _ hc hx hy hs4).mono λ_ _ x=>x.1) I4 ⟨VR.mono (kU _ _) _ _ (VR.mono (kU _ _) _ _ (VR.mono (kU _ _) _ _ hv)),rfl,VR.mono (kU _ _) _ _ (VR.mono (kU _ _) _ _ hv2),VR.mono (kU _ _) _ _ hv3,hv4,trivial⟩ rfl (by kernel_rfl) (by kernel_rfl) (by kernel_rfl) hW' rfl
theorem matches_holds:Rows.AlgebraMatchesSaid:=
 OpenClaim.holds_of_wide 6 Tryz.f6 rfl rfl rfl rfl rfl rfl rfl ⟨rfl,rfl,rfl,rfl,rfl⟩ rfl rfl rfl rfl rfl (by kernel_rfl) Tryz.func6 (by kernel_rfl)
  (of_decide_eq_true (by kernel_rfl)) (by unfold Func.isWrapper;rw[if_neg (of_decide_eq_false (by kernel_rfl))];exact⟨rfl,rfl⟩)
  (λos started H enc _=>matches_lifted os started H enc)
end Go.Proofs.YtapfcpkecmmagaaGreat
