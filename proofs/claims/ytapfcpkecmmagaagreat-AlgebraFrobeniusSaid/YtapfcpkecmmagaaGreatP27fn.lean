/- AlgebraFrobenius(l, n) answers true, whatever the arguments; the arguments read as they did. No conditions. -/
import Derived.Test.YtapfcpkecmmagaaGreatR13toR39
import Derived.Test.YtapfcpkecmmagaaGreatC27tab
import Derived.Test.YtapfcpkecmmagaaGreatAy34
import Derived.Test.YtapfcpkecmmagaaGreatRows
namespace Go.Proofs.YtapfcpkecmmagaaGreat
open Go Go.Ay Go.RowKit Go.WideShapes Go.ChangeShapes Go.ChangeAt
set_option maxRecDepth 100000
theorem own27:ownKnob Tryz.prog.godebug=none:=by kernel_rfl
theorem laidOut27:laidOutB Tryz.prog=true:=by kernel_rfl
theorem mixed27:Tryz.prog.follows .mixedOrders=true:=by kernel_rfl
theorem frob_lifted (os:Os)(started:os.Started)(H:Type)(enc:TypeId×Value->H):
  ReturnsInHanded {} Tryz.checked os 5 .any (Rows.algebraFrobeniusSpec.pre6 enc Tryz.prog Tryz.f5 Rows.algebraFrobeniusRow.domain false) (Rows.algebraFrobeniusSpec.post enc Tryz.prog Tryz.f5 false true false false):=by
 refine returnsInHanded_of_change (C:=Tryz.checked) own27 started (by kernel_rfl) Tryz.func5
  (ChangeSpec.witness6 (enc:=enc) (C:=Tryz.checked) false ⟨#[],#[.slice none 0 0,.int .i64 0], []⟩ 8 (by kernel_rfl) (by kernel_rfl) (by kernel_rfl) (by kernel_rfl)) ?_
 intro W base args ds gs before hval0 hW hcnd _
 have hval: ∀(j:Nat) t v,Tryz.f5.params[j]? =some t->args[j]? =some v->Value.okWide Tryz.prog W .any base t v:=hval0
 have hW':=hW
 obtain⟨p,q,hA0,hV,rfl,hfz,hnd⟩:=hW
 have hA:DataW.TrodAll enc Tryz.prog W 0 (λ_=>true) true Tryz.f5.params.toList args.toList ds p:=hA0
 rw[Tryz.params5] at hA hval
 obtain⟨v0,v1,d0,d1,p0,p1,rfl,rfl,rfl,h0,h1⟩:=trodAll_two hA
 obtain⟨rfl,rfl⟩:=trodVars_none hV
 obtain⟨os',ps',u,l,I,hv,hs,hl,hz⟩:=Oc (e:=3) Tryz.underlying28 Tryz.underlying3 (by kernel_rfl) (hval 0 28 v0 rfl rfl) h0 Ins.nil
 obtain⟨a,rfl,wa⟩:=Wo Tryz.underlying3 (hval 1 3 v1 rfl rfl) h1
 have ha: -9223372036854775808<=a/\a<9223372036854775808:=by omega
 exact Js (tb:=4) (C:=Tryz.checked) mixed27 pok laidOut27 ((frob_ok u l a _ ha hs hl).mono λ_ _ x=>x.1) I ⟨hv,rfl,trivial⟩ rfl (by kernel_rfl) (by kernel_rfl) (by kernel_rfl) hW' rfl
theorem frob_holds:Rows.AlgebraFrobeniusSaid:=
 OpenClaim.holds_of_wide 5 Tryz.f5 rfl rfl rfl rfl rfl rfl rfl ⟨rfl,rfl,rfl,rfl,rfl⟩ rfl rfl rfl rfl rfl (by kernel_rfl) Tryz.func5 (by kernel_rfl)
  (of_decide_eq_true (by kernel_rfl)) (by unfold Func.isWrapper;rw[if_neg (of_decide_eq_false (by kernel_rfl))];exact⟨rfl,rfl⟩)
  (λos started H enc _=>frob_lifted os started H enc)
end Go.Proofs.YtapfcpkecmmagaaGreat
