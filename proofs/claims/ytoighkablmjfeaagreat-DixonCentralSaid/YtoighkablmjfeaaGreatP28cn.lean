/- DixonCentral(l, i) answers true, whatever the arguments; it reads as it did. No conditions. -/
import Derived.Test.YtoighkablmjfeaaGreatQ2toAy43
import Derived.Test.YtoighkablmjfeaaGreatC28tab
import Derived.Test.YtoighkablmjfeaaGreatD2toAy34
import Derived.Test.YtoighkablmjfeaaGreatRows
namespace Go.Proofs.YtoighkablmjfeaaGreat
open Go Go.Ay Go.RowKit Go.WideShapes Go.ChangeShapes Go.ChangeAt
set_option maxRecDepth 100000
theorem own28:ownKnob Tryz.prog.godebug=none:=by kernel_rfl
theorem laidOut28:laidOutB Tryz.prog=true:=by kernel_rfl
theorem mixed28:Tryz.prog.follows .mixedOrders=true:=by kernel_rfl
theorem central_lifted (os:Os)(started:os.Started)(H:Type)(enc:TypeId×Value->H):
  ReturnsInHanded {} Tryz.checked os 5 .any (Rows.dixonCentralSpec.pre6 enc Tryz.prog Tryz.f5 Rows.dixonCentralRow.domain false) (Rows.dixonCentralSpec.post enc Tryz.prog Tryz.f5 false true false false):=by
 refine returnsInHanded_of_change (C:=Tryz.checked) own28 started (by kernel_rfl) Tryz.func5
  (ChangeSpec.witness6 (enc:=enc) (C:=Tryz.checked) false ⟨#[],#[.slice none 0 0,.int .i64 0], []⟩ 8 (by kernel_rfl) (by kernel_rfl) (by kernel_rfl) (by kernel_rfl)) ?_
 intro W base args ds gs before hval0 hW hcnd _
 have hval: ∀(j:Nat) t v,Tryz.f5.params[j]? =some t->args[j]? =some v->Value.okWide Tryz.prog W .any base t v:=hval0
 have hW':=hW
 obtain⟨p,q,hA0,hV,rfl,hfz,hnd⟩:=hW
 have hA:DataW.TrodAll enc Tryz.prog W 0 (λ_=>true) true Tryz.f5.params.toList args.toList ds p:=hA0
 rw[Tryz.params5] at hA hval
 obtain⟨v0,v1,d0,d1,p0,p1,rfl,rfl,rfl,h0,h1⟩:=trodAll_two hA
 obtain⟨rfl,rfl⟩:=trodVars_none hV
 obtain⟨os1,ps1,u,l,I,hv,hs,hl,hz⟩:=VM (e:=3) Tryz.underlying22 Tryz.underlying3 (by kernel_rfl) (hval 0 22 v0 rfl rfl) h0 Ins.nil
 obtain⟨z,rfl,_⟩:=anI Tryz.underlying3 (hval 1 3 v1 rfl rfl) h1
 exact NV (tb:=4) (C:=Tryz.checked) mixed28 pok laidOut28 ((oA u _ z l _ hs (by omega) rfl).mono λ_ _ x=>x.1) I ⟨hv,rfl,trivial⟩ rfl (by kernel_rfl) (by kernel_rfl) (by kernel_rfl) hW' rfl
theorem central_holds:Rows.DixonCentralSaid:=
 OpenClaim.holds_of_wide 5 Tryz.f5 rfl rfl rfl rfl rfl rfl rfl ⟨rfl,rfl,rfl,rfl,rfl⟩ rfl rfl rfl rfl rfl (by kernel_rfl) Tryz.func5 (by kernel_rfl)
  (of_decide_eq_true (by kernel_rfl)) (by unfold Func.isWrapper;rw[if_neg (of_decide_eq_false (by kernel_rfl))];exact⟨rfl,rfl⟩)
  (λos started H enc _=>central_lifted os started H enc)
end Go.Proofs.YtoighkablmjfeaaGreat
