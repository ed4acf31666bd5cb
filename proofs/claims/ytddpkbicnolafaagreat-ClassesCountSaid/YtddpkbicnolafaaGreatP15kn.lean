/- ClassesCount(l) answers true, whatever the arguments; the arguments read as they did. No conditions. -/
import Derived.Test.YtddpkbicnolafaaGreatP8ctoP8r
import Derived.Test.YtddpkbicnolafaaGreatC15tab
import Derived.Test.YtddpkbicnolafaaGreatAy34
import Derived.Test.YtddpkbicnolafaaGreatRows
namespace Go.Proofs.YtddpkbicnolafaaGreat
open Go Go.Ay Go.RowKit Go.WideShapes Go.ChangeShapes Go.ChangeAt
set_option maxRecDepth 100000
theorem own15:ownKnob Tryz.prog.godebug=none:=by kernel_rfl
theorem laidOut15:laidOutB Tryz.prog=true:=by kernel_rfl
theorem mixed15:Tryz.prog.follows .mixedOrders=true:=by kernel_rfl
theorem count_lifted (os:Os)(started:os.Started)(H:Type)(enc:TypeId×Value->H):
  ReturnsInHanded {} Tryz.checked os 7 .any (Rows.classesCountSpec.pre6 enc Tryz.prog Tryz.f7 Rows.classesCountRow.domain false) (Rows.classesCountSpec.post enc Tryz.prog Tryz.f7 false true false false):=by
 refine returnsInHanded_of_change (C:=Tryz.checked) own15 started (by kernel_rfl) Tryz.func7
  (ChangeSpec.witness6 (enc:=enc) (C:=Tryz.checked) false ⟨#[],#[.slice none 0 0], []⟩ 8 (by kernel_rfl) (by kernel_rfl) (by kernel_rfl) (by kernel_rfl)) ?_
 intro W base args ds gs before hval0 hW hcnd _
 have hval: ∀(j:Nat) t v,Tryz.f7.params[j]? =some t->args[j]? =some v->Value.okWide Tryz.prog W .any base t v:=hval0
 have hW':=hW
 obtain⟨p,q,hA0,hV,rfl,hfz,hnd⟩:=hW
 have hA:DataW.TrodAll enc Tryz.prog W 0 (λ_=>true) true Tryz.f7.params.toList args.toList ds p:=hA0
 rw[Tryz.params7] at hA hval
 obtain⟨v0,d0,rfl,rfl,h0⟩:=trodAll_one hA
 obtain⟨rfl,rfl⟩:=trodVars_none hV
 obtain⟨os1,ps1,u,l,I,hv,hs,hl,hz⟩:=abR (e:=3) Tryz.underlying28 Tryz.underlying3 (by kernel_rfl) (hval 0 28 v0 rfl rfl) h0 Ins.nil
 exact TF (tb:=4) (C:=Tryz.checked) mixed15 pok laidOut15 ((acF u l _ hs hl).mono λ_ _ x=>x.1) I ⟨hv,trivial⟩ rfl (by kernel_rfl) (by kernel_rfl) (by kernel_rfl) hW' rfl
theorem count_holds:Rows.ClassesCountSaid:=
 OpenClaim.holds_of_wide 7 Tryz.f7 rfl rfl rfl rfl rfl rfl rfl ⟨rfl,rfl,rfl,rfl,rfl⟩ rfl rfl rfl rfl rfl (by kernel_rfl) Tryz.func7 (by kernel_rfl)
  (of_decide_eq_true (by kernel_rfl)) (by unfold Func.isWrapper;rw[if_neg (of_decide_eq_false (by kernel_rfl))];exact⟨rfl,rfl⟩)
  (λos started H enc _=>count_lifted os started H enc)
end Go.Proofs.YtddpkbicnolafaaGreat
