/- ClassesConj(l, m) answers true, whatever the arguments; the arguments read as they did. No conditions. -/
import Derived.Test.YtddpkbicnolafaaGreatP8atoP8o
import Derived.Test.YtddpkbicnolafaaGreatC15tab
import Derived.Test.YtddpkbicnolafaaGreatAy34
import Derived.Test.YtddpkbicnolafaaGreatRows
namespace Go.Proofs.YtddpkbicnolafaaGreat
open Go Go.Ay Go.RowKit Go.WideShapes Go.ChangeShapes Go.ChangeAt
set_option maxRecDepth 100000
theorem own15:ownKnob Tryz.prog.godebug=none:=by kernel_rfl
theorem laidOut15:laidOutB Tryz.prog=true:=by kernel_rfl
theorem mixed15:Tryz.prog.follows .mixedOrders=true:=by kernel_rfl
theorem conj_lifted (os:Os) (started:os.Started) (H:Type) (enc:TypeId×Value->H):
  ReturnsInHanded {} Tryz.checked os 9 .any (Rows.classesConjSpec.pre6 enc Tryz.prog Tryz.f9 Rows.classesConjRow.domain false) (Rows.classesConjSpec.post enc Tryz.prog Tryz.f9 false true false false):=by
 refine returnsInHanded_of_change (C:=Tryz.checked) own15 started (by kernel_rfl) Tryz.func9
  (ChangeSpec.witness6 (enc:=enc) (C:=Tryz.checked) false ⟨#[],#[.slice none 0 0,.slice none 0 0], []⟩ 8 (by kernel_rfl) (by kernel_rfl) (by kernel_rfl) (by kernel_rfl)) ?_
 intro W base args ds gs before hval0 hW hcnd _
 have hval: ∀ (j:Nat) t v,Tryz.f9.params[j]? =some t->args[j]? =some v->Value.okWide Tryz.prog W .any base t v:=hval0
 have hW':=hW
 obtain ⟨p,q,hA0,hV,rfl,hfz,hnd⟩:=hW
 have hA:DataW.TrodAll enc Tryz.prog W 0 (λ _=>true) true Tryz.f9.params.toList args.toList ds p:=hA0
 rw [Tryz.params9] at hA hval
 obtain ⟨v0,v1,d0,d1,p0,p1,rfl,rfl,rfl,h0,h1⟩:=trodAll_two hA
 obtain ⟨rfl,rfl⟩:=trodVars_none hV
 obtain ⟨os1,ps1,u,l,I,hv,hs,hl,hz⟩:=GI (e:=3) Tryz.underlying28 Tryz.underlying3 (by kernel_rfl) (hval 0 28 v0 rfl rfl) h0 Ins.nil
 obtain ⟨os2,ps2,w,m,I2,hv2,hs2,hl2,hz2⟩:=GI (e:=3) Tryz.underlying28 Tryz.underlying3 (by kernel_rfl) (hval 1 28 v1 rfl rfl) h1 I
 exact RM (tb:=4) (C:=Tryz.checked) mixed15 pok laidOut15 ((adM u w l m _ (hs.mono (Ins.fr _ _)) hs2 hl hl2).mono λ _ _ x=>x.1) I2 ⟨VR.mono (CM _ _) _ _ hv,hv2,trivial⟩ rfl (by kernel_rfl) (by kernel_rfl) (by kernel_rfl) hW' rfl
theorem conj_holds:Rows.ClassesConjSaid:=
 OpenClaim.holds_of_wide 9 Tryz.f9 rfl rfl rfl rfl rfl rfl rfl ⟨rfl,rfl,rfl,rfl,rfl⟩ rfl rfl rfl rfl rfl (by kernel_rfl) Tryz.func9 (by kernel_rfl)
  (of_decide_eq_true (by kernel_rfl)) (by unfold Func.isWrapper;rw [if_neg (of_decide_eq_false (by kernel_rfl))];exact ⟨rfl,rfl⟩)
  (λ os started H enc _=>conj_lifted os started H enc)
end Go.Proofs.YtddpkbicnolafaaGreat
