/- ClassesMaps(l, m, n) answers true, whatever the arguments; the arguments read as they did. No conditions. -/
import Derived.Test.YtddpkbicnolafaaGreatP8atoP8n
import Derived.Test.YtddpkbicnolafaaGreatC15tab
import Derived.Test.YtddpkbicnolafaaGreatAy34
import Derived.Test.YtddpkbicnolafaaGreatRows
namespace Go.Proofs.YtddpkbicnolafaaGreat
open Go Go.Ay Go.RowKit Go.WideShapes Go.ChangeShapes Go.ChangeAt
set_option maxRecDepth 100000
theorem own15:ownKnob Tryz.prog.godebug=none:=by kernel_rfl
theorem laidOut15:laidOutB Tryz.prog=true:=by kernel_rfl
theorem mixed15:Tryz.prog.follows .mixedOrders=true:=by kernel_rfl
theorem maps_lifted (os:Os) (started:os.Started) (H:Type) (enc:TypeId×Value->H):
  ReturnsInHanded {} Tryz.checked os 8 .any (Rows.classesMapsSpec.pre6 enc Tryz.prog Tryz.f8 Rows.classesMapsRow.domain false) (Rows.classesMapsSpec.post enc Tryz.prog Tryz.f8 false true false false):=by
 refine returnsInHanded_of_change (C:=Tryz.checked) own15 started (by kernel_rfl) Tryz.func8
  (ChangeSpec.witness6 (enc:=enc) (C:=Tryz.checked) false ⟨#[],#[.slice none 0 0,.int .i64 0,.int .i64 0], []⟩ 8 (by kernel_rfl) (by kernel_rfl) (by kernel_rfl) (by kernel_rfl)) ?_
 intro W base args ds gs before hval0 hW hcnd _
 have hval: ∀ (j:Nat) t v,Tryz.f8.params[j]? =some t->args[j]? =some v->Value.okWide Tryz.prog W .any base t v:=hval0
 have hW':=hW
 obtain ⟨p,q,hA0,hV,rfl,hfz,hnd⟩:=hW
 have hA:DataW.TrodAll enc Tryz.prog W 0 (λ _=>true) true Tryz.f8.params.toList args.toList ds p:=hA0
 rw [Tryz.params8] at hA hval
 obtain ⟨v0,v1,v2,d0,d1,d2,p0,p1,p2,rfl,rfl,rfl,h0,h1,h2⟩:=trodAll_three hA
 obtain ⟨rfl,rfl⟩:=trodVars_none hV
 obtain ⟨os',ps',u,l,I,hv,hs,hl,hz⟩:=abD (e:=3) Tryz.underlying28 Tryz.underlying3 (by kernel_rfl) (hval 0 28 v0 rfl rfl) h0 Ins.nil
 obtain ⟨a,rfl,wa⟩:=abT Tryz.underlying3 (hval 1 3 v1 rfl rfl) h1
 obtain ⟨b,rfl,wb⟩:=abT Tryz.underlying3 (hval 2 3 v2 rfl rfl) h2
 exact UI (tb:=4) (C:=Tryz.checked) mixed15 pok laidOut15 ((acS u l a b _ hs hl).mono λ _ _ x=>x.1) I ⟨hv,rfl,rfl,trivial⟩ rfl (by kernel_rfl) (by kernel_rfl) (by kernel_rfl) hW' rfl
theorem maps_holds:Rows.ClassesMapsSaid:=
 OpenClaim.holds_of_wide 8 Tryz.f8 rfl rfl rfl rfl rfl rfl rfl ⟨rfl,rfl,rfl,rfl,rfl⟩ rfl rfl rfl rfl rfl (by kernel_rfl) Tryz.func8 (by kernel_rfl)
  (of_decide_eq_true (by kernel_rfl)) (by unfold Func.isWrapper;rw [if_neg (of_decide_eq_false (by kernel_rfl))];exact ⟨rfl,rfl⟩)
  (λ os started H enc _=>maps_lifted os started H enc)
end Go.Proofs.YtddpkbicnolafaaGreat
