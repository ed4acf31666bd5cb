/- AlgebraRing(l, entries) answers true, whatever the arguments; the arguments read as they did. No conditions. -/
import Derived.Test.YtapfcpkecmmagaaGreatR5toR25
import Derived.Test.YtapfcpkecmmagaaGreatC27tab
import Derived.Test.YtapfcpkecmmagaaGreatAy34
import Derived.Test.YtapfcpkecmmagaaGreatRows
namespace Go.Proofs.YtapfcpkecmmagaaGreat
open Go Go.Ay Go.RowKit Go.WideShapes Go.ChangeShapes Go.ChangeAt
set_option maxRecDepth 100000
theorem own27:ownKnob Tryz.prog.godebug=none:=by kernel_rfl
theorem laidOut27:laidOutB Tryz.prog=true:=by kernel_rfl
theorem mixed27:Tryz.prog.follows .mixedOrders=true:=by kernel_rfl
theorem ring_lifted (os:Os)(started:os.Started)(H:Type)(enc:TypeId×Value->H):
  ReturnsInHanded {} Tryz.checked os 7 .any (Rows.algebraRingSpec.pre6 enc Tryz.prog Tryz.f7 Rows.algebraRingRow.domain false) (Rows.algebraRingSpec.post enc Tryz.prog Tryz.f7 false true false false):=by
 refine returnsInHanded_of_change (C:=Tryz.checked) own27 started (by kernel_rfl) Tryz.func7
  (ChangeSpec.witness6 (enc:=enc) (C:=Tryz.checked) false ⟨#[],#[.slice none 0 0,.slice none 0 0], []⟩ 8 (by kernel_rfl) (by kernel_rfl) (by kernel_rfl) (by kernel_rfl)) ?_
 intro W base args ds gs before hval0 hW hcnd _
 have hval: ∀(j:Nat) t v,Tryz.f7.params[j]? =some t->args[j]? =some v->Value.okWide Tryz.prog W .any base t v:=hval0
 have hW':=hW
 obtain⟨p,q,hA0,hV,rfl,hfz,hnd⟩:=hW
 have hA:DataW.TrodAll enc Tryz.prog W 0 (λ_=>true) true Tryz.f7.params.toList args.toList ds p:=hA0
 rw[Tryz.params7] at hA hval
 obtain⟨v0,v1,d0,d1,p0,p1,rfl,rfl,rfl,h0,h1⟩:=trodAll_two hA
 obtain⟨rfl,rfl⟩:=trodVars_none hV
 obtain⟨os1,ps1,u,l,I,hv,hs,hl,hz⟩:=Tp (e:=3) Tryz.underlying28 Tryz.underlying3 (by kernel_rfl) (hval 0 28 v0 rfl rfl) h0 Ins.nil
 obtain⟨os2,ps2,u',m,I2,hv2,hs2,hl2,hz2⟩:=Tp (e:=3) Tryz.underlying28 Tryz.underlying3 (by kernel_rfl) (hval 1 28 v1 rfl rfl) h1 I
 have hs':SI (Go.Ay.H.tC ((([]++os1))++os2)) u l:=hs.mono (Ins.fr _ _)
 exact FJ (tb:=4) (C:=Tryz.checked) mixed27 pok laidOut27 ((QQ u u' l m _ hs' hs2 hl hl2).mono λ_ _ x=>x.1) I2 ⟨VR.mono (Pg _ _) _ _ hv,hv2,trivial⟩ rfl (by kernel_rfl) (by kernel_rfl) (by kernel_rfl) hW' rfl
theorem ring_holds:Rows.AlgebraRingSaid:=
 OpenClaim.holds_of_wide 7 Tryz.f7 rfl rfl rfl rfl rfl rfl rfl ⟨rfl,rfl,rfl,rfl,rfl⟩ rfl rfl rfl rfl rfl (by kernel_rfl) Tryz.func7 (by kernel_rfl)
  (of_decide_eq_true (by kernel_rfl)) (by unfold Func.isWrapper;rw[if_neg (of_decide_eq_false (by kernel_rfl))];exact⟨rfl,rfl⟩)
  (λos started H enc _=>ring_lifted os started H enc)
end Go.Proofs.YtapfcpkecmmagaaGreat
