/- AlgebraPairs(l, i, j) answers true, whatever the arguments; the arguments read as they did. No conditions. -/
import Derived.Test.YtapfcpkecmmagaaGreatR7toR27
import Derived.Test.YtapfcpkecmmagaaGreatC27tab
import Derived.Test.YtapfcpkecmmagaaGreatAy34
import Derived.Test.YtapfcpkecmmagaaGreatRows
namespace Go.Proofs.YtapfcpkecmmagaaGreat
open Go Go.Ay Go.RowKit Go.WideShapes Go.ChangeShapes Go.ChangeAt
set_option maxRecDepth 100000
theorem own27:ownKnob Tryz.prog.godebug=none:=by kernel_rfl
theorem laidOut27:laidOutB Tryz.prog=true:=by kernel_rfl
theorem mixed27:Tryz.prog.follows .mixedOrders=true:=by kernel_rfl
theorem pairs_lifted (os:Os)(started:os.Started)(H:Type)(enc:TypeId×Value->H):
  ReturnsInHanded {} Tryz.checked os 4 .any (Rows.algebraPairsSpec.pre6 enc Tryz.prog Tryz.f4 Rows.algebraPairsRow.domain false) (Rows.algebraPairsSpec.post enc Tryz.prog Tryz.f4 false true false false):=by
 refine returnsInHanded_of_change (C:=Tryz.checked) own27 started (by kernel_rfl) Tryz.func4
  (ChangeSpec.witness6 (enc:=enc) (C:=Tryz.checked) false ⟨#[],#[.slice none 0 0,.int .i64 0,.int .i64 0], []⟩ 8 (by kernel_rfl) (by kernel_rfl) (by kernel_rfl) (by kernel_rfl)) ?_
 intro W base args ds gs before hval0 hW hcnd _
 have hval: ∀(j:Nat) t v,Tryz.f4.params[j]? =some t->args[j]? =some v->Value.okWide Tryz.prog W .any base t v:=hval0
 have hW':=hW
 obtain⟨p,q,hA0,hV,rfl,hfz,hnd⟩:=hW
 have hA:DataW.TrodAll enc Tryz.prog W 0 (λ_=>true) true Tryz.f4.params.toList args.toList ds p:=hA0
 rw[Tryz.params4] at hA hval
 obtain⟨v0,v1,v2,d0,d1,d2,p0,p1,p2,rfl,rfl,rfl,h0,h1,h2⟩:=trodAll_three hA
 obtain⟨rfl,rfl⟩:=trodVars_none hV
 obtain⟨os',ps',u,l,I,hv,hs,hl,hz⟩:=JR (e:=3) Tryz.underlying28 Tryz.underlying3 (by kernel_rfl) (hval 0 28 v0 rfl rfl) h0 Ins.nil
 obtain⟨a,rfl,wa⟩:=LO Tryz.underlying3 (hval 1 3 v1 rfl rfl) h1
 obtain⟨b,rfl,wb⟩:=LO Tryz.underlying3 (hval 2 3 v2 rfl rfl) h2
 exact EC (tb:=4) (C:=Tryz.checked) mixed27 pok laidOut27 ((JF u l a b _ hs hl).mono λ_ _ x=>x.1) I ⟨hv,rfl,rfl,trivial⟩ rfl (by kernel_rfl) (by kernel_rfl) (by kernel_rfl) hW' rfl
theorem pairs_holds:Rows.AlgebraPairsSaid:=
 OpenClaim.holds_of_wide 4 Tryz.f4 rfl rfl rfl rfl rfl rfl rfl ⟨rfl,rfl,rfl,rfl,rfl⟩ rfl rfl rfl rfl rfl (by kernel_rfl) Tryz.func4 (by kernel_rfl)
  (of_decide_eq_true (by kernel_rfl)) (by unfold Func.isWrapper;rw[if_neg (of_decide_eq_false (by kernel_rfl))];exact⟨rfl,rfl⟩)
  (λos started H enc _=>pairs_lifted os started H enc)
end Go.Proofs.YtapfcpkecmmagaaGreat
