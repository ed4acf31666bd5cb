/- The closed law's run. -/
import Derived.Test.YtddpkbicnolafaaGreatC15ca
import Derived.Test.YtddpkbicnolafaaGreatC15cb
import Derived.Test.YtddpkbicnolafaaGreatC15cc
import Derived.Test.YtddpkbicnolafaaGreatC15cd
import Derived.Test.YtddpkbicnolafaaGreatC15ce
import Derived.Test.YtddpkbicnolafaaGreatC15cf
import Derived.Test.YtddpkbicnolafaaGreatAy26
namespace Go.Proofs.YtddpkbicnolafaaGreat
open Go Go.Ay
set_option maxRecDepth 1000000
theorem last_ev : Ev T 11 [] (mkH n18 []) (fun v _ => v = .bool true) := by
  refine Ev_bool t_law15_awake rfl rfl ?_
  refine Wp_cut (vs := avs1) (n := an1) (L := aL1) (HL.refl _) acut0 (fun b1 l1 => ?_)
  refine Wp_cut (vs := avs2) (n := an2) (L := aL2) l1 acut1 (fun b2 l2 => ?_)
  refine Wp_cut (vs := avs3) (n := an3) (L := aL3) l2 acut2 (fun b3 l3 => ?_)
  refine Wp_cut (vs := avs4) (n := an4) (L := aL4) l3 acut3 (fun b4 l4 => ?_)
  refine Wp_cut (vs := avs5) (n := an5) (L := aL5) l4 acut4 (fun b5 l5 => ?_)
  refine Wp_cut (vs := avs6) (n := an6) (L := aL6) l5 acut5 (fun b6 l6 => ?_)
  exact Wp_end ⟨rfl, rfl⟩
theorem names_ev : Ev T 6 [] (mkH 0 []) (fun v _ => v = .bool true) := by
  refine Ev_bool t_law15_ClassesKnown rfl rfl ?_
  refine Wp_cut (vs := vs1) (n := n1) (L := L1) (HL.refl _) cut0 (fun b1 l1 => ?_)
  refine Wp_cut (vs := vs2) (n := n2) (L := L2) l1 cut1 (fun b2 l2 => ?_)
  refine Wp_cut (vs := vs3) (n := n3) (L := L3) l2 cut2 (fun b3 l3 => ?_)
  refine Wp_cut (vs := vs4) (n := n4) (L := L4) l3 cut3 (fun b4 l4 => ?_)
  refine Wp_cut (vs := vs5) (n := n5) (L := L5) l4 cut4 (fun b5 l5 => ?_)
  refine Wp_cut (vs := vs6) (n := n6) (L := L6) l5 cut5 (fun b6 l6 => ?_)
  refine Wp_cut (vs := vs7) (n := n7) (L := L7) l6 cut6 (fun b7 l7 => ?_)
  refine Wp_cut (vs := vs8) (n := n8) (L := L8) l7 cut7 (fun b8 l8 => ?_)
  refine Wp_cut (vs := vs9) (n := n9) (L := L9) l8 cut8 (fun b9 l9 => ?_)
  refine Wp_cut (vs := vs10) (n := n10) (L := L10) l9 cut9 (fun b10 l10 => ?_)
  refine Wp_cut (vs := vs11) (n := n11) (L := L11) l10 cut10 (fun b11 l11 => ?_)
  refine Wp_cut (vs := vs12) (n := n12) (L := L12) l11 cut11 (fun b12 l12 => ?_)
  refine Wp_cut (vs := vs13) (n := n13) (L := L13) l12 cut12 (fun b13 l13 => ?_)
  refine Wp_cut (vs := vs14) (n := n14) (L := L14) l13 cut13 (fun b14 l14 => ?_)
  refine Wp_cut (vs := vs15) (n := n15) (L := L15) l14 cut14 (fun b15 l15 => ?_)
  refine Wp_cut (vs := vs16) (n := n16) (L := L16) l15 cut15 (fun b16 l16 => ?_)
  refine Wp_cut (vs := vs17) (n := n17) (L := L17) l16 cut16 (fun b17 l17 => ?_)
  refine Wp_cut (vs := vs18) (n := n18) (L := L18) l17 cut17 (fun b18 l18 => ?_)
  have aw : Ev T 11 [] b18 (fun v _ => v = .bool true) := (Ev_le (show HL (mkH n18 []) b18 from ⟨l18.next, fun id o e => by cases e⟩) last_ev).mono (fun v h' ⟨_, _, q⟩ => q)
  show Wp T none (tl 18 bd) vs18 b18 _
  simp (disch := first | omega | (simp only [Qn] <;> omega)) only [go_sem, bd, c_law15_ClassesKnown, tl, hd, vs18]
  refine aw.mono ?_
  rintro _ h' rfl
  simp (disch := first | omega | (simp only [Qn] <;> omega)) only [go_sem]
end Go.Proofs.YtddpkbicnolafaaGreat

