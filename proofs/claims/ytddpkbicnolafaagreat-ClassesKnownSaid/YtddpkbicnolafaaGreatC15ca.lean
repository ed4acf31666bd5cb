/- Some of the cuts. -/
import Derived.Test.YtddpkbicnolafaaGreatC15cv
import Derived.KernelRfl
namespace Go.Proofs.YtddpkbicnolafaaGreat
open Go Go.Ay
set_option maxRecDepth 1000000
theorem cut0 : snap (L1.map (·.1)) (run (lev T 100000 1000).1 (lev T 100000 1000).2 100000 none (hd (tl 0 bd)) vs0 (mkH n0 L0)) = some (.norm, vs1, [], n1, L1.map (fun p => some p.2)) := by kernel_rfl
theorem cut1 : snap (L2.map (·.1)) (run (lev T 100000 1000).1 (lev T 100000 1000).2 100000 none (hd (tl 1 bd)) vs1 (mkH n1 L1)) = some (.norm, vs2, [], n2, L2.map (fun p => some p.2)) := by kernel_rfl
theorem cut2 : snap (L3.map (·.1)) (run (lev T 100000 1000).1 (lev T 100000 1000).2 100000 none (hd (tl 2 bd)) vs2 (mkH n2 L2)) = some (.norm, vs3, [], n3, L3.map (fun p => some p.2)) := by kernel_rfl
theorem cut3 : snap (L4.map (·.1)) (run (lev T 100000 1000).1 (lev T 100000 1000).2 100000 none (hd (tl 3 bd)) vs3 (mkH n3 L3)) = some (.norm, vs4, [], n4, L4.map (fun p => some p.2)) := by kernel_rfl
theorem cut4 : snap (L5.map (·.1)) (run (lev T 100000 1000).1 (lev T 100000 1000).2 100000 none (hd (tl 4 bd)) vs4 (mkH n4 L4)) = some (.norm, vs5, [], n5, L5.map (fun p => some p.2)) := by kernel_rfl
end Go.Proofs.YtddpkbicnolafaaGreat

