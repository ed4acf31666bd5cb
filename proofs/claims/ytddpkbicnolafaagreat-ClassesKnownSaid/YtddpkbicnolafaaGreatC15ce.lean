/- Some of the cuts. -/
import Derived.Test.YtddpkbicnolafaaGreatC15cv
import Derived.KernelRfl
namespace Go.Proofs.YtddpkbicnolafaaGreat
open Go Go.Ay
set_option maxRecDepth 1000000
theorem cut16 : snap (L17.map (·.1)) (run (lev T 100000 1000).1 (lev T 100000 1000).2 100000 none (hd (tl 16 bd)) vs16 (mkH n16 L16)) = some (.norm, vs17, [], n17, L17.map (fun p => some p.2)) := by kernel_rfl
theorem cut17 : snap (L18.map (·.1)) (run (lev T 100000 1000).1 (lev T 100000 1000).2 100000 none (hd (tl 17 bd)) vs17 (mkH n17 L17)) = some (.norm, vs18, [], n18, L18.map (fun p => some p.2)) := by kernel_rfl
theorem acut0 : snap (aL1.map (·.1)) (run (lev T 100000 1000).1 (lev T 100000 1000).2 100000 none (hd (tl 0 abd)) avs0 (mkH an0 aL0)) = some (.norm, avs1, [], an1, aL1.map (fun p => some p.2)) := by kernel_rfl
theorem acut1 : snap (aL2.map (·.1)) (run (lev T 100000 1000).1 (lev T 100000 1000).2 100000 none (hd (tl 1 abd)) avs1 (mkH an1 aL1)) = some (.norm, avs2, [], an2, aL2.map (fun p => some p.2)) := by kernel_rfl
theorem acut2 : snap (aL3.map (·.1)) (run (lev T 100000 1000).1 (lev T 100000 1000).2 100000 none (hd (tl 2 abd)) avs2 (mkH an2 aL2)) = some (.norm, avs3, [], an3, aL3.map (fun p => some p.2)) := by kernel_rfl
end Go.Proofs.YtddpkbicnolafaaGreat

