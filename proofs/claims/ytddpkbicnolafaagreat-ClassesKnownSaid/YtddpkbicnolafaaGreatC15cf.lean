/- Some of the cuts. -/
import Derived.Test.YtddpkbicnolafaaGreatC15cv
import Derived.KernelRfl
namespace Go.Proofs.YtddpkbicnolafaaGreat
open Go Go.Ay
set_option maxRecDepth 1000000
theorem acut3 : snap (aL4.map (·.1)) (run (lev T 100000 1000).1 (lev T 100000 1000).2 100000 none (hd (tl 3 abd)) avs3 (mkH an3 aL3)) = some (.norm, avs4, [], an4, aL4.map (fun p => some p.2)) := by kernel_rfl
theorem acut4 : snap (aL5.map (·.1)) (run (lev T 100000 1000).1 (lev T 100000 1000).2 100000 none (hd (tl 4 abd)) avs4 (mkH an4 aL4)) = some (.norm, avs5, [], an5, aL5.map (fun p => some p.2)) := by kernel_rfl
theorem acut5 : snap (aL6.map (·.1)) (run (lev T 100000 1000).1 (lev T 100000 1000).2 100000 none (hd (tl 5 abd)) avs5 (mkH an5 aL5)) = some (.norm, avs6, [], an6, aL6.map (fun p => some p.2)) := by kernel_rfl
end Go.Proofs.YtddpkbicnolafaaGreat

