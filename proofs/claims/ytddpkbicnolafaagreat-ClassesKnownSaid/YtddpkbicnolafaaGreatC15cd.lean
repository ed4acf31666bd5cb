/- Some of the cuts. -/
import Derived.Test.YtddpkbicnolafaaGreatC15cv
import Derived.KernelRfl
namespace Go.Proofs.YtddpkbicnolafaaGreat
open Go Go.Ay
set_option maxRecDepth 1000000
theorem cut14 : snap (L15.map (·.1)) (run (lev T 100000 1000).1 (lev T 100000 1000).2 100000 none (hd (tl 14 bd)) vs14 (mkH n14 L14)) = some (.norm, vs15, [], n15, L15.map (fun p => some p.2)) := by kernel_rfl
theorem cut15 : snap (L16.map (·.1)) (run (lev T 100000 1000).1 (lev T 100000 1000).2 100000 none (hd (tl 15 bd)) vs15 (mkH n15 L15)) = some (.norm, vs16, [], n16, L16.map (fun p => some p.2)) := by kernel_rfl
end Go.Proofs.YtddpkbicnolafaaGreat

