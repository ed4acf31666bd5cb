/- Some of the cuts. -/
import Derived.Test.YtddpkbicnolafaaGreatC15cv
import Derived.KernelRfl
namespace Go.Proofs.YtddpkbicnolafaaGreat
open Go Go.Ay
set_option maxRecDepth 1000000
theorem cut11 : snap (L12.map (·.1)) (run (lev T 100000 1000).1 (lev T 100000 1000).2 100000 none (hd (tl 11 bd)) vs11 (mkH n11 L11)) = some (.norm, vs12, [], n12, L12.map (fun p => some p.2)) := by kernel_rfl
theorem cut12 : snap (L13.map (·.1)) (run (lev T 100000 1000).1 (lev T 100000 1000).2 100000 none (hd (tl 12 bd)) vs12 (mkH n12 L12)) = some (.norm, vs13, [], n13, L13.map (fun p => some p.2)) := by kernel_rfl
theorem cut13 : snap (L14.map (·.1)) (run (lev T 100000 1000).1 (lev T 100000 1000).2 100000 none (hd (tl 13 bd)) vs13 (mkH n13 L13)) = some (.norm, vs14, [], n14, L14.map (fun p => some p.2)) := by kernel_rfl
end Go.Proofs.YtddpkbicnolafaaGreat

