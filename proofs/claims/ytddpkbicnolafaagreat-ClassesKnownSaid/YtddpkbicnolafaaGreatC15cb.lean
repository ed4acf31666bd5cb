/- Some of the cuts. -/
import Derived.Test.YtddpkbicnolafaaGreatC15cv
import Derived.KernelRfl
namespace Go.Proofs.YtddpkbicnolafaaGreat
open Go Go.Ay
set_option maxRecDepth 1000000
theorem cut5 : snap (L6.map (·.1)) (run (lev T 100000 1000).1 (lev T 100000 1000).2 100000 none (hd (tl 5 bd)) vs5 (mkH n5 L5)) = some (.norm, vs6, [], n6, L6.map (fun p => some p.2)) := by kernel_rfl
theorem cut6 : snap (L7.map (·.1)) (run (lev T 100000 1000).1 (lev T 100000 1000).2 100000 none (hd (tl 6 bd)) vs6 (mkH n6 L6)) = some (.norm, vs7, [], n7, L7.map (fun p => some p.2)) := by kernel_rfl
theorem cut7 : snap (L8.map (·.1)) (run (lev T 100000 1000).1 (lev T 100000 1000).2 100000 none (hd (tl 7 bd)) vs7 (mkH n7 L7)) = some (.norm, vs8, [], n8, L8.map (fun p => some p.2)) := by kernel_rfl
theorem cut8 : snap (L9.map (·.1)) (run (lev T 100000 1000).1 (lev T 100000 1000).2 100000 none (hd (tl 8 bd)) vs8 (mkH n8 L8)) = some (.norm, vs9, [], n9, L9.map (fun p => some p.2)) := by kernel_rfl
theorem cut9 : snap (L10.map (·.1)) (run (lev T 100000 1000).1 (lev T 100000 1000).2 100000 none (hd (tl 9 bd)) vs9 (mkH n9 L9)) = some (.norm, vs10, [], n10, L10.map (fun p => some p.2)) := by kernel_rfl
theorem cut10 : snap (L11.map (·.1)) (run (lev T 100000 1000).1 (lev T 100000 1000).2 100000 none (hd (tl 10 bd)) vs10 (mkH n10 L10)) = some (.norm, vs11, [], n11, L11.map (fun p => some p.2)) := by kernel_rfl
end Go.Proofs.YtddpkbicnolafaaGreat

