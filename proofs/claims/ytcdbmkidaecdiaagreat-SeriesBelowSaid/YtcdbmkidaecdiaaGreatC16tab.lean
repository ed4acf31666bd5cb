/- What the evaluator runs is cT the compiler makes of the program. -/
import Derived.Test.YtcdbmkidaecdiaaGreatC16z
import Derived.Test.YtcdbmkidaecdiaaGreatAy24
namespace Go.Proofs.YtcdbmkidaecdiaaGreat
open Go Go.Ay
set_option maxRecDepth 100000
theorem pok:POk Tryz.prog T:=λ g fn h=>by
 unfold T HL at h
 split at h
 ·rename_i F hF
  split at h
  ·rename_i hb
   exact ⟨_,F,hF,h,by simp only [enters,hF,Option.any_some];exact hb⟩
  ·cases h
 ·cases h
end Go.Proofs.YtcdbmkidaecdiaaGreat
