/- Each function of the table is dC the compiler makes of it. -/
import Derived.Test.YtapfcpkecmmagaaGreatChecked
import Derived.KernelRfl
import Derived.Test.YtapfcpkecmmagaaGreatAy42
import Derived.Test.YtapfcpkecmmagaaGreatC27code
namespace Go.Proofs.YtapfcpkecmmagaaGreat
open Go Go.Ay
set_option maxRecDepth 100000
noncomputable abbrev GG (x:Nat×Ay.Fn):=Vs Tryz.prog x.1
abbrev GF (x:Nat×Ay.Fn):=some x.2
theorem FQ:(tab.take 40).map GG=(tab.take 40).map GF:=by kernel_rfl
theorem GA:((tab.drop 40).take 40).map GG=((tab.drop 40).take 40).map GF:=by kernel_rfl
theorem GI:(((tab.drop 40).drop 40).take 40).map GG=(((tab.drop 40).drop 40).take 40).map GF:=by kernel_rfl
theorem FL:((((tab.drop 40).drop 40).drop 40).take 40).map GG=((((tab.drop 40).drop 40).drop 40).take 40).map GF:=by kernel_rfl
theorem GB:((((tab.drop 40).drop 40).drop 40).drop 40).map GG=((((tab.drop 40).drop 40).drop 40).drop 40).map GF:=by kernel_rfl
theorem pok:Wk Tryz.prog T:=Te (yV 40 FQ (yV 40 GA (yV 40 GI (yV 40 FL GB))))
end Go.Proofs.YtapfcpkecmmagaaGreat
