/- Each function of the table is dZ the compiler makes of it. -/
import Derived.Test.YtapfcpkecmmagaaGreatChecked
import Derived.KernelRfl
import Derived.Test.YtapfcpkecmmagaaGreatAy42
import Derived.Test.YtapfcpkecmmagaaGreatC27code
namespace Go.Proofs.YtapfcpkecmmagaaGreat
open Go Go.Ay
set_option maxRecDepth 100000
noncomputable abbrev cFm (x:Nat×Ay.Fn):=JA Tryz.prog x.1
abbrev cGm (x:Nat×Ay.Fn):=some x.2
theorem YQ:(Hf.take 40).map cFm=(Hf.take 40).map cGm:=by kernel_rfl
theorem YR:((Hf.drop 40).take 40).map cFm=((Hf.drop 40).take 40).map cGm:=by kernel_rfl
theorem ZB:(((Hf.drop 40).drop 40).take 40).map cFm=(((Hf.drop 40).drop 40).take 40).map cGm:=by kernel_rfl
theorem ZC:(((Hf.drop 40).drop 40).drop 40).map cFm=(((Hf.drop 40).drop 40).drop 40).map cGm:=by kernel_rfl
theorem pok:IN Tryz.prog T:=FQ (Pe 40 YQ (Pe 40 YR (Pe 40 ZB ZC)))
end Go.Proofs.YtapfcpkecmmagaaGreat
