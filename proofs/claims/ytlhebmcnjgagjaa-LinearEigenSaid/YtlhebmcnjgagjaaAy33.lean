/- A function that defers one call, behind some statements. -/
import Derived.Test.YtlhebmcnjgagjaaAy26
namespace Go.Ay
section
variable {p : Nat → Option Fn}
end
end Go.Ay

