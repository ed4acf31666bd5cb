/- Arguments that are slices of slices of integers. -/
import Derived.Test.YtlhebmcnjgagjaaAy34
namespace Go.Ay
open Go
section
variable {P : Program} {W : World} {base : Nat} {held : Bool} {Hh : Type} {enc : TypeId × Value → Hh}
end
end Go.Ay

