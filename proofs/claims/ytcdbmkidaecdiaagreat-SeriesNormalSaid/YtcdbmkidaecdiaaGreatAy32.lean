/- A struct of an integer and a list, as a law is given it. -/
import Derived.Test.YtcdbmkidaecdiaaGreatAy31
import Derived.ChangeSame
namespace Go.Ay
open Go Go.RowKit Go.WideShapes Go.ChangeShapes Go.ChangeAt
section
variable {P:Program} {W:World}
variable {Hh:Type} {enc:TypeId×Value->Hh} {base:Nat} {held:Bool}
end
end Go.Ay
