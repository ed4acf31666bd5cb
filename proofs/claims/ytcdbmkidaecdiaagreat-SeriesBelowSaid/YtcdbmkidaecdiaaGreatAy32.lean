/- A struct of an integer and a list, as a law is given it. -/
import Derived.Test.YtcdbmkidaecdiaaGreatAy31
import Derived.ChangeSame
namespace Go.Ay
open Go Go.RowKit Go.WideShapes Go.ChangeShapes Go.ChangeAt
end Go.Ay
