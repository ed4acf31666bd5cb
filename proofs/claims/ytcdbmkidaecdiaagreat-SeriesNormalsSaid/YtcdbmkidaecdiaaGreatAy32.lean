/- A struct of an integer and a list, as a law is given it. -/
import Derived.Test.YtcdbmkidaecdiaaGreatAy31
import Derived.ChangeSame
namespace Go.Ay
open Go Go.RowKit Go.WideShapes Go.ChangeShapes Go.ChangeAt
section
variable {P:Program} {W:World}
variable {Hh:Type} {enc:TypeId×Value->Hh} {base:Nat} {held:Bool}
theorem PU {t:TypeId}{r:Reach}{d:Nat}{v:Value}(e:P.underlying t=some (.int .i64))(a:Cell.okWide P W r d t v): ∃n,v= .int .i64 n/\(-9223372036854775808<=n/\n<9223372036854775808):=by
 have b:Cell.ok P W r d t v:=by simpa only[Cell.okWide,e] using a
 have f:IntKind.i64.min= -9223372036854775808:=by decide
 have g:IntKind.i64.max=9223372036854775807:=by decide
 simp only[Cell.ok,e] at b;cases v<;>first|exact b.elim|skip
 rename_i k n;obtain⟨rfl,c,h⟩:=b;rw[f] at c;rw[g] at h;exact⟨n,rfl,c,om⟩
end
end Go.Ay
