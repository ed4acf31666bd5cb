/- A struct of an integer and a list, as a law is given it. -/
import Derived.Test.YtcdbmkidaecdiaaGreatAy31
import Derived.ChangeSame
namespace Go.Ay
open Go Go.RowKit Go.WideShapes Go.ChangeShapes Go.ChangeAt
section
variable {P:Program} {W:World}
variable {Hh:Type} {enc:TypeId×Value->Hh} {base:Nat} {held:Bool}
theorem WC {t:TypeId}{r:Reach}{c:Nat}{v:Value}(d:P.underlying t=some (.int .i64))(a:Cell.okWide P W r c t v): ∃n,v= .int .i64 n/\(-9223372036854775808<=n/\n<9223372036854775808):=by
 have b:Cell.ok P W r c t v:=by simpa only[Cell.okWide,d] using a
 have g:IntKind.i64.min= -9223372036854775808:=by decide
 have f:IntKind.i64.max=9223372036854775807:=by decide
 simp only[Cell.ok,d] at b;cases v<;>first|exact b.elim|skip
 rename_i k n;obtain⟨rfl,e,h⟩:=b;rw[g] at e;rw[f] at h;exact⟨n,rfl,e,om⟩
end
end Go.Ay
