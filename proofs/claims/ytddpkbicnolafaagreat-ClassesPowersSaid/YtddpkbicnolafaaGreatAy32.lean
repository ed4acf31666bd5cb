/- A struct of an integer and a list, as a law is given it. -/
import Derived.Test.YtddpkbicnolafaaGreatAy31
import Derived.ChangeSame
namespace Go.Ay
open Go Go.RowKit Go.WideShapes Go.ChangeShapes Go.ChangeAt
section
variable {P:Program} {W:World}
variable {Hh:Type} {enc:TypeId×Value->Hh} {base:Nat} {held:Bool}
theorem HP {t:TypeId}{r:Reach}{b0:Nat}{v:Value}(ht:P.underlying t=some (.int .i64))(hval:Cell.okWide P W r b0 t v): ∃n,v= .int .i64 n/\(-9223372036854775808<=n/\n<9223372036854775808):=by
 have h2:Cell.ok P W r b0 t v:=by simpa only[Cell.okWide,ht] using hval
 have e1:IntKind.i64.min= -9223372036854775808:=by decide
 have e2:IntKind.i64.max=9223372036854775807:=by decide
 simp only[Cell.ok,ht] at h2;cases v<;>first|exact h2.elim|skip
 rename_i k n;obtain⟨rfl,h3,h4⟩:=h2;rw[e1] at h3;rw[e2] at h4;exact⟨n,rfl,h3,by omega⟩
end
end Go.Ay
