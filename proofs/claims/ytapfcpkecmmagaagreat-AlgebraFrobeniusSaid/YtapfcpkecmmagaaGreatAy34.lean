/- Rows of rows, and a matrix, as a law is given them. -/
import Derived.Test.YtapfcpkecmmagaaGreatAy32
import Derived.Deep.Matrix
namespace Go.Ay
open Go Go.RowKit Go.WideShapes Go.ChangeShapes Go.ChangeAt
section
variable {P:Program} {W:World}
variable {Hh:Type} {enc:TypeId×Value->Hh} {base:Nat} {held:Bool}
def Kn (u:V):Prop:= ∀id off m c,u= .sl id off m c-> ∃k,c= .kn k/\m<=k
def Vf (h:H)(u:V)(ll:List (List Int)):Prop:= ∃ws,SV h u 1 ws/\All2 (SI h) ws ll/\ ∀w∈ws,Kn w
theorem Vf.sr {h:H}{u:V}{ll:List (List Int)}(s:Vf h u ll):SR h u ll:=by
 obtain⟨ws,h1,h2,_⟩:=s;exact⟨ws,h1,h2⟩
theorem Vf.mono {h h':H}{u:V}{ll:List (List Int)}(s:Vf h u ll)(f:Fr h h'):Vf h' u ll:=by
 obtain⟨ws,h1,h2,h3⟩:=s;exact⟨ws,h1.mono f,h2.mono λ_ _ r=>r.mono f,h3⟩
theorem Vf.aB (h:H):Vf h .aB []:=⟨[],SV.aB h 1,trivial,λ_ h=>by cases h⟩
end
end Go.Ay
