/- Rows of rows, and a matrix, as a law is given them. -/
import Derived.Test.YtcdbmkidaecdiaaGreatAy32
import Derived.Deep.Matrix
namespace Go.Ay
open Go Go.RowKit Go.WideShapes Go.ChangeShapes Go.ChangeAt
section
variable {P:Program} {W:World}
variable {Hh:Type} {enc:TypeId×Value->Hh} {base:Nat} {held:Bool}
def Kn (u:V):Prop:= ∀id off m c,u= .sl id off m c-> ∃k,c= .kn k/\m<=k
def SRk (h:H)(u:V)(ll:List (List Int)):Prop:= ∃ws,SV h u 1 ws/\aN (SI h) ws ll/\ ∀w∈ws,Kn w
theorem SRk.sr {h:H}{u:V}{a:List (List Int)}(s:SRk h u a):SR h u a:=by
 obtain⟨c,b,d,_⟩:=s;exact⟨c,b,d⟩
theorem SRk.mono {h h':H}{u:V}{a:List (List Int)}(s:SRk h u a)(f:Fr h h'):SRk h' u a:=by
 obtain⟨c,b,i,d⟩:=s;exact⟨c,b.mono f,i.mono λ_ _ r=>r.mono f,d⟩
theorem SRk.aD (h:H):SRk h .aD []:=⟨[],SV.aD h 1,trivial,λ_ h=>by cases h⟩
end
end Go.Ay
