/- Rows of rows, and a matrix, as a law is given them. -/
import Derived.Test.YtcdbmkidaecdiaaGreatAy32
import Derived.Deep.Matrix
namespace Go.Ay
open Go Go.RowKit Go.WideShapes Go.ChangeShapes Go.ChangeAt
section
variable {P:Program} {W:World}
variable {Hh:Type} {enc:TypeId×Value->Hh} {base:Nat} {held:Bool}
def Kn (u:V):Prop:= ∀id off m c,u= .sl id off m c-> ∃k,c= .kn k/\m<=k
def SRk (h:H)(u:V)(ll:List (List Int)):Prop:= ∃ws,SV h u 1 ws/\aM (SI h) ws ll/\ ∀w∈ws,Kn w
theorem SRk.sr {h:H}{u:V}{a:List (List Int)}(s:SRk h u a):SR h u a:=by
 obtain⟨b,d,c,_⟩:=s;exact⟨b,d,c⟩
theorem SRk.mono {h h':H}{u:V}{a:List (List Int)}(s:SRk h u a)(f:Fr h h'):SRk h' u a:=by
 obtain⟨b,i,c,d⟩:=s;exact⟨b,i.mono f,c.mono λ_ _ r=>r.mono f,d⟩
theorem SRk.aE (h:H):SRk h .aE []:=⟨[],SV.aE h 1,trivial,λ_ h=>by cases h⟩
end
end Go.Ay
