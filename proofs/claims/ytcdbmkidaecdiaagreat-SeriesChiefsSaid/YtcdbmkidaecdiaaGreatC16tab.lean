/- What the evaluator runs is cM the compiler makes of the program, and the contract of the sort. -/
import Derived.Test.YtcdbmkidaecdiaaGreatAy18toP6a
import Derived.Test.YtcdbmkidaecdiaaGreatZ1toAy43
namespace Go.Proofs.YtcdbmkidaecdiaaGreat
open Go Go.Ay
set_option maxRecDepth 100000
theorem Yc {P:Program} {k:Nat} {B F:Func} (h:P.funcs[k]? =some F) (e:F={B with name:=F.name}:=by kernel_rfl) (n:(F.name== "runtime.NumGoroutine")=false:=by kernel_rfl):Go.Proofs.Bears P k B:=⟨F.name,n,h.trans (congrArg some e)⟩
theorem brn {P:Program} {k:Nat} {B F:Func} (h:P.funcs[k]? =some F) (e:F=B:=by kernel_rfl):P.funcs[k]? =some B:=h.trans (congrArg some e)
def aiG:Go.Shelf.Ren:=⟨fun|5=>143|8=>128|7=>197|19=>176|20=>177|10=>234|11=>235|12=>236|13=>237|14=>238|15=>239|16=>144|17=>240|18=>241|30=>257|31=>212|32=>213|33=>258|34=>259|35=>198|40=>263|n=>n,fun|23=>44|25=>3|3=>3|32=>148|22=>44|0=>0|44=>211|46=>213|4=>4|36=>205|35=>204|41=>103|5=>5|9=>9|53=>248|57=>252|63=>271|64=>272|n=>n,λ n=>n⟩
theorem Hm:Go.Proofs.SlLaysM.n5 Tryz.prog aiG:=⟨by kernel_rfl,Yc Tryz.func143,Yc Tryz.func197,brn Tryz.func128,Yc Tryz.func234,Yc Tryz.func235,Yc Tryz.func236,Yc Tryz.func237,Yc Tryz.func238,Yc Tryz.func239,Yc Tryz.func144,Yc Tryz.func240,Yc Tryz.func241,brn Tryz.func176,brn Tryz.func177,Yc Tryz.func257,brn Tryz.func212,brn Tryz.func213,Yc Tryz.func258,Yc Tryz.func259,Yc Tryz.func198,Yc Tryz.func263,Tryz.underlying0,Tryz.isAgg0,Tryz.sizeOf0,Tryz.zeroValue0,Tryz.underlying3,Tryz.isAgg3,Tryz.sizeOf3,Tryz.zeroValue3,Tryz.underlying4,Tryz.isAgg4,Tryz.sizeOf4,Tryz.zeroValue4,Tryz.underlying5,Tryz.isAgg5,Tryz.sizeOf5,Tryz.zeroValue5,Tryz.underlying9,Tryz.isAgg9,Tryz.sizeOf9,Tryz.zeroValue9,Tryz.underlying44,Tryz.isAgg44,Tryz.sizeOf44,Tryz.zeroValue44,Tryz.underlying44,Tryz.isAgg44,Tryz.sizeOf44,Tryz.zeroValue44,Tryz.underlying3,Tryz.isAgg3,Tryz.sizeOf3,Tryz.zeroValue3,Tryz.underlying148,Tryz.isAgg148,Tryz.sizeOf148,Tryz.zeroValue148,Tryz.underlying204,Tryz.isAgg204,Tryz.sizeOf204,Tryz.zeroValue204,Tryz.underlying205,Tryz.isAgg205,Tryz.sizeOf205,Tryz.zeroValue205,Tryz.underlying103,Tryz.isAgg103,Tryz.sizeOf103,Tryz.zeroValue103,Tryz.underlying211,Tryz.isAgg211,Tryz.sizeOf211,Tryz.zeroValue211,Tryz.underlying213,Tryz.isAgg213,Tryz.sizeOf213,Tryz.zeroValue213,Tryz.underlying248,Tryz.isAgg248,Tryz.sizeOf248,Tryz.zeroValue248,Tryz.underlying252,Tryz.isAgg252,Tryz.sizeOf252,Tryz.zeroValue252,Tryz.underlying271,Tryz.isAgg271,Tryz.sizeOf271,Tryz.zeroValue271,Tryz.underlying272,Tryz.isAgg272,Tryz.sizeOf272,Tryz.zeroValue272⟩
theorem pok:POk Tryz.prog T:=λ g fn h=>by
 unfold T at h
 cases hb:Nat.beq g 143 with
 |true=>
  rw [hb] at h
  cases h
  obtain rfl:=Nat.eq_of_beq_eq_true hb
  exact .inl ⟨rfl,afR Hm⟩
 |false=>
  rw [hb] at h
  have h:uZ Tryz.prog g=some fn:=h
  unfold uZ at h
  split at h
  ·rename_i F hF
   split at h
   ·rename_i hb
    exact .inr ⟨_,F,hF,h,by simp only [enters,hF,Option.any_some];exact hb⟩
   ·cases h
  ·cases h
end Go.Proofs.YtcdbmkidaecdiaaGreat
