/- What the evaluator runs is cT the compiler makes of the program, and the contract of the sort. -/
import Derived.Test.YtoighkablmjfeaaGreatAy14toP5q
import Derived.Test.YtoighkablmjfeaaGreatQ2toAy43
namespace Go.Proofs.YtoighkablmjfeaaGreat
open Go Go.Ay
set_option maxRecDepth 100000
theorem Zz {P:Program} {k:Nat} {B F:Func} (h:P.funcs[k]? =some F) (e:F={B with name:=F.name}:=by kernel_rfl) (n:(F.name== "runtime.NumGoroutine")=false:=by kernel_rfl):Go.Proofs.Bears P k B:=⟨F.name,n,h.trans (congrArg some e)⟩
theorem brn {P:Program} {k:Nat} {B F:Func} (h:P.funcs[k]? =some F) (e:F=B:=by kernel_rfl):P.funcs[k]? =some B:=h.trans (congrArg some e)
def amT:Go.Shelf.Ren:=⟨fun|5=>76|8=>95|7=>115|19=>141|20=>142|10=>168|11=>169|12=>170|13=>171|14=>172|15=>173|16=>174|17=>175|18=>176|30=>228|31=>198|32=>199|33=>229|34=>230|35=>96|40=>255|n=>n,fun|23=>22|25=>3|3=>3|32=>150|22=>22|0=>0|44=>190|46=>192|4=>4|36=>184|35=>183|41=>101|5=>5|9=>9|53=>240|57=>244|63=>279|64=>280|n=>n,λ n=>n⟩
theorem Pn:Go.Proofs.SlLaysM.n5 Tryz.prog amT:=⟨by kernel_rfl,Zz Tryz.func76,Zz Tryz.func115,brn Tryz.func95,Zz Tryz.func168,Zz Tryz.func169,Zz Tryz.func170,Zz Tryz.func171,Zz Tryz.func172,Zz Tryz.func173,Zz Tryz.func174,Zz Tryz.func175,Zz Tryz.func176,brn Tryz.func141,brn Tryz.func142,Zz Tryz.func228,brn Tryz.func198,brn Tryz.func199,Zz Tryz.func229,Zz Tryz.func230,Zz Tryz.func96,Zz Tryz.func255,Tryz.underlying0,Tryz.isAgg0,Tryz.sizeOf0,Tryz.zeroValue0,Tryz.underlying3,Tryz.isAgg3,Tryz.sizeOf3,Tryz.zeroValue3,Tryz.underlying4,Tryz.isAgg4,Tryz.sizeOf4,Tryz.zeroValue4,Tryz.underlying5,Tryz.isAgg5,Tryz.sizeOf5,Tryz.zeroValue5,Tryz.underlying9,Tryz.isAgg9,Tryz.sizeOf9,Tryz.zeroValue9,Tryz.underlying22,Tryz.isAgg22,Tryz.sizeOf22,Tryz.zeroValue22,Tryz.underlying22,Tryz.isAgg22,Tryz.sizeOf22,Tryz.zeroValue22,Tryz.underlying3,Tryz.isAgg3,Tryz.sizeOf3,Tryz.zeroValue3,Tryz.underlying150,Tryz.isAgg150,Tryz.sizeOf150,Tryz.zeroValue150,Tryz.underlying183,Tryz.isAgg183,Tryz.sizeOf183,Tryz.zeroValue183,Tryz.underlying184,Tryz.isAgg184,Tryz.sizeOf184,Tryz.zeroValue184,Tryz.underlying101,Tryz.isAgg101,Tryz.sizeOf101,Tryz.zeroValue101,Tryz.underlying190,Tryz.isAgg190,Tryz.sizeOf190,Tryz.zeroValue190,Tryz.underlying192,Tryz.isAgg192,Tryz.sizeOf192,Tryz.zeroValue192,Tryz.underlying240,Tryz.isAgg240,Tryz.sizeOf240,Tryz.zeroValue240,Tryz.underlying244,Tryz.isAgg244,Tryz.sizeOf244,Tryz.zeroValue244,Tryz.underlying279,Tryz.isAgg279,Tryz.sizeOf279,Tryz.zeroValue279,Tryz.underlying280,Tryz.isAgg280,Tryz.sizeOf280,Tryz.zeroValue280⟩
theorem pok:POk Tryz.prog T:=λ g fn h=>by
 unfold T at h
 cases hb:Nat.beq g 76 with
 |true=>
  rw [hb] at h
  cases h
  obtain rfl:=Nat.eq_of_beq_eq_true hb
  exact .inl ⟨rfl,akF Pn⟩
 |false=>
  rw [hb] at h
  have h:uK Tryz.prog g=some fn:=h
  unfold uK at h
  split at h
  ·rename_i F hF
   split at h
   ·rename_i hb
    exact .inr ⟨_,F,hF,h,by simp only [enters,hF,Option.any_some];exact hb⟩
   ·cases h
  ·cases h
end Go.Proofs.YtoighkablmjfeaaGreat
