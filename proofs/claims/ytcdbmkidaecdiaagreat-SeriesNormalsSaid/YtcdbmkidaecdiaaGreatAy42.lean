/- Which Tl of a function the compiler keeps, computed; and a table of code, checked whole. -/
import Derived.Test.YtcdbmkidaecdiaaGreatAy24
namespace Go.Ay
open Go
def Tu (l:List Nat):Nat:=l.foldl (λm t=>m|||1<<<t) 0
def opM (ops:Array Oper)(o:Oper):Nat:=Tu ((o.op.operands.toList.filterMap fun| .tmp t=>some t|_=>none)++(match o.guard with|some (j,_)=>((ops[j]?).bind (·.dst)).toList|none=> []))
def xM:Operand->Nat
 | .tmp t=>1<<<t
 |_=>0
def Ze:Code->Nat×Nat×Nat->Nat×Nat×Nat
 | .region _ ops _,(s,m,u)=>
  let r:=ops.toList.foldl (λ(d,n,r) o=>
   let us:=opM ops o
   (d|||Tu o.dst.toList,n|||(match o.op with| .defer _=>us|_=>us^^^(us&&&d)),r|||us|||Tu o.dst.toList)) ((0:Nat),u,(0:Nat))
  (s|||r.2.2,m|||(s&&&r.2.2),r.2.1)
 | .seq a b,x=>Ze b (Ze a x)
 | .cond c a b,x=>let y:=Ze b (Ze a x);(y.1,y.2.1,y.2.2|||xM c)
 | .block _ c,x| .loop c,x| .scope c,x=>Ze c x
 | .rangeFunc f ps a b,x=>let y:=Ze b (Ze a x);(y.1,y.2.1,y.2.2|||xM f|||Tu ps.toList)
 |_,x=>x
def pvM (fn:Func):List Nat:=
 match fn.body with
 |none=> []
 |some c=>
  let x:=Ze c (0,0,0)
  let k:=x.2.1|||x.2.2|||Tu (fn.results.toList.map fun| .tmp t=>t| .cell t _=>t)|||(x.1&&&Tu (List.range (fn.params.size+fn.nfree)))
  (List.range fn.ntmps).filter λt=>Nat.testBit k t
def HL (P:Program)(k:Nat):Option Fn:=match P.funcs[k]? with
 |some F=>if F.body.isSome&&F.name != "runtime.NumGoroutine" then CQ P (pvM F) F else none
 |none=>none
end Go.Ay
