/- Which Eu of a function the compiler keeps, computed; and a table of code, checked whole. -/
import Derived.Test.YtapfcpkecmmagaaGreatAy24
namespace Go.Ay
open Go
def Di (l:List Nat):Nat:=l.foldl (λm t=>m|||1<<<t) 0
def II (ops:Array Oper)(o:Oper):Nat:=Di ((o.op.operands.toList.filterMap fun| .tmp t=>some t|_=>none)++(match o.guard with|some (j,_)=>((ops[j]?).bind (·.dst)).toList|none=> []))
def xM:Operand->Nat
 | .tmp t=>1<<<t
 |_=>0
def Jv:Code->Nat×Nat×Nat->Nat×Nat×Nat
 | .region _ ops _,(s,m,u)=>
  let r:=ops.toList.foldl (λ(d,n,r) o=>
   let us:=II ops o
   (d|||Di o.dst.toList,n|||(match o.op with| .defer _=>us|_=>us^^^(us&&&d)),r|||us|||Di o.dst.toList)) ((0:Nat),u,(0:Nat))
  (s|||r.2.2,m|||(s&&&r.2.2),r.2.1)
 | .seq a b,x=>Jv b (Jv a x)
 | .cond c a b,x=>let y:=Jv b (Jv a x);(y.1,y.2.1,y.2.2|||xM c)
 | .block _ c,x| .loop c,x| .scope c,x=>Jv c x
 | .rangeFunc f ps a b,x=>let y:=Jv b (Jv a x);(y.1,y.2.1,y.2.2|||xM f|||Di ps.toList)
 |_,x=>x
def IE (fn:Func):List Nat:=
 match fn.body with
 |none=> []
 |some c=>
  let x:=Jv c (0,0,0)
  let k:=x.2.1|||x.2.2|||Di (fn.results.toList.map fun| .tmp t=>t| .cell t _=>t)|||(x.1&&&Di (List.range (fn.params.size+fn.nfree)))
  (List.range fn.ntmps).filter λt=>Nat.testBit k t
def Vs (P:Program)(k:Nat):Option Fn:=match P.funcs[k]? with
 |some F=>if F.body.isSome&&F.name != "runtime.NumGoroutine" then Gl P (IE F) F else none
 |none=>none
theorem Te {P:Program}: ∀{l:List (Nat×Fn)},l.map (λx=>Vs P x.1)=l.map (λx=>some x.2)->Wk P (find l)
 | [],_=>He
 |(k,f)::l,h=>by
  simp only[List.map_cons,List.cons.injEq] at h;obtain⟨a,c⟩:=h;unfold Vs at a;split at a
  ·rename_i F d
   split at a
   ·rename_i b
    exact Ci d a b (Te c)
   ·cases a
  ·cases a
theorem yV {α β:Type}{f g:α->β}{l:List α}(k:Nat)(a:(l.take k).map f=(l.take k).map g)(h2:(l.drop k).map f=(l.drop k).map g):l.map f=l.map g:=by
 have:=congr (congrArg (· ++ ·) a) h2;simpa only[←List.map_append,List.take_append_drop] using this
end Go.Ay
