/- Which yK of a function the compiler keeps, computed; and a table of code, checked whole. -/
import Derived.Test.YtapfcpkecmmagaaGreatAy24
namespace Go.Ay
open Go
def yR (l:List Nat):Nat:=l.foldl (λm t=>m|||1<<<t) 0
def AO (ops:Array Oper)(o:Oper):Nat:=yR ((o.op.operands.toList.filterMap fun| .tmp t=>some t|_=>none)++(match o.guard with|some (j,_)=>((ops[j]?).bind (·.dst)).toList|none=> []))
def xM:Operand->Nat
 | .tmp t=>1<<<t
 |_=>0
def Bm:Code->Nat×Nat×Nat->Nat×Nat×Nat
 | .region _ ops _,(s,m,u)=>
  let r:=ops.toList.foldl (λ(d,n,r) o=>
   let us:=AO ops o
   (d|||yR o.dst.toList,n|||(match o.op with| .defer _=>us|_=>us^^^(us&&&d)),r|||us|||yR o.dst.toList)) ((0:Nat),u,(0:Nat))
  (s|||r.2.2,m|||(s&&&r.2.2),r.2.1)
 | .seq a b,x=>Bm b (Bm a x)
 | .cond c a b,x=>let y:=Bm b (Bm a x);(y.1,y.2.1,y.2.2|||xM c)
 | .block _ c,x| .loop c,x| .scope c,x=>Bm c x
 | .rangeFunc f ps a b,x=>let y:=Bm b (Bm a x);(y.1,y.2.1,y.2.2|||xM f|||yR ps.toList)
 |_,x=>x
def AE (fn:Func):List Nat:=
 match fn.body with
 |none=> []
 |some c=>
  let x:=Bm c (0,0,0)
  let k:=x.2.1|||x.2.2|||yR (fn.results.toList.map fun| .tmp t=>t| .cell t _=>t)|||(x.1&&&yR (List.range (fn.params.size+fn.nfree)))
  (List.range fn.ntmps).filter λt=>Nat.testBit k t
def Mc (P:Program)(k:Nat):Option Fn:=match P.funcs[k]? with
 |some F=>if F.body.isSome&&F.name != "runtime.NumGoroutine" then Aj P (AE F) F else none
 |none=>none
theorem Mq {P:Program}: ∀{l:List (Nat×Fn)},l.map (λx=>Mc P x.1)=l.map (λx=>some x.2)->Ln P (find l)
 | [],_=>Ap
 |(k,f)::l,h=>by
  simp only[List.map_cons,List.cons.injEq] at h;obtain⟨h1,h2⟩:=h;unfold Mc at h1;split at h1
  ·rename_i F hF
   split at h1
   ·rename_i hb
    exact xT hF h1 hb (Mq h2)
   ·cases h1
  ·cases h1
theorem Aq {α β:Type}{f g:α->β}{l:List α}(k:Nat)(h1:(l.take k).map f=(l.take k).map g)(h2:(l.drop k).map f=(l.drop k).map g):l.map f=l.map g:=by
 have:=congr (congrArg (· ++ ·) h1) h2;simpa only[←List.map_append,List.take_append_drop] using this
end Go.Ay
