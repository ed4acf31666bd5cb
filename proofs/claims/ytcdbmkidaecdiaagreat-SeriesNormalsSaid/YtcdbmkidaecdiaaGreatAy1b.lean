/- The evaluator: calls by levels, loops by fuel, all else by recursion on the code. -/
import Derived.Test.YtcdbmkidaecdiaaGreatAy1
namespace Go.Ay
abbrev lQ:=Nat->List V->H->Option (V×H)
def uN (cl yl:lQ)(vars loc:List V)(h:H):fO->Option (V×H)
 | .op i=>fC (xv vars loc) h i
 | .call g args=>cl g (args.map (xv vars loc)) h
 | .callv x args=>match xv vars loc x with
  | .fn g fs cs=>cl g (fs++args.map (xv vars loc)++cs) h
  | .yl id=>yl id (args.map (xv vars loc)) h
  |_=>none
def Ar (cl yl:lQ):List It->List V->List V->H->Option (List V×H)
 | [],vars,_,h=>some (vars,h)
 |it::its,vars,loc,h=>match iU vars loc it.g with
  |some true=>match uN cl yl vars loc h it.a with
   |some (v,h)=>Ar cl yl its (jG it.d vars loc v).1 (jG it.d vars loc v).2 h
   |none=>none
  |some false=>Ar cl yl its (jG it.d vars loc .undef).1 (jG it.d vars loc .undef).2 h
  |none=>none
def mB (cl yl:lQ)(base:Nat):List AI->List V->Log->H->Option (List V×H)
 | [],vars,_,h=>some (vars,h)
 |x::xs,vars,log,h=>match iU vars [] x.it.g with
  |some true=>
   match (if x.al then Kw vars h (base+x.i) x.it.a else uN cl yl vars [] h x.it.a) with
   |some (v,h)=>if qG x.cks log h then mB cl yl base xs (jG x.it.d vars [] v).1 (Kr x vars v log) h else none
   |none=>none
  |some false=>if qG x.cks log h then mB cl yl base xs (jG x.it.d vars [] .undef).1 log h else none
  |none=>none
abbrev Res:=Option (E×List V×H)
def Ph (step:List V->H->Res):Nat->List V->H->Res
 |0,_,_=>none
 |n+1,vars,h=>match step vars h with
  |some (.norm,vars,h)=>Ph step n vars h
  |r=>r
def run (cl yl:lQ)(N:Nat)(rd:Option Nat):C->List V->H->Res
 | .skip,vars,h=>some (.norm,vars,h)
 | .reg its,vars,h=>match Ar cl yl its vars [] h with
  |some (vars,h)=>some (.norm,vars,h)
  |none=>none
 | .any k nl its,vars,h=>match mB cl yl h.next its (vars++List.replicate nl .unk) [] {h with next:=h.next+k} with
  |some (vs,h)=>some (.norm,vs.take vars.length,h)
  |none=>none
 | .seq a b,vars,h=>match run cl yl N rd a vars h with
  |some (.norm,vars,h)=>run cl yl N rd b vars h
  |r=>r
 | .ite x a b,vars,h=>match xv vars [] x with
  | .bool true=>run cl yl N rd a vars h
  | .bool false=>run cl yl N rd b vars h
  |_=>none
 | .block id a,vars,h=>match run cl yl N rd a vars h with
  |some (.exit n,vars,h)=>if n=id then some (.norm,vars,h) else some (.exit n,vars,h)
  |r=>r
 | .loop a,vars,h=>Ph (run cl yl N rd a) N vars h
 | .exit n,vars,h=>some (.exit n,vars,h)
 | .ret,vars,h=>some (.ret,vars,h)
 | .range x pars assign body,vars,h=>match xv vars [] x with
  | .fn g fs cs=>
   if KI rd h then
   match cl g (fs++ .yl h.next::cs) (h.new (.loop {vars,pars,assign,body,st:= .ready,pend:=none})) with
   |some (_,h')=>
    match h'.get h.next with
    |some (.loop r)=>
     if r.st= .busy then none else
     some (r.pend.getD .norm,vars,h'.set h.next (some (.loop {r with st:= .out})))
    |_=>none
   |none=>none
   else none
  |_=>none
 | .fail,_,_=>none
def isI:V->Bool
 | .int .i64 _=>true
 |_=>false
def YX:V->Int
 | .int _ n=>n
 |_=>0
def Mm:List V->H->Option (V×H)
 | [.sl id 0 len _],h=>if len=0 then some (.tup [],h) else match h.get id with
  |some (.cells false vs)=>if vs.length=len/\vs.all isI=true/\len<4611686018427387904 then some (.tup [],h.set id (some (.cells false (((vs.map YX).mergeSort λx y=>decide (x<=y)).map (.int .i64))))) else none
  |_=>none
 |_,_=>none
def GO (p:Nat->Option Fn)(cl yl:lQ)(N:Nat):lQ:=λg args h=>
 match p g with
 |none=>none
 |some fn=>if fn.srt then Mm args h else
  if args.length=fn.nargs then
   match run cl yl N none fn.body (Hv fn args) h with
   |some (.norm,vars,h)|some (.ret,vars,h)=>(dG (fn.results.map (Kh vars h))).map λvs=>(Yv vs,h)
   |_=>none
  else none
def Ou (cl yl:lQ)(N:Nat):lQ:=λid args h=>
 match h.get id with
 |some (.loop r)=>
  if args.length=r.pars.length then
   match run cl yl N (some id) r.assign ((r.pars.zip args).foldl (λvs q=>vs.set q.1 q.2) r.vars) h with
   |some (.norm,vars,h)=>
    match h.get id with
    |some (.loop r2)=>
     if r2.st= .ready then
      match run cl yl N (some id) r.body vars (h.set id (some (.loop {r2 with st:= .busy}))) with
      |some (e,_,h)=>
       match h.get id with
       |some (.loop r3)=>
        (match e with
        | .norm=>some (.bool true,h.set id (some (.loop {r3 with st:= .ready,pend:=none})))
        |e=>some (.bool false,h.set id (some (.loop {r3 with st:= .done,pend:=some e}))))
       |_=>none
      |none=>none
     else none
    |_=>none
   |_=>none
  else none
 |_=>none
def nG (p:Nat->Option Fn):Nat->lQ×lQ
 |0=>(λ_ _ _=>none,λ_ _ _=>none)
 |f+1=>(GO p (nG p f).1 (nG p f).2 f,Ou (nG p f).1 (nG p f).2 f)
end Go.Ay
