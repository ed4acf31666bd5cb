/- The compiler from the model's code to the intermediate code. -/
import Derived.Test.YtcdbmkidaecdiaaGreatAy1
namespace Go.Ay
def idx (t:Nat):List Nat->Option Nat
 | []=>none
 |s::r=>if s=t then some 0 else (idx t r).map (· +1)
def Kl:Value->Option V
 | .int k n=>some (.int k n)
 | .bool b=>some (.bool b)
 | .pointer none=>some .nilp
 | .slice none 0 0=>some .aD
 | .map none=>some .nilm
 | .nilFunc=>some .nilf
 | .string s=>some (.str (s.data.toList.map UInt8.toNat))
 | .func (.func f) first captured=>if first.isEmpty&&captured.isEmpty then some (.fn f [] []) else none
 |_=>none
def Tt:Value->Option V
 | .agg cs=>(dG (cs.toList.map Kl)).map .agg
 | .tuple cs=>if cs.isEmpty then some (.tup []) else none
 |v=>Kl v
def iM (pv defs:List Nat):Operand->Option X
 | .tmp t=>match idx t defs with
  |some i=>some (.l i)
  |none=>(idx t pv).map .v
 | .const v=>(Tt v).map .c
 | .func f=>some (.c (.fn f [] []))
 | .global _=>none
def Ew (pv defs:List Nat)(xs:List Operand):Option (List X):=dG (xs.map (iM pv defs))
def Gf (pv defs:List Nat):Option Operand->Option (Option X)
 |none=>some none
 |some x=>(iM pv defs x).map some
section
variable (P:Program)
def Xg (t:TypeId):Option Bool:=(P.underlying t).map fun| .struct _| .array _ _=>true|_=>false
def jL (t:TypeId):Option Nat:=(P.info? t).map (·.size)
def Ba (t:TypeId):Option Nat:=(P.info? t).map (·.bytes)
def aeM:V->Bool
 | .tup _=>false
 |_=>true
def sY (t:TypeId):Option V:=(((P.info? t).bind (·.zero)).bind Tt).filter aeM
def ldN (t:TypeId):Option (Bool×Nat):=
 match Xg P t with
 |some true=>(jL P t).map λn=>(true,n)
 |some false=>some (false,1)
 |none=>none
def Hd (t:TypeId):Option TypeId:=match P.underlying t with|some (.slice e)=>some e|_=>none
def BL (e:TypeId)(s:Nat):Bool:=((P.info? e).bind (·.zero)).any λz=>z.cells.size==s
def CO (t:TypeId)(f:Nat):Option Field:=match P.underlying t with|some (.struct fs)=>fs[f]? |_=>none
def enters (f:Nat):Bool:=(P.funcs[f]?).any λfn=>fn.body.isSome&&fn.name != "runtime.NumGoroutine"
def Bm (fs:Array Field):Option (List (Nat×Nat)):=fs.toList.mapM λf=>(P.info? f.type).map λi=>(f.offset,i.size)
def DB (t:TypeId)(parts:List (Nat×X)):Option (List (Nat×Nat×X)):=
 match P.underlying t with
 |some (.struct fs)=>match Bm P fs with
  |some ps=>dG (parts.map λp=>((ps[p.1]?).map λq=>(q.1,q.2,p.2)))
  |none=>none
 |some (.array _ e)=>(jL P e).map λs=>parts.map λp=>(p.1*s,s,p.2)
 |_=>none
def isInt (t:TypeId):Option IntKind:=match P.underlying t with|some (.int k)=>some k|_=>none
def Uw (kt:TypeId):Option Gn:=
 match P.underlying kt with
 |some .string=>some .str
 |some (.array n e)=>match P.underlying e with
  |some (.int k)=>if P.cellsOf e=1/\P.cellsOf kt=n/\0<P.types.size then some (.arr n k) else none
  |_=>none
 |_=>none
def xI (pv defs:List Nat)(c:Call)(type:TypeId):Option fO:=
 match c.callee with
 | .value (.func f)=>if enters P f then (Ew pv defs c.args.toList).map (.call f) else none
 | .value x=>do some (.callv (←iM pv defs x) (←Ew pv defs c.args.toList))
 | .invoke .. =>none
 | .builtin .len=>
  match c.args.toList,c.argTypes.toList with
  | [x], [t]=>match P.underlying t with
   |some (.slice _)=>(iM pv defs x).map λx=> .op (.lens x)
   |some (.map _ _)=>(iM pv defs x).map λx=> .op (.lenm x)
   |_=>none
  |_,_=>none
 | .builtin .append=>
  match c.args.toList,c.argTypes.toList with
  | [x,y], [t,u]=>do
   let e ←Hd P t
   let s ←jL P e
   if s=0∨BL P e s=false then none else
   match P.underlying u with
   |some (.slice _)=>some (.op (.app s (←Ba P e) (←iM pv defs x) (←iM pv defs y)))
   |_=>none
  |_,_=>none
 | .builtin .clear=>
  match c.args.toList,c.argTypes.toList with
  | [x], [t]=>do
   let e ←Hd P t
   let s ←jL P e
   if s=0∨BL P e s=false then none else
   some (.op (.clr s (←sY P e).cells (←iM pv defs x)))
  |_,_=>none
 | .builtin .copy=>
  match c.args.toList,c.argTypes.toList with
  | [x,y], [t,_]=>do
   let e ←Hd P t
   let s ←jL P e
   if s=0 then none else
   some (.op (.cpy s (←iM pv defs x) (←iM pv defs y)))
  |_,_=>none
 |_=>let _:=type;none
def pI (pv defs:List Nat)(o:Oper):Option fO:=
 let cx:=iM pv defs
 match o.op with
 | .move x| .assign x=>(cx x).map λx=> .op (.mov x)
 | .pick c a b=>do some (.op (.pick (←cx c) (←cx a) (←cx b)))
 | .alloc e=>do some (.op (.alc (←sY P e).cells))
 | .box _ x=>(cx x).map λx=> .op (.box x)
 | .build t parts=>do
  let ps ←dG (parts.toList.map λp=>(cx p.2).map λx=>(p.1,x))
  some (.op (.bld (←sY P t).cells (←DB P t ps)))
 | .buildSlice t n parts=>do
  let e ←Hd P t
  let s ←jL P e
  if s=0∨n*s>2^24∨BL P e s=false then none else
  let ps ←dG (parts.toList.map λp=>(cx p.2).map λx=>(p.1*s,s,x))
  some (.op (.bls s (←sY P e).cells n ps))
 | .load t x=>match ldN P t with
  |some q=>(cx x).map λx=> .op (.ld q.1 q.2 x)
  |none=>none
 | .store t x y=>do some (.op (.st (←jL P t) (←cx x) (←cx y)))
 | .nilCheck x=>(cx x).map λx=> .op (.nck x)
 | .binOp op t x y _=>
  match op with
  | .shl| .shr=>do some (.op (.shf op (←isInt P t) (←cx x) (←cx y)))
  | .eql| .neq=>
   match P.underlying t with
   |some (.int k)=>do some (.op (.bin op k (←cx x) (←cx y)))
   |some .bool=>do some (.op (.beq (op matches .neq) (←cx x) (←cx y)))
   |some .string=>do some (.op (.seq (op matches .neq) (←cx x) (←cx y)))
   |some (.slice _)=>match y with
    | .const (.slice none 0 0)=>do some (.op (.snil (op matches .neq) (←cx x)))
    |_=>none
   |_=>none
  | .andNot=>none
  | .add=>match P.underlying t with
   |some .string=>do some (.op (.sad (←cx x) (←cx y)))
   |_=>do some (.op (.bin .add (←isInt P t) (←cx x) (←cx y)))
  |_=>do some (.op (.bin op (←isInt P t) (←cx x) (←cx y)))
 | .unOp op t x=>
  match op with
  | .not=>(cx x).map λx=> .op (.not x)
  |_=>none
 | .convert s d x=>match P.underlying s,P.underlying d with
  |some (.int _),some (.int k)=>(cx x).map λx=> .op (.conv k x)
  |some (.slice e),some .string=>match P.underlying e with
   |some (.int .u8)=>(cx x).map λx=> .op (.cvs x)
   |_=>none
  |some (.int _),some .string=>(cx x).map λx=> .op (.cir x)
  |_,_=>none
 | .makeFunc (.func f) first cs=>if enters P f then do some (.op (.mkf f (←Ew pv defs first.toList) (←Ew pv defs cs.toList))) else none
 | .makeMap t r=>match P.underlying t with
  |some (.map kt _)=>match Uw P kt with
   |some sh=>(Gf pv defs r).map λr=> .op (.mkw sh r)
   |none=>none
  |_=>none
 | .makeSlice t l c=>do
  let e ←Hd P t
  let s ←jL P e
  if s=0∨BL P e s=false then none else
  some (.op (.mks s (←Ba P e) (←sY P e).cells (←cx l) (←cx c)))
 | .slice t x lo hi mx=>match P.underlying t with
  |some (.array _ _)=>none
  |_=>do
   let e ←Hd P t
   let s ←jL P e
   if s=0 then none else
   some (.op (.slc s (←cx x) (←Gf pv defs lo) (←Gf pv defs hi) (←Gf pv defs mx)))
 | .fieldAddr t x f=>do
  let f ←CO P t f
  if (jL P f.type).getD 0=0 then none else
  some (.op (.fla f.offset (←cx x)))
 | .indexAddr t x i=>match P.underlying t,i with
  |some (.array n e),.const (.int _ z)=>if 0<=z/\z<n then do
    let s ←jL P e
    some (.op (.fla (z.toNat*s) (←cx x)))
   else none
  |some (.array n e),i=>do
   let s ←jL P e
   some (.op (.ixd n s (←cx x) (←cx i)))
  |_,_=>do
   let e ←Hd P t
   let s ←jL P e
   some (.op (.ixa s (←cx x) (←cx i)))
 | .lookup t x k ok=>match P.underlying t with
  |some (.map kt et)=>do some (.op (.lkw (←Uw P kt) (←sY P et) ok (←cx x) (←cx k)))
  |_=>none
 | .mapUpdate t x k y=>match P.underlying t with
  |some (.map kt _)=>do some (.op (.msw (←Uw P kt) (←cx x) (←cx k) (←cx y)))
  |_=>none
 | .index t x i=>match P.underlying t with
  |some .string=>do some (.op (.six (←cx x) (←cx i)))
  |_=>none
 | .extract x i=>(cx x).map λx=> .op (.ext x i)
 | .makeInterface t x=>match P.underlying t,cx x with
  |some (.interface _),_=>some (.op .fail)
  |some _,some x=>some (.op (.mif t x))
  |_,_=>some (.op .fail)
 | .panic _=>some (.op .fail)
 | .call c=>xI P pv defs c o.type
 |_=>none
def aeN (pv defs:List Nat)(ops:Array Oper):Option (Nat×Bool)->Option (Option (X×Bool))
 |none=>some none
 |some (j,b)=>match (ops[j]?).bind (·.dst) with
  |some t=>(iM pv defs (.tmp t)).map λx=>some (x,b)
  |none=>none
def aeT (nt:Nat)(pv defs:List Nat):Option Tmp->Option (D×List Nat)
 |none=>some (.n,defs)
 |some t=>if t<nt then (match idx t pv with
   |some k=>some (.v k,defs)
   |none=>some (.l,t::defs)) else none
def xB (nt:Nat)(pv defs:List Nat)(ops:Array Oper)(o:Oper):Option (It×List Nat):=
 match pI P pv defs o,aeN pv defs ops o.guard,aeT nt pv defs o.dst with
 |some a,some g,some d=>some (⟨d.1,g,a⟩,d.2)
 |_,_,_=>none
def Hq (nt:Nat)(pv:List Nat)(ops:Array Oper):List Nat->List Nat->Option (List It)
 | [],_=>some []
 |i::r,defs=>
  match ops[i]? with
  |none=>none
  |some o=>
   match xB P nt pv defs ops o with
   |none=>none
   |some (it,defs')=>(Hq nt pv ops r defs').map (it:: ·)
end
def X.Tl:X->List Nat
 | .v k=> [k]
 |_=> []
def I.xs:I->List X
 | .mov x| .not x| .conv _ x| .snil _ x| .ext x _| .lens x| .lenm x| .ld _ _ x| .fla _ x| .box x| .nck x| .cvs x| .mif _ x| .cir x| .clr _ _ x=> [x]
 | .ixd _ _ x y| .six x y| .seq _ x y| .sad x y| .lkw _ _ _ x y=> [x,y]
 | .mkw _ r=>r.toList
 | .msw _ x k y=> [x,k,y]
 | .pick c a b=> [c,a,b]
 | .bin _ _ x y| .shf _ _ x y| .beq _ x y| .st _ x y| .ixa _ x y| .mks _ _ _ x y| .app _ _ x y| .cpy _ x y=> [x,y]
 | .slc _ x lo hi mx=>x::(lo.toList++hi.toList++mx.toList)
 | .bld _ ps=>ps.map (·.2.2)
 | .bls _ _ _ ps=>ps.map (·.2.2)
 | .mkf _ fs cs=>fs++cs
 | .alc _| .fail=> []
def fO.xs:fO->List X
 | .op i=>i.xs
 | .call _ args=>args
 | .callv x args=>x::args
def It.rds (it:It):List Nat:=(it.a.xs.map X.Tl).flatten++(match it.g with|some (x,_)=>x.Tl|none=> [])
def It.wr (it:It):Option Nat:=match it.d with| .v k=>some k|_=>none
def It.Fp (it:It):Bool:=match it.d with| .l=>true|_=>false
def Ez (p q:AI):Bool:=
 (match p.it.wr with|some k=>q.it.rds.contains k||q.it.wr==some k|none=>false)||
 (match q.it.wr with|some k=>p.it.rds.contains k|none=>false)||
 ((p.it.a.vH||p.it.a.oE)&&(q.it.a.vH||q.it.a.tM))
structure Nd where
 x:AI
 dep:List Nat
 anc:Nat
 deriving Repr,Inhabited
def Md (d:Nat):List Nd->Nat
 | []=>0
 |n::r=>if n.x.i=d then n.anc else Md d r
def Mv:List Nd->List Nd->Bool
 | [],_=>true
 |n::rest,bef=>
  n.dep.all (λd=>bef.any (λq=>q.x.i==d))&&
  n.anc==n.dep.foldl (λm d=>m|||(2^d|||Md d bef)) 0&&
  !bef.any (λq=>q.x.i==n.x.i)&&
  bef.all (λq=>!Ez q.x n.x||n.anc.testBit q.x.i)&&
  bef.all (λq=>!(q.x.it.a.tM&&n.x.it.a.vH)||n.anc.testBit q.x.i||n.x.cks.contains q.x.i)&&
  !n.x.it.Fp&&(n.x.al==n.x.it.a.oE)&&
  Mv rest (n::bef)
def ahS (ws:List Nat)(ready:List Nd):Option Nd:=
 match ready.find? (λn=>!n.x.it.a.vH&&!n.x.it.a.oE) with
 |some n=>some n
 |none=>match ready.find? (λn=>n.x.it.a.vH) with
  |some n=>some n
  |none=>match ready.find? (λn=>ws.contains n.x.i) with
   |some n=>some n
   |none=>ready.head?
def Uo:Nat->List Nd->List Nd->List Nd
 |0,_,acc=>acc.reverse
 |f+1,todo,acc=>
  let ready:=todo.filter λn=>n.dep.all λd=>acc.any λq=>q.x.i==d
  let need:=match todo.find? (λn=>n.x.it.a.vH) with
   |some w=>(List.range todo.length.succ).foldl (λs _=>s++((todo.filter λn=>s.contains n.x.i).map (·.dep)).flatten.filter (λd=>!s.contains d&&todo.any (λn=>n.x.i==d))) w.dep
   |none=> []
  match ahS need ready with
  |none=>acc.reverse
  |some n=>
   let anc:=n.dep.foldl (λm d=>m|||(2^d|||Md d acc)) 0
   let cks:=if n.x.it.a.vH then (acc.filter λq=>q.x.it.a.tM&&!anc.testBit q.x.i).map (·.x.i) else []
   Uo f (todo.filter λm=>m.x.i !=n.x.i) ({n with anc:=anc,x:={n.x with cks:=cks}}::acc)
def Ca (o:Oper):List Nat:=(o.after.toList.filter (Region.binds .any)).map (·.on)
def locals (pv:List Nat):List Nat->List Nat->List Nat
 | [],acc=>acc
 |t::ts,acc=>if pv.contains t||acc.contains t then locals pv ts acc else locals pv ts (acc++ [t])
section
variable (P:Program)
def Ib (nt:Nat)(pv:List Nat)(ops:Array Oper):Nat->List Oper->Option (List Nd)
 |_, []=>some []
 |i,o::os=>
  match xB P nt pv [] ops o with
  |some (it, [])=>(Ib nt pv ops (i+1) os).map λr=>{x:={i,it,al:=it.a.oE,cks:= []},dep:=Ca o,anc:=0}::r
  |_=>none
def agX (ns:List Nd)(pl:List Nd):Option (List Nd):=
 dG (pl.map λe=>(ns[e.x.i]?).map λm=>{x:={m.x with cks:=e.x.cks},dep:=m.dep,anc:=e.anc})
def RD (n:Nat)(ns:List Nd):Bool:=(List.range n).all (λi=>ns.any λq=>q.x.i==i)&&Mv ns []
def Ut (ns:List Nd)(n:Nat):Option (List AI):=
 match agX ns (Uo ns.length ns []) with
 |none=>none
 |some plan=>if RD n plan then some (plan.map (·.x)) else none
def Vc (nt:Nat)(pv:List Nat)(ops:Array Oper):Option C:=
 let loc:=locals pv (ops.toList.filterMap (·.dst)) []
 match Ib P nt (pv++loc) ops 0 ops.toList with
 |none=>none
 |some ns=>
  if loc.all (· <nt) then
   (Ut ns ops.size).map (.any ops.size loc.length)
  else none
def lC (nt:Nat)(pv:List Nat):Code->Option C
 | .skip| .label _=>some .skip
 | .region _ ops draw=>if draw then Vc P nt pv ops else
  (Hq P nt pv ops (List.range ops.size) []).map .reg
 | .seq a b=>do some (.seq (←lC nt pv a) (←lC nt pv b))
 | .cond x a b=>do some (.ite (←iM pv [] x) (←lC nt pv a) (←lC nt pv b))
 | .block id c=>do some (.block id (←lC nt pv c))
 | .loop c=>do some (.loop (←lC nt pv c))
 | .exit id=>some (.exit id)
 | .ret=>some .ret
 | .rangeFunc f pars a b=>do
  some (.range (←iM pv [] f) (←dG (pars.toList.map λt=>idx t pv)) (←lC nt pv a) (←lC nt pv b))
 |_=>none
def Xl (pv:List Nat):ResultVar->Option Rv
 | .tmp t=>(idx t pv).map .v
 | .cell t ty=>match ldN P ty with
  |some q=>(idx t pv).map λk=> .cell k q.1 q.2
  |none=>none
def CQ (pv:List Nat)(fn:Func):Option Fn:=
 match fn.body with
 |none=>none
 |some c=>match lC P fn.ntmps pv c,dG (fn.results.toList.map (Xl P pv)) with
  |some body,some results=>
   if pv.all (· <fn.ntmps)&&fn.params.size+fn.nfree<=fn.ntmps then
    some {nargs:=fn.params.size+fn.nfree,init:=pv.map λt=>if t<fn.params.size+fn.nfree then some t else none,results,body}
   else none
  |_,_=>none
end
end Go.Ay
