/- Rules for walking through the abstract machine's code. -/
import Derived.Test.YtcdbmkidaecdiaaGreatAy23
import Derived.Attr
namespace Go.Ay
section
variable {id k off:Nat} {vs:List V}
def find:List (Nat×Fn)->Nat->Option Fn
 | [],_=>none
 |(k,f)::l,n=>cond (Nat.beq k n) (some f) (find l n)
attribute [congr] Wh XP VJ LY KP MZ XE EV AT AN Xm Ul
def H.cell (h:H)(id off:Nat):Option V:=match h.get id with
 |some (.cells _ vs)=>vs[off]?
 |_=>none
section
variable (h:H)
theorem H.cell_of {h:H}{ro:Bool}(a:h.get id=some (.cells ro vs))(off:Nat):h.cell id off=vs[off]? :=by
 unfold H.cell;rw[a]
theorem H.aU (id:Nat)(o:Option Ob):(h.set id o).get id=o:=by rw[H.jB,bJ rfl]
theorem H.aH (a:k≠id)(o:Option Ob):(h.set id o).get k=h.get k:=by rw[H.jB,bU a]
theorem H.aL (o:Ob):(h.new o).get h.next=some o:=by rw[H.kL,bJ rfl]
theorem H.bG (a:k≠h.next)(o:Ob):(h.new o).get k=h.get k:=by rw[H.kL,bU a]
theorem H.xZ (n k:Nat):(H.mk h.tr n).get k=h.get k:=rfl
theorem H.OE (n k off:Nat):(H.mk h.tr n).cell k off=h.cell k off:=rfl
theorem H.Ei (id:Nat)(ro:Bool)(vs:List V)(off:Nat):(h.set id (some (.cells ro vs))).cell id off=vs[off]? :=H.cell_of (H.aU ..) off
theorem H.Ln (a:k≠id)(o:Option Ob)(off:Nat):(h.set id o).cell k off=h.cell k off:=by unfold H.cell;rw[H.aH h a]
theorem H.Rg (ro:Bool)(vs:List V)(off:Nat):(h.new (.cells ro vs)).cell h.next off=vs[off]? :=H.cell_of (H.aL ..) off
theorem H.Zx (a:k≠h.next)(o:Ob)(off:Nat):(h.new o).cell k off=h.cell k off:=by unfold H.cell;rw[H.bG h a]
end
structure Fr (h h':H):Prop where
 next:h.next<=h'.next
 get: ∀id,id<h.next->h'.get id=h.get id
theorem Fr.refl (h:H):Fr h h:=⟨dT _,λ_ _=>rfl⟩
theorem Fr.trans {a b c:H}(x:Fr a b)(y:Fr b c):Fr a c:=⟨mY x.next y.next,λid d=>(y.get id (jM d x.next)).trans (x.get id d)⟩
theorem Fr.new {a b:H}(x:Fr a b)(o:Ob):Fr a (b.new o):=x.trans ⟨by rw[H.aW];omega,λid c=>H.bG b om o⟩
theorem Fr.set {a b:H}(x:Fr a b)(d:a.next<=id)(o:Option Ob):Fr a (b.set id o):=⟨x.next,λk c=>(H.aH b om o).trans (x.get k c)⟩
theorem Fr.bH {a b:H}(x:Fr a b){n:Nat}(c:b.next<=n):Fr a (H.mk b.tr n):=⟨mY x.next c,λk d=>(H.xZ b n k).trans (x.get k d)⟩
theorem Fr.cell {a b:H}(x:Fr a b)(c:id<a.next)(off:Nat):b.cell id off=a.cell id off:=by unfold H.cell;rw[x.get id c]
def aaR (op:BinOp)(k:IntKind)(x y:V):Option V:=match x,y with
 | .int j a,.int j' b=>if j=k/\j'=k then arith op k a b else none
 |_,_=>none
theorem TM (op:BinOp)(k:IntKind)(a b:Int):aaR op k (.int k a) (.int k b)=arith op k a b:=by simp [aaR]
def ahI:V->Option V
 | .bool a=>some (.bool (!a))
 |_=>none
theorem MI (a:Bool):ahI (.bool a)=some (.bool (!a)):=rfl
def RK (c a b:V):Option V:=match c with
 | .bool t=>some (if t then a else b)
 |_=>none
theorem BW (t:Bool)(a b:V):RK (.bool t) a b=some (if t then a else b):=rfl
def Ht (neg:Bool):V->Option V
 | .aD=>some (.bool (!neg))
 | .sl .. | .emp _=>some (.bool neg)
 |_=>none
theorem EW (neg:Bool):Ht neg .aD=some (.bool (!neg)):=rfl
theorem NF (neg:Bool)(a:Addr):Ht neg (.emp a)=some (.bool neg):=rfl
theorem UG (neg:Bool)(a b c:Nat)(d:pY):Ht neg (.sl a b c d)=some (.bool neg):=rfl
def ZW (neg:Bool)(x y:V):Option V:=match x,y with
 | .bool a,.bool b=>some (.bool (if neg then !(a==b) else a==b))
 |_,_=>none
theorem ahB (a b:Bool):ZW false (.bool a) (.bool b)=some (.bool (a==b)):=rfl
theorem agP (a b:Bool):ZW true (.bool a) (.bool b)=some (.bool (!(a==b))):=rfl
def UE (k:IntKind):V->Option V
 | .int _ a=>some (.int k (k.wrap a))
 |_=>none
theorem NB (k j:IntKind)(a:Int):UE k (.int j a)=some (.int k (k.wrap a)):=rfl
def agM (i:Nat):V->Option V
 | .tup vs=>vs[i]?
 |_=>none
theorem SD (i:Nat)(vs:List V):agM i (.tup vs)=vs[i]? :=rfl
def bL (v:V):Option V:=(wZ v).map λ(n:Nat)=>V.int .i64 (n:Int)
theorem DF:bL .aD=some (.int .i64 0):=rfl
theorem WH (a b c:Nat)(d:pY):bL (.sl a b c d)=some (.int .i64 (c:Int)):=rfl
def ahZ (off:Nat):V->Option V
 | .ptr id o=>some (.ptr id (o+off))
 |_=>none
theorem SJ (off id o:Nat):ahZ off (.ptr id o)=some (.ptr id (o+off)):=rfl
def ahH:V->Option V
 | .ptr id o=>some (.ptr id o)
 |_=>none
theorem WQ (id o:Nat):ahH (.ptr id o)=some (.ptr id o):=rfl
def Pu (h:H):V->Option V
 | .ptr id off=>h.cell id off
 |_=>none
theorem KU (h:H)(id off:Nat):Pu h (.ptr id off)=h.cell id off:=rfl
def CZ (h:H)(n:Nat):V->Option V
 | .ptr id off=>(h.row id off n).map .agg
 |_=>none
theorem SY (h:H)(id off n:Nat):CZ h n (.ptr id off)=(h.row id off n).map .agg:=rfl
def Wz (h:H)(n:Nat)(x y:V):Option H:=match x with
 | .ptr id off=>if y.cells.length=n/\y.cells.all V.one then h.put id off y.cells else none
 |_=>none
def eU (o:Option Ob)(h:H)(id off:Nat)(ws:List V):Option H:=match o with
 |some (.cells false vs)=>(putAt vs off ws).map λvs'=>h.set id (some (.cells false vs'))
 |_=>none
theorem H.put_eq (h:H)(id off:Nat)(ws:List V):h.put id off ws=eU (h.get id) h id off ws:=by
 unfold H.put eU
 cases h.get id with
 |none=>rfl
 |some o=>cases o with
  |cells ro vs=>cases ro<;>rfl
  |_=>rfl
theorem CG {o o':Option Ob}{h:H}{ws:List V}(e:o=o'):eU o h id off ws=eU o' h id off ws:=by rw[e]
theorem LS (a:off<vs.length)(v:V):putAt vs off [v]=some (vs.set off v):=by
 unfold putAt;rw[bJ (by simp;omega)];congr 1;rw[List.set_eq_take_append_cons_drop,bJ a];simp
theorem bT (a:off<vs.length)(h:H)(id:Nat)(v:V):eU (some (.cells false vs)) h id off [v]=some (h.set id (some (.cells false (vs.set off v)))):=by
 simp only[eU];rw[LS a];rfl
theorem kP {y:V}(a:y.cells= [y])(b:y.one=true)(h:H)(id off:Nat):Wz h 1 (.ptr id off) y=eU (h.get id) h id off [y]:=by
 simp only[Wz,a,List.length_singleton,List.all_cons,List.all_nil,b,Bool.and_self,and_self,if_true,H.put_eq]
theorem aaJ (h:H)(id off:Nat)(k:IntKind)(a:Int):Wz h 1 (.ptr id off) (.int k a)=eU (h.get id) h id off [.int k a]:=kP rfl rfl h id off
theorem WA (h:H)(id off:Nat)(a:Bool):Wz h 1 (.ptr id off) (.bool a)=eU (h.get id) h id off [.bool a]:=kP rfl rfl h id off
theorem OY (h:H)(id off a b c:Nat)(d:pY):Wz h 1 (.ptr id off) (.sl a b c d)=eU (h.get id) h id off [.sl a b c d]:=kP rfl rfl h id off
theorem WG (h:H)(id off:Nat):Wz h 1 (.ptr id off) .aD=eU (h.get id) h id off [.aD]:=kP rfl rfl h id off
theorem Di (h:H)(id off n:Nat)(vs:List V)(a:vs.length=n)(b:vs.all V.one=true):Wz h n (.ptr id off) (.agg vs)=eU (h.get id) h id off vs:=by
 simp only[Wz,V.cells,a,b,and_self,if_true,H.put_eq]
def Ce (h:H)(x:V):Option (V×H):=if x.cells.all V.one then some (.ptr h.next 0,h.new (.cells false x.cells)) else none
theorem mE {x:V}(a:x.cells= [x])(b:x.one=true)(h:H):Ce h x=some (.ptr h.next 0,h.new (.cells false [x])):=by
 simp [Ce,a,b]
theorem Qe (h:H)(k:IntKind)(a:Int):Ce h (.int k a)=some (.ptr h.next 0,h.new (.cells false [.int k a])):=rfl
theorem NP (h:H)(a:Bool):Ce h (.bool a)=some (.ptr h.next 0,h.new (.cells false [.bool a])):=rfl
theorem lG (h:H)(vs:List V)(a:vs.all V.one=true):Ce h (.agg vs)=some (.ptr h.next 0,h.new (.cells false vs)):=by
 simp only[Ce,V.cells,a,if_true]
theorem Il {len sz:Nat}{a:pY}{k:IntKind}{n:Int}(c:0<=n)(b:n<len):Gr sz (.sl id off len a) (.int k n)=some (.ptr id (off+n.toNat*sz)):=by
 simp only[Gr];rw[bJ ⟨c,b⟩]
section
variable (ρ:X->V) (h:H)
theorem abU (x:X):fC ρ h (.mov x)=some (ρ x,h):=rfl
theorem XI (c a b:X):fC ρ h (.pick c a b)=(RK (ρ c) (ρ a) (ρ b)).map (·,h):=by
 simp only[fC,RK];cases ρ c<;>rfl
theorem adT (op:BinOp)(k:IntKind)(x y:X):fC ρ h (.bin op k x y)=(aaR op k (ρ x) (ρ y)).map (·,h):=by
 simp only[fC,aaR];cases ρ x<;>cases ρ y<;>try rfl
 simp only;split<;>rfl
theorem YQ (neg:Bool)(x y:X):fC ρ h (.beq neg x y)=(ZW neg (ρ x) (ρ y)).map (·,h):=by
 simp only[fC,ZW];cases ρ x<;>cases ρ y<;>rfl
theorem VL (neg:Bool)(x:X):fC ρ h (.snil neg x)=(Ht neg (ρ x)).map (·,h):=by
 simp only[fC,Ht];cases ρ x<;>rfl
theorem acA (x:X):fC ρ h (.not x)=(ahI (ρ x)).map (·,h):=by
 simp only[fC,ahI];cases ρ x<;>rfl
theorem TG (k:IntKind)(x:X):fC ρ h (.conv k x)=(UE k (ρ x)).map (·,h):=by
 simp only[fC,UE];cases ρ x<;>rfl
theorem YH (x:X)(i:Nat):fC ρ h (.ext x i)=(agM i (ρ x)).map (·,h):=by
 simp only[fC,agM];cases ρ x<;>rfl
theorem XH (x:X):fC ρ h (.lens x)=(bL (ρ x)).map (·,h):=by
 simp only[fC,bL,Option.map_map];rfl
theorem Wx (x:X):fC ρ h (.ld false 1 x)=(Pu h (ρ x)).map (·,h):=by
 simp only[fC,YG,Pu,H.row,H.cell];cases ρ x<;>try rfl
 simp only;rename_i id off
 cases h.get id with
 |none=>rfl
 |some o=>cases o with
  |cells ro vs=>
   simp only[sub]
   by_cases a:off<vs.length
   ·rw[bJ om,dD a]
    have:(vs.drop off).take 1= [vs[off]]:=by
     rw[Zh a];rfl
    rw[this];rfl
   ·rw[bU om,List.getElem?_eq_none om]
  |_=>rfl
theorem FY (n:Nat)(x:X):fC ρ h (.ld true n x)=(CZ h n (ρ x)).map (·,h):=by
 simp only[fC,YG,CZ];cases ρ x<;>try rfl
 simp only;cases h.row _ _ n<;>rfl
theorem afG (n:Nat)(x y:X):fC ρ h (.st n x y)=(Wz h n (ρ x) (ρ y)).map λh'=>(V.undef,h'):=by
 simp only[fC,Wz];cases ρ x<;>try rfl
 simp only;split<;>rfl
theorem aaX (sz:Nat)(x i:X):fC ρ h (.ixa sz x i)=(Gr sz (ρ x) (ρ i)).map (·,h):=rfl
theorem adI (off:Nat)(x:X):fC ρ h (.fla off x)=(ahZ off (ρ x)).map (·,h):=by
 simp only[fC,ahZ];cases ρ x<;>rfl
theorem aaK (x:X):fC ρ h (.nck x)=(ahH (ρ x)).map (·,h):=by
 simp only[fC,ahH];cases ρ x<;>rfl
theorem abS (sz:Nat)(x:X)(b hi a:Option X):fC ρ h (.slc sz x b hi a)=(rY sz (ρ x) (b.map ρ) (hi.map ρ) (a.map ρ)).map (·,h):=rfl
theorem adH (sz bytes:Nat)(zero:List V)(l c:X):fC ρ h (.mks sz bytes zero l c)=Jz h sz bytes zero (ρ l) (ρ c):=rfl
theorem aeJ (zero:List V):fC ρ h (.alc zero)=some (.ptr h.next 0,h.new (.cells false zero)):=rfl
theorem adS (x:X):fC ρ h (.box x)=Ce h (ρ x):=rfl
theorem ZA (f:Nat)(b a:List X):fC ρ h (.mkf f b a)=some (.fn f (b.map ρ) (a.map ρ),h):=rfl
def zK (h:H)(sz bytes:Nat)(x y:V):Option (V×H):=match wZ y,h.slice sz y with
 |some m,some ys=>Fj h sz bytes x m ys
 |_,_=>none
theorem aaU (sz bytes:Nat)(x y:X):fC ρ h (.app sz bytes x y)=zK h sz bytes (ρ x) (ρ y):=rfl
def qU (zero:List V)(parts:List (Nat×Nat×V)):Option V:=(iK zero parts).map .agg
theorem acL (zero:List V)(a:List (Nat×Nat×X)):fC ρ h (.bld zero a)=(qU zero (a.map λp=>(p.1,p.2.1,ρ p.2.2))).map (·,h):=by
 simp only[fC,qU,Option.map_map];rfl
def mH (h:H)(sz:Nat)(zero:List V)(n:Nat)(parts:List (Nat×Nat×V)):Option (V×H):=match iK (dP zero (n*sz)) parts with
  |some cs=>if cs.all V.one then some (.sl h.next 0 n (.kn n),h.new (.cells false cs)) else none
  |none=>none
theorem aaC (sz:Nat)(zero:List V)(n:Nat)(a:List (Nat×Nat×X)):fC ρ h (.bls sz zero n a)=mH h sz zero n (a.map λp=>(p.1,p.2.1,ρ p.2.2)):=rfl
theorem acP (sz:Nat)(x y:X):fC ρ h (.cpy sz x y)=KH h sz (ρ x) (ρ y):=rfl
end
theorem ajV (a b:List V)(k:Nat):xv a b (.v k)=a.getD k .undef:=rfl
theorem akN (a b:List V)(k:Nat):xv a b (.l k)=b.getD k .undef:=rfl
theorem ahQ (a b:List V)(x:V):xv a b (.c x)=x:=rfl
theorem abB (k:Nat)(a b:List V)(v:V):(jG (.v k) a b v).1=a.set k v:=rfl
theorem ZJ (k:Nat)(a b:List V)(v:V):(jG (.v k) a b v).2=b:=rfl
theorem acI (a b:List V)(v:V):(jG .l a b v).1=a:=rfl
theorem aeA (a b:List V)(v:V):(jG .l a b v).2=v::b:=rfl
theorem adO (a b:List V)(v:V):(jG .n a b v).1=a:=rfl
theorem ZB (a b:List V)(v:V):(jG .n a b v).2=b:=rfl
theorem AB (c d:List V)(x:X)(b:Bool):iU c d (some (x,b))=(match xv c d x with| .bool a=>some (a==b)| .tup []=>some false|_=>none):=rfl
theorem KG (k:IntKind)(a b:Int):arith .add k a b=some (.int k (k.wrap (a+b))):=rfl
theorem MC (k:IntKind)(a b:Int):arith .sub k a b=some (.int k (k.wrap (a-b))):=rfl
theorem KJ (k:IntKind)(a b:Int):arith .mul k a b=some (.int k (k.wrap (a*b))):=rfl
theorem OO (k:IntKind)(a b:Int)(c:b≠0):arith .quo k a b=some (.int k (k.wrap (a.tdiv b))):=by simp only[arith];rw[bU c]
theorem NV (k:IntKind)(a b:Int)(c:b≠0):arith .rem k a b=some (.int k (a.tmod b)):=by simp only[arith];rw[bU c]
theorem MA (k:IntKind)(a b:Int):arith .eql k a b=some (.bool (decide (a=b))):=by
 simp only[arith];congr 2
theorem OJ (k:IntKind)(a b:Int):arith .neq k a b=some (.bool (decide (a≠b))):=by
 simp only[arith];congr 2;rw[DW];simp
theorem OL (k:IntKind)(a b:Int):arith .lss k a b=some (.bool (decide (a<b))):=rfl
theorem JW (k:IntKind)(a b:Int):arith .leq k a b=some (.bool (decide (a<=b))):=rfl
theorem KF (k:IntKind)(a b:Int):arith .gtr k a b=some (.bool (decide (b<a))):=rfl
theorem OH (k:IntKind)(a b:Int):arith .geq k a b=some (.bool (decide (b<=a))):=rfl
theorem adN {n:Int}(a: -9223372036854775808<=n)(h2:n<9223372036854775808):IntKind.i64.wrap n=n:=by
 unfold IntKind.wrap;simp only[IntKind.bits,IntKind.signed]
 by_cases h:0<=n
 ·have:n%2^64=n:=Int.emod_eq_of_lt h om
  simp only[this];rw[bU];simp;omega
 ·have:n%2^64=n+2^64:=by
   rw[←Int.add_emod_right];exact Int.emod_eq_of_lt om om
  simp only[this];rw[bJ]
  ·omega
  ·simp;omega
theorem afT (a:List V)(h:H)(k:Nat):Kh a h (.v k)=some (a.getD k .undef):=rfl
theorem FH (c:List V)(h:H)(k:Nat):Kh c h (.cell k false 1)=Pu h (c.getD k .undef):=by
 have:=Wx (λ_=>c.getD k .undef) h (.v 0);simp only[Kh];simp only[fC] at this;generalize YG h false 1 (c.getD k .undef)=a at*;generalize Pu h (c.getD k .undef)=b at*;cases a<;>cases b<;>simp at this ⊢;exact this
theorem Yk (a:List V)(h:H)(k n:Nat):Kh a h (.cell k true n)=CZ h n (a.getD k .undef):=by
 simp only[Kh,YG,CZ];cases a.getD k .undef<;>try rfl
 simp only;cases h.row _ _ n<;>rfl
theorem Zu {α:Type}:dG ([]:List (Option α))=some []:=rfl
theorem Vj {α:Type}(a:α)(r:List (Option α)):dG (some a::r)=(dG r).map (a:: ·):=rfl
theorem UF (v:V):Yv [v]=v:=rfl
theorem RJ (v u:V):Yv [v,u]= .tup [v,u]:=rfl
theorem DV (v u t:V):Yv [v,u,t]= .tup [v,u,t]:=rfl
theorem xX:V.undef= .tup []:=rfl
theorem aE (a:Fn)(args:List V):Hv a args=a.init.map λo=>match o with|some j=>args.getD j .undef|none=> .undef:=rfl
theorem LW (a:Log)(h:H):qG [] a h=true:=by simp [qG]
attribute [go_sem] YL afB adZ afO ahT TU aiE Xw WD Qg LJ EX AG DJ Cb ML Ye DP Xs MX PN JZ EC DG Yp RQ VX ZY agB ZE acH abO abN MK abE WN MJ acX RA JY OF ahA RX KM UQ VI Zq abU XI adT YQ VL acA TG YH XH Wx FY afG aaX adI aaK abS adH aeJ adS ZA aaU acL aaC acP TM MI BW EW UG NF ahB agP Bool.not_false Bool.not_true beq_true beq_false if_true if_false Bool.false_eq_true VG NB SD DF WH SJ WQ KU SY aaJ WA OY WG Qe NP bT Il ajV akN ahQ abB ZJ acI aeA adO ZB AB KG MC KJ OO NV MA OJ OL JW KF OH adN afT FH Yk Zu Vj UF RJ DV LW H.aU H.aH H.aL H.bG H.xZ H.OE H.Ei H.Ln H.Rg H.Zx H.cV H.aW true_and Option.map_some Option.map_none List.replicate_succ List.replicate_zero List.take_succ_cons List.take_zero List.length_cons List.length_nil Nat.zero_add List.foldl_cons List.foldl_nil List.map_cons List.map_nil List.getD_cons_zero List.getD_cons_succ List.set_cons_zero List.set_cons_succ List.cons_append List.nil_append tZ
attribute [congr] CG
abbrev aF (l:List V):Option Ob:=some (.cells false l)
abbrev aC (z:Int):V:=.int .i64 z
abbrev LN:=List (List Nat)
abbrev jJ:=List (List (List Nat))
theorem cI {p:Prop}[d:Decidable p](h:p):decide p=true:=decide_eq_true h
theorem bI {p:Prop}[d:Decidable p](h:¬p):decide p=false:=decide_eq_false h
theorem exI.{u}{α:Sort u}(a:α):∃b,a=b:=⟨a,rfl⟩
theorem fJ (i:Nat):(i:Int)+1=((i+1:Nat):Int):=om
end
end Go.Ay
