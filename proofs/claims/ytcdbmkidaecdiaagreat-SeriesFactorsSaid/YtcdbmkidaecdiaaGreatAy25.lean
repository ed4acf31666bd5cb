/- Rules for walking through the abstract machine's code. -/
import Derived.Test.YtcdbmkidaecdiaaGreatAy23
import Derived.Attr
namespace Go.Ay
section
variable {id k off:Nat} {vs:List V}
def find:List (Nat×Fn)->Nat->Option Fn
 | [],_=>none
 |(k,f)::l,n=>cond (Nat.beq k n) (some f) (find l n)
attribute [congr] Ue SM VS LJ JK HZ PM BN Xp Xl AJ Up
def H.cell (h:H)(id off:Nat):Option V:=match h.get id with
 |some (.cells _ vs)=>vs[off]?
 |_=>none
section
variable (h:H)
theorem H.aF {h:H}{ro:Bool}(a:h.get id=some (.cells ro vs))(off:Nat):h.cell id off=vs[off]? :=by
 unfold H.cell;rw[a]
theorem H.aS (id:Nat)(o:Option Ob):(h.set id o).get id=o:=by rw[H.jB,bF rfl]
theorem H.aG (a:k≠id)(o:Option Ob):(h.set id o).get k=h.get k:=by rw[H.jB,bI a]
theorem H.aL (o:Ob):(h.new o).get h.next=some o:=by rw[H.kF,bF rfl]
theorem H.bG (a:k≠h.next)(o:Ob):(h.new o).get k=h.get k:=by rw[H.kF,bI a]
theorem H.pY (n k:Nat):(H.mk h.tr n).get k=h.get k:=rfl
theorem H.anG (n k off:Nat):(H.mk h.tr n).cell k off=h.cell k off:=rfl
theorem H.Dl (id:Nat)(ro:Bool)(vs:List V)(off:Nat):(h.set id (some (.cells ro vs))).cell id off=vs[off]? :=H.aF (H.aS ..) off
theorem H.Kl (a:k≠id)(o:Option Ob)(off:Nat):(h.set id o).cell k off=h.cell k off:=by unfold H.cell;rw[H.aG h a]
theorem H.Qo (ro:Bool)(vs:List V)(off:Nat):(h.new (.cells ro vs)).cell h.next off=vs[off]? :=H.aF (H.aL ..) off
theorem H.Wy (a:k≠h.next)(o:Ob)(off:Nat):(h.new o).cell k off=h.cell k off:=by unfold H.cell;rw[H.bG h a]
end
structure Fr (h h':H):Prop where
 next:h.next<=h'.next
 get: ∀id,id<h.next->h'.get id=h.get id
theorem Fr.refl (h:H):Fr h h:=⟨fM _,λ_ _=>rfl⟩
theorem Fr.trans {a b c:H}(x:Fr a b)(y:Fr b c):Fr a c:=⟨mT x.next y.next,λid d=>(y.get id (iW d x.next)).trans (x.get id d)⟩
theorem Fr.new {a b:H}(x:Fr a b)(o:Ob):Fr a (b.new o):=x.trans ⟨by rw[H.aU];omega,λid c=>H.bG b om o⟩
theorem Fr.set {a b:H}(x:Fr a b)(d:a.next<=id)(o:Option Ob):Fr a (b.set id o):=⟨x.next,λk c=>(H.aG b om o).trans (x.get k c)⟩
theorem Fr.bA {a b:H}(x:Fr a b){n:Nat}(d:b.next<=n):Fr a (H.mk b.tr n):=⟨mT x.next d,λk c=>(H.pY b n k).trans (x.get k c)⟩
theorem Fr.cell {a b:H}(x:Fr a b)(c:id<a.next)(off:Nat):b.cell id off=a.cell id off:=by unfold H.cell;rw[x.get id c]
def XR (op:BinOp)(k:IntKind)(x y:V):Option V:=match x,y with
 | .int j a,.int j' b=>if j=k/\j'=k then arith op k a b else none
 |_,_=>none
theorem PJ (op:BinOp)(k:IntKind)(a b:Int):XR op k (.int k a) (.int k b)=arith op k a b:=by simp [XR]
def adU:V->Option V
 | .bool a=>some (.bool (!a))
 |_=>none
theorem MJ (a:Bool):adU (.bool a)=some (.bool (!a)):=rfl
def VT (c a b:V):Option V:=match c with
 | .bool t=>some (if t then a else b)
 |_=>none
theorem DU (t:Bool)(a b:V):VT (.bool t) a b=some (if t then a else b):=rfl
def Hg (neg:Bool):V->Option V
 | .aE=>some (.bool (!neg))
 | .sl .. | .emp _=>some (.bool neg)
 |_=>none
theorem BO (neg:Bool):Hg neg .aE=some (.bool (!neg)):=rfl
theorem MU (neg:Bool)(a:Addr):Hg neg (.emp a)=some (.bool neg):=rfl
theorem TA (neg:Bool)(a b c:Nat)(d:Kh):Hg neg (.sl a b c d)=some (.bool neg):=rfl
def aaM (neg:Bool)(x y:V):Option V:=match x,y with
 | .bool a,.bool b=>some (.bool (if neg then !(a==b) else a==b))
 |_,_=>none
theorem adE (a b:Bool):aaM false (.bool a) (.bool b)=some (.bool (a==b)):=rfl
theorem aeP (a b:Bool):aaM true (.bool a) (.bool b)=some (.bool (!(a==b))):=rfl
def acB (k:IntKind):V->Option V
 | .int j a=>if j=k then some (.int k (k.wrap (0-a))) else none
 |_=>none
theorem PU (k:IntKind)(a:Int):acB k (.int k a)=some (.int k (k.wrap (0-a))):=by simp [acB]
def UF (k:IntKind):V->Option V
 | .int _ a=>some (.int k (k.wrap a))
 |_=>none
theorem IZ (k j:IntKind)(a:Int):UF k (.int j a)=some (.int k (k.wrap a)):=rfl
def afO (i:Nat):V->Option V
 | .tup vs=>vs[i]?
 |_=>none
theorem OY (i:Nat)(vs:List V):afO i (.tup vs)=vs[i]? :=rfl
def bT (v:V):Option V:=(sW v).map λ(n:Nat)=>V.int .i64 (n:Int)
theorem BU:bT .aE=some (.int .i64 0):=rfl
theorem QJ (a b c:Nat)(d:Kh):bT (.sl a b c d)=some (.int .i64 (c:Int)):=rfl
def FY (agg:Bool)(off n:Nat):V->Option V
 | .agg vs=>if agg then (sub vs off n).map (λws=> .agg ws) else vs[off]?
 |_=>none
theorem KN (off n:Nat)(vs:List V):FY false off n (.agg vs)=vs[off]? :=rfl
theorem JO (off n:Nat)(vs:List V):FY true off n (.agg vs)=(sub vs off n).map (λws=> .agg ws):=rfl
def afD (off:Nat):V->Option V
 | .ptr id o=>some (.ptr id (o+off))
 |_=>none
theorem TK (off id o:Nat):afD off (.ptr id o)=some (.ptr id (o+off)):=rfl
def afV:V->Option V
 | .ptr id o=>some (.ptr id o)
 |_=>none
theorem UE (id o:Nat):afV (.ptr id o)=some (.ptr id o):=rfl
def Mr (h:H):V->Option V
 | .ptr id off=>h.cell id off
 |_=>none
theorem KK (h:H)(id off:Nat):Mr h (.ptr id off)=h.cell id off:=rfl
def CM (h:H)(n:Nat):V->Option V
 | .ptr id off=>(h.row id off n).map .agg
 |_=>none
theorem QS (h:H)(id off n:Nat):CM h n (.ptr id off)=(h.row id off n).map .agg:=rfl
def Wj (h:H)(n:Nat)(x y:V):Option H:=match x with
 | .ptr id off=>if y.cells.length=n/\y.cells.all V.one then h.put id off y.cells else none
 |_=>none
def dX (o:Option Ob)(h:H)(id off:Nat)(ws:List V):Option H:=match o with
 |some (.cells false vs)=>(putAt vs off ws).map λvs'=>h.set id (some (.cells false vs'))
 |_=>none
theorem H.put_eq (h:H)(id off:Nat)(ws:List V):h.put id off ws=dX (h.get id) h id off ws:=by
 unfold H.put dX
 cases h.get id with
 |none=>rfl
 |some o=>cases o with
  |cells ro vs=>cases ro<;>rfl
  |_=>rfl
theorem BL {o a:Option Ob}{h:H}{ws:List V}(e:o=a):dX o h id off ws=dX a h id off ws:=by rw[e]
theorem KH (a:off<vs.length)(v:V):putAt vs off [v]=some (vs.set off v):=by
 unfold putAt;rw[bF (by simp;omega)];congr 1;rw[List.set_eq_take_append_cons_drop,bF a];simp
theorem bN (a:off<vs.length)(h:H)(id:Nat)(v:V):dX (some (.cells false vs)) h id off [v]=some (h.set id (some (.cells false (vs.set off v)))):=by
 simp only[dX];rw[KH a];rfl
theorem Fw {y:V}(b:y.cells= [y])(a:y.one=true)(h:H)(id off:Nat):Wj h 1 (.ptr id off) y=dX (h.get id) h id off [y]:=by
 simp only[Wj,b,List.length_singleton,List.all_cons,List.all_nil,a,Bool.and_self,and_self,if_true,H.put_eq]
theorem abZ (h:H)(id off:Nat)(k:IntKind)(a:Int):Wj h 1 (.ptr id off) (.int k a)=dX (h.get id) h id off [.int k a]:=Fw rfl rfl h id off
theorem QI (h:H)(id off:Nat)(a:Bool):Wj h 1 (.ptr id off) (.bool a)=dX (h.get id) h id off [.bool a]:=Fw rfl rfl h id off
theorem OV (h:H)(id off a b c:Nat)(d:Kh):Wj h 1 (.ptr id off) (.sl a b c d)=dX (h.get id) h id off [.sl a b c d]:=Fw rfl rfl h id off
theorem PT (h:H)(id off:Nat):Wj h 1 (.ptr id off) .aE=dX (h.get id) h id off [.aE]:=Fw rfl rfl h id off
theorem Cd (h:H)(id off n:Nat)(vs:List V)(b:vs.length=n)(a:vs.all V.one=true):Wj h n (.ptr id off) (.agg vs)=dX (h.get id) h id off vs:=by
 simp only[Wj,V.cells,b,a,and_self,if_true,H.put_eq]
def Cv (h:H)(x:V):Option (V×H):=if x.cells.all V.one then some (.ptr h.next 0,h.new (.cells false x.cells)) else none
theorem mF {x:V}(b:x.cells= [x])(a:x.one=true)(h:H):Cv h x=some (.ptr h.next 0,h.new (.cells false [x])):=by
 simp [Cv,b,a]
theorem Oh (h:H)(k:IntKind)(a:Int):Cv h (.int k a)=some (.ptr h.next 0,h.new (.cells false [.int k a])):=rfl
theorem KB (h:H)(a:Bool):Cv h (.bool a)=some (.ptr h.next 0,h.new (.cells false [.bool a])):=rfl
theorem tL (h:H)(vs:List V)(a:vs.all V.one=true):Cv h (.agg vs)=some (.ptr h.next 0,h.new (.cells false vs)):=by
 simp only[Cv,V.cells,a,if_true]
theorem Lg {len sz:Nat}{a:Kh}{k:IntKind}{n:Int}(c:0<=n)(b:n<len):Dz sz (.sl id off len a) (.int k n)=some (.ptr id (off+n.toNat*sz)):=by
 simp only[Dz];rw[bF ⟨c,b⟩]
section
variable (ρ:X->V) (h:H)
theorem aaL (x:X):cI ρ h (.mov x)=some (ρ x,h):=rfl
theorem RD (c a b:X):cI ρ h (.pick c a b)=(VT (ρ c) (ρ a) (ρ b)).map (·,h):=by
 simp only[cI,VT];cases ρ c<;>rfl
theorem acD (op:BinOp)(k:IntKind)(x y:X):cI ρ h (.bin op k x y)=(XR op k (ρ x) (ρ y)).map (·,h):=by
 simp only[cI,XR];cases ρ x<;>cases ρ y<;>try rfl
 simp only;split<;>rfl
theorem aaY (neg:Bool)(x y:X):cI ρ h (.beq neg x y)=(aaM neg (ρ x) (ρ y)).map (·,h):=by
 simp only[cI,aaM];cases ρ x<;>cases ρ y<;>rfl
theorem QX (neg:Bool)(x:X):cI ρ h (.snil neg x)=(Hg neg (ρ x)).map (·,h):=by
 simp only[cI,Hg];cases ρ x<;>rfl
theorem aaO (x:X):cI ρ h (.not x)=(adU (ρ x)).map (·,h):=by
 simp only[cI,adU];cases ρ x<;>rfl
theorem ZE (k:IntKind)(x:X):cI ρ h (.neg k x)=(acB k (ρ x)).map (·,h):=by
 simp only[cI,acB];cases ρ x<;>try rfl
 simp only;split<;>rfl
theorem UG (k:IntKind)(x:X):cI ρ h (.conv k x)=(UF k (ρ x)).map (·,h):=by
 simp only[cI,UF];cases ρ x<;>rfl
theorem acL (x:X)(i:Nat):cI ρ h (.ext x i)=(afO i (ρ x)).map (·,h):=by
 simp only[cI,afO];cases ρ x<;>rfl
theorem RS (x:X):cI ρ h (.lens x)=(bT (ρ x)).map (·,h):=by
 simp only[cI,bT,Option.map_map];rfl
theorem VM (agg:Bool)(off n:Nat)(x:X):cI ρ h (.part agg off n x)=(FY agg off n (ρ x)).map (·,h):=by
 simp only[cI,FY];cases ρ x<;>try rfl
 cases agg
 ·rfl
 ·simp only[if_true,Option.map_map];rfl
theorem Vd (x:X):cI ρ h (.ld false 1 x)=(Mr h (ρ x)).map (·,h):=by
 simp only[cI,QW,Mr,H.row,H.cell];cases ρ x<;>try rfl
 simp only;rename_i id off
 cases h.get id with
 |none=>rfl
 |some o=>cases o with
  |cells ro vs=>
   simp only[sub]
   by_cases a:off<vs.length
   ·rw[bF om,dD a]
    have:(vs.drop off).take 1= [vs[off]]:=by
     rw[AR a];rfl
    rw[this];rfl
   ·rw[bI om,List.getElem?_eq_none om]
  |_=>rfl
theorem GG (n:Nat)(x:X):cI ρ h (.ld true n x)=(CM h n (ρ x)).map (·,h):=by
 simp only[cI,QW,CM];cases ρ x<;>try rfl
 simp only;cases h.row _ _ n<;>rfl
theorem aeE (n:Nat)(x y:X):cI ρ h (.st n x y)=(Wj h n (ρ x) (ρ y)).map λh'=>(V.undef,h'):=by
 simp only[cI,Wj];cases ρ x<;>try rfl
 simp only;split<;>rfl
theorem YI (sz:Nat)(x i:X):cI ρ h (.ixa sz x i)=(Dz sz (ρ x) (ρ i)).map (·,h):=rfl
theorem aoR (off:Nat)(x:X):cI ρ h (.fla off x)=(afD off (ρ x)).map (·,h):=by
 simp only[cI,afD];cases ρ x<;>rfl
theorem XW (x:X):cI ρ h (.nck x)=(afV (ρ x)).map (·,h):=by
 simp only[cI,afV];cases ρ x<;>rfl
theorem abV (sz:Nat)(x:X)(b hi a:Option X):cI ρ h (.slc sz x b hi a)=(xT sz (ρ x) (b.map ρ) (hi.map ρ) (a.map ρ)).map (·,h):=rfl
theorem WX (sz bytes:Nat)(zero:List V)(l c:X):cI ρ h (.mks sz bytes zero l c)=Jo h sz bytes zero (ρ l) (ρ c):=rfl
theorem aaI (zero:List V):cI ρ h (.alc zero)=some (.ptr h.next 0,h.new (.cells false zero)):=rfl
theorem ZY (x:X):cI ρ h (.box x)=Cv h (ρ x):=rfl
theorem aeR (a:Bool)(x y:X):cI ρ h (.mm a [x,y])=(NJ a (ρ x) [ρ y]).map (·,h):=rfl
theorem abN (f:Nat)(a b:List X):cI ρ h (.mkf f a b)=some (.fn f (a.map ρ) (b.map ρ),h):=rfl
theorem ZL:cI ρ h .mkm=some (.mp h.next,h.new (.map [])):=rfl
def xQ (h:H)(sz bytes:Nat)(x y:V):Option (V×H):=match sW y,h.slice sz y with
 |some m,some ys=>yB h sz bytes x m ys
 |_,_=>none
theorem abP (sz bytes:Nat)(x y:X):cI ρ h (.app sz bytes x y)=xQ h sz bytes (ρ x) (ρ y):=rfl
def rO (zero:List V)(parts:List (Nat×Nat×V)):Option V:=(iS zero parts).map .agg
theorem abB (zero:List V)(a:List (Nat×Nat×X)):cI ρ h (.bld zero a)=(rO zero (a.map λp=>(p.1,p.2.1,ρ p.2.2))).map (·,h):=by
 simp only[cI,rO,Option.map_map];rfl
def lQ (h:H)(sz:Nat)(zero:List V)(n:Nat)(parts:List (Nat×Nat×V)):Option (V×H):=match iS (cX zero (n*sz)) parts with
  |some cs=>if cs.all V.one then some (.sl h.next 0 n (.kn n),h.new (.cells false cs)) else none
  |none=>none
theorem YL (sz:Nat)(zero:List V)(n:Nat)(a:List (Nat×Nat×X)):cI ρ h (.bls sz zero n a)=lQ h sz zero n (a.map λp=>(p.1,p.2.1,ρ p.2.2)):=rfl
theorem XB (sz:Nat)(x y:X):cI ρ h (.cpy sz x y)=ZO h sz (ρ x) (ρ y):=rfl
end
theorem ahQ (a b:List V)(k:Nat):xv a b (.v k)=a.getD k .undef:=rfl
theorem ahT (a b:List V)(k:Nat):xv a b (.l k)=b.getD k .undef:=rfl
theorem adK (a b:List V)(x:V):xv a b (.c x)=x:=rfl
theorem abU (k:Nat)(a b:List V)(v:V):(lX (.v k) a b v).1=a.set k v:=rfl
theorem amX (k:Nat)(a b:List V)(v:V):(lX (.v k) a b v).2=b:=rfl
theorem aaZ (a b:List V)(v:V):(lX .l a b v).1=a:=rfl
theorem ZG (a b:List V)(v:V):(lX .l a b v).2=v::b:=rfl
theorem aaB (a b:List V)(v:V):(lX .n a b v).1=a:=rfl
theorem abM (a b:List V)(v:V):(lX .n a b v).2=b:=rfl
theorem Xr (c d:List V)(x:X)(b:Bool):vQ c d (some (x,b))=(match xv c d x with| .bool a=>some (a==b)| .tup []=>some false|_=>none):=rfl
theorem KQ (k:IntKind)(a b:Int):arith .add k a b=some (.int k (k.wrap (a+b))):=rfl
theorem LS (k:IntKind)(a b:Int):arith .sub k a b=some (.int k (k.wrap (a-b))):=rfl
theorem IM (k:IntKind)(a b:Int):arith .mul k a b=some (.int k (k.wrap (a*b))):=rfl
theorem MA (k:IntKind)(a b:Int)(c:b≠0):arith .quo k a b=some (.int k (k.wrap (a.tdiv b))):=by simp only[arith];rw[bI c]
theorem IC (k:IntKind)(a b:Int)(c:b≠0):arith .rem k a b=some (.int k (a.tmod b)):=by simp only[arith];rw[bI c]
theorem MY (k:IntKind)(a b:Int):arith .eql k a b=some (.bool (decide (a=b))):=by
 simp only[arith];congr 2
theorem II (k:IntKind)(a b:Int):arith .neq k a b=some (.bool (decide (a≠b))):=by
 simp only[arith];congr 2;rw[Py];simp
theorem JV (k:IntKind)(a b:Int):arith .lss k a b=some (.bool (decide (a<b))):=rfl
theorem IY (k:IntKind)(a b:Int):arith .leq k a b=some (.bool (decide (a<=b))):=rfl
theorem IF (k:IntKind)(a b:Int):arith .gtr k a b=some (.bool (decide (b<a))):=rfl
theorem IU (k:IntKind)(a b:Int):arith .geq k a b=some (.bool (decide (b<=a))):=rfl
theorem aeF (k:IntKind)(a b:Int):NJ false (.int k a) [.int k b]=some (.int k (if b<a then b else a)):=by
 simp only[NJ,if_true,Bool.false_eq_true,if_false]
theorem aeQ (k:IntKind)(a b:Int):NJ true (.int k a) [.int k b]=some (.int k (if b>a then b else a)):=by
 simp only[NJ,if_true]
theorem YT {n:Int}(a: -9223372036854775808<=n)(h2:n<9223372036854775808):IntKind.i64.wrap n=n:=wrap_i64 a h2
theorem afE (a:List V)(h:H)(k:Nat):Ct a h (.v k)=some (a.getD k .undef):=rfl
theorem DI (c:List V)(h:H)(k:Nat):Ct c h (.cell k false 1)=Mr h (c.getD k .undef):=by
 have:=Vd (λ_=>c.getD k .undef) h (.v 0);simp only[Ct];simp only[cI] at this;generalize QW h false 1 (c.getD k .undef)=a at*;generalize Mr h (c.getD k .undef)=b at*;cases a<;>cases b<;>simp at this ⊢;exact this
theorem DR (a:List V)(h:H)(k n:Nat):Ct a h (.cell k true n)=CM h n (a.getD k .undef):=by
 simp only[Ct,QW,CM];cases a.getD k .undef<;>try rfl
 simp only;cases h.row _ _ n<;>rfl
theorem Zp {α:Type}:cH ([]:List (Option α))=some []:=rfl
theorem Vz {α:Type}(a:α)(r:List (Option α)):cH (some a::r)=(cH r).map (a:: ·):=rfl
theorem VE (v:V):Jm [v]=v:=rfl
theorem NP (v u:V):Jm [v,u]= .tup [v,u]:=rfl
theorem CE (v u t:V):Jm [v,u,t]= .tup [v,u,t]:=rfl
theorem Ag:V.undef= .tup []:=rfl
theorem aD (a:Fn)(args:List V):Fk a args=a.init.map λo=>match o with|some j=>args.getD j .undef|none=> .undef:=rfl
theorem KY (a:Log)(h:H):rI [] a h=true:=by simp [rI]
attribute [go_sem] YH aeW WW WG afX aeT VN afR AD VJ Md KX AZ Yn ED An KF Wx alM Yo LW anA LG BK CZ Yg WH TP ZB agJ abH YF XE abA KV YW VO JC XA TQ IB JB agC QZ IK JI SS RP Wo aaL RD acD aaY QX aaO ZE UG acL RS VM Vd GG aeE YI aoR XW abV WX aaI ZY aeR abN ZL abP abB YL XB PJ MJ DU BO TA MU adE aeP Bool.not_false Bool.not_true beq_true beq_false if_true if_false Bool.false_eq_true RB PU IZ OY BU QJ KN JO TK UE KK QS abZ QI OV PT Oh KB bN Lg ahQ ahT adK abU amX aaZ ZG aaB abM Xr KQ LS IM MA IC MY II JV IY IF IU aeF aeQ YT afE DI DR Zp Vz VE NP CE KY H.aS H.aG H.aL H.bG H.pY H.anG H.Dl H.Kl H.Qo H.Wy H.bY H.aU true_and Option.map_some Option.map_none List.replicate_succ List.replicate_zero List.take_succ_cons List.take_zero List.length_cons List.length_nil Nat.zero_add List.foldl_cons List.foldl_nil List.map_cons List.map_nil List.getD_cons_zero List.getD_cons_succ List.set_cons_zero List.set_cons_succ List.cons_append List.nil_append vF
attribute [congr] BL
abbrev aZ (l:List V):Option Ob:=some (.cells false l)
abbrev aC (z:Int):V:=.int .i64 z
abbrev LN:=List (List Nat)
abbrev jI:=List (List (List Nat))
theorem oQ {p:Prop}[d:Decidable p](h:p):decide p=true:=decide_eq_true h
theorem bH {p:Prop}[d:Decidable p](h:¬p):decide p=false:=decide_eq_false h
theorem exI.{u}{α:Sort u}(a:α):∃b,a=b:=⟨a,rfl⟩
theorem eJ (i:Nat):(i:Int)+1=((i+1:Nat):Int):=om
end
end Go.Ay
