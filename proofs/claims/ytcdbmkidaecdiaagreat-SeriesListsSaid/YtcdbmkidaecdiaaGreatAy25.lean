/- Rules for walking through the abstract machine's code. -/
import Derived.Test.YtcdbmkidaecdiaaGreatAy23
import Derived.Attr
namespace Go.Ay
section
variable {id k off:Nat} {vs:List V}
def find:List (Nat×Fn)->Nat->Option Fn
 | [],_=>none
 |(k,f)::l,n=>cond (Nat.beq k n) (some f) (find l n)
attribute [congr] Vt VQ WI JZ MJ NY TN EB Za Ya Xn Uh
def H.cell (h:H)(id off:Nat):Option V:=match h.get id with
 |some (.cells _ vs)=>vs[off]?
 |_=>none
section
variable (h:H)
theorem H.aF {h:H}{ro:Bool}(a:h.get id=some (.cells ro vs))(off:Nat):h.cell id off=vs[off]? :=by
 unfold H.cell;rw[a]
theorem H.aS (id:Nat)(o:Option Ob):(h.set id o).get id=o:=by rw[H.iW,bJ rfl]
theorem H.aH (a:k≠id)(o:Option Ob):(h.set id o).get k=h.get k:=by rw[H.iW,bL a]
theorem H.aL (o:Ob):(h.new o).get h.next=some o:=by rw[H.jQ,bJ rfl]
theorem H.bD (a:k≠h.next)(o:Ob):(h.new o).get k=h.get k:=by rw[H.jQ,bL a]
theorem H.qB (n k:Nat):(H.mk h.tr n).get k=h.get k:=rfl
theorem H.KQ (n k off:Nat):(H.mk h.tr n).cell k off=h.cell k off:=rfl
theorem H.Dk (id:Nat)(ro:Bool)(vs:List V)(off:Nat):(h.set id (some (.cells ro vs))).cell id off=vs[off]? :=H.aF (H.aS ..) off
theorem H.Kx (a:k≠id)(o:Option Ob)(off:Nat):(h.set id o).cell k off=h.cell k off:=by unfold H.cell;rw[H.aH h a]
theorem H.Qt (ro:Bool)(vs:List V)(off:Nat):(h.new (.cells ro vs)).cell h.next off=vs[off]? :=H.aF (H.aL ..) off
theorem H.Ye (a:k≠h.next)(o:Ob)(off:Nat):(h.new o).cell k off=h.cell k off:=by unfold H.cell;rw[H.bD h a]
end
structure Fr (h h':H):Prop where
 next:h.next<=h'.next
 get: ∀id,id<h.next->h'.get id=h.get id
theorem Fr.refl (h:H):Fr h h:=⟨eH _,λ_ _=>rfl⟩
theorem Fr.trans {a b c:H}(x:Fr a b)(y:Fr b c):Fr a c:=⟨lX x.next y.next,λid d=>(y.get id (jB d x.next)).trans (x.get id d)⟩
theorem Fr.new {a b:H}(x:Fr a b)(o:Ob):Fr a (b.new o):=x.trans ⟨by rw[H.aU];omega,λid c=>H.bD b om o⟩
theorem Fr.set {a b:H}(x:Fr a b)(c:a.next<=id)(o:Option Ob):Fr a (b.set id o):=⟨x.next,λk d=>(H.aH b om o).trans (x.get k d)⟩
theorem Fr.bH {a b:H}(x:Fr a b){n:Nat}(d:b.next<=n):Fr a (H.mk b.tr n):=⟨lX x.next d,λk c=>(H.qB b n k).trans (x.get k c)⟩
theorem Fr.cell {a b:H}(x:Fr a b)(c:id<a.next)(off:Nat):b.cell id off=a.cell id off:=by unfold H.cell;rw[x.get id c]
def aaG (op:BinOp)(k:IntKind)(x y:V):Option V:=match x,y with
 | .int j a,.int j' b=>if j=k/\j'=k then arith op k a b else none
 |_,_=>none
theorem RU (op:BinOp)(k:IntKind)(a b:Int):aaG op k (.int k a) (.int k b)=arith op k a b:=by simp [aaG]
def agF:V->Option V
 | .bool a=>some (.bool (!a))
 |_=>none
theorem LF (a:Bool):agF (.bool a)=some (.bool (!a)):=rfl
def QQ (c a b:V):Option V:=match c with
 | .bool t=>some (if t then a else b)
 |_=>none
theorem CA (t:Bool)(a b:V):QQ (.bool t) a b=some (if t then a else b):=rfl
def Fj (neg:Bool):V->Option V
 | .aE=>some (.bool (!neg))
 | .sl .. | .emp _=>some (.bool neg)
 |_=>none
theorem EF (neg:Bool):Fj neg .aE=some (.bool (!neg)):=rfl
theorem KT (neg:Bool)(a:Addr):Fj neg (.emp a)=some (.bool neg):=rfl
theorem PC (neg:Bool)(a b c:Nat)(d:pF):Fj neg (.sl a b c d)=some (.bool neg):=rfl
def ZU (neg:Bool)(x y:V):Option V:=match x,y with
 | .bool a,.bool b=>some (.bool (if neg then !(a==b) else a==b))
 |_,_=>none
theorem agZ (a b:Bool):ZU false (.bool a) (.bool b)=some (.bool (a==b)):=rfl
theorem ahN (a b:Bool):ZU true (.bool a) (.bool b)=some (.bool (!(a==b))):=rfl
def abD (k:IntKind):V->Option V
 | .int j a=>if j=k then some (.int k (k.wrap (0-a))) else none
 |_=>none
theorem SC (k:IntKind)(a:Int):abD k (.int k a)=some (.int k (k.wrap (0-a))):=by simp [abD]
def XS (k:IntKind):V->Option V
 | .int _ a=>some (.int k (k.wrap a))
 |_=>none
theorem MA (k j:IntKind)(a:Int):XS k (.int j a)=some (.int k (k.wrap a)):=rfl
def agD (i:Nat):V->Option V
 | .tup vs=>vs[i]?
 |_=>none
theorem TM (i:Nat)(vs:List V):agD i (.tup vs)=vs[i]? :=rfl
def bF (v:V):Option V:=(uB v).map λ(n:Nat)=>V.int .i64 (n:Int)
theorem EM:bF .aE=some (.int .i64 0):=rfl
theorem PZ (a b c:Nat)(d:pF):bF (.sl a b c d)=some (.int .i64 (c:Int)):=rfl
def HA (agg:Bool)(off n:Nat):V->Option V
 | .agg vs=>if agg then (sub vs off n).map (λws=> .agg ws) else vs[off]?
 |_=>none
theorem MR (off n:Nat)(vs:List V):HA false off n (.agg vs)=vs[off]? :=rfl
theorem OB (off n:Nat)(vs:List V):HA true off n (.agg vs)=(sub vs off n).map (λws=> .agg ws):=rfl
def ahC (off:Nat):V->Option V
 | .ptr id o=>some (.ptr id (o+off))
 |_=>none
theorem UM (off id o:Nat):ahC off (.ptr id o)=some (.ptr id (o+off)):=rfl
def agY:V->Option V
 | .ptr id o=>some (.ptr id o)
 |_=>none
theorem UZ (id o:Nat):agY (.ptr id o)=some (.ptr id o):=rfl
def Oi (h:H):V->Option V
 | .ptr id off=>h.cell id off
 |_=>none
theorem MZ (h:H)(id off:Nat):Oi h (.ptr id off)=h.cell id off:=rfl
def CD (h:H)(n:Nat):V->Option V
 | .ptr id off=>(h.row id off n).map .agg
 |_=>none
theorem PX (h:H)(id off n:Nat):CD h n (.ptr id off)=(h.row id off n).map .agg:=rfl
def Xh (h:H)(n:Nat)(x y:V):Option H:=match x with
 | .ptr id off=>if y.cells.length=n/\y.cells.all V.one then h.put id off y.cells else none
 |_=>none
def dR (o:Option Ob)(h:H)(id off:Nat)(ws:List V):Option H:=match o with
 |some (.cells false vs)=>(putAt vs off ws).map λvs'=>h.set id (some (.cells false vs'))
 |_=>none
theorem H.put_eq (h:H)(id off:Nat)(ws:List V):h.put id off ws=dR (h.get id) h id off ws:=by
 unfold H.put dR
 cases h.get id with
 |none=>rfl
 |some o=>cases o with
  |cells ro vs=>cases ro<;>rfl
  |_=>rfl
theorem DG {o a:Option Ob}{h:H}{ws:List V}(e:o=a):dR o h id off ws=dR a h id off ws:=by rw[e]
theorem JV (a:off<vs.length)(v:V):putAt vs off [v]=some (vs.set off v):=by
 unfold putAt;rw[bJ (by simp;omega)];congr 1;rw[List.set_eq_take_append_cons_drop,bJ a];simp
theorem bP (a:off<vs.length)(h:H)(id:Nat)(v:V):dR (some (.cells false vs)) h id off [v]=some (h.set id (some (.cells false (vs.set off v)))):=by
 simp only[dR];rw[JV a];rfl
theorem kL {y:V}(a:y.cells= [y])(b:y.one=true)(h:H)(id off:Nat):Xh h 1 (.ptr id off) y=dR (h.get id) h id off [y]:=by
 simp only[Xh,a,List.length_singleton,List.all_cons,List.all_nil,b,Bool.and_self,and_self,if_true,H.put_eq]
theorem YQ (h:H)(id off:Nat)(k:IntKind)(a:Int):Xh h 1 (.ptr id off) (.int k a)=dR (h.get id) h id off [.int k a]:=kL rfl rfl h id off
theorem XV (h:H)(id off:Nat)(a:Bool):Xh h 1 (.ptr id off) (.bool a)=dR (h.get id) h id off [.bool a]:=kL rfl rfl h id off
theorem XX (h:H)(id off a b c:Nat)(d:pF):Xh h 1 (.ptr id off) (.sl a b c d)=dR (h.get id) h id off [.sl a b c d]:=kL rfl rfl h id off
theorem XZ (h:H)(id off:Nat):Xh h 1 (.ptr id off) .aE=dR (h.get id) h id off [.aE]:=kL rfl rfl h id off
theorem By (h:H)(id off n:Nat)(vs:List V)(b:vs.length=n)(a:vs.all V.one=true):Xh h n (.ptr id off) (.agg vs)=dR (h.get id) h id off vs:=by
 simp only[Xh,V.cells,b,a,and_self,if_true,H.put_eq]
def En (h:H)(x:V):Option (V×H):=if x.cells.all V.one then some (.ptr h.next 0,h.new (.cells false x.cells)) else none
theorem kW {x:V}(a:x.cells= [x])(b:x.one=true)(h:H):En h x=some (.ptr h.next 0,h.new (.cells false [x])):=by
 simp [En,a,b]
theorem Mz (h:H)(k:IntKind)(a:Int):En h (.int k a)=some (.ptr h.next 0,h.new (.cells false [.int k a])):=rfl
theorem MQ (h:H)(a:Bool):En h (.bool a)=some (.ptr h.next 0,h.new (.cells false [.bool a])):=rfl
theorem tJ (h:H)(vs:List V)(a:vs.all V.one=true):En h (.agg vs)=some (.ptr h.next 0,h.new (.cells false vs)):=by
 simp only[En,V.cells,a,if_true]
theorem Lu {len sz:Nat}{a:pF}{k:IntKind}{n:Int}(c:0<=n)(b:n<len):Gu sz (.sl id off len a) (.int k n)=some (.ptr id (off+n.toNat*sz)):=by
 simp only[Gu];rw[bJ ⟨c,b⟩]
section
variable (ρ:X->V) (h:H)
theorem YM (x:X):cK ρ h (.mov x)=some (ρ x,h):=rfl
theorem WO (c a b:X):cK ρ h (.pick c a b)=(QQ (ρ c) (ρ a) (ρ b)).map (·,h):=by
 simp only[cK,QQ];cases ρ c<;>rfl
theorem ZC (op:BinOp)(k:IntKind)(x y:X):cK ρ h (.bin op k x y)=(aaG op k (ρ x) (ρ y)).map (·,h):=by
 simp only[cK,aaG];cases ρ x<;>cases ρ y<;>try rfl
 simp only;split<;>rfl
theorem adM (neg:Bool)(x y:X):cK ρ h (.beq neg x y)=(ZU neg (ρ x) (ρ y)).map (·,h):=by
 simp only[cK,ZU];cases ρ x<;>cases ρ y<;>rfl
theorem VL (neg:Bool)(x:X):cK ρ h (.snil neg x)=(Fj neg (ρ x)).map (·,h):=by
 simp only[cK,Fj];cases ρ x<;>rfl
theorem aaE (x:X):cK ρ h (.not x)=(agF (ρ x)).map (·,h):=by
 simp only[cK,agF];cases ρ x<;>rfl
theorem acT (k:IntKind)(x:X):cK ρ h (.neg k x)=(abD k (ρ x)).map (·,h):=by
 simp only[cK,abD];cases ρ x<;>try rfl
 simp only;split<;>rfl
theorem TJ (k:IntKind)(x:X):cK ρ h (.conv k x)=(XS k (ρ x)).map (·,h):=by
 simp only[cK,XS];cases ρ x<;>rfl
theorem aaL (x:X)(i:Nat):cK ρ h (.ext x i)=(agD i (ρ x)).map (·,h):=by
 simp only[cK,agD];cases ρ x<;>rfl
theorem TO (x:X):cK ρ h (.lens x)=(bF (ρ x)).map (·,h):=by
 simp only[cK,bF,Option.map_map];rfl
theorem US (agg:Bool)(off n:Nat)(x:X):cK ρ h (.part agg off n x)=(HA agg off n (ρ x)).map (·,h):=by
 simp only[cK,HA];cases ρ x<;>try rfl
 cases agg
 ·rfl
 ·simp only[if_true,Option.map_map];rfl
theorem Xc (x:X):cK ρ h (.ld false 1 x)=(Oi h (ρ x)).map (·,h):=by
 simp only[cK,RV,Oi,H.row,H.cell];cases ρ x<;>try rfl
 simp only;rename_i id off
 cases h.get id with
 |none=>rfl
 |some o=>cases o with
  |cells ro vs=>
   simp only[sub]
   by_cases a:off<vs.length
   ·rw[bJ om,dF a]
    have:(vs.drop off).take 1= [vs[off]]:=by
     rw[BT a];rfl
    rw[this];rfl
   ·rw[bL om,List.getElem?_eq_none om]
  |_=>rfl
theorem HX (n:Nat)(x:X):cK ρ h (.ld true n x)=(CD h n (ρ x)).map (·,h):=by
 simp only[cK,RV,CD];cases ρ x<;>try rfl
 simp only;cases h.row _ _ n<;>rfl
theorem afS (n:Nat)(x y:X):cK ρ h (.st n x y)=(Xh h n (ρ x) (ρ y)).map λh'=>(V.undef,h'):=by
 simp only[cK,Xh];cases ρ x<;>try rfl
 simp only;split<;>rfl
theorem YN (sz:Nat)(x i:X):cK ρ h (.ixa sz x i)=(Gu sz (ρ x) (ρ i)).map (·,h):=rfl
theorem acZ (off:Nat)(x:X):cK ρ h (.fla off x)=(ahC off (ρ x)).map (·,h):=by
 simp only[cK,ahC];cases ρ x<;>rfl
theorem acK (x:X):cK ρ h (.nck x)=(agY (ρ x)).map (·,h):=by
 simp only[cK,agY];cases ρ x<;>rfl
theorem acL (sz:Nat)(x:X)(b hi a:Option X):cK ρ h (.slc sz x b hi a)=(xU sz (ρ x) (b.map ρ) (hi.map ρ) (a.map ρ)).map (·,h):=rfl
theorem adG (sz bytes:Nat)(zero:List V)(l c:X):cK ρ h (.mks sz bytes zero l c)=Iv h sz bytes zero (ρ l) (ρ c):=rfl
theorem abV (zero:List V):cK ρ h (.alc zero)=some (.ptr h.next 0,h.new (.cells false zero)):=rfl
theorem acC (x:X):cK ρ h (.box x)=En h (ρ x):=rfl
theorem afI (a:Bool)(x y:X):cK ρ h (.mm a [x,y])=(OH a (ρ x) [ρ y]).map (·,h):=rfl
theorem adE (f:Nat)(a b:List X):cK ρ h (.mkf f a b)=some (.fn f (a.map ρ) (b.map ρ),h):=rfl
theorem aeF:cK ρ h .mkm=some (.mp h.next,h.new (.map [])):=rfl
def yE (h:H)(sz bytes:Nat)(x y:V):Option (V×H):=match uB y,h.slice sz y with
 |some m,some ys=>yA h sz bytes x m ys
 |_,_=>none
theorem YL (sz bytes:Nat)(x y:X):cK ρ h (.app sz bytes x y)=yE h sz bytes (ρ x) (ρ y):=rfl
def rK (zero:List V)(parts:List (Nat×Nat×V)):Option V:=(gZ zero parts).map .agg
theorem YJ (zero:List V)(a:List (Nat×Nat×X)):cK ρ h (.bld zero a)=(rK zero (a.map λp=>(p.1,p.2.1,ρ p.2.2))).map (·,h):=by
 simp only[cK,rK,Option.map_map];rfl
def mH (h:H)(sz:Nat)(zero:List V)(n:Nat)(parts:List (Nat×Nat×V)):Option (V×H):=match gZ (dC zero (n*sz)) parts with
  |some cs=>if cs.all V.one then some (.sl h.next 0 n (.kn n),h.new (.cells false cs)) else none
  |none=>none
theorem ZW (sz:Nat)(zero:List V)(n:Nat)(a:List (Nat×Nat×X)):cK ρ h (.bls sz zero n a)=mH h sz zero n (a.map λp=>(p.1,p.2.1,ρ p.2.2)):=rfl
theorem adJ (sz:Nat)(x y:X):cK ρ h (.cpy sz x y)=adV h sz (ρ x) (ρ y):=rfl
end
theorem ajO (a b:List V)(k:Nat):xv a b (.v k)=a.getD k .undef:=rfl
theorem ajT (a b:List V)(k:Nat):xv a b (.l k)=b.getD k .undef:=rfl
theorem afG (a b:List V)(x:V):xv a b (.c x)=x:=rfl
theorem acO (k:Nat)(a b:List V)(v:V):(lI (.v k) a b v).1=a.set k v:=rfl
theorem aaP (k:Nat)(a b:List V)(v:V):(lI (.v k) a b v).2=b:=rfl
theorem aaT (a b:List V)(v:V):(lI .l a b v).1=a:=rfl
theorem abS (a b:List V)(v:V):(lI .l a b v).2=v::b:=rfl
theorem aaS (a b:List V)(v:V):(lI .n a b v).1=a:=rfl
theorem aaY (a b:List V)(v:V):(lI .n a b v).2=b:=rfl
theorem Yv (c d:List V)(x:X)(b:Bool):fU c d (some (x,b))=(match xv c d x with| .bool a=>some (a==b)| .tup []=>some false|_=>none):=rfl
theorem MK (k:IntKind)(a b:Int):arith .add k a b=some (.int k (k.wrap (a+b))):=rfl
theorem KD (k:IntKind)(a b:Int):arith .sub k a b=some (.int k (k.wrap (a-b))):=rfl
theorem MD (k:IntKind)(a b:Int):arith .mul k a b=some (.int k (k.wrap (a*b))):=rfl
theorem KL (k:IntKind)(a b:Int)(c:b≠0):arith .quo k a b=some (.int k (k.wrap (a.tdiv b))):=by simp only[arith];rw[bL c]
theorem KA (k:IntKind)(a b:Int)(c:b≠0):arith .rem k a b=some (.int k (a.tmod b)):=by simp only[arith];rw[bL c]
theorem MX (k:IntKind)(a b:Int):arith .eql k a b=some (.bool (decide (a=b))):=by
 simp only[arith];congr 2
theorem JW (k:IntKind)(a b:Int):arith .neq k a b=some (.bool (decide (a≠b))):=by
 simp only[arith];congr 2;rw[Qk];simp
theorem MY (k:IntKind)(a b:Int):arith .lss k a b=some (.bool (decide (a<b))):=rfl
theorem OE (k:IntKind)(a b:Int):arith .leq k a b=some (.bool (decide (a<=b))):=rfl
theorem MS (k:IntKind)(a b:Int):arith .gtr k a b=some (.bool (decide (b<a))):=rfl
theorem KP (k:IntKind)(a b:Int):arith .geq k a b=some (.bool (decide (b<=a))):=rfl
theorem aiA (k:IntKind)(a b:Int):OH false (.int k a) [.int k b]=some (.int k (if b<a then b else a)):=by
 simp only[OH,if_true,Bool.false_eq_true,if_false]
theorem afW (k:IntKind)(a b:Int):OH true (.int k a) [.int k b]=some (.int k (if b>a then b else a)):=by
 simp only[OH,if_true]
theorem YZ {n:Int}(a: -9223372036854775808<=n)(h2:n<9223372036854775808):IntKind.i64.wrap n=n:=wrap_i64 a h2
theorem ahE (a:List V)(h:H)(k:Nat):Ch a h (.v k)=some (a.getD k .undef):=rfl
theorem DA (c:List V)(h:H)(k:Nat):Ch c h (.cell k false 1)=Oi h (c.getD k .undef):=by
 have:=Xc (λ_=>c.getD k .undef) h (.v 0);simp only[Ch];simp only[cK] at this;generalize RV h false 1 (c.getD k .undef)=a at*;generalize Oi h (c.getD k .undef)=b at*;cases a<;>cases b<;>simp at this ⊢;exact this
theorem FH (a:List V)(h:H)(k n:Nat):Ch a h (.cell k true n)=CD h n (a.getD k .undef):=by
 simp only[Ch,RV,CD];cases a.getD k .undef<;>try rfl
 simp only;cases h.row _ _ n<;>rfl
theorem BH {α:Type}:cI ([]:List (Option α))=some []:=rfl
theorem Va {α:Type}(a:α)(r:List (Option α)):cI (some a::r)=(cI r).map (a:: ·):=rfl
theorem RW (v:V):Js [v]=v:=rfl
theorem SO (v u:V):Js [v,u]= .tup [v,u]:=rfl
theorem DU (v u t:V):Js [v,u,t]= .tup [v,u,t]:=rfl
theorem rD:V.undef= .tup []:=rfl
theorem aD (a:Fn)(args:List V):Af a args=a.init.map λo=>match o with|some j=>args.getD j .undef|none=> .undef:=rfl
theorem NB (a:Log)(h:H):rG [] a h=true:=by simp [rG]
attribute [go_sem] adZ agO abF XY afM afL TC agN AB PJ Pa LC CS Zs DO Aw KB AR DI Zu JY XA LS DF FF AE WY TA abU agT acW abG acG abZ LX ZK TZ MM aaA RH JU NZ afR XW KM NO VH WH BB YM WO ZC adM VL aaE acT TJ aaL TO US Xc HX afS YN acZ acK acL adG abV acC afI adE aeF YL YJ ZW adJ RU LF CA EF PC KT agZ ahN Bool.not_false Bool.not_true beq_true beq_false if_true if_false Bool.false_eq_true UG SC MA TM EM PZ MR OB UM UZ MZ PX YQ XV XX XZ Mz MQ bP Lu ajO ajT afG acO aaP aaT abS aaS aaY Yv MK KD MD KL KA MX JW MY OE MS KP aiA afW YZ ahE DA FH BH Va RW SO DU NB H.aS H.aH H.aL H.bD H.qB H.KQ H.Dk H.Kx H.Qt H.Ye H.cH H.aU true_and Option.map_some Option.map_none List.replicate_succ List.replicate_zero List.take_succ_cons List.take_zero List.length_cons List.length_nil Nat.zero_add List.foldl_cons List.foldl_nil List.map_cons List.map_nil List.getD_cons_zero List.getD_cons_succ List.set_cons_zero List.set_cons_succ List.cons_append List.nil_append tD
attribute [congr] DG
abbrev aY (l:List V):Option Ob:=some (.cells false l)
abbrev aC (z:Int):V:=.int .i64 z
abbrev LN:=List (List Nat)
abbrev fM:=List (List (List Nat))
theorem bN {p:Prop}[d:Decidable p](h:p):decide p=true:=decide_eq_true h
theorem bE {p:Prop}[d:Decidable p](h:¬p):decide p=false:=decide_eq_false h
theorem exI.{u}{α:Sort u}(a:α):∃b,a=b:=⟨a,rfl⟩
theorem dU (i:Nat):(i:Int)+1=((i+1:Nat):Int):=om
end
end Go.Ay
