/- Rules for walking through the abstract machine's code. -/
import Derived.Test.YtapfcpkecmmagaaGreatAy23
import Derived.Attr
namespace Go.Ay
section
variable {id k off:Nat} {vs:List V}
def find:List (Nat×Fn)->Nat->Option Fn
 | [],_=>none
 |(k,f)::l,n=>cond (Nat.beq k n) (some f) (find l n)
attribute [congr] Oe GQ MV CR FF EO NM Yh Ro Rj Ta Ol
def H.cell (h:H)(id off:Nat):Option V:=match h.get id with
 |some (.cells _ vs)=>vs[off]?
 |_=>none
section
variable (h:H)
theorem H.aF {h:H}{ro:Bool}(hg:h.get id=some (.cells ro vs))(off:Nat):h.cell id off=vs[off]? :=by
 unfold H.cell;rw[hg]
theorem H.aQ (id:Nat)(o:Option Ob):(h.set id o).get id=o:=by rw[H.iS,if_pos rfl]
theorem H.aH (hk:k≠id)(o:Option Ob):(h.set id o).get k=h.get k:=by rw[H.iS,if_neg hk]
theorem H.aL (o:Ob):(h.new o).get h.next=some o:=by rw[H.jS,if_pos rfl]
theorem H.bB (hk:k≠h.next)(o:Ob):(h.new o).get k=h.get k:=by rw[H.jS,if_neg hk]
theorem H.oZ (n k:Nat):(H.mk h.tr n).get k=h.get k:=rfl
theorem H.CE (n k off:Nat):(H.mk h.tr n).cell k off=h.cell k off:=rfl
theorem H.zT (id:Nat)(ro:Bool)(vs:List V)(off:Nat):(h.set id (some (.cells ro vs))).cell id off=vs[off]? :=H.aF (H.aQ ..) off
theorem H.Fk (hk:k≠id)(o:Option Ob)(off:Nat):(h.set id o).cell k off=h.cell k off:=by unfold H.cell;rw[H.aH h hk]
theorem H.Kx (ro:Bool)(vs:List V)(off:Nat):(h.new (.cells ro vs)).cell h.next off=vs[off]? :=H.aF (H.aL ..) off
theorem H.Sv (hk:k≠h.next)(o:Ob)(off:Nat):(h.new o).cell k off=h.cell k off:=by unfold H.cell;rw[H.bB h hk]
end
structure Fr (h h':H):Prop where
 next:h.next<=h'.next
 get: ∀id,id<h.next->h'.get id=h.get id
theorem Fr.refl (h:H):Fr h h:=⟨iI _,λ_ _=>rfl⟩
theorem Fr.trans {a b c:H}(x:Fr a b)(y:Fr b c):Fr a c:=⟨Nat.le_trans x.next y.next,λid hid=>(y.get id (kL hid x.next)).trans (x.get id hid)⟩
theorem Fr.new {a b:H}(x:Fr a b)(o:Ob):Fr a (b.new o):=x.trans ⟨by rw[H.aU];omega,λid hid=>H.bB b (by omega) o⟩
theorem Fr.set {a b:H}(x:Fr a b)(hid:a.next<=id)(o:Option Ob):Fr a (b.set id o):=⟨x.next,λk hk=>(H.aH b (by omega) o).trans (x.get k hk)⟩
theorem Fr.bM {a b:H}(x:Fr a b){n:Nat}(hn:b.next<=n):Fr a (H.mk b.tr n):=⟨Nat.le_trans x.next hn,λk hk=>(H.oZ b n k).trans (x.get k hk)⟩
theorem Fr.cell {a b:H}(x:Fr a b)(hid:id<a.next)(off:Nat):b.cell id off=a.cell id off:=by unfold H.cell;rw[x.get id hid]
def TI (op:BinOp)(k:IntKind)(x y:V):Option V:=match x,y with
 | .int j a,.int j' b=>if j=k/\j'=k then arith op k a b else none
 |_,_=>none
theorem JM (op:BinOp)(k:IntKind)(a b:Int):TI op k (.int k a) (.int k b)=arith op k a b:=by simp [TI]
def XF:V->Option V
 | .bool a=>some (.bool (!a))
 |_=>none
theorem DZ (a:Bool):XF (.bool a)=some (.bool (!a)):=rfl
def IB (c a b:V):Option V:=match c with
 | .bool t=>some (if t then a else b)
 |_=>none
theorem Vd (t:Bool)(a b:V):IB (.bool t) a b=some (if t then a else b):=rfl
def Ji (neg:Bool):V->Option V
 | .aC=>some (.bool (!neg))
 | .sl .. | .emp _=>some (.bool neg)
 |_=>none
theorem Xx (neg:Bool):Ji neg .aC=some (.bool (!neg)):=rfl
theorem DM (neg:Bool)(a:Addr):Ji neg (.emp a)=some (.bool neg):=rfl
theorem JR (neg:Bool)(a b c:Nat)(d:qC):Ji neg (.sl a b c d)=some (.bool neg):=rfl
def UU (neg:Bool)(x y:V):Option V:=match x,y with
 | .bool a,.bool b=>some (.bool (if neg then !(a==b) else a==b))
 |_,_=>none
theorem ZB (a b:Bool):UU false (.bool a) (.bool b)=some (.bool (a==b)):=rfl
theorem YI (a b:Bool):UU true (.bool a) (.bool b)=some (.bool (!(a==b))):=rfl
def VI (k:IntKind):V->Option V
 | .int j a=>if j=k then some (.int k (k.wrap (0-a))) else none
 |_=>none
theorem IE (k:IntKind)(a:Int):VI k (.int k a)=some (.int k (k.wrap (0-a))):=by simp [VI]
def KT (k:IntKind):V->Option V
 | .int _ a=>some (.int k (k.wrap a))
 |_=>none
theorem CX (k j:IntKind)(a:Int):KT k (.int j a)=some (.int k (k.wrap a)):=rfl
def XB (i:Nat):V->Option V
 | .tup vs=>vs[i]?
 |_=>none
theorem MC (i:Nat)(vs:List V):XB i (.tup vs)=vs[i]? :=rfl
def dY (v:V):Option V:=(qN v).map λ(n:Nat)=>V.int .i64 (n:Int)
theorem Xb:dY .aC=some (.int .i64 0):=rfl
theorem JY (a b c:Nat)(d:qC):dY (.sl a b c d)=some (.int .i64 (c:Int)):=rfl
def Zo (agg:Bool)(off n:Nat):V->Option V
 | .agg vs=>if agg then (sub vs off n).map (λws=> .agg ws) else vs[off]?
 |_=>none
theorem DD (off n:Nat)(vs:List V):Zo false off n (.agg vs)=vs[off]? :=rfl
theorem CB (off n:Nat)(vs:List V):Zo true off n (.agg vs)=(sub vs off n).map (λws=> .agg ws):=rfl
def YQ (off:Nat):V->Option V
 | .ptr id o=>some (.ptr id (o+off))
 |_=>none
theorem KG (off id o:Nat):YQ off (.ptr id o)=some (.ptr id (o+off)):=rfl
def XU:V->Option V
 | .ptr id o=>some (.ptr id o)
 |_=>none
theorem LH (id o:Nat):XU (.ptr id o)=some (.ptr id o):=rfl
def Ju (h:H):V->Option V
 | .ptr id off=>h.cell id off
 |_=>none
theorem CQ (h:H)(id off:Nat):Ju h (.ptr id off)=h.cell id off:=rfl
def Vf (h:H)(n:Nat):V->Option V
 | .ptr id off=>(h.row id off n).map .agg
 |_=>none
theorem ML (h:H)(id off n:Nat):Vf h n (.ptr id off)=(h.row id off n).map .agg:=rfl
def Yy (h:H)(n:Nat)(x y:V):Option H:=match x with
 | .ptr id off=>if y.cells.length=n/\y.cells.all V.one then h.put id off y.cells else none
 |_=>none
def fL (o:Option Ob)(h:H)(id off:Nat)(ws:List V):Option H:=match o with
 |some (.cells false vs)=>(putAt vs off ws).map λvs'=>h.set id (some (.cells false vs'))
 |_=>none
theorem H.put_eq (h:H)(id off:Nat)(ws:List V):h.put id off ws=fL (h.get id) h id off ws:=by
 unfold H.put fL
 cases h.get id with
 |none=>rfl
 |some o=>cases o with
  |cells ro vs=>cases ro<;>rfl
  |_=>rfl
theorem Xe {o o':Option Ob}{h:H}{ws:List V}(e:o=o'):fL o h id off ws=fL o' h id off ws:=by rw[e]
theorem BX (hlt:off<vs.length)(v:V):putAt vs off [v]=some (vs.set off v):=by
 unfold putAt;rw[if_pos (by simp;omega)];congr 1;rw[List.set_eq_take_append_cons_drop,if_pos hlt];simp
theorem aY (hlt:off<vs.length)(h:H)(id:Nat)(v:V):fL (some (.cells false vs)) h id off [v]=some (h.set id (some (.cells false (vs.set off v)))):=by
 simp only[fL];rw[BX hlt];rfl
theorem kS {y:V}(hc:y.cells= [y])(ho:y.one=true)(h:H)(id off:Nat):Yy h 1 (.ptr id off) y=fL (h.get id) h id off [y]:=by
 simp only[Yy,hc,List.length_singleton,List.all_cons,List.all_nil,ho,Bool.and_self,and_self,if_true,H.put_eq]
theorem RO (h:H)(id off:Nat)(k:IntKind)(a:Int):Yy h 1 (.ptr id off) (.int k a)=fL (h.get id) h id off [.int k a]:=kS rfl rfl h id off
theorem NY (h:H)(id off:Nat)(a:Bool):Yy h 1 (.ptr id off) (.bool a)=fL (h.get id) h id off [.bool a]:=kS rfl rfl h id off
theorem YO (h:H)(id off a b c:Nat)(d:qC):Yy h 1 (.ptr id off) (.sl a b c d)=fL (h.get id) h id off [.sl a b c d]:=kS rfl rfl h id off
theorem NW (h:H)(id off:Nat):Yy h 1 (.ptr id off) .aC=fL (h.get id) h id off [.aC]:=kS rfl rfl h id off
theorem zH (h:H)(id off n:Nat)(vs:List V)(hn:vs.length=n)(ho:vs.all V.one=true):Yy h n (.ptr id off) (.agg vs)=fL (h.get id) h id off vs:=by
 simp only[Yy,V.cells,hn,ho,and_self,if_true,H.put_eq]
def Fz (h:H)(x:V):Option (V×H):=if x.cells.all V.one then some (.ptr h.next 0,h.new (.cells false x.cells)) else none
theorem nJ {x:V}(hc:x.cells= [x])(ho:x.one=true)(h:H):Fz h x=some (.ptr h.next 0,h.new (.cells false [x])):=by
 simp [Fz,hc,ho]
theorem Hj (h:H)(k:IntKind)(a:Int):Fz h (.int k a)=some (.ptr h.next 0,h.new (.cells false [.int k a])):=rfl
theorem CH (h:H)(a:Bool):Fz h (.bool a)=some (.ptr h.next 0,h.new (.cells false [.bool a])):=rfl
theorem uX (h:H)(vs:List V)(ho:vs.all V.one=true):Fz h (.agg vs)=some (.ptr h.next 0,h.new (.cells false vs)):=by
 simp only[Fz,V.cells,ho,if_true]
theorem wE {len sz:Nat}{cap:qC}{k:IntKind}{n:Int}(h0:0<=n)(h1:n<len):Ku sz (.sl id off len cap) (.int k n)=some (.ptr id (off+n.toNat*sz)):=by
 simp only[Ku];rw[if_pos ⟨h0,h1⟩]
section
variable (ρ:X->V) (h:H)
theorem RP (x:X):cJ ρ h (.mov x)=some (ρ x,h):=rfl
theorem MO (c a b:X):cJ ρ h (.pick c a b)=(IB (ρ c) (ρ a) (ρ b)).map (·,h):=by
 simp only[cJ,IB];cases ρ c<;>rfl
theorem TF (op:BinOp)(k:IntKind)(x y:X):cJ ρ h (.bin op k x y)=(TI op k (ρ x) (ρ y)).map (·,h):=by
 simp only[cJ,TI];cases ρ x<;>cases ρ y<;>try rfl
 simp only;split<;>rfl
theorem UB (neg:Bool)(x y:X):cJ ρ h (.beq neg x y)=(UU neg (ρ x) (ρ y)).map (·,h):=by
 simp only[cJ,UU];cases ρ x<;>cases ρ y<;>rfl
theorem NZ (neg:Bool)(x:X):cJ ρ h (.snil neg x)=(Ji neg (ρ x)).map (·,h):=by
 simp only[cJ,Ji];cases ρ x<;>rfl
theorem QZ (x:X):cJ ρ h (.not x)=(XF (ρ x)).map (·,h):=by
 simp only[cJ,XF];cases ρ x<;>rfl
theorem SO (k:IntKind)(x:X):cJ ρ h (.neg k x)=(VI k (ρ x)).map (·,h):=by
 simp only[cJ,VI];cases ρ x<;>try rfl
 simp only;split<;>rfl
theorem KM (k:IntKind)(x:X):cJ ρ h (.conv k x)=(KT k (ρ x)).map (·,h):=by
 simp only[cJ,KT];cases ρ x<;>rfl
theorem UP (x:X)(i:Nat):cJ ρ h (.ext x i)=(XB i (ρ x)).map (·,h):=by
 simp only[cJ,XB];cases ρ x<;>rfl
theorem JO (x:X):cJ ρ h (.lens x)=(dY (ρ x)).map (·,h):=by
 simp only[cJ,dY,Option.map_map];rfl
theorem IF (agg:Bool)(off n:Nat)(x:X):cJ ρ h (.part agg off n x)=(Zo agg off n (ρ x)).map (·,h):=by
 simp only[cJ,Zo];cases ρ x<;>try rfl
 cases agg
 ·rfl
 ·simp only[if_true,Option.map_map];rfl
theorem Og (x:X):cJ ρ h (.ld false 1 x)=(Ju h (ρ x)).map (·,h):=by
 simp only[cJ,LC,Ju,H.row,H.cell];cases ρ x<;>try rfl
 simp only;rename_i id off
 cases h.get id with
 |none=>rfl
 |some o=>cases o with
  |cells ro vs=>
   simp only[sub]
   by_cases hlt:off<vs.length
   ·rw[if_pos (by omega),gW hlt]
    have:(vs.drop off).take 1= [vs[off]]:=by
     rw[List.drop_eq_getElem_cons hlt];rfl
    rw[this];rfl
   ·rw[if_neg (by omega),List.getElem?_eq_none (by omega)]
  |_=>rfl
theorem BC (n:Nat)(x:X):cJ ρ h (.ld true n x)=(Vf h n (ρ x)).map (·,h):=by
 simp only[cJ,LC,Vf];cases ρ x<;>try rfl
 simp only;cases h.row _ _ n<;>rfl
theorem XL (n:Nat)(x y:X):cJ ρ h (.st n x y)=(Yy h n (ρ x) (ρ y)).map λh'=>(V.undef,h'):=by
 simp only[cJ,Yy];cases ρ x<;>try rfl
 simp only;split<;>rfl
theorem UQ (sz:Nat)(x i:X):cJ ρ h (.ixa sz x i)=(Ku sz (ρ x) (ρ i)).map (·,h):=rfl
theorem QP (off:Nat)(x:X):cJ ρ h (.fla off x)=(YQ off (ρ x)).map (·,h):=by
 simp only[cJ,YQ];cases ρ x<;>rfl
theorem QR (x:X):cJ ρ h (.nck x)=(XU (ρ x)).map (·,h):=by
 simp only[cJ,XU];cases ρ x<;>rfl
theorem UA (sz:Nat)(x:X)(lo hi mx:Option X):cJ ρ h (.slc sz x lo hi mx)=(rU sz (ρ x) (lo.map ρ) (hi.map ρ) (mx.map ρ)).map (·,h):=rfl
theorem RM (sz bytes:Nat)(zero:List V)(l c:X):cJ ρ h (.mks sz bytes zero l c)=Du h sz bytes zero (ρ l) (ρ c):=rfl
theorem QB (zero:List V):cJ ρ h (.alc zero)=some (.ptr h.next 0,h.new (.cells false zero)):=rfl
theorem PS (x:X):cJ ρ h (.box x)=Fz h (ρ x):=rfl
theorem YG (mx:Bool)(x y:X):cJ ρ h (.mm mx [x,y])=(GD mx (ρ x) [ρ y]).map (·,h):=rfl
theorem SG (f:Nat)(fs cs:List X):cJ ρ h (.mkf f fs cs)=some (.fn f (fs.map ρ) (cs.map ρ),h):=rfl
theorem QA:cJ ρ h .mkm=some (.mp h.next,h.new (.map [])):=rfl
def xJ (h:H)(sz bytes:Nat)(x y:V):Option (V×H):=match qN y,h.slice sz y with
 |some m,some ys=>uA h sz bytes x m ys
 |_,_=>none
theorem RB (sz bytes:Nat)(x y:X):cJ ρ h (.app sz bytes x y)=xJ h sz bytes (ρ x) (ρ y):=rfl
def uC (zero:List V)(parts:List (Nat×Nat×V)):Option V:=(jK zero parts).map .agg
theorem TG (zero:List V)(parts:List (Nat×Nat×X)):cJ ρ h (.bld zero parts)=(uC zero (parts.map λp=>(p.1,p.2.1,ρ p.2.2))).map (·,h):=by
 simp only[cJ,uC,Option.map_map];rfl
def tN (h:H)(sz:Nat)(zero:List V)(n:Nat)(parts:List (Nat×Nat×V)):Option (V×H):=match jK (dS zero (n*sz)) parts with
  |some cs=>if cs.all V.one then some (.sl h.next 0 n (.kn n),h.new (.cells false cs)) else none
  |none=>none
theorem TY (sz:Nat)(zero:List V)(n:Nat)(parts:List (Nat×Nat×X)):cJ ρ h (.bls sz zero n parts)=tN h sz zero n (parts.map λp=>(p.1,p.2.1,ρ p.2.2)):=rfl
theorem RZ (sz:Nat)(x y:X):cJ ρ h (.cpy sz x y)=DA h sz (ρ x) (ρ y):=rfl
end
theorem abQ (vars loc:List V)(k:Nat):xv vars loc (.v k)=vars.getD k .undef:=rfl
theorem abL (vars loc:List V)(k:Nat):xv vars loc (.l k)=loc.getD k .undef:=rfl
theorem XG (vars loc:List V)(x:V):xv vars loc (.c x)=x:=rfl
theorem VC (k:Nat)(vars loc:List V)(v:V):(lH (.v k) vars loc v).1=vars.set k v:=rfl
theorem VE (k:Nat)(vars loc:List V)(v:V):(lH (.v k) vars loc v).2=loc:=rfl
theorem QS (vars loc:List V)(v:V):(lH .l vars loc v).1=vars:=rfl
theorem SW (vars loc:List V)(v:V):(lH .l vars loc v).2=v::loc:=rfl
theorem TM (vars loc:List V)(v:V):(lH .n vars loc v).1=vars:=rfl
theorem PT (vars loc:List V)(v:V):(lH .n vars loc v).2=loc:=rfl
theorem Rh (vars loc:List V)(x:X)(b:Bool):fP vars loc (some (x,b))=(match xv vars loc x with| .bool a=>some (a==b)| .tup []=>some false|_=>none):=rfl
theorem CW (k:IntKind)(a b:Int):arith .add k a b=some (.int k (k.wrap (a+b))):=rfl
theorem CP (k:IntKind)(a b:Int):arith .sub k a b=some (.int k (k.wrap (a-b))):=rfl
theorem FQ (k:IntKind)(a b:Int):arith .mul k a b=some (.int k (k.wrap (a*b))):=rfl
theorem DY (k:IntKind)(a b:Int)(hb:b≠0):arith .quo k a b=some (.int k (k.wrap (a.tdiv b))):=by simp only[arith];rw[if_neg hb]
theorem EU (k:IntKind)(a b:Int)(hb:b≠0):arith .rem k a b=some (.int k (a.tmod b)):=by simp only[arith];rw[if_neg hb]
theorem EV (k:IntKind)(a b:Int):arith .eql k a b=some (.bool (decide (a=b))):=by
 simp only[arith];congr 2
theorem EP (k:IntKind)(a b:Int):arith .neq k a b=some (.bool (decide (a≠b))):=by
 simp only[arith];congr 2;rw[Bool.eq_iff_iff];simp
theorem EF (k:IntKind)(a b:Int):arith .lss k a b=some (.bool (decide (a<b))):=rfl
theorem DB (k:IntKind)(a b:Int):arith .leq k a b=some (.bool (decide (a<=b))):=rfl
theorem BT (k:IntKind)(a b:Int):arith .gtr k a b=some (.bool (decide (b<a))):=rfl
theorem BH (k:IntKind)(a b:Int):arith .geq k a b=some (.bool (decide (b<=a))):=rfl
theorem XC (k:IntKind)(a b:Int):GD false (.int k a) [.int k b]=some (.int k (if b<a then b else a)):=by
 simp only[GD,if_true,Bool.false_eq_true,if_false]
theorem XX (k:IntKind)(a b:Int):GD true (.int k a) [.int k b]=some (.int k (if b>a then b else a)):=by
 simp only[GD,if_true]
theorem UG {n:Int}(h1: -9223372036854775808<=n)(h2:n<9223372036854775808):IntKind.i64.wrap n=n:=wrap_i64 h1 h2
theorem XM (vars:List V)(h:H)(k:Nat):zR vars h (.v k)=some (vars.getD k .undef):=rfl
theorem Xu (vars:List V)(h:H)(k:Nat):zR vars h (.cell k false 1)=Ju h (vars.getD k .undef):=by
 have:=Og (λ_=>vars.getD k .undef) h (.v 0);simp only[zR];simp only[cJ] at this;generalize LC h false 1 (vars.getD k .undef)=a at*;generalize Ju h (vars.getD k .undef)=b at*;cases a<;>cases b<;>simp at this ⊢;exact this
theorem Yo (vars:List V)(h:H)(k n:Nat):zR vars h (.cell k true n)=Vf h n (vars.getD k .undef):=by
 simp only[zR,LC,Vf];cases vars.getD k .undef<;>try rfl
 simp only;cases h.row _ _ n<;>rfl
theorem Sn {α:Type}:cF ([]:List (Option α))=some []:=rfl
theorem Pq {α:Type}(a:α)(r:List (Option α)):cF (some a::r)=(cF r).map (a:: ·):=rfl
theorem LI (v:V):Ep [v]=v:=rfl
theorem OQ (v u:V):Ep [v,u]= .tup [v,u]:=rfl
theorem Yb (v u t:V):Ep [v,u,t]= .tup [v,u,t]:=rfl
theorem Hx:V.undef= .tup []:=rfl
theorem aE (fn:Fn)(args:List V):zU fn args=fn.init.map λo=>match o with|some j=>args.getD j .undef|none=> .undef:=rfl
theorem ES (log:Log)(h:H):pV [] log h=true:=by simp [pV]
attribute [go_sem] UN ZQ SS MM XJ YC NL aaL OI HD Jw DP Yi Rx Wy xV CM Tj Xn Tc CO MY CY Wl Ve Rk HT KH VB ZD SX QT PO QU DQ QX HH EG SY HS BE CJ YE LG DT FW NG OE Uj RP MO TF UB NZ QZ SO KM UP JO IF Og BC XL UQ QP QR UA RM QB PS YG SG QA RB TG TY RZ JM DZ Vd Xx JR DM ZB YI Bool.not_false Bool.not_true beq_true beq_false if_true if_false Bool.false_eq_true KP IE CX MC Xb JY DD CB KG LH CQ ML RO NY YO NW Hj CH aY wE abQ abL XG VC VE QS SW TM PT Rh CW CP FQ DY EU EV EP EF DB BT BH XC XX UG XM Xu Yo Sn Pq LI OQ Yb ES H.aQ H.aH H.aL H.bB H.oZ H.CE H.zT H.Fk H.Kx H.Sv H.cU H.aU true_and Option.map_some Option.map_none List.replicate_succ List.replicate_zero List.take_succ_cons List.take_zero List.length_cons List.length_nil Nat.zero_add List.foldl_cons List.foldl_nil List.map_cons List.map_nil List.getD_cons_zero List.getD_cons_succ List.set_cons_zero List.set_cons_succ List.cons_append List.nil_append List.append_nil
attribute [congr] Xe
abbrev bY (l:List V):Option Ob:=some (.cells false l)
abbrev aB (z:Int):V:=.int .i64 z
abbrev LN:=List (List Nat)
abbrev oV:=List (List (List Nat))
theorem mO {p:Prop}[d:Decidable p](h:p):decide p=true:=decide_eq_true h
theorem iV {p:Prop}[d:Decidable p](h:¬p):decide p=false:=decide_eq_false h
theorem bL {p:Nat->Option Fn}{g:Nat}(fn:Fn){args:List V}{h:H}{Q:V->H->Prop}(hg:p g=some fn)(hl:args.length=fn.nargs)(hw:Wp p none fn.body (zU fn args) h (GL fn.results Q)):Ev p g args h Q:=Ft hg hl hw
theorem exI.{u}{α:Sort u}(a:α):∃b,a=b:=⟨a,rfl⟩
theorem jE (i:Nat):(i:Int)+1=((i+1:Nat):Int):=by omega
end
end Go.Ay
