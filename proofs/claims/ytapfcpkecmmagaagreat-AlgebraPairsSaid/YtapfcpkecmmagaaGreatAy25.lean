/- Rules for walking through the abstract machine's code. -/
import Derived.Test.YtapfcpkecmmagaaGreatAy23
import Derived.Attr
namespace Go.Ay
section
variable {id k off:Nat} {vs:List V}
def find:List (Nat×Fn)->Nat->Option Fn
 | [],_=>none
 |(k,f)::l,n=>cond (Nat.beq k n) (some f) (find l n)
attribute [congr] Qb LY IC EU DN ES PT Vy Sg Ug Um Oe
def H.cell (h:H)(id off:Nat):Option V:=match h.get id with
 |some (.cells _ vs)=>vs[off]?
 |_=>none
section
variable (h:H)
theorem H.aE {h:H}{ro:Bool}(hg:h.get id=some (.cells ro vs))(off:Nat):h.cell id off=vs[off]? :=by
 unfold H.cell;rw[hg]
theorem H.aT (id:Nat)(o:Option Ob):(h.set id o).get id=o:=by rw[H.jB,if_pos rfl]
theorem H.aH (hk:k≠id)(o:Option Ob):(h.set id o).get k=h.get k:=by rw[H.jB,if_neg hk]
theorem H.aL (o:Ob):(h.new o).get h.next=some o:=by rw[H.kC,if_pos rfl]
theorem H.bE (hk:k≠h.next)(o:Ob):(h.new o).get k=h.get k:=by rw[H.kC,if_neg hk]
theorem H.oZ (n k:Nat):(H.mk h.tr n).get k=h.get k:=rfl
theorem H.CN (n k off:Nat):(H.mk h.tr n).cell k off=h.cell k off:=rfl
theorem H.Af (id:Nat)(ro:Bool)(vs:List V)(off:Nat):(h.set id (some (.cells ro vs))).cell id off=vs[off]? :=H.aE (H.aT ..) off
theorem H.Gn (hk:k≠id)(o:Option Ob)(off:Nat):(h.set id o).cell k off=h.cell k off:=by unfold H.cell;rw[H.aH h hk]
theorem H.Li (ro:Bool)(vs:List V)(off:Nat):(h.new (.cells ro vs)).cell h.next off=vs[off]? :=H.aE (H.aL ..) off
theorem H.Te (hk:k≠h.next)(o:Ob)(off:Nat):(h.new o).cell k off=h.cell k off:=by unfold H.cell;rw[H.bE h hk]
end
structure Fr (h h':H):Prop where
 next:h.next<=h'.next
 get: ∀id,id<h.next->h'.get id=h.get id
theorem Fr.refl (h:H):Fr h h:=⟨jA _,λ_ _=>rfl⟩
theorem Fr.trans {a b c:H}(x:Fr a b)(y:Fr b c):Fr a c:=⟨Nat.le_trans x.next y.next,λid hid=>(y.get id (kY hid x.next)).trans (x.get id hid)⟩
theorem Fr.new {a b:H}(x:Fr a b)(o:Ob):Fr a (b.new o):=x.trans ⟨by rw[H.aV];omega,λid hid=>H.bE b (by omega) o⟩
theorem Fr.set {a b:H}(x:Fr a b)(hid:a.next<=id)(o:Option Ob):Fr a (b.set id o):=⟨x.next,λk hk=>(H.aH b (by omega) o).trans (x.get k hk)⟩
theorem Fr.bJ {a b:H}(x:Fr a b){n:Nat}(hn:b.next<=n):Fr a (H.mk b.tr n):=⟨Nat.le_trans x.next hn,λk hk=>(H.oZ b n k).trans (x.get k hk)⟩
theorem Fr.cell {a b:H}(x:Fr a b)(hid:id<a.next)(off:Nat):b.cell id off=a.cell id off:=by unfold H.cell;rw[x.get id hid]
def VP (op:BinOp)(k:IntKind)(x y:V):Option V:=match x,y with
 | .int j a,.int j' b=>if j=k/\j'=k then arith op k a b else none
 |_,_=>none
theorem MG (op:BinOp)(k:IntKind)(a b:Int):VP op k (.int k a) (.int k b)=arith op k a b:=by simp [VP]
def abF:V->Option V
 | .bool a=>some (.bool (!a))
 |_=>none
theorem EL (a:Bool):abF (.bool a)=some (.bool (!a)):=rfl
def JB (c a b:V):Option V:=match c with
 | .bool t=>some (if t then a else b)
 |_=>none
theorem Wj (t:Bool)(a b:V):JB (.bool t) a b=some (if t then a else b):=rfl
def Ki (neg:Bool):V->Option V
 | .aC=>some (.bool (!neg))
 | .sl .. | .emp _=>some (.bool neg)
 |_=>none
theorem Wm (neg:Bool):Ki neg .aC=some (.bool (!neg)):=rfl
theorem FZ (neg:Bool)(a:Addr):Ki neg (.emp a)=some (.bool neg):=rfl
theorem OX (neg:Bool)(a b c:Nat)(d:qP):Ki neg (.sl a b c d)=some (.bool neg):=rfl
def TT (neg:Bool)(x y:V):Option V:=match x,y with
 | .bool a,.bool b=>some (.bool (if neg then !(a==b) else a==b))
 |_,_=>none
theorem XL (a b:Bool):TT false (.bool a) (.bool b)=some (.bool (a==b)):=rfl
theorem abE (a b:Bool):TT true (.bool a) (.bool b)=some (.bool (!(a==b))):=rfl
def VD (k:IntKind):V->Option V
 | .int j a=>if j=k then some (.int k (k.wrap (0-a))) else none
 |_=>none
theorem IQ (k:IntKind)(a:Int):VD k (.int k a)=some (.int k (k.wrap (0-a))):=by simp [VD]
def OY (k:IntKind):V->Option V
 | .int _ a=>some (.int k (k.wrap a))
 |_=>none
theorem HB (k j:IntKind)(a:Int):OY k (.int j a)=some (.int k (k.wrap a)):=rfl
def ZT (i:Nat):V->Option V
 | .tup vs=>vs[i]?
 |_=>none
theorem PH (i:Nat)(vs:List V):ZT i (.tup vs)=vs[i]? :=rfl
def dM (v:V):Option V:=(qS v).map λ(n:Nat)=>V.int .i64 (n:Int)
theorem Xx:dM .aC=some (.int .i64 0):=rfl
theorem KM (a b c:Nat)(d:qP):dM (.sl a b c d)=some (.int .i64 (c:Int)):=rfl
def BC (agg:Bool)(off n:Nat):V->Option V
 | .agg vs=>if agg then (sub vs off n).map (λws=> .agg ws) else vs[off]?
 |_=>none
theorem FG (off n:Nat)(vs:List V):BC false off n (.agg vs)=vs[off]? :=rfl
theorem FH (off n:Nat)(vs:List V):BC true off n (.agg vs)=(sub vs off n).map (λws=> .agg ws):=rfl
def aaR (off:Nat):V->Option V
 | .ptr id o=>some (.ptr id (o+off))
 |_=>none
theorem NA (off id o:Nat):aaR off (.ptr id o)=some (.ptr id (o+off)):=rfl
def YO:V->Option V
 | .ptr id o=>some (.ptr id o)
 |_=>none
theorem JE (id o:Nat):YO (.ptr id o)=some (.ptr id o):=rfl
def Kq (h:H):V->Option V
 | .ptr id off=>h.cell id off
 |_=>none
theorem FQ (h:H)(id off:Nat):Kq h (.ptr id off)=h.cell id off:=rfl
def Xj (h:H)(n:Nat):V->Option V
 | .ptr id off=>(h.row id off n).map .agg
 |_=>none
theorem HX (h:H)(id off n:Nat):Xj h n (.ptr id off)=(h.row id off n).map .agg:=rfl
def Zp (h:H)(n:Nat)(x y:V):Option H:=match x with
 | .ptr id off=>if y.cells.length=n/\y.cells.all V.one then h.put id off y.cells else none
 |_=>none
def fI (o:Option Ob)(h:H)(id off:Nat)(ws:List V):Option H:=match o with
 |some (.cells false vs)=>(putAt vs off ws).map λvs'=>h.set id (some (.cells false vs'))
 |_=>none
theorem H.put_eq (h:H)(id off:Nat)(ws:List V):h.put id off ws=fI (h.get id) h id off ws:=by
 unfold H.put fI
 cases h.get id with
 |none=>rfl
 |some o=>cases o with
  |cells ro vs=>cases ro<;>rfl
  |_=>rfl
theorem Zi {o o':Option Ob}{h:H}{ws:List V}(e:o=o'):fI o h id off ws=fI o' h id off ws:=by rw[e]
theorem CV (hlt:off<vs.length)(v:V):putAt vs off [v]=some (vs.set off v):=by
 unfold putAt;rw[if_pos (by simp;omega)];congr 1;rw[List.set_eq_take_append_cons_drop,if_pos hlt];simp
theorem aX (hlt:off<vs.length)(h:H)(id:Nat)(v:V):fI (some (.cells false vs)) h id off [v]=some (h.set id (some (.cells false (vs.set off v)))):=by
 simp only[fI];rw[CV hlt];rfl
theorem lE {y:V}(hc:y.cells= [y])(ho:y.one=true)(h:H)(id off:Nat):Zp h 1 (.ptr id off) y=fI (h.get id) h id off [y]:=by
 simp only[Zp,hc,List.length_singleton,List.all_cons,List.all_nil,ho,Bool.and_self,and_self,if_true,H.put_eq]
theorem RU (h:H)(id off:Nat)(k:IntKind)(a:Int):Zp h 1 (.ptr id off) (.int k a)=fI (h.get id) h id off [.int k a]:=lE rfl rfl h id off
theorem MN (h:H)(id off:Nat)(a:Bool):Zp h 1 (.ptr id off) (.bool a)=fI (h.get id) h id off [.bool a]:=lE rfl rfl h id off
theorem YR (h:H)(id off a b c:Nat)(d:qP):Zp h 1 (.ptr id off) (.sl a b c d)=fI (h.get id) h id off [.sl a b c d]:=lE rfl rfl h id off
theorem IM (h:H)(id off:Nat):Zp h 1 (.ptr id off) .aC=fI (h.get id) h id off [.aC]:=lE rfl rfl h id off
theorem zR (h:H)(id off n:Nat)(vs:List V)(hn:vs.length=n)(ho:vs.all V.one=true):Zp h n (.ptr id off) (.agg vs)=fI (h.get id) h id off vs:=by
 simp only[Zp,V.cells,hn,ho,and_self,if_true,H.put_eq]
def Gy (h:H)(x:V):Option (V×H):=if x.cells.all V.one then some (.ptr h.next 0,h.new (.cells false x.cells)) else none
theorem oH {x:V}(hc:x.cells= [x])(ho:x.one=true)(h:H):Gy h x=some (.ptr h.next 0,h.new (.cells false [x])):=by
 simp [Gy,hc,ho]
theorem Kv (h:H)(k:IntKind)(a:Int):Gy h (.int k a)=some (.ptr h.next 0,h.new (.cells false [.int k a])):=rfl
theorem FT (h:H)(a:Bool):Gy h (.bool a)=some (.ptr h.next 0,h.new (.cells false [.bool a])):=rfl
theorem vG (h:H)(vs:List V)(ho:vs.all V.one=true):Gy h (.agg vs)=some (.ptr h.next 0,h.new (.cells false vs)):=by
 simp only[Gy,V.cells,ho,if_true]
theorem Ds {len sz:Nat}{cap:qP}{k:IntKind}{n:Int}(h0:0<=n)(h1:n<len):Ul sz (.sl id off len cap) (.int k n)=some (.ptr id (off+n.toNat*sz)):=by
 simp only[Ul];rw[if_pos ⟨h0,h1⟩]
section
variable (ρ:X->V) (h:H)
theorem TI (x:X):cK ρ h (.mov x)=some (ρ x,h):=rfl
theorem NG (c a b:X):cK ρ h (.pick c a b)=(JB (ρ c) (ρ a) (ρ b)).map (·,h):=by
 simp only[cK,JB];cases ρ c<;>rfl
theorem UP (op:BinOp)(k:IntKind)(x y:X):cK ρ h (.bin op k x y)=(VP op k (ρ x) (ρ y)).map (·,h):=by
 simp only[cK,VP];cases ρ x<;>cases ρ y<;>try rfl
 simp only;split<;>rfl
theorem VI (neg:Bool)(x y:X):cK ρ h (.beq neg x y)=(TT neg (ρ x) (ρ y)).map (·,h):=by
 simp only[cK,TT];cases ρ x<;>cases ρ y<;>rfl
theorem OA (neg:Bool)(x:X):cK ρ h (.snil neg x)=(Ki neg (ρ x)).map (·,h):=by
 simp only[cK,Ki];cases ρ x<;>rfl
theorem VK (x:X):cK ρ h (.not x)=(abF (ρ x)).map (·,h):=by
 simp only[cK,abF];cases ρ x<;>rfl
theorem VL (k:IntKind)(x:X):cK ρ h (.neg k x)=(VD k (ρ x)).map (·,h):=by
 simp only[cK,VD];cases ρ x<;>try rfl
 simp only;split<;>rfl
theorem NO (k:IntKind)(x:X):cK ρ h (.conv k x)=(OY k (ρ x)).map (·,h):=by
 simp only[cK,OY];cases ρ x<;>rfl
theorem SA (x:X)(i:Nat):cK ρ h (.ext x i)=(ZT i (ρ x)).map (·,h):=by
 simp only[cK,ZT];cases ρ x<;>rfl
theorem KV (x:X):cK ρ h (.lens x)=(dM (ρ x)).map (·,h):=by
 simp only[cK,dM,Option.map_map];rfl
theorem LJ (agg:Bool)(off n:Nat)(x:X):cK ρ h (.part agg off n x)=(BC agg off n (ρ x)).map (·,h):=by
 simp only[cK,BC];cases ρ x<;>try rfl
 cases agg
 ·rfl
 ·simp only[if_true,Option.map_map];rfl
theorem On (x:X):cK ρ h (.ld false 1 x)=(Kq h (ρ x)).map (·,h):=by
 simp only[cK,HY,Kq,H.row,H.cell];cases ρ x<;>try rfl
 simp only;rename_i id off
 cases h.get id with
 |none=>rfl
 |some o=>cases o with
  |cells ro vs=>
   simp only[sub]
   by_cases hlt:off<vs.length
   ·rw[if_pos (by omega),iK hlt]
    have:(vs.drop off).take 1= [vs[off]]:=by
     rw[List.drop_eq_getElem_cons hlt];rfl
    rw[this];rfl
   ·rw[if_neg (by omega),List.getElem?_eq_none (by omega)]
  |_=>rfl
theorem AH (n:Nat)(x:X):cK ρ h (.ld true n x)=(Xj h n (ρ x)).map (·,h):=by
 simp only[cK,HY,Xj];cases ρ x<;>try rfl
 simp only;cases h.row _ _ n<;>rfl
theorem XU (n:Nat)(x y:X):cK ρ h (.st n x y)=(Zp h n (ρ x) (ρ y)).map λh'=>(V.undef,h'):=by
 simp only[cK,Zp];cases ρ x<;>try rfl
 simp only;split<;>rfl
theorem UT (sz:Nat)(x i:X):cK ρ h (.ixa sz x i)=(Ul sz (ρ x) (ρ i)).map (·,h):=rfl
theorem UI (off:Nat)(x:X):cK ρ h (.fla off x)=(aaR off (ρ x)).map (·,h):=by
 simp only[cK,aaR];cases ρ x<;>rfl
theorem TP (x:X):cK ρ h (.nck x)=(YO (ρ x)).map (·,h):=by
 simp only[cK,YO];cases ρ x<;>rfl
theorem WJ (sz:Nat)(x:X)(lo hi mx:Option X):cK ρ h (.slc sz x lo hi mx)=(uW sz (ρ x) (lo.map ρ) (hi.map ρ) (mx.map ρ)).map (·,h):=rfl
theorem TX (sz bytes:Nat)(zero:List V)(l c:X):cK ρ h (.mks sz bytes zero l c)=Fh h sz bytes zero (ρ l) (ρ c):=rfl
theorem SX (zero:List V):cK ρ h (.alc zero)=some (.ptr h.next 0,h.new (.cells false zero)):=rfl
theorem RL (x:X):cK ρ h (.box x)=Gy h (ρ x):=rfl
theorem aaU (mx:Bool)(x y:X):cK ρ h (.mm mx [x,y])=(HG mx (ρ x) [ρ y]).map (·,h):=rfl
theorem QO (f:Nat)(fs cs:List X):cK ρ h (.mkf f fs cs)=some (.fn f (fs.map ρ) (cs.map ρ),h):=rfl
theorem TJ:cK ρ h .mkm=some (.mp h.next,h.new (.map [])):=rfl
def Bk (h:H)(sz bytes:Nat)(x y:V):Option (V×H):=match qS y,h.slice sz y with
 |some m,some ys=>wQ h sz bytes x m ys
 |_,_=>none
theorem TL (sz bytes:Nat)(x y:X):cK ρ h (.app sz bytes x y)=Bk h sz bytes (ρ x) (ρ y):=rfl
def uK (zero:List V)(parts:List (Nat×Nat×V)):Option V:=(jQ zero parts).map .agg
theorem TE (zero:List V)(parts:List (Nat×Nat×X)):cK ρ h (.bld zero parts)=(uK zero (parts.map λp=>(p.1,p.2.1,ρ p.2.2))).map (·,h):=by
 simp only[cK,uK,Option.map_map];rfl
def uY (h:H)(sz:Nat)(zero:List V)(n:Nat)(parts:List (Nat×Nat×V)):Option (V×H):=match jQ (eE zero (n*sz)) parts with
  |some cs=>if cs.all V.one then some (.sl h.next 0 n (.kn n),h.new (.cells false cs)) else none
  |none=>none
theorem QN (sz:Nat)(zero:List V)(n:Nat)(parts:List (Nat×Nat×X)):cK ρ h (.bls sz zero n parts)=uY h sz zero n (parts.map λp=>(p.1,p.2.1,ρ p.2.2)):=rfl
theorem SC (sz:Nat)(x y:X):cK ρ h (.cpy sz x y)=DK h sz (ρ x) (ρ y):=rfl
end
theorem acT (vars loc:List V)(k:Nat):xv vars loc (.v k)=vars.getD k .undef:=rfl
theorem acM (vars loc:List V)(k:Nat):xv vars loc (.l k)=loc.getD k .undef:=rfl
theorem ZG (vars loc:List V)(x:V):xv vars loc (.c x)=x:=rfl
theorem RS (k:Nat)(vars loc:List V)(v:V):(lW (.v k) vars loc v).1=vars.set k v:=rfl
theorem VU (k:Nat)(vars loc:List V)(v:V):(lW (.v k) vars loc v).2=loc:=rfl
theorem SJ (vars loc:List V)(v:V):(lW .l vars loc v).1=vars:=rfl
theorem SF (vars loc:List V)(v:V):(lW .l vars loc v).2=v::loc:=rfl
theorem TM (vars loc:List V)(v:V):(lW .n vars loc v).1=vars:=rfl
theorem VW (vars loc:List V)(v:V):(lW .n vars loc v).2=loc:=rfl
theorem Tb (vars loc:List V)(x:X)(b:Bool):fY vars loc (some (x,b))=(match xv vars loc x with| .bool a=>some (a==b)| .tup []=>some false|_=>none):=rfl
theorem CM (k:IntKind)(a b:Int):arith .add k a b=some (.int k (k.wrap (a+b))):=rfl
theorem FL (k:IntKind)(a b:Int):arith .sub k a b=some (.int k (k.wrap (a-b))):=rfl
theorem GR (k:IntKind)(a b:Int):arith .mul k a b=some (.int k (k.wrap (a*b))):=rfl
theorem EG (k:IntKind)(a b:Int)(hb:b≠0):arith .quo k a b=some (.int k (k.wrap (a.tdiv b))):=by simp only[arith];rw[if_neg hb]
theorem GV (k:IntKind)(a b:Int)(hb:b≠0):arith .rem k a b=some (.int k (a.tmod b)):=by simp only[arith];rw[if_neg hb]
theorem GQ (k:IntKind)(a b:Int):arith .eql k a b=some (.bool (decide (a=b))):=by
 simp only[arith];congr 2
theorem FJ (k:IntKind)(a b:Int):arith .neq k a b=some (.bool (decide (a≠b))):=by
 simp only[arith];congr 2;rw[Bool.eq_iff_iff];simp
theorem EZ (k:IntKind)(a b:Int):arith .lss k a b=some (.bool (decide (a<b))):=rfl
theorem EM (k:IntKind)(a b:Int):arith .leq k a b=some (.bool (decide (a<=b))):=rfl
theorem FV (k:IntKind)(a b:Int):arith .gtr k a b=some (.bool (decide (b<a))):=rfl
theorem EE (k:IntKind)(a b:Int):arith .geq k a b=some (.bool (decide (b<=a))):=rfl
theorem aaB (k:IntKind)(a b:Int):HG false (.int k a) [.int k b]=some (.int k (if b<a then b else a)):=by
 simp only[HG,if_true,Bool.false_eq_true,if_false]
theorem abC (k:IntKind)(a b:Int):HG true (.int k a) [.int k b]=some (.int k (if b>a then b else a)):=by
 simp only[HG,if_true]
theorem Zu {n:Int}(h1: -9223372036854775808<=n)(h2:n<9223372036854775808):IntKind.i64.wrap n=n:=wrap_i64 h1 h2
theorem ZU (vars:List V)(h:H)(k:Nat):Ac vars h (.v k)=some (vars.getD k .undef):=rfl
theorem Xq (vars:List V)(h:H)(k:Nat):Ac vars h (.cell k false 1)=Kq h (vars.getD k .undef):=by
 have:=On (λ_=>vars.getD k .undef) h (.v 0);simp only[Ac];simp only[cK] at this;generalize HY h false 1 (vars.getD k .undef)=a at*;generalize Kq h (vars.getD k .undef)=b at*;cases a<;>cases b<;>simp at this ⊢;exact this
theorem Wu (vars:List V)(h:H)(k n:Nat):Ac vars h (.cell k true n)=Xj h n (vars.getD k .undef):=by
 simp only[Ac,HY,Xj];cases vars.getD k .undef<;>try rfl
 simp only;cases h.row _ _ n<;>rfl
theorem Su {α:Type}:cE ([]:List (Option α))=some []:=rfl
theorem Ol {α:Type}(a:α)(r:List (Option α)):cE (some a::r)=(cE r).map (a:: ·):=rfl
theorem PG (v:V):Eh [v]=v:=rfl
theorem LC (v u:V):Eh [v,u]= .tup [v,u]:=rfl
theorem Wl (v u t:V):Eh [v,u,t]= .tup [v,u,t]:=rfl
theorem Km:V.undef= .tup []:=rfl
theorem aF (fn:Fn)(args:List V):Ag fn args=fn.init.map λo=>match o with|some j=>args.getD j .undef|none=> .undef:=rfl
theorem DL (log:Log)(h:H):qM [] log h=true:=by simp [qM]
attribute [go_sem] QM XS SG KB YW ZY KI YB QC JX Jy DH Zj Uk Wn yD DB Sk Yn Tz CP PX FR Yb Zl Vd IP KS RD YK UJ RM VG VY FU VA NN FC VC NW FN ED abB PO DQ EI PK NC Sr TI NG UP VI OA VK VL NO SA KV LJ On AH XU UT UI TP WJ TX SX RL aaU QO TJ TL TE QN SC MG EL Wj Wm OX FZ XL abE Bool.not_false Bool.not_true beq_true beq_false if_true if_false Bool.false_eq_true NJ IQ HB PH Xx KM FG FH NA JE FQ HX RU MN YR IM Kv FT aX Ds acT acM ZG RS VU SJ SF TM VW Tb CM FL GR EG GV GQ FJ EZ EM FV EE aaB abC Zu ZU Xq Wu Su Ol PG LC Wl DL H.aT H.aH H.aL H.bE H.oZ H.CN H.Af H.Gn H.Li H.Te H.cW H.aV true_and Option.map_some Option.map_none List.replicate_succ List.replicate_zero List.take_succ_cons List.take_zero List.length_cons List.length_nil Nat.zero_add List.foldl_cons List.foldl_nil List.map_cons List.map_nil List.getD_cons_zero List.getD_cons_succ List.set_cons_zero List.set_cons_succ List.cons_append List.nil_append List.append_nil
attribute [congr] Zi
abbrev bZ (l:List V):Option Ob:=some (.cells false l)
abbrev aB (z:Int):V:=.int .i64 z
abbrev LN:=List (List Nat)
abbrev qI:=List (List (List Nat))
theorem nL {p:Prop}[d:Decidable p](h:p):decide p=true:=decide_eq_true h
theorem jC {p:Prop}[d:Decidable p](h:¬p):decide p=false:=decide_eq_false h
theorem bN {p:Nat->Option Fn}{g:Nat}(fn:Fn){args:List V}{h:H}{Q:V->H->Prop}(hg:p g=some fn)(hl:args.length=fn.nargs)(hw:Wp p none fn.body (Ag fn args) h (HT fn.results Q)):Ev p g args h Q:=Gq hg hl hw
theorem exI.{u}{α:Sort u}(a:α):∃b,a=b:=⟨a,rfl⟩
theorem iJ (i:Nat):(i:Int)+1=((i+1:Nat):Int):=by omega
end
end Go.Ay
