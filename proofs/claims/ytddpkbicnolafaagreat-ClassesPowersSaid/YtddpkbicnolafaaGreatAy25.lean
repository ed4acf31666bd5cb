/- Rules for walking through the abstract machine's code. -/
import Derived.Test.YtddpkbicnolafaaGreatAy23
import Derived.Attr
namespace Go.Ay
section
variable {id k off:Nat} {vs:List V}
def find:List (Nat×Fn)->Nat->Option Fn
 | [],_=>none
 |(k,f)::l,n=>cond (Nat.beq k n) (some f) (find l n)
attribute [congr] Qq PK OV CQ CV GG LA Wx Rn Ti Td Ox
def H.cell (h:H)(id off:Nat):Option V:=match h.get id with
 |some (.cells _ vs)=>vs[off]?
 |_=>none
section
variable (h:H)
theorem H.aF {h:H}{ro:Bool}(hg:h.get id=some (.cells ro vs))(off:Nat):h.cell id off=vs[off]? :=by
 unfold H.cell;rw[hg]
theorem H.aT (id:Nat)(o:Option Ob):(h.set id o).get id=o:=by rw[H.jD,if_pos rfl]
theorem H.aI (hk:k≠id)(o:Option Ob):(h.set id o).get k=h.get k:=by rw[H.jD,if_neg hk]
theorem H.aN (o:Ob):(h.new o).get h.next=some o:=by rw[H.kT,if_pos rfl]
theorem H.bU (hk:k≠h.next)(o:Ob):(h.new o).get k=h.get k:=by rw[H.kT,if_neg hk]
theorem H.pZ (n k:Nat):(H.mk h.tr n).get k=h.get k:=rfl
theorem H.DJ (n k off:Nat):(H.mk h.tr n).cell k off=h.cell k off:=rfl
theorem H.Aq (id:Nat)(ro:Bool)(vs:List V)(off:Nat):(h.set id (some (.cells ro vs))).cell id off=vs[off]? :=H.aF (H.aT ..) off
theorem H.Gn (hk:k≠id)(o:Option Ob)(off:Nat):(h.set id o).cell k off=h.cell k off:=by unfold H.cell;rw[H.aI h hk]
theorem H.Lu (ro:Bool)(vs:List V)(off:Nat):(h.new (.cells ro vs)).cell h.next off=vs[off]? :=H.aF (H.aN ..) off
theorem H.Ut (hk:k≠h.next)(o:Ob)(off:Nat):(h.new o).cell k off=h.cell k off:=by unfold H.cell;rw[H.bU h hk]
end
structure Fr (h h':H):Prop where
 next:h.next<=h'.next
 get: ∀id,id<h.next->h'.get id=h.get id
theorem Fr.refl (h:H):Fr h h:=⟨gV _,λ_ _=>rfl⟩
theorem Fr.trans {a b c:H}(x:Fr a b)(y:Fr b c):Fr a c:=⟨Nat.le_trans x.next y.next,λid hid=>(y.get id (kZ hid x.next)).trans (x.get id hid)⟩
theorem Fr.new {a b:H}(x:Fr a b)(o:Ob):Fr a (b.new o):=x.trans ⟨by rw[H.aV];omega,λid hid=>H.bU b (by omega) o⟩
theorem Fr.set {a b:H}(x:Fr a b)(hid:a.next<=id)(o:Option Ob):Fr a (b.set id o):=⟨x.next,λk hk=>(H.aI b (by omega) o).trans (x.get k hk)⟩
theorem Fr.bF {a b:H}(x:Fr a b){n:Nat}(hn:b.next<=n):Fr a (H.mk b.tr n):=⟨Nat.le_trans x.next hn,λk hk=>(H.pZ b n k).trans (x.get k hk)⟩
theorem Fr.cell {a b:H}(x:Fr a b)(hid:id<a.next)(off:Nat):b.cell id off=a.cell id off:=by unfold H.cell;rw[x.get id hid]
def SW (op:BinOp)(k:IntKind)(x y:V):Option V:=match x,y with
 | .int j a,.int j' b=>if j=k/\j'=k then arith op k a b else none
 |_,_=>none
theorem OS (op:BinOp)(k:IntKind)(a b:Int):SW op k (.int k a) (.int k b)=arith op k a b:=by simp [SW]
def YB:V->Option V
 | .bool a=>some (.bool (!a))
 |_=>none
theorem EY (a:Bool):YB (.bool a)=some (.bool (!a)):=rfl
def IZ (c a b:V):Option V:=match c with
 | .bool t=>some (if t then a else b)
 |_=>none
theorem Yj (t:Bool)(a b:V):IZ (.bool t) a b=some (if t then a else b):=rfl
def Kp (neg:Bool):V->Option V
 | .aC=>some (.bool (!neg))
 | .sl .. | .emp _=>some (.bool neg)
 |_=>none
theorem Xa (neg:Bool):Kp neg .aC=some (.bool (!neg)):=rfl
theorem DU (neg:Bool)(a:Addr):Kp neg (.emp a)=some (.bool neg):=rfl
theorem IK (neg:Bool)(a b c:Nat)(d:rL):Kp neg (.sl a b c d)=some (.bool neg):=rfl
def UB (neg:Bool)(x y:V):Option V:=match x,y with
 | .bool a,.bool b=>some (.bool (if neg then !(a==b) else a==b))
 |_,_=>none
theorem YF (a b:Bool):UB false (.bool a) (.bool b)=some (.bool (a==b)):=rfl
theorem YL (a b:Bool):UB true (.bool a) (.bool b)=some (.bool (!(a==b))):=rfl
def RG (k:IntKind):V->Option V
 | .int j a=>if j=k then some (.int k (k.wrap (0-a))) else none
 |_=>none
theorem NQ (k:IntKind)(a:Int):RG k (.int k a)=some (.int k (k.wrap (0-a))):=by simp [RG]
def KH (k:IntKind):V->Option V
 | .int _ a=>some (.int k (k.wrap a))
 |_=>none
theorem GH (k j:IntKind)(a:Int):KH k (.int j a)=some (.int k (k.wrap a)):=rfl
def YE (i:Nat):V->Option V
 | .tup vs=>vs[i]?
 |_=>none
theorem MR (i:Nat)(vs:List V):YE i (.tup vs)=vs[i]? :=rfl
def dC (v:V):Option V:=(sN v).map λ(n:Nat)=>V.int .i64 (n:Int)
theorem Ww:dC .aC=some (.int .i64 0):=rfl
theorem OB (a b c:Nat)(d:rL):dC (.sl a b c d)=some (.int .i64 (c:Int)):=rfl
def Ze (agg:Bool)(off n:Nat):V->Option V
 | .agg vs=>if agg then (sub vs off n).map (λws=> .agg ws) else vs[off]?
 |_=>none
theorem CH (off n:Nat)(vs:List V):Ze false off n (.agg vs)=vs[off]? :=rfl
theorem GJ (off n:Nat)(vs:List V):Ze true off n (.agg vs)=(sub vs off n).map (λws=> .agg ws):=rfl
def WJ (off:Nat):V->Option V
 | .ptr id o=>some (.ptr id (o+off))
 |_=>none
theorem IL (off id o:Nat):WJ off (.ptr id o)=some (.ptr id (o+off)):=rfl
def ZD:V->Option V
 | .ptr id o=>some (.ptr id o)
 |_=>none
theorem PQ (id o:Nat):ZD (.ptr id o)=some (.ptr id o):=rfl
def Jk (h:H):V->Option V
 | .ptr id off=>h.cell id off
 |_=>none
theorem BX (h:H)(id off:Nat):Jk h (.ptr id off)=h.cell id off:=rfl
def Xs (h:H)(n:Nat):V->Option V
 | .ptr id off=>(h.row id off n).map .agg
 |_=>none
theorem JM (h:H)(id off n:Nat):Xs h n (.ptr id off)=(h.row id off n).map .agg:=rfl
def Yu (h:H)(n:Nat)(x y:V):Option H:=match x with
 | .ptr id off=>if y.cells.length=n/\y.cells.all V.one then h.put id off y.cells else none
 |_=>none
def fG (o:Option Ob)(h:H)(id off:Nat)(ws:List V):Option H:=match o with
 |some (.cells false vs)=>(putAt vs off ws).map λvs'=>h.set id (some (.cells false vs'))
 |_=>none
theorem H.put_eq (h:H)(id off:Nat)(ws:List V):h.put id off ws=fG (h.get id) h id off ws:=by
 unfold H.put fG
 cases h.get id with
 |none=>rfl
 |some o=>cases o with
  |cells ro vs=>cases ro<;>rfl
  |_=>rfl
theorem Wq {o o':Option Ob}{h:H}{ws:List V}(e:o=o'):fG o h id off ws=fG o' h id off ws:=by rw[e]
theorem GF (hlt:off<vs.length)(v:V):putAt vs off [v]=some (vs.set off v):=by
 unfold putAt;rw[if_pos (by simp;omega)];congr 1;rw[List.set_eq_take_append_cons_drop,if_pos hlt];simp
theorem bW (hlt:off<vs.length)(h:H)(id:Nat)(v:V):fG (some (.cells false vs)) h id off [v]=some (h.set id (some (.cells false (vs.set off v)))):=by
 simp only[fG];rw[GF hlt];rfl
theorem pF {y:V}(hc:y.cells= [y])(ho:y.one=true)(h:H)(id off:Nat):Yu h 1 (.ptr id off) y=fG (h.get id) h id off [y]:=by
 simp only[Yu,hc,List.length_singleton,List.all_cons,List.all_nil,ho,Bool.and_self,and_self,if_true,H.put_eq]
theorem TG (h:H)(id off:Nat)(k:IntKind)(a:Int):Yu h 1 (.ptr id off) (.int k a)=fG (h.get id) h id off [.int k a]:=pF rfl rfl h id off
theorem LV (h:H)(id off:Nat)(a:Bool):Yu h 1 (.ptr id off) (.bool a)=fG (h.get id) h id off [.bool a]:=pF rfl rfl h id off
theorem YI (h:H)(id off a b c:Nat)(d:rL):Yu h 1 (.ptr id off) (.sl a b c d)=fG (h.get id) h id off [.sl a b c d]:=pF rfl rfl h id off
theorem IQ (h:H)(id off:Nat):Yu h 1 (.ptr id off) .aC=fG (h.get id) h id off [.aC]:=pF rfl rfl h id off
theorem Ho (h:H)(id off n:Nat)(vs:List V)(hn:vs.length=n)(ho:vs.all V.one=true):Yu h n (.ptr id off) (.agg vs)=fG (h.get id) h id off vs:=by
 simp only[Yu,V.cells,hn,ho,and_self,if_true,H.put_eq]
def Gz (h:H)(x:V):Option (V×H):=if x.cells.all V.one then some (.ptr h.next 0,h.new (.cells false x.cells)) else none
theorem sI {x:V}(hc:x.cells= [x])(ho:x.one=true)(h:H):Gz h x=some (.ptr h.next 0,h.new (.cells false [x])):=by
 simp [Gz,hc,ho]
theorem Jw (h:H)(k:IntKind)(a:Int):Gz h (.int k a)=some (.ptr h.next 0,h.new (.cells false [.int k a])):=rfl
theorem BW (h:H)(a:Bool):Gz h (.bool a)=some (.ptr h.next 0,h.new (.cells false [.bool a])):=rfl
theorem yC (h:H)(vs:List V)(ho:vs.all V.one=true):Gz h (.agg vs)=some (.ptr h.next 0,h.new (.cells false vs)):=by
 simp only[Gz,V.cells,ho,if_true]
theorem zQ {len sz:Nat}{cap:rL}{k:IntKind}{n:Int}(h0:0<=n)(h1:n<len):Qo sz (.sl id off len cap) (.int k n)=some (.ptr id (off+n.toNat*sz)):=by
 simp only[Qo];rw[if_pos ⟨h0,h1⟩]
section
variable (ρ:X->V) (h:H)
theorem RH (x:X):cX ρ h (.mov x)=some (ρ x,h):=rfl
theorem PO (c a b:X):cX ρ h (.pick c a b)=(IZ (ρ c) (ρ a) (ρ b)).map (·,h):=by
 simp only[cX,IZ];cases ρ c<;>rfl
theorem TS (op:BinOp)(k:IntKind)(x y:X):cX ρ h (.bin op k x y)=(SW op k (ρ x) (ρ y)).map (·,h):=by
 simp only[cX,SW];cases ρ x<;>cases ρ y<;>try rfl
 simp only;split<;>rfl
theorem SA (neg:Bool)(x y:X):cX ρ h (.beq neg x y)=(UB neg (ρ x) (ρ y)).map (·,h):=by
 simp only[cX,UB];cases ρ x<;>cases ρ y<;>rfl
theorem KT (neg:Bool)(x:X):cX ρ h (.snil neg x)=(Kp neg (ρ x)).map (·,h):=by
 simp only[cX,Kp];cases ρ x<;>rfl
theorem SO (x:X):cX ρ h (.not x)=(YB (ρ x)).map (·,h):=by
 simp only[cX,YB];cases ρ x<;>rfl
theorem QH (k:IntKind)(x:X):cX ρ h (.neg k x)=(RG k (ρ x)).map (·,h):=by
 simp only[cX,RG];cases ρ x<;>try rfl
 simp only;split<;>rfl
theorem HT (k:IntKind)(x:X):cX ρ h (.conv k x)=(KH k (ρ x)).map (·,h):=by
 simp only[cX,KH];cases ρ x<;>rfl
theorem TO (x:X)(i:Nat):cX ρ h (.ext x i)=(YE i (ρ x)).map (·,h):=by
 simp only[cX,YE];cases ρ x<;>rfl
theorem OZ (x:X):cX ρ h (.lens x)=(dC (ρ x)).map (·,h):=by
 simp only[cX,dC,Option.map_map];rfl
theorem JJ (agg:Bool)(off n:Nat)(x:X):cX ρ h (.part agg off n x)=(Ze agg off n (ρ x)).map (·,h):=by
 simp only[cX,Ze];cases ρ x<;>try rfl
 cases agg
 ·rfl
 ·simp only[if_true,Option.map_map];rfl
theorem Rb (x:X):cX ρ h (.ld false 1 x)=(Jk h (ρ x)).map (·,h):=by
 simp only[cX,HD,Jk,H.row,H.cell];cases ρ x<;>try rfl
 simp only;rename_i id off
 cases h.get id with
 |none=>rfl
 |some o=>cases o with
  |cells ro vs=>
   simp only[sub]
   by_cases hlt:off<vs.length
   ·rw[if_pos (by omega),fX hlt]
    have:(vs.drop off).take 1= [vs[off]]:=by
     rw[List.drop_eq_getElem_cons hlt];rfl
    rw[this];rfl
   ·rw[if_neg (by omega),List.getElem?_eq_none (by omega)]
  |_=>rfl
theorem Zx (n:Nat)(x:X):cX ρ h (.ld true n x)=(Xs h n (ρ x)).map (·,h):=by
 simp only[cX,HD,Xs];cases ρ x<;>try rfl
 simp only;cases h.row _ _ n<;>rfl
theorem XU (n:Nat)(x y:X):cX ρ h (.st n x y)=(Yu h n (ρ x) (ρ y)).map λh'=>(V.undef,h'):=by
 simp only[cX,Yu];cases ρ x<;>try rfl
 simp only;split<;>rfl
theorem QW (sz:Nat)(x i:X):cX ρ h (.ixa sz x i)=(Qo sz (ρ x) (ρ i)).map (·,h):=rfl
theorem PW (off:Nat)(x:X):cX ρ h (.fla off x)=(WJ off (ρ x)).map (·,h):=by
 simp only[cX,WJ];cases ρ x<;>rfl
theorem TK (x:X):cX ρ h (.nck x)=(ZD (ρ x)).map (·,h):=by
 simp only[cX,ZD];cases ρ x<;>rfl
theorem UP (sz:Nat)(x:X)(lo hi mx:Option X):cX ρ h (.slc sz x lo hi mx)=(Ld sz (ρ x) (lo.map ρ) (hi.map ρ) (mx.map ρ)).map (·,h):=rfl
theorem RU (sz bytes:Nat)(zero:List V)(l c:X):cX ρ h (.mks sz bytes zero l c)=Cu h sz bytes zero (ρ l) (ρ c):=rfl
theorem VB (zero:List V):cX ρ h (.alc zero)=some (.ptr h.next 0,h.new (.cells false zero)):=rfl
theorem RA (x:X):cX ρ h (.box x)=Gz h (ρ x):=rfl
theorem YH (mx:Bool)(x y:X):cX ρ h (.mm mx [x,y])=(GN mx (ρ x) [ρ y]).map (·,h):=rfl
theorem QS (f:Nat)(fs cs:List X):cX ρ h (.mkf f fs cs)=some (.fn f (fs.map ρ) (cs.map ρ),h):=rfl
theorem RO:cX ρ h .mkm=some (.mp h.next,h.new (.map [])):=rfl
def xT (h:H)(sz bytes:Nat)(x y:V):Option (V×H):=match sN y,h.slice sz y with
 |some m,some ys=>wH h sz bytes x m ys
 |_,_=>none
theorem SU (sz bytes:Nat)(x y:X):cX ρ h (.app sz bytes x y)=xT h sz bytes (ρ x) (ρ y):=rfl
def vN (zero:List V)(parts:List (Nat×Nat×V)):Option V:=(jY zero parts).map .agg
theorem QD (zero:List V)(parts:List (Nat×Nat×X)):cX ρ h (.bld zero parts)=(vN zero (parts.map λp=>(p.1,p.2.1,ρ p.2.2))).map (·,h):=by
 simp only[cX,vN,Option.map_map];rfl
def uY (h:H)(sz:Nat)(zero:List V)(n:Nat)(parts:List (Nat×Nat×V)):Option (V×H):=match jY (dV zero (n*sz)) parts with
  |some cs=>if cs.all V.one then some (.sl h.next 0 n (.kn n),h.new (.cells false cs)) else none
  |none=>none
theorem RP (sz:Nat)(zero:List V)(n:Nat)(parts:List (Nat×Nat×X)):cX ρ h (.bls sz zero n parts)=uY h sz zero n (parts.map λp=>(p.1,p.2.1,ρ p.2.2)):=rfl
theorem SH (sz:Nat)(x y:X):cX ρ h (.cpy sz x y)=QK h sz (ρ x) (ρ y):=rfl
end
theorem aaQ (vars loc:List V)(k:Nat):xv vars loc (.v k)=vars.getD k .undef:=rfl
theorem abK (vars loc:List V)(k:Nat):xv vars loc (.l k)=loc.getD k .undef:=rfl
theorem XR (vars loc:List V)(x:V):xv vars loc (.c x)=x:=rfl
theorem TM (k:Nat)(vars loc:List V)(v:V):(lY (.v k) vars loc v).1=vars.set k v:=rfl
theorem UH (k:Nat)(vars loc:List V)(v:V):(lY (.v k) vars loc v).2=loc:=rfl
theorem SF (vars loc:List V)(v:V):(lY .l vars loc v).1=vars:=rfl
theorem TQ (vars loc:List V)(v:V):(lY .l vars loc v).2=v::loc:=rfl
theorem QP (vars loc:List V)(v:V):(lY .n vars loc v).1=vars:=rfl
theorem SL (vars loc:List V)(v:V):(lY .n vars loc v).2=loc:=rfl
theorem Tw (vars loc:List V)(x:X)(b:Bool):fZ vars loc (some (x,b))=(match xv vars loc x with| .bool a=>some (a==b)| .tup []=>some false|_=>none):=rfl
theorem EW (k:IntKind)(a b:Int):arith .add k a b=some (.int k (k.wrap (a+b))):=rfl
theorem FG (k:IntKind)(a b:Int):arith .sub k a b=some (.int k (k.wrap (a-b))):=rfl
theorem DQ (k:IntKind)(a b:Int):arith .mul k a b=some (.int k (k.wrap (a*b))):=rfl
theorem FF (k:IntKind)(a b:Int)(hb:b≠0):arith .quo k a b=some (.int k (k.wrap (a.tdiv b))):=by simp only[arith];rw[if_neg hb]
theorem BZ (k:IntKind)(a b:Int)(hb:b≠0):arith .rem k a b=some (.int k (a.tmod b)):=by simp only[arith];rw[if_neg hb]
theorem CM (k:IntKind)(a b:Int):arith .eql k a b=some (.bool (decide (a=b))):=by
 simp only[arith];congr 2
theorem FD (k:IntKind)(a b:Int):arith .neq k a b=some (.bool (decide (a≠b))):=by
 simp only[arith];congr 2;rw[Bool.eq_iff_iff];simp
theorem EU (k:IntKind)(a b:Int):arith .lss k a b=some (.bool (decide (a<b))):=rfl
theorem DA (k:IntKind)(a b:Int):arith .leq k a b=some (.bool (decide (a<=b))):=rfl
theorem CS (k:IntKind)(a b:Int):arith .gtr k a b=some (.bool (decide (b<a))):=rfl
theorem CZ (k:IntKind)(a b:Int):arith .geq k a b=some (.bool (decide (b<=a))):=rfl
theorem XF (k:IntKind)(a b:Int):GN false (.int k a) [.int k b]=some (.int k (if b<a then b else a)):=by
 simp only[GN,if_true,Bool.false_eq_true,if_false]
theorem YW (k:IntKind)(a b:Int):GN true (.int k a) [.int k b]=some (.int k (if b>a then b else a)):=by
 simp only[GN,if_true]
theorem BL {n:Int}(h1: -9223372036854775808<=n)(h2:n<9223372036854775808):IntKind.i64.wrap n=n:=wrap_i64 h1 h2
theorem XT (vars:List V)(h:H)(k:Nat):Ad vars h (.v k)=some (vars.getD k .undef):=rfl
theorem Yh (vars:List V)(h:H)(k:Nat):Ad vars h (.cell k false 1)=Jk h (vars.getD k .undef):=by
 have:=Rb (λ_=>vars.getD k .undef) h (.v 0);simp only[Ad];simp only[cX] at this;generalize HD h false 1 (vars.getD k .undef)=a at*;generalize Jk h (vars.getD k .undef)=b at*;cases a<;>cases b<;>simp at this ⊢;exact this
theorem Wt (vars:List V)(h:H)(k n:Nat):Ad vars h (.cell k true n)=Xs h n (vars.getD k .undef):=by
 simp only[Ad,HD,Xs];cases vars.getD k .undef<;>try rfl
 simp only;cases h.row _ _ n<;>rfl
theorem Ui {α:Type}:cQ ([]:List (Option α))=some []:=rfl
theorem Qc {α:Type}(a:α)(r:List (Option α)):cQ (some a::r)=(cQ r).map (a:: ·):=rfl
theorem MI (v:V):Ec [v]=v:=rfl
theorem NR (v u:V):Ec [v,u]= .tup [v,u]:=rfl
theorem Wd (v u t:V):Ec [v,u,t]= .tup [v,u,t]:=rfl
theorem yX:V.undef= .tup []:=rfl
theorem aE (fn:Fn)(args:List V):Ax fn args=fn.init.map λo=>match o with|some j=>args.getD j .undef|none=> .undef:=rfl
theorem DX (log:Log)(h:H):qX [] log h=true:=by simp [qX]
attribute [go_sem] RT XB VC PG WC XZ JT WU MZ JD Jh EJ Xd Uk Yb yS DL Sa Vz Tq EL NZ FN Vs Yi Ug HU HQ RN YG TV QT SG TJ BS SQ LC FL TH KV DD BR WN LI CC DR OJ HW Ss RH PO TS SA KT SO QH HT TO OZ JJ Rb Zx XU QW PW TK UP RU VB RA YH QS RO SU QD RP SH OS EY Yj Xa IK DU YF YL Bool.not_false Bool.not_true beq_true beq_false if_true if_false Bool.false_eq_true NT NQ GH MR Ww OB CH GJ IL PQ BX JM TG LV YI IQ Jw BW bW zQ aaQ abK XR TM UH SF TQ QP SL Tw EW FG DQ FF BZ CM FD EU DA CS CZ XF YW BL XT Yh Wt Ui Qc MI NR Wd DX H.aT H.aI H.aN H.bU H.pZ H.DJ H.Aq H.Gn H.Lu H.Ut H.cW H.aV true_and Option.map_some Option.map_none List.replicate_succ List.replicate_zero List.take_succ_cons List.take_zero List.length_cons List.length_nil Nat.zero_add List.foldl_cons List.foldl_nil List.map_cons List.map_nil List.getD_cons_zero List.getD_cons_succ List.set_cons_zero List.set_cons_succ List.cons_append List.nil_append List.append_nil
attribute [congr] Wq
abbrev bX (l:List V):Option Ob:=some (.cells false l)
abbrev aB (z:Int):V:=.int .i64 z
abbrev LN:=List (List Nat)
abbrev oJ:=List (List (List Nat))
theorem iK {p:Prop}[d:Decidable p](h:p):decide p=true:=decide_eq_true h
theorem fF {p:Prop}[d:Decidable p](h:¬p):decide p=false:=decide_eq_false h
theorem bP {p:Nat->Option Fn}{g:Nat}(fn:Fn){args:List V}{h:H}{Q:V->H->Prop}(hg:p g=some fn)(hl:args.length=fn.nargs)(hw:Wp p none fn.body (Ax fn args) h (OM fn.results Q)):Ev p g args h Q:=Gg hg hl hw
theorem exI.{u}{α:Sort u}(a:α):∃b,a=b:=⟨a,rfl⟩
theorem fJ (i:Nat):(i:Int)+1=((i+1:Nat):Int):=by omega
end
end Go.Ay
