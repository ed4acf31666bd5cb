/- Rules for walking through the abstract machine's code. -/
import Derived.Test.YtapfcpkecmmagaaGreatAy23
import Derived.Attr
namespace Go.Ay
section
variable {id k off:Nat} {vs:List V}
def find:List (Nat×Fn)->Nat->Option Fn
 | [],_=>none
 |(k,f)::l,n=>cond (Nat.beq k n) (some f) (find l n)
attribute [congr] Mv HW GX DY BK AM ND Wx Qo Pv Pz Ol
def H.cell (h:H)(id off:Nat):Option V:=match h.get id with
 |some (.cells _ vs)=>vs[off]?
 |_=>none
section
variable (h:H)
theorem H.aF {h:H}{ro:Bool}(hg:h.get id=some (.cells ro vs))(off:Nat):h.cell id off=vs[off]? :=by
 unfold H.cell;rw[hg]
theorem H.aQ (id:Nat)(o:Option Ob):(h.set id o).get id=o:=by rw[H.iU,if_pos rfl]
theorem H.aH (hk:k≠id)(o:Option Ob):(h.set id o).get k=h.get k:=by rw[H.iU,if_neg hk]
theorem H.aL (o:Ob):(h.new o).get h.next=some o:=by rw[H.jV,if_pos rfl]
theorem H.aY (hk:k≠h.next)(o:Ob):(h.new o).get k=h.get k:=by rw[H.jV,if_neg hk]
theorem H.oV (n k:Nat):(H.mk h.tr n).get k=h.get k:=rfl
theorem H.EZ (n k off:Nat):(H.mk h.tr n).cell k off=h.cell k off:=rfl
theorem H.yZ (id:Nat)(ro:Bool)(vs:List V)(off:Nat):(h.set id (some (.cells ro vs))).cell id off=vs[off]? :=H.aF (H.aQ ..) off
theorem H.Es (hk:k≠id)(o:Option Ob)(off:Nat):(h.set id o).cell k off=h.cell k off:=by unfold H.cell;rw[H.aH h hk]
theorem H.Jz (ro:Bool)(vs:List V)(off:Nat):(h.new (.cells ro vs)).cell h.next off=vs[off]? :=H.aF (H.aL ..) off
theorem H.Qy (hk:k≠h.next)(o:Ob)(off:Nat):(h.new o).cell k off=h.cell k off:=by unfold H.cell;rw[H.aY h hk]
end
structure Fr (h h':H):Prop where
 next:h.next<=h'.next
 get: ∀id,id<h.next->h'.get id=h.get id
theorem Fr.refl (h:H):Fr h h:=⟨iL _,λ_ _=>rfl⟩
theorem Fr.trans {a b c:H}(x:Fr a b)(y:Fr b c):Fr a c:=⟨Nat.le_trans x.next y.next,λid hid=>(y.get id (kN hid x.next)).trans (x.get id hid)⟩
theorem Fr.new {a b:H}(x:Fr a b)(o:Ob):Fr a (b.new o):=x.trans ⟨by rw[H.aT];omega,λid hid=>H.aY b (by omega) o⟩
theorem Fr.set {a b:H}(x:Fr a b)(hid:a.next<=id)(o:Option Ob):Fr a (b.set id o):=⟨x.next,λk hk=>(H.aH b (by omega) o).trans (x.get k hk)⟩
theorem Fr.bM {a b:H}(x:Fr a b){n:Nat}(hn:b.next<=n):Fr a (H.mk b.tr n):=⟨Nat.le_trans x.next hn,λk hk=>(H.oV b n k).trans (x.get k hk)⟩
theorem Fr.cell {a b:H}(x:Fr a b)(hid:id<a.next)(off:Nat):b.cell id off=a.cell id off:=by unfold H.cell;rw[x.get id hid]
def OC (op:BinOp)(k:IntKind)(x y:V):Option V:=match x,y with
 | .int j a,.int j' b=>if j=k/\j'=k then arith op k a b else none
 |_,_=>none
theorem IU (op:BinOp)(k:IntKind)(a b:Int):OC op k (.int k a) (.int k b)=arith op k a b:=by simp [OC]
def XM:V->Option V
 | .bool a=>some (.bool (!a))
 |_=>none
theorem CT (a:Bool):XM (.bool a)=some (.bool (!a)):=rfl
def MK (c a b:V):Option V:=match c with
 | .bool t=>some (if t then a else b)
 |_=>none
theorem Ws (t:Bool)(a b:V):MK (.bool t) a b=some (if t then a else b):=rfl
def Hj (neg:Bool):V->Option V
 | .aC=>some (.bool (!neg))
 | .sl .. | .emp _=>some (.bool neg)
 |_=>none
theorem Vf (neg:Bool):Hj neg .aC=some (.bool (!neg)):=rfl
theorem CB (neg:Bool)(a:Addr):Hj neg (.emp a)=some (.bool neg):=rfl
theorem HJ (neg:Bool)(a b c:Nat)(d:pY):Hj neg (.sl a b c d)=some (.bool neg):=rfl
def PT (neg:Bool)(x y:V):Option V:=match x,y with
 | .bool a,.bool b=>some (.bool (if neg then !(a==b) else a==b))
 |_,_=>none
theorem VM (a b:Bool):PT false (.bool a) (.bool b)=some (.bool (a==b)):=rfl
theorem VO (a b:Bool):PT true (.bool a) (.bool b)=some (.bool (!(a==b))):=rfl
def RN (k:IntKind):V->Option V
 | .int j a=>if j=k then some (.int k (k.wrap (0-a))) else none
 |_=>none
theorem LG (k:IntKind)(a:Int):RN k (.int k a)=some (.int k (k.wrap (0-a))):=by simp [RN]
def GG (k:IntKind):V->Option V
 | .int _ a=>some (.int k (k.wrap a))
 |_=>none
theorem DC (k j:IntKind)(a:Int):GG k (.int j a)=some (.int k (k.wrap a)):=rfl
def WE (i:Nat):V->Option V
 | .tup vs=>vs[i]?
 |_=>none
theorem KH (i:Nat)(vs:List V):WE i (.tup vs)=vs[i]? :=rfl
def dR (v:V):Option V:=(qC v).map λ(n:Nat)=>V.int .i64 (n:Int)
theorem Ug:dR .aC=some (.int .i64 0):=rfl
theorem GA (a b c:Nat)(d:pY):dR (.sl a b c d)=some (.int .i64 (c:Int)):=rfl
def Zs (agg:Bool)(off n:Nat):V->Option V
 | .agg vs=>if agg then (sub vs off n).map (λws=> .agg ws) else vs[off]?
 |_=>none
theorem CN (off n:Nat)(vs:List V):Zs false off n (.agg vs)=vs[off]? :=rfl
theorem EX (off n:Nat)(vs:List V):Zs true off n (.agg vs)=(sub vs off n).map (λws=> .agg ws):=rfl
def XO (off:Nat):V->Option V
 | .ptr id o=>some (.ptr id (o+off))
 |_=>none
theorem MZ (off id o:Nat):XO off (.ptr id o)=some (.ptr id (o+off)):=rfl
def XA:V->Option V
 | .ptr id o=>some (.ptr id o)
 |_=>none
theorem KL (id o:Nat):XA (.ptr id o)=some (.ptr id o):=rfl
def Jb (h:H):V->Option V
 | .ptr id off=>h.cell id off
 |_=>none
theorem EY (h:H)(id off:Nat):Jb h (.ptr id off)=h.cell id off:=rfl
def Ub (h:H)(n:Nat):V->Option V
 | .ptr id off=>(h.row id off n).map .agg
 |_=>none
theorem NO (h:H)(id off n:Nat):Ub h n (.ptr id off)=(h.row id off n).map .agg:=rfl
def AD (h:H)(n:Nat)(x y:V):Option H:=match x with
 | .ptr id off=>if y.cells.length=n/\y.cells.all V.one then h.put id off y.cells else none
 |_=>none
def fJ (o:Option Ob)(h:H)(id off:Nat)(ws:List V):Option H:=match o with
 |some (.cells false vs)=>(putAt vs off ws).map λvs'=>h.set id (some (.cells false vs'))
 |_=>none
theorem H.put_eq (h:H)(id off:Nat)(ws:List V):h.put id off ws=fJ (h.get id) h id off ws:=by
 unfold H.put fJ
 cases h.get id with
 |none=>rfl
 |some o=>cases o with
  |cells ro vs=>cases ro<;>rfl
  |_=>rfl
theorem Vw {o o':Option Ob}{h:H}{ws:List V}(e:o=o'):fJ o h id off ws=fJ o' h id off ws:=by rw[e]
theorem AQ (hlt:off<vs.length)(v:V):putAt vs off [v]=some (vs.set off v):=by
 unfold putAt;rw[if_pos (by simp;omega)];congr 1;rw[List.set_eq_take_append_cons_drop,if_pos hlt];simp
theorem aZ (hlt:off<vs.length)(h:H)(id:Nat)(v:V):fJ (some (.cells false vs)) h id off [v]=some (h.set id (some (.cells false (vs.set off v)))):=by
 simp only[fJ];rw[AQ hlt];rfl
theorem kO {y:V}(hc:y.cells= [y])(ho:y.one=true)(h:H)(id off:Nat):AD h 1 (.ptr id off) y=fJ (h.get id) h id off [y]:=by
 simp only[AD,hc,List.length_singleton,List.all_cons,List.all_nil,ho,Bool.and_self,and_self,if_true,H.put_eq]
theorem RV (h:H)(id off:Nat)(k:IntKind)(a:Int):AD h 1 (.ptr id off) (.int k a)=fJ (h.get id) h id off [.int k a]:=kO rfl rfl h id off
theorem MF (h:H)(id off:Nat)(a:Bool):AD h 1 (.ptr id off) (.bool a)=fJ (h.get id) h id off [.bool a]:=kO rfl rfl h id off
theorem WU (h:H)(id off a b c:Nat)(d:pY):AD h 1 (.ptr id off) (.sl a b c d)=fJ (h.get id) h id off [.sl a b c d]:=kO rfl rfl h id off
theorem KK (h:H)(id off:Nat):AD h 1 (.ptr id off) .aC=fJ (h.get id) h id off [.aC]:=kO rfl rfl h id off
theorem yE (h:H)(id off n:Nat)(vs:List V)(hn:vs.length=n)(ho:vs.all V.one=true):AD h n (.ptr id off) (.agg vs)=fJ (h.get id) h id off vs:=by
 simp only[AD,V.cells,hn,ho,and_self,if_true,H.put_eq]
def Jk (h:H)(x:V):Option (V×H):=if x.cells.all V.one then some (.ptr h.next 0,h.new (.cells false x.cells)) else none
theorem nX {x:V}(hc:x.cells= [x])(ho:x.one=true)(h:H):Jk h x=some (.ptr h.next 0,h.new (.cells false [x])):=by
 simp [Jk,hc,ho]
theorem Iu (h:H)(k:IntKind)(a:Int):Jk h (.int k a)=some (.ptr h.next 0,h.new (.cells false [.int k a])):=rfl
theorem EF (h:H)(a:Bool):Jk h (.bool a)=some (.ptr h.next 0,h.new (.cells false [.bool a])):=rfl
theorem xO (h:H)(vs:List V)(ho:vs.all V.one=true):Jk h (.agg vs)=some (.ptr h.next 0,h.new (.cells false vs)):=by
 simp only[Jk,V.cells,ho,if_true]
theorem yQ {len sz:Nat}{cap:pY}{k:IntKind}{n:Int}(h0:0<=n)(h1:n<len):Jw sz (.sl id off len cap) (.int k n)=some (.ptr id (off+n.toNat*sz)):=by
 simp only[Jw];rw[if_pos ⟨h0,h1⟩]
section
variable (ρ:X->V) (h:H)
theorem QB (x:X):cG ρ h (.mov x)=some (ρ x,h):=rfl
theorem IY (c a b:X):cG ρ h (.pick c a b)=(MK (ρ c) (ρ a) (ρ b)).map (·,h):=by
 simp only[cG,MK];cases ρ c<;>rfl
theorem PU (op:BinOp)(k:IntKind)(x y:X):cG ρ h (.bin op k x y)=(OC op k (ρ x) (ρ y)).map (·,h):=by
 simp only[cG,OC];cases ρ x<;>cases ρ y<;>try rfl
 simp only;split<;>rfl
theorem QU (neg:Bool)(x y:X):cG ρ h (.beq neg x y)=(PT neg (ρ x) (ρ y)).map (·,h):=by
 simp only[cG,PT];cases ρ x<;>cases ρ y<;>rfl
theorem LS (neg:Bool)(x:X):cG ρ h (.snil neg x)=(Hj neg (ρ x)).map (·,h):=by
 simp only[cG,Hj];cases ρ x<;>rfl
theorem SU (x:X):cG ρ h (.not x)=(XM (ρ x)).map (·,h):=by
 simp only[cG,XM];cases ρ x<;>rfl
theorem NY (k:IntKind)(x:X):cG ρ h (.neg k x)=(RN k (ρ x)).map (·,h):=by
 simp only[cG,RN];cases ρ x<;>try rfl
 simp only;split<;>rfl
theorem GQ (k:IntKind)(x:X):cG ρ h (.conv k x)=(GG k (ρ x)).map (·,h):=by
 simp only[cG,GG];cases ρ x<;>rfl
theorem RQ (x:X)(i:Nat):cG ρ h (.ext x i)=(WE i (ρ x)).map (·,h):=by
 simp only[cG,WE];cases ρ x<;>rfl
theorem FU (x:X):cG ρ h (.lens x)=(dR (ρ x)).map (·,h):=by
 simp only[cG,dR,Option.map_map];rfl
theorem NB (agg:Bool)(off n:Nat)(x:X):cG ρ h (.part agg off n x)=(Zs agg off n (ρ x)).map (·,h):=by
 simp only[cG,Zs];cases ρ x<;>try rfl
 cases agg
 ·rfl
 ·simp only[if_true,Option.map_map];rfl
theorem Ot (x:X):cG ρ h (.ld false 1 x)=(Jb h (ρ x)).map (·,h):=by
 simp only[cG,GO,Jb,H.row,H.cell];cases ρ x<;>try rfl
 simp only;rename_i id off
 cases h.get id with
 |none=>rfl
 |some o=>cases o with
  |cells ro vs=>
   simp only[sub]
   by_cases hlt:off<vs.length
   ·rw[if_pos (by omega),iI hlt]
    have:(vs.drop off).take 1= [vs[off]]:=by
     rw[List.drop_eq_getElem_cons hlt];rfl
    rw[this];rfl
   ·rw[if_neg (by omega),List.getElem?_eq_none (by omega)]
  |_=>rfl
theorem Yf (n:Nat)(x:X):cG ρ h (.ld true n x)=(Ub h n (ρ x)).map (·,h):=by
 simp only[cG,GO,Ub];cases ρ x<;>try rfl
 simp only;cases h.row _ _ n<;>rfl
theorem XU (n:Nat)(x y:X):cG ρ h (.st n x y)=(AD h n (ρ x) (ρ y)).map λh'=>(V.undef,h'):=by
 simp only[cG,AD];cases ρ x<;>try rfl
 simp only;split<;>rfl
theorem SJ (sz:Nat)(x i:X):cG ρ h (.ixa sz x i)=(Jw sz (ρ x) (ρ i)).map (·,h):=rfl
theorem ON (off:Nat)(x:X):cG ρ h (.fla off x)=(XO off (ρ x)).map (·,h):=by
 simp only[cG,XO];cases ρ x<;>rfl
theorem OY (x:X):cG ρ h (.nck x)=(XA (ρ x)).map (·,h):=by
 simp only[cG,XA];cases ρ x<;>rfl
theorem OQ (sz:Nat)(x:X)(lo hi mx:Option X):cG ρ h (.slc sz x lo hi mx)=(rG sz (ρ x) (lo.map ρ) (hi.map ρ) (mx.map ρ)).map (·,h):=rfl
theorem RS (sz bytes:Nat)(zero:List V)(l c:X):cG ρ h (.mks sz bytes zero l c)=Cv h sz bytes zero (ρ l) (ρ c):=rfl
theorem OI (zero:List V):cG ρ h (.alc zero)=some (.ptr h.next 0,h.new (.cells false zero)):=rfl
theorem PO (x:X):cG ρ h (.box x)=Jk h (ρ x):=rfl
theorem XI (mx:Bool)(x y:X):cG ρ h (.mm mx [x,y])=(FF mx (ρ x) [ρ y]).map (·,h):=rfl
theorem QR (f:Nat)(fs cs:List X):cG ρ h (.mkf f fs cs)=some (.fn f (fs.map ρ) (cs.map ρ),h):=rfl
theorem PB:cG ρ h .mkm=some (.mp h.next,h.new (.map [])):=rfl
def Ak (h:H)(sz bytes:Nat)(x y:V):Option (V×H):=match qC y,h.slice sz y with
 |some m,some ys=>tX h sz bytes x m ys
 |_,_=>none
theorem OG (sz bytes:Nat)(x y:X):cG ρ h (.app sz bytes x y)=Ak h sz bytes (ρ x) (ρ y):=rfl
def vN (zero:List V)(parts:List (Nat×Nat×V)):Option V:=(iZ zero parts).map .agg
theorem TL (zero:List V)(parts:List (Nat×Nat×X)):cG ρ h (.bld zero parts)=(vN zero (parts.map λp=>(p.1,p.2.1,ρ p.2.2))).map (·,h):=by
 simp only[cG,vN,Option.map_map];rfl
def qS (h:H)(sz:Nat)(zero:List V)(n:Nat)(parts:List (Nat×Nat×V)):Option (V×H):=match iZ (dK zero (n*sz)) parts with
  |some cs=>if cs.all V.one then some (.sl h.next 0 n (.kn n),h.new (.cells false cs)) else none
  |none=>none
theorem QY (sz:Nat)(zero:List V)(n:Nat)(parts:List (Nat×Nat×X)):cG ρ h (.bls sz zero n parts)=qS h sz zero n (parts.map λp=>(p.1,p.2.1,ρ p.2.2)):=rfl
theorem QD (sz:Nat)(x y:X):cG ρ h (.cpy sz x y)=EH h sz (ρ x) (ρ y):=rfl
end
theorem aaS (vars loc:List V)(k:Nat):xv vars loc (.v k)=vars.getD k .undef:=rfl
theorem aaK (vars loc:List V)(k:Nat):xv vars loc (.l k)=loc.getD k .undef:=rfl
theorem XW (vars loc:List V)(x:V):xv vars loc (.c x)=x:=rfl
theorem SK (k:Nat)(vars loc:List V)(v:V):(lK (.v k) vars loc v).1=vars.set k v:=rfl
theorem PZ (k:Nat)(vars loc:List V)(v:V):(lK (.v k) vars loc v).2=loc:=rfl
theorem QP (vars loc:List V)(v:V):(lK .l vars loc v).1=vars:=rfl
theorem QK (vars loc:List V)(v:V):(lK .l vars loc v).2=v::loc:=rfl
theorem OV (vars loc:List V)(v:V):(lK .n vars loc v).1=vars:=rfl
theorem QF (vars loc:List V)(v:V):(lK .n vars loc v).2=loc:=rfl
theorem Sa (vars loc:List V)(x:X)(b:Bool):fO vars loc (some (x,b))=(match xv vars loc x with| .bool a=>some (a==b)| .tup []=>some false|_=>none):=rfl
theorem BU (k:IntKind)(a b:Int):arith .add k a b=some (.int k (k.wrap (a+b))):=rfl
theorem DF (k:IntKind)(a b:Int):arith .sub k a b=some (.int k (k.wrap (a-b))):=rfl
theorem BP (k:IntKind)(a b:Int):arith .mul k a b=some (.int k (k.wrap (a*b))):=rfl
theorem DD (k:IntKind)(a b:Int)(hb:b≠0):arith .quo k a b=some (.int k (k.wrap (a.tdiv b))):=by simp only[arith];rw[if_neg hb]
theorem DX (k:IntKind)(a b:Int)(hb:b≠0):arith .rem k a b=some (.int k (a.tmod b)):=by simp only[arith];rw[if_neg hb]
theorem DH (k:IntKind)(a b:Int):arith .eql k a b=some (.bool (decide (a=b))):=by
 simp only[arith];congr 2
theorem DS (k:IntKind)(a b:Int):arith .neq k a b=some (.bool (decide (a≠b))):=by
 simp only[arith];congr 2;rw[Bool.eq_iff_iff];simp
theorem DM (k:IntKind)(a b:Int):arith .lss k a b=some (.bool (decide (a<b))):=rfl
theorem DU (k:IntKind)(a b:Int):arith .leq k a b=some (.bool (decide (a<=b))):=rfl
theorem CX (k:IntKind)(a b:Int):arith .gtr k a b=some (.bool (decide (b<a))):=rfl
theorem BJ (k:IntKind)(a b:Int):arith .geq k a b=some (.bool (decide (b<=a))):=rfl
theorem WL (k:IntKind)(a b:Int):FF false (.int k a) [.int k b]=some (.int k (if b<a then b else a)):=by
 simp only[FF,if_true,Bool.false_eq_true,if_false]
theorem XP (k:IntKind)(a b:Int):FF true (.int k a) [.int k b]=some (.int k (if b>a then b else a)):=by
 simp only[FF,if_true]
theorem Xx {n:Int}(h1: -9223372036854775808<=n)(h2:n<9223372036854775808):IntKind.i64.wrap n=n:=wrap_i64 h1 h2
theorem UQ (vars:List V)(h:H)(k:Nat):yW vars h (.v k)=some (vars.getD k .undef):=rfl
theorem Tz (vars:List V)(h:H)(k:Nat):yW vars h (.cell k false 1)=Jb h (vars.getD k .undef):=by
 have:=Ot (λ_=>vars.getD k .undef) h (.v 0);simp only[yW];simp only[cG] at this;generalize GO h false 1 (vars.getD k .undef)=a at*;generalize Jb h (vars.getD k .undef)=b at*;cases a<;>cases b<;>simp at this ⊢;exact this
theorem Um (vars:List V)(h:H)(k n:Nat):yW vars h (.cell k true n)=Ub h n (vars.getD k .undef):=by
 simp only[yW,GO,Ub];cases vars.getD k .undef<;>try rfl
 simp only;cases h.row _ _ n<;>rfl
theorem Re {α:Type}:bY ([]:List (Option α))=some []:=rfl
theorem Oq {α:Type}(a:α)(r:List (Option α)):bY (some a::r)=(bY r).map (a:: ·):=rfl
theorem NS (v:V):Dp [v]=v:=rfl
theorem KV (v u:V):Dp [v,u]= .tup [v,u]:=rfl
theorem Xk (v u t:V):Dp [v,u,t]= .tup [v,u,t]:=rfl
theorem Iz:V.undef= .tup []:=rfl
theorem aE (fn:Fn)(args:List V):zE fn args=fn.init.map λo=>match o with|some j=>args.getD j .undef|none=> .undef:=rfl
theorem AU (log:Log)(h:H):pL [] log h=true:=by simp [pL]
attribute [go_sem] TM VD QH JC UP YF MB XQ HA KX Hu DQ Xn Qc Us xX DO Sd Ua Rc AO IC BB Uj Ud Rs LA MR QG WZ OB RM PK PE DB SW NK CD PX MG BF EW VC JM CS BY MJ HL Tc QB IY PU QU LS SU NY GQ RQ FU NB Ot Yf XU SJ ON OY OQ RS OI PO XI QR PB OG TL QY QD IU CT Ws Vf HJ CB VM VO Bool.not_false Bool.not_true beq_true beq_false if_true if_false Bool.false_eq_true GL LG DC KH Ug GA CN EX MZ KL EY NO RV MF WU KK Iu EF aZ yQ aaS aaK XW SK PZ QP QK OV QF Sa BU DF BP DD DX DH DS DM DU CX BJ WL XP Xx UQ Tz Um Re Oq NS KV Xk AU H.aQ H.aH H.aL H.aY H.oV H.EZ H.yZ H.Es H.Jz H.Qy H.cK H.aT true_and Option.map_some Option.map_none List.replicate_succ List.replicate_zero List.take_succ_cons List.take_zero List.length_cons List.length_nil Nat.zero_add List.foldl_cons List.foldl_nil List.map_cons List.map_nil List.getD_cons_zero List.getD_cons_succ List.set_cons_zero List.set_cons_succ List.cons_append List.nil_append List.append_nil
attribute [congr] Vw
abbrev bX (l:List V):Option Ob:=some (.cells false l)
abbrev aA (z:Int):V:=.int .i64 z
abbrev LN:=List (List Nat)
abbrev oQ:=List (List (List Nat))
theorem oD {p:Prop}[d:Decidable p](h:p):decide p=true:=decide_eq_true h
theorem kU {p:Prop}[d:Decidable p](h:¬p):decide p=false:=decide_eq_false h
theorem bL {p:Nat->Option Fn}{g:Nat}(fn:Fn){args:List V}{h:H}{Q:V->H->Prop}(hg:p g=some fn)(hl:args.length=fn.nargs)(hw:Wp p none fn.body (zE fn args) h (ME fn.results Q)):Ev p g args h Q:=Et hg hl hw
theorem exI.{u}{α:Sort u}(a:α):∃b,a=b:=⟨a,rfl⟩
theorem jP (i:Nat):(i:Int)+1=((i+1:Nat):Int):=by omega
end
end Go.Ay
