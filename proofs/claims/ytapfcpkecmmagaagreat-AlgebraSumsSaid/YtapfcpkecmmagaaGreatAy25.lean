/- Rules for walking through the abstract machine's code. -/
import Derived.Test.YtapfcpkecmmagaaGreatAy23
import Derived.Attr
namespace Go.Ay
section
variable {id k off:Nat} {vs:List V}
def find:List (Nat×Fn)->Nat->Option Fn
 | [],_=>none
 |(k,f)::l,n=>cond (Nat.beq k n) (some f) (find l n)
attribute [congr] Ps ML OC GH FB DG NM Wh Rn Ui Tq Pz
def H.cell (h:H)(id off:Nat):Option V:=match h.get id with
 |some (.cells _ vs)=>vs[off]?
 |_=>none
section
variable (h:H)
theorem H.aF {h:H}{ro:Bool}(hg:h.get id=some (.cells ro vs))(off:Nat):h.cell id off=vs[off]? :=by
 unfold H.cell;rw[hg]
theorem H.aS (id:Nat)(o:Option Ob):(h.set id o).get id=o:=by rw[H.jA,if_pos rfl]
theorem H.aH (hk:k≠id)(o:Option Ob):(h.set id o).get k=h.get k:=by rw[H.jA,if_neg hk]
theorem H.aM (o:Ob):(h.new o).get h.next=some o:=by rw[H.jX,if_pos rfl]
theorem H.bD (hk:k≠h.next)(o:Ob):(h.new o).get k=h.get k:=by rw[H.jX,if_neg hk]
theorem H.oQ (n k:Nat):(H.mk h.tr n).get k=h.get k:=rfl
theorem H.ES (n k off:Nat):(H.mk h.tr n).cell k off=h.cell k off:=rfl
theorem H.zZ (id:Nat)(ro:Bool)(vs:List V)(off:Nat):(h.set id (some (.cells ro vs))).cell id off=vs[off]? :=H.aF (H.aS ..) off
theorem H.Ga (hk:k≠id)(o:Option Ob)(off:Nat):(h.set id o).cell k off=h.cell k off:=by unfold H.cell;rw[H.aH h hk]
theorem H.Lh (ro:Bool)(vs:List V)(off:Nat):(h.new (.cells ro vs)).cell h.next off=vs[off]? :=H.aF (H.aM ..) off
theorem H.Sx (hk:k≠h.next)(o:Ob)(off:Nat):(h.new o).cell k off=h.cell k off:=by unfold H.cell;rw[H.bD h hk]
end
structure Fr (h h':H):Prop where
 next:h.next<=h'.next
 get: ∀id,id<h.next->h'.get id=h.get id
theorem Fr.refl (h:H):Fr h h:=⟨iP _,λ_ _=>rfl⟩
theorem Fr.trans {a b c:H}(x:Fr a b)(y:Fr b c):Fr a c:=⟨Nat.le_trans x.next y.next,λid hid=>(y.get id (kO hid x.next)).trans (x.get id hid)⟩
theorem Fr.new {a b:H}(x:Fr a b)(o:Ob):Fr a (b.new o):=x.trans ⟨by rw[H.aV];omega,λid hid=>H.bD b (by omega) o⟩
theorem Fr.set {a b:H}(x:Fr a b)(hid:a.next<=id)(o:Option Ob):Fr a (b.set id o):=⟨x.next,λk hk=>(H.aH b (by omega) o).trans (x.get k hk)⟩
theorem Fr.bJ {a b:H}(x:Fr a b){n:Nat}(hn:b.next<=n):Fr a (H.mk b.tr n):=⟨Nat.le_trans x.next hn,λk hk=>(H.oQ b n k).trans (x.get k hk)⟩
theorem Fr.cell {a b:H}(x:Fr a b)(hid:id<a.next)(off:Nat):b.cell id off=a.cell id off:=by unfold H.cell;rw[x.get id hid]
def RV (op:BinOp)(k:IntKind)(x y:V):Option V:=match x,y with
 | .int j a,.int j' b=>if j=k/\j'=k then arith op k a b else none
 |_,_=>none
theorem MG (op:BinOp)(k:IntKind)(a b:Int):RV op k (.int k a) (.int k b)=arith op k a b:=by simp [RV]
def XY:V->Option V
 | .bool a=>some (.bool (!a))
 |_=>none
theorem DR (a:Bool):XY (.bool a)=some (.bool (!a)):=rfl
def MF (c a b:V):Option V:=match c with
 | .bool t=>some (if t then a else b)
 |_=>none
theorem Xx (t:Bool)(a b:V):MF (.bool t) a b=some (if t then a else b):=rfl
def Ia (neg:Bool):V->Option V
 | .aC=>some (.bool (!neg))
 | .sl .. | .emp _=>some (.bool neg)
 |_=>none
theorem Xy (neg:Bool):Ia neg .aC=some (.bool (!neg)):=rfl
theorem EO (neg:Bool)(a:Addr):Ia neg (.emp a)=some (.bool neg):=rfl
theorem KG (neg:Bool)(a b c:Nat)(d:qF):Ia neg (.sl a b c d)=some (.bool neg):=rfl
def RQ (neg:Bool)(x y:V):Option V:=match x,y with
 | .bool a,.bool b=>some (.bool (if neg then !(a==b) else a==b))
 |_,_=>none
theorem YW (a b:Bool):RQ false (.bool a) (.bool b)=some (.bool (a==b)):=rfl
theorem aaQ (a b:Bool):RQ true (.bool a) (.bool b)=some (.bool (!(a==b))):=rfl
def UJ (k:IntKind):V->Option V
 | .int j a=>if j=k then some (.int k (k.wrap (0-a))) else none
 |_=>none
theorem HQ (k:IntKind)(a:Int):UJ k (.int k a)=some (.int k (k.wrap (0-a))):=by simp [UJ]
def IK (k:IntKind):V->Option V
 | .int _ a=>some (.int k (k.wrap a))
 |_=>none
theorem GL (k j:IntKind)(a:Int):IK k (.int j a)=some (.int k (k.wrap a)):=rfl
def aaO (i:Nat):V->Option V
 | .tup vs=>vs[i]?
 |_=>none
theorem NS (i:Nat)(vs:List V):aaO i (.tup vs)=vs[i]? :=rfl
def dN (v:V):Option V:=(qH v).map λ(n:Nat)=>V.int .i64 (n:Int)
theorem Wt:dN .aC=some (.int .i64 0):=rfl
theorem LQ (a b c:Nat)(d:qF):dN (.sl a b c d)=some (.int .i64 (c:Int)):=rfl
def AU (agg:Bool)(off n:Nat):V->Option V
 | .agg vs=>if agg then (sub vs off n).map (λws=> .agg ws) else vs[off]?
 |_=>none
theorem GI (off n:Nat)(vs:List V):AU false off n (.agg vs)=vs[off]? :=rfl
theorem CF (off n:Nat)(vs:List V):AU true off n (.agg vs)=(sub vs off n).map (λws=> .agg ws):=rfl
def aaH (off:Nat):V->Option V
 | .ptr id o=>some (.ptr id (o+off))
 |_=>none
theorem JI (off id o:Nat):aaH off (.ptr id o)=some (.ptr id (o+off)):=rfl
def ZN:V->Option V
 | .ptr id o=>some (.ptr id o)
 |_=>none
theorem KU (id o:Nat):ZN (.ptr id o)=some (.ptr id o):=rfl
def Ko (h:H):V->Option V
 | .ptr id off=>h.cell id off
 |_=>none
theorem BS (h:H)(id off:Nat):Ko h (.ptr id off)=h.cell id off:=rfl
def Vp (h:H)(n:Nat):V->Option V
 | .ptr id off=>(h.row id off n).map .agg
 |_=>none
theorem HC (h:H)(id off n:Nat):Vp h n (.ptr id off)=(h.row id off n).map .agg:=rfl
def Za (h:H)(n:Nat)(x y:V):Option H:=match x with
 | .ptr id off=>if y.cells.length=n/\y.cells.all V.one then h.put id off y.cells else none
 |_=>none
def fO (o:Option Ob)(h:H)(id off:Nat)(ws:List V):Option H:=match o with
 |some (.cells false vs)=>(putAt vs off ws).map λvs'=>h.set id (some (.cells false vs'))
 |_=>none
theorem H.put_eq (h:H)(id off:Nat)(ws:List V):h.put id off ws=fO (h.get id) h id off ws:=by
 unfold H.put fO
 cases h.get id with
 |none=>rfl
 |some o=>cases o with
  |cells ro vs=>cases ro<;>rfl
  |_=>rfl
theorem Ys {o o':Option Ob}{h:H}{ws:List V}(e:o=o'):fO o h id off ws=fO o' h id off ws:=by rw[e]
theorem CQ (hlt:off<vs.length)(v:V):putAt vs off [v]=some (vs.set off v):=by
 unfold putAt;rw[if_pos (by simp;omega)];congr 1;rw[List.set_eq_take_append_cons_drop,if_pos hlt];simp
theorem aZ (hlt:off<vs.length)(h:H)(id:Nat)(v:V):fO (some (.cells false vs)) h id off [v]=some (h.set id (some (.cells false (vs.set off v)))):=by
 simp only[fO];rw[CQ hlt];rfl
theorem kS {y:V}(hc:y.cells= [y])(ho:y.one=true)(h:H)(id off:Nat):Za h 1 (.ptr id off) y=fO (h.get id) h id off [y]:=by
 simp only[Za,hc,List.length_singleton,List.all_cons,List.all_nil,ho,Bool.and_self,and_self,if_true,H.put_eq]
theorem UD (h:H)(id off:Nat)(k:IntKind)(a:Int):Za h 1 (.ptr id off) (.int k a)=fO (h.get id) h id off [.int k a]:=kS rfl rfl h id off
theorem GZ (h:H)(id off:Nat)(a:Bool):Za h 1 (.ptr id off) (.bool a)=fO (h.get id) h id off [.bool a]:=kS rfl rfl h id off
theorem aaS (h:H)(id off a b c:Nat)(d:qF):Za h 1 (.ptr id off) (.sl a b c d)=fO (h.get id) h id off [.sl a b c d]:=kS rfl rfl h id off
theorem JF (h:H)(id off:Nat):Za h 1 (.ptr id off) .aC=fO (h.get id) h id off [.aC]:=kS rfl rfl h id off
theorem zH (h:H)(id off n:Nat)(vs:List V)(hn:vs.length=n)(ho:vs.all V.one=true):Za h n (.ptr id off) (.agg vs)=fO (h.get id) h id off vs:=by
 simp only[Za,V.cells,hn,ho,and_self,if_true,H.put_eq]
def Gd (h:H)(x:V):Option (V×H):=if x.cells.all V.one then some (.ptr h.next 0,h.new (.cells false x.cells)) else none
theorem nV {x:V}(hc:x.cells= [x])(ho:x.one=true)(h:H):Gd h x=some (.ptr h.next 0,h.new (.cells false [x])):=by
 simp [Gd,hc,ho]
theorem Kg (h:H)(k:IntKind)(a:Int):Gd h (.int k a)=some (.ptr h.next 0,h.new (.cells false [.int k a])):=rfl
theorem FZ (h:H)(a:Bool):Gd h (.bool a)=some (.ptr h.next 0,h.new (.cells false [.bool a])):=rfl
theorem vD (h:H)(vs:List V)(ho:vs.all V.one=true):Gd h (.agg vs)=some (.ptr h.next 0,h.new (.cells false vs)):=by
 simp only[Gd,V.cells,ho,if_true]
theorem Bs {len sz:Nat}{cap:qF}{k:IntKind}{n:Int}(h0:0<=n)(h1:n<len):Nx sz (.sl id off len cap) (.int k n)=some (.ptr id (off+n.toNat*sz)):=by
 simp only[Nx];rw[if_pos ⟨h0,h1⟩]
section
variable (ρ:X->V) (h:H)
theorem UL (x:X):cU ρ h (.mov x)=some (ρ x,h):=rfl
theorem LI (c a b:X):cU ρ h (.pick c a b)=(MF (ρ c) (ρ a) (ρ b)).map (·,h):=by
 simp only[cU,MF];cases ρ c<;>rfl
theorem VA (op:BinOp)(k:IntKind)(x y:X):cU ρ h (.bin op k x y)=(RV op k (ρ x) (ρ y)).map (·,h):=by
 simp only[cU,RV];cases ρ x<;>cases ρ y<;>try rfl
 simp only;split<;>rfl
theorem UU (neg:Bool)(x y:X):cU ρ h (.beq neg x y)=(RQ neg (ρ x) (ρ y)).map (·,h):=by
 simp only[cU,RQ];cases ρ x<;>cases ρ y<;>rfl
theorem LC (neg:Bool)(x:X):cU ρ h (.snil neg x)=(Ia neg (ρ x)).map (·,h):=by
 simp only[cU,Ia];cases ρ x<;>rfl
theorem RD (x:X):cU ρ h (.not x)=(XY (ρ x)).map (·,h):=by
 simp only[cU,XY];cases ρ x<;>rfl
theorem TW (k:IntKind)(x:X):cU ρ h (.neg k x)=(UJ k (ρ x)).map (·,h):=by
 simp only[cU,UJ];cases ρ x<;>try rfl
 simp only;split<;>rfl
theorem JJ (k:IntKind)(x:X):cU ρ h (.conv k x)=(IK k (ρ x)).map (·,h):=by
 simp only[cU,IK];cases ρ x<;>rfl
theorem QA (x:X)(i:Nat):cU ρ h (.ext x i)=(aaO i (ρ x)).map (·,h):=by
 simp only[cU,aaO];cases ρ x<;>rfl
theorem OT (x:X):cU ρ h (.lens x)=(dN (ρ x)).map (·,h):=by
 simp only[cU,dN,Option.map_map];rfl
theorem PN (agg:Bool)(off n:Nat)(x:X):cU ρ h (.part agg off n x)=(AU agg off n (ρ x)).map (·,h):=by
 simp only[cU,AU];cases ρ x<;>try rfl
 cases agg
 ·rfl
 ·simp only[if_true,Option.map_map];rfl
theorem Qk (x:X):cU ρ h (.ld false 1 x)=(Ko h (ρ x)).map (·,h):=by
 simp only[cU,MA,Ko,H.row,H.cell];cases ρ x<;>try rfl
 simp only;rename_i id off
 cases h.get id with
 |none=>rfl
 |some o=>cases o with
  |cells ro vs=>
   simp only[sub]
   by_cases hlt:off<vs.length
   ·rw[if_pos (by omega),iD hlt]
    have:(vs.drop off).take 1= [vs[off]]:=by
     rw[List.drop_eq_getElem_cons hlt];rfl
    rw[this];rfl
   ·rw[if_neg (by omega),List.getElem?_eq_none (by omega)]
  |_=>rfl
theorem BE (n:Nat)(x:X):cU ρ h (.ld true n x)=(Vp h n (ρ x)).map (·,h):=by
 simp only[cU,MA,Vp];cases ρ x<;>try rfl
 simp only;cases h.row _ _ n<;>rfl
theorem YV (n:Nat)(x y:X):cU ρ h (.st n x y)=(Za h n (ρ x) (ρ y)).map λh'=>(V.undef,h'):=by
 simp only[cU,Za];cases ρ x<;>try rfl
 simp only;split<;>rfl
theorem SM (sz:Nat)(x i:X):cU ρ h (.ixa sz x i)=(Nx sz (ρ x) (ρ i)).map (·,h):=rfl
theorem RB (off:Nat)(x:X):cU ρ h (.fla off x)=(aaH off (ρ x)).map (·,h):=by
 simp only[cU,aaH];cases ρ x<;>rfl
theorem TY (x:X):cU ρ h (.nck x)=(ZN (ρ x)).map (·,h):=by
 simp only[cU,ZN];cases ρ x<;>rfl
theorem UI (sz:Nat)(x:X)(lo hi mx:Option X):cU ρ h (.slc sz x lo hi mx)=(uV sz (ρ x) (lo.map ρ) (hi.map ρ) (mx.map ρ)).map (·,h):=rfl
theorem TF (sz bytes:Nat)(zero:List V)(l c:X):cU ρ h (.mks sz bytes zero l c)=Ef h sz bytes zero (ρ l) (ρ c):=rfl
theorem TS (zero:List V):cU ρ h (.alc zero)=some (.ptr h.next 0,h.new (.cells false zero)):=rfl
theorem VN (x:X):cU ρ h (.box x)=Gd h (ρ x):=rfl
theorem ZA (mx:Bool)(x y:X):cU ρ h (.mm mx [x,y])=(GN mx (ρ x) [ρ y]).map (·,h):=rfl
theorem SY (f:Nat)(fs cs:List X):cU ρ h (.mkf f fs cs)=some (.fn f (fs.map ρ) (cs.map ρ),h):=rfl
theorem RJ:cU ρ h .mkm=some (.mp h.next,h.new (.map [])):=rfl
def Au (h:H)(sz bytes:Nat)(x y:V):Option (V×H):=match qH y,h.slice sz y with
 |some m,some ys=>vX h sz bytes x m ys
 |_,_=>none
theorem QL (sz bytes:Nat)(x y:X):cU ρ h (.app sz bytes x y)=Au h sz bytes (ρ x) (ρ y):=rfl
def tZ (zero:List V)(parts:List (Nat×Nat×V)):Option V:=(jL zero parts).map .agg
theorem QD (zero:List V)(parts:List (Nat×Nat×X)):cU ρ h (.bld zero parts)=(tZ zero (parts.map λp=>(p.1,p.2.1,ρ p.2.2))).map (·,h):=by
 simp only[cU,tZ,Option.map_map];rfl
def tC (h:H)(sz:Nat)(zero:List V)(n:Nat)(parts:List (Nat×Nat×V)):Option (V×H):=match jL (dW zero (n*sz)) parts with
  |some cs=>if cs.all V.one then some (.sl h.next 0 n (.kn n),h.new (.cells false cs)) else none
  |none=>none
theorem SG (sz:Nat)(zero:List V)(n:Nat)(parts:List (Nat×Nat×X)):cU ρ h (.bls sz zero n parts)=tC h sz zero n (parts.map λp=>(p.1,p.2.1,ρ p.2.2)):=rfl
theorem QY (sz:Nat)(x y:X):cU ρ h (.cpy sz x y)=FY h sz (ρ x) (ρ y):=rfl
end
theorem abX (vars loc:List V)(k:Nat):xv vars loc (.v k)=vars.getD k .undef:=rfl
theorem acA (vars loc:List V)(k:Nat):xv vars loc (.l k)=loc.getD k .undef:=rfl
theorem ZL (vars loc:List V)(x:V):xv vars loc (.c x)=x:=rfl
theorem VX (k:Nat)(vars loc:List V)(v:V):(lK (.v k) vars loc v).1=vars.set k v:=rfl
theorem QT (k:Nat)(vars loc:List V)(v:V):(lK (.v k) vars loc v).2=loc:=rfl
theorem QQ (vars loc:List V)(v:V):(lK .l vars loc v).1=vars:=rfl
theorem VH (vars loc:List V)(v:V):(lK .l vars loc v).2=v::loc:=rfl
theorem UA (vars loc:List V)(v:V):(lK .n vars loc v).1=vars:=rfl
theorem RO (vars loc:List V)(v:V):(lK .n vars loc v).2=loc:=rfl
theorem Rq (vars loc:List V)(x:X)(b:Bool):fV vars loc (some (x,b))=(match xv vars loc x with| .bool a=>some (a==b)| .tup []=>some false|_=>none):=rfl
theorem GF (k:IntKind)(a b:Int):arith .add k a b=some (.int k (k.wrap (a+b))):=rfl
theorem CK (k:IntKind)(a b:Int):arith .sub k a b=some (.int k (k.wrap (a-b))):=rfl
theorem DS (k:IntKind)(a b:Int):arith .mul k a b=some (.int k (k.wrap (a*b))):=rfl
theorem CO (k:IntKind)(a b:Int)(hb:b≠0):arith .quo k a b=some (.int k (k.wrap (a.tdiv b))):=by simp only[arith];rw[if_neg hb]
theorem GA (k:IntKind)(a b:Int)(hb:b≠0):arith .rem k a b=some (.int k (a.tmod b)):=by simp only[arith];rw[if_neg hb]
theorem FC (k:IntKind)(a b:Int):arith .eql k a b=some (.bool (decide (a=b))):=by
 simp only[arith];congr 2
theorem CW (k:IntKind)(a b:Int):arith .neq k a b=some (.bool (decide (a≠b))):=by
 simp only[arith];congr 2;rw[Bool.eq_iff_iff];simp
theorem DZ (k:IntKind)(a b:Int):arith .lss k a b=some (.bool (decide (a<b))):=rfl
theorem EY (k:IntKind)(a b:Int):arith .leq k a b=some (.bool (decide (a<=b))):=rfl
theorem DA (k:IntKind)(a b:Int):arith .gtr k a b=some (.bool (decide (b<a))):=rfl
theorem EW (k:IntKind)(a b:Int):arith .geq k a b=some (.bool (decide (b<=a))):=rfl
theorem XC (k:IntKind)(a b:Int):GN false (.int k a) [.int k b]=some (.int k (if b<a then b else a)):=by
 simp only[GN,if_true,Bool.false_eq_true,if_false]
theorem WW (k:IntKind)(a b:Int):GN true (.int k a) [.int k b]=some (.int k (if b>a then b else a)):=by
 simp only[GN,if_true]
theorem AO {n:Int}(h1: -9223372036854775808<=n)(h2:n<9223372036854775808):IntKind.i64.wrap n=n:=wrap_i64 h1 h2
theorem ZZ (vars:List V)(h:H)(k:Nat):zR vars h (.v k)=some (vars.getD k .undef):=rfl
theorem Wj (vars:List V)(h:H)(k:Nat):zR vars h (.cell k false 1)=Ko h (vars.getD k .undef):=by
 have:=Qk (λ_=>vars.getD k .undef) h (.v 0);simp only[zR];simp only[cU] at this;generalize MA h false 1 (vars.getD k .undef)=a at*;generalize Ko h (vars.getD k .undef)=b at*;cases a<;>cases b<;>simp at this ⊢;exact this
theorem Xc (vars:List V)(h:H)(k n:Nat):zR vars h (.cell k true n)=Vp h n (vars.getD k .undef):=by
 simp only[zR,MA,Vp];cases vars.getD k .undef<;>try rfl
 simp only;cases h.row _ _ n<;>rfl
theorem Uf {α:Type}:cH ([]:List (Option α))=some []:=rfl
theorem Ol {α:Type}(a:α)(r:List (Option α)):cH (some a::r)=(cH r).map (a:: ·):=rfl
theorem OJ (v:V):Eg [v]=v:=rfl
theorem IB (v u:V):Eg [v,u]= .tup [v,u]:=rfl
theorem Xt (v u t:V):Eg [v,u,t]= .tup [v,u,t]:=rfl
theorem Ki:V.undef= .tup []:=rfl
theorem aE (fn:Fn)(args:List V):zW fn args=fn.init.map λo=>match o with|some j=>args.getD j .undef|none=> .undef:=rfl
theorem CH (log:Log)(h:H):qD [] log h=true:=by simp [qD]
attribute [go_sem] UB ZM UG MO aaC ZO MS YL LM KZ Ix DY Xq Rf Vc xT CX Tu Vf Uh EH IW BN Xw Wr Ri KH KL RG WY TV VB SZ RI CL QO KX DJ SS HH FH DN ZH GV CT BX NR OV Ur UL LI VA UU LC RD TW JJ QA OT PN Qk BE YV SM RB TY UI TF TS VN ZA SY RJ QL QD SG QY MG DR Xx Xy KG EO YW aaQ Bool.not_false Bool.not_true beq_true beq_false if_true if_false Bool.false_eq_true HX HQ GL NS Wt LQ GI CF JI KU BS HC UD GZ aaS JF Kg FZ aZ Bs abX acA ZL VX QT QQ VH UA RO Rq GF CK DS CO GA FC CW DZ EY DA EW XC WW AO ZZ Wj Xc Uf Ol OJ IB Xt CH H.aS H.aH H.aM H.bD H.oQ H.ES H.zZ H.Ga H.Lh H.Sx H.cW H.aV true_and Option.map_some Option.map_none List.replicate_succ List.replicate_zero List.take_succ_cons List.take_zero List.length_cons List.length_nil Nat.zero_add List.foldl_cons List.foldl_nil List.map_cons List.map_nil List.getD_cons_zero List.getD_cons_succ List.set_cons_zero List.set_cons_succ List.cons_append List.nil_append List.append_nil
attribute [congr] Ys
abbrev cG (l:List V):Option Ob:=some (.cells false l)
abbrev aB (z:Int):V:=.int .i64 z
abbrev LN:=List (List Nat)
abbrev pF:=List (List (List Nat))
theorem mL {p:Prop}[d:Decidable p](h:p):decide p=true:=decide_eq_true h
theorem iZ {p:Prop}[d:Decidable p](h:¬p):decide p=false:=decide_eq_false h
theorem bN {p:Nat->Option Fn}{g:Nat}(fn:Fn){args:List V}{h:H}{Q:V->H->Prop}(hg:p g=some fn)(hl:args.length=fn.nargs)(hw:Wp p none fn.body (zW fn args) h (MD fn.results Q)):Ev p g args h Q:=Fz hg hl hw
theorem exI.{u}{α:Sort u}(a:α):∃b,a=b:=⟨a,rfl⟩
theorem jJ (i:Nat):(i:Int)+1=((i+1:Nat):Int):=by omega
end
end Go.Ay
