/- Rules for walking through the abstract machine's code. -/
import Derived.Test.YtddpkbicnolafaaGreatAy23
import Derived.Attr
namespace Go.Ay
variable {id k off:Nat} {vs:List V}
def find:List (Nat×Fn)->Nat->Option Fn
 | [],_=>none
 |(k,f)::l,n=>cond (Nat.beq k n) (some f) (find l n)
attribute [congr] Rf LI IG CF DZ GG JJ Yl Vl Vh Vv Qa
def H.cell (h:H)(id off:Nat):Option V:=match h.get id with
 |some (.cells _ vs)=>vs[off]?
 |_=>none
section
variable (h:H)
theorem H.aF {h:H}{ro:Bool}(hg:h.get id=some (.cells ro vs))(off:Nat):h.cell id off=vs[off]? :=by
 unfold H.cell;rw[hg]
theorem H.aT (id:Nat)(o:Option Ob):(h.set id o).get id=o:=by rw[H.jK,if_pos rfl]
theorem H.aG (hk:k≠id)(o:Option Ob):(h.set id o).get k=h.get k:=by rw[H.jK,if_neg hk]
theorem H.aN (o:Ob):(h.new o).get h.next=some o:=by rw[H.kH,if_pos rfl]
theorem H.bI (hk:k≠h.next)(o:Ob):(h.new o).get k=h.get k:=by rw[H.kH,if_neg hk]
theorem H.pZ (n k:Nat):(H.mk h.tr n).get k=h.get k:=rfl
theorem H.FQ (n k off:Nat):(H.mk h.tr n).cell k off=h.cell k off:=rfl
theorem H.Bn (id:Nat)(ro:Bool)(vs:List V)(off:Nat):(h.set id (some (.cells ro vs))).cell id off=vs[off]? :=H.aF (H.aT ..) off
theorem H.uE (hk:k≠id)(o:Option Ob)(off:Nat):(h.set id o).cell k off=h.cell k off:=by unfold H.cell;rw[H.aG h hk]
theorem H.Mh (ro:Bool)(vs:List V)(off:Nat):(h.new (.cells ro vs)).cell h.next off=vs[off]? :=H.aF (H.aN ..) off
theorem H.Ub (hk:k≠h.next)(o:Ob)(off:Nat):(h.new o).cell k off=h.cell k off:=by unfold H.cell;rw[H.bI h hk]
end
structure Fr (h h':H):Prop where
 next:h.next<=h'.next
 get: ∀id,id<h.next->h'.get id=h.get id
theorem Fr.refl (h:H):Fr h h:=⟨fZ _,λ_ _=>rfl⟩
theorem Fr.trans {a b c:H}(x:Fr a b)(y:Fr b c):Fr a c:=⟨Nat.le_trans x.next y.next,λid hid=>(y.get id (lA hid x.next)).trans (x.get id hid)⟩
theorem Fr.new {a b:H}(x:Fr a b)(o:Ob):Fr a (b.new o):=x.trans ⟨by rw[H.aV];omega,λid hid=>H.bI b (by omega) o⟩
theorem Fr.set {a b:H}(x:Fr a b)(hid:a.next<=id)(o:Option Ob):Fr a (b.set id o):=⟨x.next,λk hk=>(H.aG b (by omega) o).trans (x.get k hk)⟩
theorem Fr.bF {a b:H}(x:Fr a b){n:Nat}(hn:b.next<=n):Fr a (H.mk b.tr n):=⟨Nat.le_trans x.next hn,λk hk=>(H.pZ b n k).trans (x.get k hk)⟩
theorem Fr.cell {a b:H}(x:Fr a b)(hid:id<a.next)(off:Nat):b.cell id off=a.cell id off:=by unfold H.cell;rw[x.get id hid]
def PZ (op:BinOp)(k:IntKind)(x y:V):Option V:=match x,y with
 | .int j a,.int j' b=>if j=k/\j'=k then arith op k a b else none
 |_,_=>none
theorem KQ (op:BinOp)(k:IntKind)(a b:Int):PZ op k (.int k a) (.int k b)=arith op k a b:=by simp [PZ]
def YQ:V->Option V
 | .bool a=>some (.bool (!a))
 |_=>none
theorem DY (a:Bool):YQ (.bool a)=some (.bool (!a)):=rfl
def HH (c a b:V):Option V:=match c with
 | .bool t=>some (if t then a else b)
 |_=>none
theorem Yg (t:Bool)(a b:V):HH (.bool t) a b=some (if t then a else b):=rfl
def Jh (neg:Bool):V->Option V
 | .aB=>some (.bool (!neg))
 | .sl .. | .emp _=>some (.bool neg)
 |_=>none
theorem Xe (neg:Bool):Jh neg .aB=some (.bool (!neg)):=rfl
theorem EI (neg:Bool)(a:Addr):Jh neg (.emp a)=some (.bool neg):=rfl
theorem PE (neg:Bool)(a b c:Nat)(d:rM):Jh neg (.sl a b c d)=some (.bool neg):=rfl
def TW (neg:Bool)(x y:V):Option V:=match x,y with
 | .bool a,.bool b=>some (.bool (if neg then !(a==b) else a==b))
 |_,_=>none
theorem XC (a b:Bool):TW false (.bool a) (.bool b)=some (.bool (a==b)):=rfl
theorem YU (a b:Bool):TW true (.bool a) (.bool b)=some (.bool (!(a==b))):=rfl
def TB (k:IntKind):V->Option V
 | .int j a=>if j=k then some (.int k (k.wrap (0-a))) else none
 |_=>none
theorem NF (k:IntKind)(a:Int):TB k (.int k a)=some (.int k (k.wrap (0-a))):=by simp [TB]
def NK (k:IntKind):V->Option V
 | .int _ a=>some (.int k (k.wrap a))
 |_=>none
theorem ED (k j:IntKind)(a:Int):NK k (.int j a)=some (.int k (k.wrap a)):=rfl
def YJ (i:Nat):V->Option V
 | .tup vs=>vs[i]?
 |_=>none
theorem MU (i:Nat)(vs:List V):YJ i (.tup vs)=vs[i]? :=rfl
def cY (v:V):Option V:=(tF v).map λ(n:Nat)=>V.int .i64 (n:Int)
theorem Wr:cY .aB=some (.int .i64 0):=rfl
theorem NR (a b c:Nat)(d:rM):cY (.sl a b c d)=some (.int .i64 (c:Int)):=rfl
def Zz (agg:Bool)(off n:Nat):V->Option V
 | .agg vs=>if agg then (sub vs off n).map (λws=> .agg ws) else vs[off]?
 |_=>none
theorem FM (off n:Nat)(vs:List V):Zz false off n (.agg vs)=vs[off]? :=rfl
theorem CH (off n:Nat)(vs:List V):Zz true off n (.agg vs)=(sub vs off n).map (λws=> .agg ws):=rfl
def YM (off:Nat):V->Option V
 | .ptr id o=>some (.ptr id (o+off))
 |_=>none
theorem OD (off id o:Nat):YM off (.ptr id o)=some (.ptr id (o+off)):=rfl
def YX:V->Option V
 | .ptr id o=>some (.ptr id o)
 |_=>none
theorem KU (id o:Nat):YX (.ptr id o)=some (.ptr id o):=rfl
def Jb (h:H):V->Option V
 | .ptr id off=>h.cell id off
 |_=>none
theorem DO (h:H)(id off:Nat):Jb h (.ptr id off)=h.cell id off:=rfl
def Za (h:H)(n:Nat):V->Option V
 | .ptr id off=>(h.row id off n).map .agg
 |_=>none
theorem LX (h:H)(id off n:Nat):Za h n (.ptr id off)=(h.row id off n).map .agg:=rfl
def Pj (h:H)(n:Nat)(x y:V):Option H:=match x with
 | .ptr id off=>if y.cells.length=n/\y.cells.all V.one then h.put id off y.cells else none
 |_=>none
def eG (o:Option Ob)(h:H)(id off:Nat)(ws:List V):Option H:=match o with
 |some (.cells false vs)=>(putAt vs off ws).map λvs'=>h.set id (some (.cells false vs'))
 |_=>none
theorem H.put_eq (h:H)(id off:Nat)(ws:List V):h.put id off ws=eG (h.get id) h id off ws:=by
 unfold H.put eG
 cases h.get id with
 |none=>rfl
 |some o=>cases o with
  |cells ro vs=>cases ro<;>rfl
  |_=>rfl
theorem Xm {o o':Option Ob}{h:H}{ws:List V}(e:o=o'):eG o h id off ws=eG o' h id off ws:=by rw[e]
theorem CS (hlt:off<vs.length)(v:V):putAt vs off [v]=some (vs.set off v):=by
 unfold putAt;rw[if_pos (by simp;omega)];congr 1;rw[List.set_eq_take_append_cons_drop,if_pos hlt];simp
theorem bP (hlt:off<vs.length)(h:H)(id:Nat)(v:V):eG (some (.cells false vs)) h id off [v]=some (h.set id (some (.cells false (vs.set off v)))):=by
 simp only[eG];rw[CS hlt];rfl
theorem kF {y:V}(hc:y.cells= [y])(ho:y.one=true)(h:H)(id off:Nat):Pj h 1 (.ptr id off) y=eG (h.get id) h id off [y]:=by
 simp only[Pj,hc,List.length_singleton,List.all_cons,List.all_nil,ho,Bool.and_self,and_self,if_true,H.put_eq]
theorem QY (h:H)(id off:Nat)(k:IntKind)(a:Int):Pj h 1 (.ptr id off) (.int k a)=eG (h.get id) h id off [.int k a]:=kF rfl rfl h id off
theorem ON (h:H)(id off:Nat)(a:Bool):Pj h 1 (.ptr id off) (.bool a)=eG (h.get id) h id off [.bool a]:=kF rfl rfl h id off
theorem XW (h:H)(id off a b c:Nat)(d:rM):Pj h 1 (.ptr id off) (.sl a b c d)=eG (h.get id) h id off [.sl a b c d]:=kF rfl rfl h id off
theorem PJ (h:H)(id off:Nat):Pj h 1 (.ptr id off) .aB=eG (h.get id) h id off [.aB]:=kF rfl rfl h id off
theorem Ib (h:H)(id off n:Nat)(vs:List V)(hn:vs.length=n)(ho:vs.all V.one=true):Pj h n (.ptr id off) (.agg vs)=eG (h.get id) h id off vs:=by
 simp only[Pj,V.cells,hn,ho,and_self,if_true,H.put_eq]
def Jz (h:H)(x:V):Option (V×H):=if x.cells.all V.one then some (.ptr h.next 0,h.new (.cells false x.cells)) else none
theorem rE {x:V}(hc:x.cells= [x])(ho:x.one=true)(h:H):Jz h x=some (.ptr h.next 0,h.new (.cells false [x])):=by
 simp [Jz,hc,ho]
theorem Ju (h:H)(k:IntKind)(a:Int):Jz h (.int k a)=some (.ptr h.next 0,h.new (.cells false [.int k a])):=rfl
theorem ET (h:H)(a:Bool):Jz h (.bool a)=some (.ptr h.next 0,h.new (.cells false [.bool a])):=rfl
theorem Dr (h:H)(vs:List V)(ho:vs.all V.one=true):Jz h (.agg vs)=some (.ptr h.next 0,h.new (.cells false vs)):=by
 simp only[Jz,V.cells,ho,if_true]
theorem Hw {len sz:Nat}{cap:rM}{k:IntKind}{n:Int}(h0:0<=n)(h1:n<len):Qu sz (.sl id off len cap) (.int k n)=some (.ptr id (off+n.toNat*sz)):=by
 simp only[Qu];rw[if_pos ⟨h0,h1⟩]
section
variable (ρ:X->V) (h:H)
theorem SD (x:X):cV ρ h (.mov x)=some (ρ x,h):=rfl
theorem MP (c a b:X):cV ρ h (.pick c a b)=(HH (ρ c) (ρ a) (ρ b)).map (·,h):=by
 simp only[cV,HH];cases ρ c<;>rfl
theorem SO (op:BinOp)(k:IntKind)(x y:X):cV ρ h (.bin op k x y)=(PZ op k (ρ x) (ρ y)).map (·,h):=by
 simp only[cV,PZ];cases ρ x<;>cases ρ y<;>try rfl
 simp only;split<;>rfl
theorem QG (neg:Bool)(x y:X):cV ρ h (.beq neg x y)=(TW neg (ρ x) (ρ y)).map (·,h):=by
 simp only[cV,TW];cases ρ x<;>cases ρ y<;>rfl
theorem IJ (neg:Bool)(x:X):cV ρ h (.snil neg x)=(Jh neg (ρ x)).map (·,h):=by
 simp only[cV,Jh];cases ρ x<;>rfl
theorem TD (x:X):cV ρ h (.not x)=(YQ (ρ x)).map (·,h):=by
 simp only[cV,YQ];cases ρ x<;>rfl
theorem SJ (k:IntKind)(x:X):cV ρ h (.neg k x)=(TB k (ρ x)).map (·,h):=by
 simp only[cV,TB];cases ρ x<;>try rfl
 simp only;split<;>rfl
theorem HJ (k:IntKind)(x:X):cV ρ h (.conv k x)=(NK k (ρ x)).map (·,h):=by
 simp only[cV,NK];cases ρ x<;>rfl
theorem UY (x:X)(i:Nat):cV ρ h (.ext x i)=(YJ i (ρ x)).map (·,h):=by
 simp only[cV,YJ];cases ρ x<;>rfl
theorem IL (x:X):cV ρ h (.lens x)=(cY (ρ x)).map (·,h):=by
 simp only[cV,cY,Option.map_map];rfl
theorem PG (agg:Bool)(off n:Nat)(x:X):cV ρ h (.part agg off n x)=(Zz agg off n (ρ x)).map (·,h):=by
 simp only[cV,Zz];cases ρ x<;>try rfl
 cases agg
 ·rfl
 ·simp only[if_true,Option.map_map];rfl
theorem Pv (x:X):cV ρ h (.ld false 1 x)=(Jb h (ρ x)).map (·,h):=by
 simp only[cV,OY,Jb,H.row,H.cell];cases ρ x<;>try rfl
 simp only;rename_i id off
 cases h.get id with
 |none=>rfl
 |some o=>cases o with
  |cells ro vs=>
   simp only[sub]
   by_cases hlt:off<vs.length
   ·rw[if_pos (by omega),fS hlt]
    have:(vs.drop off).take 1= [vs[off]]:=by
     rw[List.drop_eq_getElem_cons hlt];rfl
    rw[this];rfl
   ·rw[if_neg (by omega),List.getElem?_eq_none (by omega)]
  |_=>rfl
theorem AA (n:Nat)(x:X):cV ρ h (.ld true n x)=(Za h n (ρ x)).map (·,h):=by
 simp only[cV,OY,Za];cases ρ x<;>try rfl
 simp only;cases h.row _ _ n<;>rfl
theorem YG (n:Nat)(x y:X):cV ρ h (.st n x y)=(Pj h n (ρ x) (ρ y)).map λh'=>(V.undef,h'):=by
 simp only[cV,Pj];cases ρ x<;>try rfl
 simp only;split<;>rfl
theorem TV (sz:Nat)(x i:X):cV ρ h (.ixa sz x i)=(Qu sz (ρ x) (ρ i)).map (·,h):=rfl
theorem UF (off:Nat)(x:X):cV ρ h (.fla off x)=(YM off (ρ x)).map (·,h):=by
 simp only[cV,YM];cases ρ x<;>rfl
theorem TT (x:X):cV ρ h (.nck x)=(YX (ρ x)).map (·,h):=by
 simp only[cV,YX];cases ρ x<;>rfl
theorem UJ (sz:Nat)(x:X)(lo hi mx:Option X):cV ρ h (.slc sz x lo hi mx)=(Iv sz (ρ x) (lo.map ρ) (hi.map ρ) (mx.map ρ)).map (·,h):=rfl
theorem TP (sz bytes:Nat)(zero:List V)(l c:X):cV ρ h (.mks sz bytes zero l c)=Cu h sz bytes zero (ρ l) (ρ c):=rfl
theorem RH (zero:List V):cV ρ h (.alc zero)=some (.ptr h.next 0,h.new (.cells false zero)):=rfl
theorem RA (x:X):cV ρ h (.box x)=Jz h (ρ x):=rfl
theorem XU (mx:Bool)(x y:X):cV ρ h (.mm mx [x,y])=(GW mx (ρ x) [ρ y]).map (·,h):=rfl
theorem RJ (f:Nat)(fs cs:List X):cV ρ h (.mkf f fs cs)=some (.fn f (fs.map ρ) (cs.map ρ),h):=rfl
theorem RF:cV ρ h .mkm=some (.mp h.next,h.new (.map [])):=rfl
def yF (h:H)(sz bytes:Nat)(x y:V):Option (V×H):=match tF y,h.slice sz y with
 |some m,some ys=>xA h sz bytes x m ys
 |_,_=>none
theorem VJ (sz bytes:Nat)(x y:X):cV ρ h (.app sz bytes x y)=yF h sz bytes (ρ x) (ρ y):=rfl
def uB (zero:List V)(parts:List (Nat×Nat×V)):Option V:=(jZ zero parts).map .agg
theorem SC (zero:List V)(parts:List (Nat×Nat×X)):cV ρ h (.bld zero parts)=(uB zero (parts.map λp=>(p.1,p.2.1,ρ p.2.2))).map (·,h):=by
 simp only[cV,uB,Option.map_map];rfl
def vH (h:H)(sz:Nat)(zero:List V)(n:Nat)(parts:List (Nat×Nat×V)):Option (V×H):=match jZ (dQ zero (n*sz)) parts with
  |some cs=>if cs.all V.one then some (.sl h.next 0 n (.kn n),h.new (.cells false cs)) else none
  |none=>none
theorem QF (sz:Nat)(zero:List V)(n:Nat)(parts:List (Nat×Nat×X)):cV ρ h (.bls sz zero n parts)=vH h sz zero n (parts.map λp=>(p.1,p.2.1,ρ p.2.2)):=rfl
theorem RS (sz:Nat)(x y:X):cV ρ h (.cpy sz x y)=RV h sz (ρ x) (ρ y):=rfl
end
theorem aaW (vars loc:List V)(k:Nat):xv vars loc (.v k)=vars.getD k .undef:=rfl
theorem abB (vars loc:List V)(k:Nat):xv vars loc (.l k)=loc.getD k .undef:=rfl
theorem YT (vars loc:List V)(x:V):xv vars loc (.c x)=x:=rfl
theorem UC (k:Nat)(vars loc:List V)(v:V):(mB (.v k) vars loc v).1=vars.set k v:=rfl
theorem QP (k:Nat)(vars loc:List V)(v:V):(mB (.v k) vars loc v).2=loc:=rfl
theorem TU (vars loc:List V)(v:V):(mB .l vars loc v).1=vars:=rfl
theorem SN (vars loc:List V)(v:V):(mB .l vars loc v).2=v::loc:=rfl
theorem SM (vars loc:List V)(v:V):(mB .n vars loc v).1=vars:=rfl
theorem UI (vars loc:List V)(v:V):(mB .n vars loc v).2=loc:=rfl
theorem Va (vars loc:List V)(x:X)(b:Bool):gE vars loc (some (x,b))=(match xv vars loc x with| .bool a=>some (a==b)| .tup []=>some false|_=>none):=rfl
theorem FG (k:IntKind)(a b:Int):arith .add k a b=some (.int k (k.wrap (a+b))):=rfl
theorem DL (k:IntKind)(a b:Int):arith .sub k a b=some (.int k (k.wrap (a-b))):=rfl
theorem DR (k:IntKind)(a b:Int):arith .mul k a b=some (.int k (k.wrap (a*b))):=rfl
theorem EF (k:IntKind)(a b:Int)(hb:b≠0):arith .quo k a b=some (.int k (k.wrap (a.tdiv b))):=by simp only[arith];rw[if_neg hb]
theorem DD (k:IntKind)(a b:Int)(hb:b≠0):arith .rem k a b=some (.int k (a.tmod b)):=by simp only[arith];rw[if_neg hb]
theorem FX (k:IntKind)(a b:Int):arith .eql k a b=some (.bool (decide (a=b))):=by
 simp only[arith];congr 2
theorem CR (k:IntKind)(a b:Int):arith .neq k a b=some (.bool (decide (a≠b))):=by
 simp only[arith];congr 2;rw[Bool.eq_iff_iff];simp
theorem GR (k:IntKind)(a b:Int):arith .lss k a b=some (.bool (decide (a<b))):=rfl
theorem DE (k:IntKind)(a b:Int):arith .leq k a b=some (.bool (decide (a<=b))):=rfl
theorem DC (k:IntKind)(a b:Int):arith .gtr k a b=some (.bool (decide (b<a))):=rfl
theorem CV (k:IntKind)(a b:Int):arith .geq k a b=some (.bool (decide (b<=a))):=rfl
theorem ZG (k:IntKind)(a b:Int):GW false (.int k a) [.int k b]=some (.int k (if b<a then b else a)):=by
 simp only[GW,if_true,Bool.false_eq_true,if_false]
theorem XK (k:IntKind)(a b:Int):GW true (.int k a) [.int k b]=some (.int k (if b>a then b else a)):=by
 simp only[GW,if_true]
theorem BG {n:Int}(h1: -9223372036854775808<=n)(h2:n<9223372036854775808):IntKind.i64.wrap n=n:=wrap_i64 h1 h2
theorem YR (vars:List V)(h:H)(k:Nat):Ba vars h (.v k)=some (vars.getD k .undef):=rfl
theorem Yz (vars:List V)(h:H)(k:Nat):Ba vars h (.cell k false 1)=Jb h (vars.getD k .undef):=by
 have:=Pv (λ_=>vars.getD k .undef) h (.v 0);simp only[Ba];simp only[cV] at this;generalize OY h false 1 (vars.getD k .undef)=a at*;generalize Jb h (vars.getD k .undef)=b at*;cases a<;>cases b<;>simp at this ⊢;exact this
theorem Yk (vars:List V)(h:H)(k n:Nat):Ba vars h (.cell k true n)=Za h n (vars.getD k .undef):=by
 simp only[Ba,OY,Za];cases vars.getD k .undef<;>try rfl
 simp only;cases h.row _ _ n<;>rfl
theorem Tj {α:Type}:cI ([]:List (Option α))=some []:=rfl
theorem Px {α:Type}(a:α)(r:List (Option α)):cI (some a::r)=(cI r).map (a:: ·):=rfl
theorem IA (v:V):Gq [v]=v:=rfl
theorem MC (v u:V):Gq [v,u]= .tup [v,u]:=rfl
theorem We (v u t:V):Gq [v,u,t]= .tup [v,u,t]:=rfl
theorem kV:V.undef= .tup []:=rfl
theorem aE (fn:Fn)(args:List V):Bq fn args=fn.init.map λo=>match o with|some j=>args.getD j .undef|none=> .undef:=rfl
theorem EY (log:Log)(h:H):qN [] log h=true:=by simp [qN]
attribute [go_sem] TY ZE VI PQ ZB WN OM ZF PH HU Lx EC Ze Tw Zo zD GP Uu Wm Uy CN JI GO Zr Yu Vx NJ KT RZ YL VG QW QU UM EO UK MR DX TS OX EK EE WV KY CO FA PC MW Sx SD MP SO QG IJ TD SJ HJ UY IL PG Pv AA YG TV UF TT UJ TP RH RA XU RJ RF VJ SC QF RS KQ DY Yg Xe PE EI XC YU Bool.not_false Bool.not_true beq_true beq_false if_true if_false Bool.false_eq_true PU NF ED MU Wr NR FM CH OD KU DO LX QY ON XW PJ Ju ET bP Hw aaW abB YT UC QP TU SN SM UI Va FG DL DR EF DD FX CR GR DE DC CV ZG XK BG YR Yz Yk Tj Px IA MC We EY H.aT H.aG H.aN H.bI H.pZ H.FQ H.Bn H.uE H.Mh H.Ub H.cC H.aV true_and Option.map_some Option.map_none List.replicate_succ List.replicate_zero List.take_succ_cons List.take_zero List.length_cons List.length_nil Nat.zero_add List.foldl_cons List.foldl_nil List.map_cons List.map_nil List.getD_cons_zero List.getD_cons_succ List.set_cons_zero List.set_cons_succ List.cons_append List.nil_append List.append_nil
attribute [congr] Xm
abbrev bQ (l:List V):Option Ob:=some (.cells false l)
abbrev aC (z:Int):V:=.int .i64 z
abbrev LN:=List (List Nat)
abbrev kW:=List (List (List Nat))
theorem iB {p:Prop}[d:Decidable p](h:p):decide p=true:=decide_eq_true h
theorem eS {p:Prop}[d:Decidable p](h:¬p):decide p=false:=decide_eq_false h
theorem bH {p:Nat->Option Fn}{g:Nat}(fn:Fn){args:List V}{h:H}{Q:V->H->Prop}(hg:p g=some fn)(hl:args.length=fn.nargs)(hw:Wp p none fn.body (Bq fn args) h (JZ fn.results Q)):Ev p g args h Q:=Hf hg hl hw
theorem exI.{u}{α:Sort u}(a:α):∃b,a=b:=⟨a,rfl⟩
theorem fA (i:Nat):(i:Int)+1=((i+1:Nat):Int):=by omega
end Go.Ay
