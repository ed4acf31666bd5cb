/- Rules for walking through the abstract machine's code. -/
import Derived.Test.YtapfcpkecmmagaaGreatAy23
import Derived.Attr
namespace Go.Ay
section
variable {id k off:Nat} {vs:List V}
def find:List (Nat×Fn)->Nat->Option Fn
 | [],_=>none
 |(k,f)::l,n=>cond (Nat.beq k n) (some f) (find l n)
attribute [congr] Gy Uu Vi Rj Re Te Ws Mk Hw Ji Is Gg
def H.cell (h:H)(id off:Nat):Option V:=match h.get id with
 |some (.cells _ vs)=>vs[off]?
 |_=>none
section
variable (h:H)
theorem H.aG {h:H}{ro:Bool}(a:h.get id=some (.cells ro vs))(off:Nat):h.cell id off=vs[off]? :=by
 unfold H.cell;rw[a]
theorem H.aT (id:Nat)(o:Option Ob):(h.set id o).get id=o:=by rw[H.gK,aV rfl]
theorem H.aI (a:k≠id)(o:Option Ob):(h.set id o).get k=h.get k:=by rw[H.gK,aZ a]
theorem H.aN (o:Ob):(h.new o).get h.next=some o:=by rw[H.iQ,aV rfl]
theorem H.bL (a:k≠h.next)(o:Ob):(h.new o).get k=h.get k:=by rw[H.iQ,aZ a]
theorem H.lJ (n k:Nat):(H.mk h.tr n).get k=h.get k:=rfl
theorem H.Sx (n k off:Nat):(H.mk h.tr n).cell k off=h.cell k off:=rfl
theorem H.tG (id:Nat)(ro:Bool)(vs:List V)(off:Nat):(h.set id (some (.cells ro vs))).cell id off=vs[off]? :=H.aG (H.aT ..) off
theorem H.xU (a:k≠id)(o:Option Ob)(off:Nat):(h.set id o).cell k off=h.cell k off:=by unfold H.cell;rw[H.aI h a]
theorem H.Da (ro:Bool)(vs:List V)(off:Nat):(h.new (.cells ro vs)).cell h.next off=vs[off]? :=H.aG (H.aN ..) off
theorem H.Iq (a:k≠h.next)(o:Ob)(off:Nat):(h.new o).cell k off=h.cell k off:=by unfold H.cell;rw[H.bL h a]
end
structure Fr (h h':H):Prop where
 next:h.next<=h'.next
 get: ∀id,id<h.next->h'.get id=h.get id
theorem Fr.refl (h:H):Fr h h:=⟨eS _,λ_ _=>rfl⟩
theorem Fr.trans {a b c:H}(x:Fr a b)(y:Fr b c):Fr a c:=⟨jK x.next y.next,λid d=>(y.get id (iP d x.next)).trans (x.get id d)⟩
theorem Fr.new {a b:H}(x:Fr a b)(o:Ob):Fr a (b.new o):=x.trans ⟨by rw[H.aX];omega,λid c=>H.bL b om o⟩
theorem Fr.set {a b:H}(x:Fr a b)(d:a.next<=id)(o:Option Ob):Fr a (b.set id o):=⟨x.next,λk c=>(H.aI b om o).trans (x.get k c)⟩
theorem Fr.bN {a b:H}(x:Fr a b){n:Nat}(d:b.next<=n):Fr a (H.mk b.tr n):=⟨jK x.next d,λk c=>(H.lJ b n k).trans (x.get k c)⟩
theorem Fr.cell {a b:H}(x:Fr a b)(c:id<a.next)(off:Nat):b.cell id off=a.cell id off:=by unfold H.cell;rw[x.get id c]
def BJ (op:BinOp)(k:IntKind)(x y:V):Option V:=match x,y with
 | .int j a,.int j' b=>if j=k/\j'=k then arith op k a b else none
 |_,_=>none
theorem Ym (op:BinOp)(k:IntKind)(a b:Int):BJ op k (.int k a) (.int k b)=arith op k a b:=by simp [BJ]
def DJ:V->Option V
 | .bool a=>some (.bool (!a))
 |_=>none
theorem Sd (a:Bool):DJ (.bool a)=some (.bool (!a)):=rfl
def Tw (c a b:V):Option V:=match c with
 | .bool t=>some (if t then a else b)
 |_=>none
theorem Nj (t:Bool)(a b:V):Tw (.bool t) a b=some (if t then a else b):=rfl
def By (neg:Bool):V->Option V
 | .aD=>some (.bool (!neg))
 | .sl .. | .emp _=>some (.bool neg)
 |_=>none
theorem Ls (neg:Bool):By neg .aD=some (.bool (!neg)):=rfl
theorem Qm (neg:Bool)(a:Addr):By neg (.emp a)=some (.bool neg):=rfl
theorem Xv (neg:Bool)(a b c:Nat)(d:mF):By neg (.sl a b c d)=some (.bool neg):=rfl
def Zv (neg:Bool)(x y:V):Option V:=match x,y with
 | .bool a,.bool b=>some (.bool (if neg then !(a==b) else a==b))
 |_,_=>none
theorem FY (a b:Bool):Zv false (.bool a) (.bool b)=some (.bool (a==b)):=rfl
theorem GA (a b:Bool):Zv true (.bool a) (.bool b)=some (.bool (!(a==b))):=rfl
def CK (k:IntKind):V->Option V
 | .int j a=>if j=k then some (.int k (k.wrap (0-a))) else none
 |_=>none
theorem Up (k:IntKind)(a:Int):CK k (.int k a)=some (.int k (k.wrap (0-a))):=by simp [CK]
def Ys (k:IntKind):V->Option V
 | .int _ a=>some (.int k (k.wrap a))
 |_=>none
theorem Si (k j:IntKind)(a:Int):Ys k (.int j a)=some (.int k (k.wrap a)):=rfl
def EK (i:Nat):V->Option V
 | .tup vs=>vs[i]?
 |_=>none
theorem Vl (i:Nat)(vs:List V):EK i (.tup vs)=vs[i]? :=rfl
def dA (v:V):Option V:=(mG v).map λ(n:Nat)=>V.int .i64 (n:Int)
theorem Lk:dA .aD=some (.int .i64 0):=rfl
theorem Ua (a b c:Nat)(d:mF):dA (.sl a b c d)=some (.int .i64 (c:Int)):=rfl
def Oo (agg:Bool)(off n:Nat):V->Option V
 | .agg vs=>if agg then (sub vs off n).map (λws=> .agg ws) else vs[off]?
 |_=>none
theorem Qy (off n:Nat)(vs:List V):Oo false off n (.agg vs)=vs[off]? :=rfl
theorem Tp (off n:Nat)(vs:List V):Oo true off n (.agg vs)=(sub vs off n).map (λws=> .agg ws):=rfl
def FE (off:Nat):V->Option V
 | .ptr id o=>some (.ptr id (o+off))
 |_=>none
theorem Ux (off id o:Nat):FE off (.ptr id o)=some (.ptr id (o+off)):=rfl
def DR:V->Option V
 | .ptr id o=>some (.ptr id o)
 |_=>none
theorem Vh (id o:Nat):DR (.ptr id o)=some (.ptr id o):=rfl
def zQ (h:H):V->Option V
 | .ptr id off=>h.cell id off
 |_=>none
theorem Qu (h:H)(id off:Nat):zQ h (.ptr id off)=h.cell id off:=rfl
def Lz (h:H)(n:Nat):V->Option V
 | .ptr id off=>(h.row id off n).map .agg
 |_=>none
theorem Yg (h:H)(id off n:Nat):Lz h n (.ptr id off)=(h.row id off n).map .agg:=rfl
def Ln (h:H)(n:Nat)(x y:V):Option H:=match x with
 | .ptr id off=>if y.cells.length=n/\y.cells.all V.one then h.put id off y.cells else none
 |_=>none
def dQ (o:Option Ob)(h:H)(id off:Nat)(ws:List V):Option H:=match o with
 |some (.cells false vs)=>(putAt vs off ws).map λvs'=>h.set id (some (.cells false vs'))
 |_=>none
theorem H.put_eq (h:H)(id off:Nat)(ws:List V):h.put id off ws=dQ (h.get id) h id off ws:=by
 unfold H.put dQ
 cases h.get id with
 |none=>rfl
 |some o=>cases o with
  |cells ro vs=>cases ro<;>rfl
  |_=>rfl
theorem Np {o a:Option Ob}{h:H}{ws:List V}(e:o=a):dQ o h id off ws=dQ a h id off ws:=by rw[e]
theorem Ti (a:off<vs.length)(v:V):putAt vs off [v]=some (vs.set off v):=by
 unfold putAt;rw[aV (by simp;omega)];congr 1;rw[List.set_eq_take_append_cons_drop,aV a];simp
theorem bF (a:off<vs.length)(h:H)(id:Nat)(v:V):dQ (some (.cells false vs)) h id off [v]=some (h.set id (some (.cells false (vs.set off v)))):=by
 simp only[dQ];rw[Ti a];rfl
theorem fU {y:V}(a:y.cells= [y])(b:y.one=true)(h:H)(id off:Nat):Ln h 1 (.ptr id off) y=dQ (h.get id) h id off [y]:=by
 simp only[Ln,a,List.length_singleton,List.all_cons,List.all_nil,b,Bool.and_self,and_self,if_true,H.put_eq]
theorem BS (h:H)(id off:Nat)(k:IntKind)(a:Int):Ln h 1 (.ptr id off) (.int k a)=dQ (h.get id) h id off [.int k a]:=fU rfl rfl h id off
theorem Ue (h:H)(id off:Nat)(a:Bool):Ln h 1 (.ptr id off) (.bool a)=dQ (h.get id) h id off [.bool a]:=fU rfl rfl h id off
theorem DY (h:H)(id off a b c:Nat)(d:mF):Ln h 1 (.ptr id off) (.sl a b c d)=dQ (h.get id) h id off [.sl a b c d]:=fU rfl rfl h id off
theorem Yc (h:H)(id off:Nat):Ln h 1 (.ptr id off) .aD=dQ (h.get id) h id off [.aD]:=fU rfl rfl h id off
theorem qE (h:H)(id off n:Nat)(vs:List V)(a:vs.length=n)(b:vs.all V.one=true):Ln h n (.ptr id off) (.agg vs)=dQ (h.get id) h id off vs:=by
 simp only[Ln,V.cells,a,b,and_self,if_true,H.put_eq]
def Ck (h:H)(x:V):Option (V×H):=if x.cells.all V.one then some (.ptr h.next 0,h.new (.cells false x.cells)) else none
theorem kT {x:V}(a:x.cells= [x])(b:x.one=true)(h:H):Ck h x=some (.ptr h.next 0,h.new (.cells false [x])):=by
 simp [Ck,a,b]
theorem zY (h:H)(k:IntKind)(a:Int):Ck h (.int k a)=some (.ptr h.next 0,h.new (.cells false [.int k a])):=rfl
theorem Ql (h:H)(a:Bool):Ck h (.bool a)=some (.ptr h.next 0,h.new (.cells false [.bool a])):=rfl
theorem rO (h:H)(vs:List V)(a:vs.all V.one=true):Ck h (.agg vs)=some (.ptr h.next 0,h.new (.cells false vs)):=by
 simp only[Ck,V.cells,a,if_true]
theorem sT {len sz:Nat}{a:mF}{k:IntKind}{n:Int}(c:0<=n)(b:n<len):Cu sz (.sl id off len a) (.int k n)=some (.ptr id (off+n.toNat*sz)):=by
 simp only[Cu];rw[aV ⟨c,b⟩]
section
variable (ρ:X->V) (h:H)
theorem BU (x:X):cZ ρ h (.mov x)=some (ρ x,h):=rfl
theorem Yp (c a b:X):cZ ρ h (.pick c a b)=(Tw (ρ c) (ρ a) (ρ b)).map (·,h):=by
 simp only[cZ,Tw];cases ρ c<;>rfl
theorem AG (op:BinOp)(k:IntKind)(x y:X):cZ ρ h (.bin op k x y)=(BJ op k (ρ x) (ρ y)).map (·,h):=by
 simp only[cZ,BJ];cases ρ x<;>cases ρ y<;>try rfl
 simp only;split<;>rfl
theorem BC (neg:Bool)(x y:X):cZ ρ h (.beq neg x y)=(Zv neg (ρ x) (ρ y)).map (·,h):=by
 simp only[cZ,Zv];cases ρ x<;>cases ρ y<;>rfl
theorem Wq (neg:Bool)(x:X):cZ ρ h (.snil neg x)=(By neg (ρ x)).map (·,h):=by
 simp only[cZ,By];cases ρ x<;>rfl
theorem AE (x:X):cZ ρ h (.not x)=(DJ (ρ x)).map (·,h):=by
 simp only[cZ,DJ];cases ρ x<;>rfl
theorem CB (k:IntKind)(x:X):cZ ρ h (.neg k x)=(CK k (ρ x)).map (·,h):=by
 simp only[cZ,CK];cases ρ x<;>try rfl
 simp only;split<;>rfl
theorem Vn (k:IntKind)(x:X):cZ ρ h (.conv k x)=(Ys k (ρ x)).map (·,h):=by
 simp only[cZ,Ys];cases ρ x<;>rfl
theorem CE (x:X)(i:Nat):cZ ρ h (.ext x i)=(EK i (ρ x)).map (·,h):=by
 simp only[cZ,EK];cases ρ x<;>rfl
theorem Wj (x:X):cZ ρ h (.lens x)=(dA (ρ x)).map (·,h):=by
 simp only[cZ,dA,Option.map_map];rfl
theorem Ud (agg:Bool)(off n:Nat)(x:X):cZ ρ h (.part agg off n x)=(Oo agg off n (ρ x)).map (·,h):=by
 simp only[cZ,Oo];cases ρ x<;>try rfl
 cases agg
 ·rfl
 ·simp only[if_true,Option.map_map];rfl
theorem Gl (x:X):cZ ρ h (.ld false 1 x)=(zQ h (ρ x)).map (·,h):=by
 simp only[cZ,Wa,zQ,H.row,H.cell];cases ρ x<;>try rfl
 simp only;rename_i id off
 cases h.get id with
 |none=>rfl
 |some o=>cases o with
  |cells ro vs=>
   simp only[sub]
   by_cases a:off<vs.length
   ·rw[aV om,eV a]
    have:(vs.drop off).take 1= [vs[off]]:=by
     rw[Ts a];rfl
    rw[this];rfl
   ·rw[aZ om,List.getElem?_eq_none om]
  |_=>rfl
theorem Nx (n:Nat)(x:X):cZ ρ h (.ld true n x)=(Lz h n (ρ x)).map (·,h):=by
 simp only[cZ,Wa,Lz];cases ρ x<;>try rfl
 simp only;cases h.row _ _ n<;>rfl
theorem FG (n:Nat)(x y:X):cZ ρ h (.st n x y)=(Ln h n (ρ x) (ρ y)).map λh'=>(V.undef,h'):=by
 simp only[cZ,Ln];cases ρ x<;>try rfl
 simp only;split<;>rfl
theorem Ze (sz:Nat)(x i:X):cZ ρ h (.ixa sz x i)=(Cu sz (ρ x) (ρ i)).map (·,h):=rfl
theorem BK (off:Nat)(x:X):cZ ρ h (.fla off x)=(FE off (ρ x)).map (·,h):=by
 simp only[cZ,FE];cases ρ x<;>rfl
theorem CA (x:X):cZ ρ h (.nck x)=(DR (ρ x)).map (·,h):=by
 simp only[cZ,DR];cases ρ x<;>rfl
theorem BF (sz:Nat)(x:X)(b hi a:Option X):cZ ρ h (.slc sz x b hi a)=(nE sz (ρ x) (b.map ρ) (hi.map ρ) (a.map ρ)).map (·,h):=rfl
theorem AD (sz bytes:Nat)(zero:List V)(l c:X):cZ ρ h (.mks sz bytes zero l c)=vH h sz bytes zero (ρ l) (ρ c):=rfl
theorem AY (zero:List V):cZ ρ h (.alc zero)=some (.ptr h.next 0,h.new (.cells false zero)):=rfl
theorem BG (x:X):cZ ρ h (.box x)=Ck h (ρ x):=rfl
theorem DD (a:Bool)(x y:X):cZ ρ h (.mm a [x,y])=(Tq a (ρ x) [ρ y]).map (·,h):=rfl
theorem BT (f:Nat)(a b:List X):cZ ρ h (.mkf f a b)=some (.fn f (a.map ρ) (b.map ρ),h):=rfl
theorem CD:cZ ρ h .mkm=some (.mp h.next,h.new (.map [])):=rfl
def qY (h:H)(sz bytes:Nat)(x y:V):Option (V×H):=match mG y,h.slice sz y with
 |some m,some ys=>oT h sz bytes x m ys
 |_,_=>none
theorem AB (sz bytes:Nat)(x y:X):cZ ρ h (.app sz bytes x y)=qY h sz bytes (ρ x) (ρ y):=rfl
def kY (zero:List V)(parts:List (Nat×Nat×V)):Option V:=(gI zero parts).map .agg
theorem Zb (zero:List V)(a:List (Nat×Nat×X)):cZ ρ h (.bld zero a)=(kY zero (a.map λp=>(p.1,p.2.1,ρ p.2.2))).map (·,h):=by
 simp only[cZ,kY,Option.map_map];rfl
def pG (h:H)(sz:Nat)(zero:List V)(n:Nat)(parts:List (Nat×Nat×V)):Option (V×H):=match gI (dO zero (n*sz)) parts with
  |some cs=>if cs.all V.one then some (.sl h.next 0 n (.kn n),h.new (.cells false cs)) else none
  |none=>none
theorem BB (sz:Nat)(zero:List V)(n:Nat)(a:List (Nat×Nat×X)):cZ ρ h (.bls sz zero n a)=pG h sz zero n (a.map λp=>(p.1,p.2.1,ρ p.2.2)):=rfl
theorem BX (sz:Nat)(x y:X):cZ ρ h (.cpy sz x y)=Sj h sz (ρ x) (ρ y):=rfl
end
theorem IV (a b:List V)(k:Nat):xv a b (.v k)=a.getD k .undef:=rfl
theorem IG (b a:List V)(k:Nat):xv b a (.l k)=a.getD k .undef:=rfl
theorem EU (a b:List V)(x:V):xv a b (.c x)=x:=rfl
theorem Zc (k:Nat)(a b:List V)(v:V):(jI (.v k) a b v).1=a.set k v:=rfl
theorem CH (k:Nat)(b a:List V)(v:V):(jI (.v k) b a v).2=a:=rfl
theorem Zl (a b:List V)(v:V):(jI .l a b v).1=a:=rfl
theorem Zz (b a:List V)(v:V):(jI .l b a v).2=v::a:=rfl
theorem Zi (a b:List V)(v:V):(jI .n a b v).1=a:=rfl
theorem BW (b a:List V)(v:V):(jI .n b a v).2=a:=rfl
theorem Ki (c d:List V)(x:X)(b:Bool):fK c d (some (x,b))=(match xv c d x with| .bool a=>some (a==b)| .tup []=>some false|_=>none):=rfl
theorem Sk (k:IntKind)(a b:Int):arith .add k a b=some (.int k (k.wrap (a+b))):=rfl
theorem Qh (k:IntKind)(a b:Int):arith .sub k a b=some (.int k (k.wrap (a-b))):=rfl
theorem Rb (k:IntKind)(a b:Int):arith .mul k a b=some (.int k (k.wrap (a*b))):=rfl
theorem Qs (k:IntKind)(a b:Int)(c:b≠0):arith .quo k a b=some (.int k (k.wrap (a.tdiv b))):=by simp only[arith];rw[aZ c]
theorem Sa (k:IntKind)(a b:Int)(c:b≠0):arith .rem k a b=some (.int k (a.tmod b)):=by simp only[arith];rw[aZ c]
theorem Qr (k:IntKind)(a b:Int):arith .eql k a b=some (.bool (decide (a=b))):=by
 simp only[arith];congr 2
theorem Tj (k:IntKind)(a b:Int):arith .neq k a b=some (.bool (decide (a≠b))):=by
 simp only[arith];congr 2;rw[xJ];simp
theorem Rw (k:IntKind)(a b:Int):arith .lss k a b=some (.bool (decide (a<b))):=rfl
theorem Qv (k:IntKind)(a b:Int):arith .leq k a b=some (.bool (decide (a<=b))):=rfl
theorem Rc (k:IntKind)(a b:Int):arith .gtr k a b=some (.bool (decide (b<a))):=rfl
theorem Qq (k:IntKind)(a b:Int):arith .geq k a b=some (.bool (decide (b<=a))):=rfl
theorem EN (k:IntKind)(a b:Int):Tq false (.int k a) [.int k b]=some (.int k (if b<a then b else a)):=by
 simp only[Tq,if_true,Bool.false_eq_true,if_false]
theorem FQ (k:IntKind)(a b:Int):Tq true (.int k a) [.int k b]=some (.int k (if b>a then b else a)):=by
 simp only[Tq,if_true]
theorem CF {n:Int}(a: -9223372036854775808<=n)(h2:n<9223372036854775808):IntKind.i64.wrap n=n:=wrap_i64 a h2
theorem FL (a:List V)(h:H)(k:Nat):sY a h (.v k)=some (a.getD k .undef):=rfl
theorem Mf (c:List V)(h:H)(k:Nat):sY c h (.cell k false 1)=zQ h (c.getD k .undef):=by
 have:=Gl (λ_=>c.getD k .undef) h (.v 0);simp only[sY];simp only[cZ] at this;generalize Wa h false 1 (c.getD k .undef)=a at*;generalize zQ h (c.getD k .undef)=b at*;cases a<;>cases b<;>simp at this ⊢;exact this
theorem Nk (a:List V)(h:H)(k n:Nat):sY a h (.cell k true n)=Lz h n (a.getD k .undef):=by
 simp only[sY,Wa,Lz];cases a.getD k .undef<;>try rfl
 simp only;cases h.row _ _ n<;>rfl
theorem Kr {α:Type}:cV ([]:List (Option α))=some []:=rfl
theorem Fw {α:Type}(a:α)(r:List (Option α)):cV (some a::r)=(cV r).map (a:: ·):=rfl
theorem Uc (v:V):xQ [v]=v:=rfl
theorem Wd (v u:V):xQ [v,u]= .tup [v,u]:=rfl
theorem Nh (v u t:V):xQ [v,u,t]= .tup [v,u,t]:=rfl
theorem fG:V.undef= .tup []:=rfl
theorem aF (a:Fn)(args:List V):tM a args=a.init.map λo=>match o with|some j=>args.getD j .undef|none=> .undef:=rfl
theorem Tf (a:Log)(h:H):lX [] a h=true:=by simp [lX]
attribute [go_sem] Zw EB Zm Vy DC EX Vu FU Vr Vk Bc Qg Lq Kv Nr rJ Sq Kg Mi Iv Qi Xz Qk Lm Mh Km Wi Ui Zj DP BN Zh CN AQ Ro BO Xo Sr Zx Ye Qt Tc EY Ug Sn Tl Vg We Ju BU Yp AG BC Wq AE CB Vn CE Wj Ud Gl Nx FG Ze BK CA BF AD AY BG DD BT CD AB Zb BB BX Ym Sd Nj Ls Xv Qm FY GA Bool.not_false Bool.not_true beq_true beq_false if_true if_false Bool.false_eq_true Xc Up Si Vl Lk Ua Qy Tp Ux Vh Qu Yg BS Ue DY Yc zY Ql bF sT IV IG EU Zc CH Zl Zz Zi BW Ki Sk Qh Rb Qs Sa Qr Tj Rw Qv Rc Qq EN FQ CF FL Mf Nk Kr Fw Uc Wd Nh Tf H.aT H.aI H.aN H.bL H.lJ H.Sx H.tG H.xU H.Da H.Iq H.dE H.aX true_and Option.map_some Option.map_none List.replicate_succ List.replicate_zero List.take_succ_cons List.take_zero List.length_cons List.length_nil Nat.zero_add List.foldl_cons List.foldl_nil List.map_cons List.map_nil List.getD_cons_zero List.getD_cons_succ List.set_cons_zero List.set_cons_succ List.cons_append List.nil_append qA
attribute [congr] Np
abbrev bW (l:List V):Option Ob:=some (.cells false l)
abbrev aB (z:Int):V:=.int .i64 z
abbrev LN:=List (List Nat)
abbrev jL:=List (List (List Nat))
theorem bM {p:Prop}[d:Decidable p](h:p):decide p=true:=decide_eq_true h
theorem bJ {p:Prop}[d:Decidable p](h:¬p):decide p=false:=decide_eq_false h
theorem bH {p:Nat->Option Fn}{g:Nat}(a:Fn){args:List V}{h:H}{Q:V->H->Prop}(b:p g=some a)(c:args.length=a.nargs)(d:Wp p none a.body (tM a args) h (Vs a.results Q)):Ev p g args h Q:=yN b c d
theorem JR.{u}{α:Sort u}(a:α):∃b,a=b:=⟨a,rfl⟩
theorem dY (i:Nat):(i:Int)+1=((i+1:Nat):Int):=om
end
end Go.Ay
