/- Rules for walking through the abstract machine's code. -/
import Derived.Test.YtapfcpkecmmagaaGreatAy23
import Derived.Attr
namespace Go.Ay
section
variable {id k off:Nat} {vs:List V}
def find:List (Nat×Fn)->Nat->Option Fn
 | [],_=>none
 |(k,f)::l,n=>cond (Nat.beq k n) (some f) (find l n)
attribute [congr] Gd Ya Vz Sd Qg Ql Tp Lo Kj Je Jc Ga
def H.cell (h:H)(id off:Nat):Option V:=match h.get id with
 |some (.cells _ vs)=>vs[off]?
 |_=>none
section
variable (h:H)
theorem H.aG {h:H}{ro:Bool}(a:h.get id=some (.cells ro vs))(off:Nat):h.cell id off=vs[off]? :=by
 unfold H.cell;rw[a]
theorem H.aT (id:Nat)(o:Option Ob):(h.set id o).get id=o:=by rw[H.gJ,aV rfl]
theorem H.aI (a:k≠id)(o:Option Ob):(h.set id o).get k=h.get k:=by rw[H.gJ,aZ a]
theorem H.aN (o:Ob):(h.new o).get h.next=some o:=by rw[H.iN,aV rfl]
theorem H.bJ (a:k≠h.next)(o:Ob):(h.new o).get k=h.get k:=by rw[H.iN,aZ a]
theorem H.lG (n k:Nat):(H.mk h.tr n).get k=h.get k:=rfl
theorem H.Qj (n k off:Nat):(H.mk h.tr n).cell k off=h.cell k off:=rfl
theorem H.tD (id:Nat)(ro:Bool)(vs:List V)(off:Nat):(h.set id (some (.cells ro vs))).cell id off=vs[off]? :=H.aG (H.aT ..) off
theorem H.xW (a:k≠id)(o:Option Ob)(off:Nat):(h.set id o).cell k off=h.cell k off:=by unfold H.cell;rw[H.aI h a]
theorem H.Ce (ro:Bool)(vs:List V)(off:Nat):(h.new (.cells ro vs)).cell h.next off=vs[off]? :=H.aG (H.aN ..) off
theorem H.Jp (a:k≠h.next)(o:Ob)(off:Nat):(h.new o).cell k off=h.cell k off:=by unfold H.cell;rw[H.bJ h a]
end
structure Fr (h h':H):Prop where
 next:h.next<=h'.next
 get: ∀id,id<h.next->h'.get id=h.get id
theorem Fr.refl (h:H):Fr h h:=⟨fH _,λ_ _=>rfl⟩
theorem Fr.trans {a b c:H}(x:Fr a b)(y:Fr b c):Fr a c:=⟨jC x.next y.next,λid d=>(y.get id (iO d x.next)).trans (x.get id d)⟩
theorem Fr.new {a b:H}(x:Fr a b)(o:Ob):Fr a (b.new o):=x.trans ⟨by rw[H.aY];omega,λid c=>H.bJ b om o⟩
theorem Fr.set {a b:H}(x:Fr a b)(c:a.next<=id)(o:Option Ob):Fr a (b.set id o):=⟨x.next,λk d=>(H.aI b om o).trans (x.get k d)⟩
theorem Fr.bL {a b:H}(x:Fr a b){n:Nat}(c:b.next<=n):Fr a (H.mk b.tr n):=⟨jC x.next c,λk d=>(H.lG b n k).trans (x.get k d)⟩
theorem Fr.cell {a b:H}(x:Fr a b)(c:id<a.next)(off:Nat):b.cell id off=a.cell id off:=by unfold H.cell;rw[x.get id c]
def Yw (op:BinOp)(k:IntKind)(x y:V):Option V:=match x,y with
 | .int j a,.int j' b=>if j=k/\j'=k then arith op k a b else none
 |_,_=>none
theorem Tl (op:BinOp)(k:IntKind)(a b:Int):Yw op k (.int k a) (.int k b)=arith op k a b:=by simp [Yw]
def CO:V->Option V
 | .bool a=>some (.bool (!a))
 |_=>none
theorem Qf (a:Bool):CO (.bool a)=some (.bool (!a)):=rfl
def Uw (c a b:V):Option V:=match c with
 | .bool t=>some (if t then a else b)
 |_=>none
theorem Ld (t:Bool)(a b:V):Uw (.bool t) a b=some (if t then a else b):=rfl
def Bo (neg:Bool):V->Option V
 | .aD=>some (.bool (!neg))
 | .sl .. | .emp _=>some (.bool neg)
 |_=>none
theorem Mw (neg:Bool):Bo neg .aD=some (.bool (!neg)):=rfl
theorem Rs (neg:Bool)(a:Addr):Bo neg (.emp a)=some (.bool neg):=rfl
theorem Wv (neg:Bool)(a b c:Nat)(d:mE):Bo neg (.sl a b c d)=some (.bool neg):=rfl
def BE (neg:Bool)(x y:V):Option V:=match x,y with
 | .bool a,.bool b=>some (.bool (if neg then !(a==b) else a==b))
 |_,_=>none
theorem CH (a b:Bool):BE false (.bool a) (.bool b)=some (.bool (a==b)):=rfl
theorem DT (a b:Bool):BE true (.bool a) (.bool b)=some (.bool (!(a==b))):=rfl
def BF (k:IntKind):V->Option V
 | .int j a=>if j=k then some (.int k (k.wrap (0-a))) else none
 |_=>none
theorem Xw (k:IntKind)(a:Int):BF k (.int k a)=some (.int k (k.wrap (0-a))):=by simp [BF]
def Xx (k:IntKind):V->Option V
 | .int _ a=>some (.int k (k.wrap a))
 |_=>none
theorem Qe (k j:IntKind)(a:Int):Xx k (.int j a)=some (.int k (k.wrap a)):=rfl
def CW (i:Nat):V->Option V
 | .tup vs=>vs[i]?
 |_=>none
theorem Vm (i:Nat)(vs:List V):CW i (.tup vs)=vs[i]? :=rfl
def cV (v:V):Option V:=(mH v).map λ(n:Nat)=>V.int .i64 (n:Int)
theorem Nc:cV .aD=some (.int .i64 0):=rfl
theorem Th (a b c:Nat)(d:mE):cV (.sl a b c d)=some (.int .i64 (c:Int)):=rfl
def Nw (agg:Bool)(off n:Nat):V->Option V
 | .agg vs=>if agg then (sub vs off n).map (λws=> .agg ws) else vs[off]?
 |_=>none
theorem Rn (off n:Nat)(vs:List V):Nw false off n (.agg vs)=vs[off]? :=rfl
theorem Ra (off n:Nat)(vs:List V):Nw true off n (.agg vs)=(sub vs off n).map (λws=> .agg ws):=rfl
def CB (off:Nat):V->Option V
 | .ptr id o=>some (.ptr id (o+off))
 |_=>none
theorem Tw (off id o:Nat):CB off (.ptr id o)=some (.ptr id (o+off)):=rfl
def CN:V->Option V
 | .ptr id o=>some (.ptr id o)
 |_=>none
theorem Xk (id o:Nat):CN (.ptr id o)=some (.ptr id o):=rfl
def Bn (h:H):V->Option V
 | .ptr id off=>h.cell id off
 |_=>none
theorem Se (h:H)(id off:Nat):Bn h (.ptr id off)=h.cell id off:=rfl
def Kx (h:H)(n:Nat):V->Option V
 | .ptr id off=>(h.row id off n).map .agg
 |_=>none
theorem Wy (h:H)(id off n:Nat):Kx h n (.ptr id off)=(h.row id off n).map .agg:=rfl
def Kz (h:H)(n:Nat)(x y:V):Option H:=match x with
 | .ptr id off=>if y.cells.length=n/\y.cells.all V.one then h.put id off y.cells else none
 |_=>none
def dS (o:Option Ob)(h:H)(id off:Nat)(ws:List V):Option H:=match o with
 |some (.cells false vs)=>(putAt vs off ws).map λvs'=>h.set id (some (.cells false vs'))
 |_=>none
theorem H.put_eq (h:H)(id off:Nat)(ws:List V):h.put id off ws=dS (h.get id) h id off ws:=by
 unfold H.put dS
 cases h.get id with
 |none=>rfl
 |some o=>cases o with
  |cells ro vs=>cases ro<;>rfl
  |_=>rfl
theorem Ml {o a:Option Ob}{h:H}{ws:List V}(e:o=a):dS o h id off ws=dS a h id off ws:=by rw[e]
theorem Ss (a:off<vs.length)(v:V):putAt vs off [v]=some (vs.set off v):=by
 unfold putAt;rw[aV (by simp;omega)];congr 1;rw[List.set_eq_take_append_cons_drop,aV a];simp
theorem bE (a:off<vs.length)(h:H)(id:Nat)(v:V):dS (some (.cells false vs)) h id off [v]=some (h.set id (some (.cells false (vs.set off v)))):=by
 simp only[dS];rw[Ss a];rfl
theorem fZ {y:V}(b:y.cells= [y])(a:y.one=true)(h:H)(id off:Nat):Kz h 1 (.ptr id off) y=dS (h.get id) h id off [y]:=by
 simp only[Kz,b,List.length_singleton,List.all_cons,List.all_nil,a,Bool.and_self,and_self,if_true,H.put_eq]
theorem AD (h:H)(id off:Nat)(k:IntKind)(a:Int):Kz h 1 (.ptr id off) (.int k a)=dS (h.get id) h id off [.int k a]:=fZ rfl rfl h id off
theorem Xj (h:H)(id off:Nat)(a:Bool):Kz h 1 (.ptr id off) (.bool a)=dS (h.get id) h id off [.bool a]:=fZ rfl rfl h id off
theorem EW (h:H)(id off a b c:Nat)(d:mE):Kz h 1 (.ptr id off) (.sl a b c d)=dS (h.get id) h id off [.sl a b c d]:=fZ rfl rfl h id off
theorem Xq (h:H)(id off:Nat):Kz h 1 (.ptr id off) .aD=dS (h.get id) h id off [.aD]:=fZ rfl rfl h id off
theorem pY (h:H)(id off n:Nat)(vs:List V)(a:vs.length=n)(b:vs.all V.one=true):Kz h n (.ptr id off) (.agg vs)=dS (h.get id) h id off vs:=by
 simp only[Kz,V.cells,a,b,and_self,if_true,H.put_eq]
def Bk (h:H)(x:V):Option (V×H):=if x.cells.all V.one then some (.ptr h.next 0,h.new (.cells false x.cells)) else none
theorem kC {x:V}(b:x.cells= [x])(a:x.one=true)(h:H):Bk h x=some (.ptr h.next 0,h.new (.cells false [x])):=by
 simp [Bk,b,a]
theorem An (h:H)(k:IntKind)(a:Int):Bk h (.int k a)=some (.ptr h.next 0,h.new (.cells false [.int k a])):=rfl
theorem Rh (h:H)(a:Bool):Bk h (.bool a)=some (.ptr h.next 0,h.new (.cells false [.bool a])):=rfl
theorem rT (h:H)(vs:List V)(a:vs.all V.one=true):Bk h (.agg vs)=some (.ptr h.next 0,h.new (.cells false vs)):=by
 simp only[Bk,V.cells,a,if_true]
theorem sD {len sz:Nat}{a:mE}{k:IntKind}{n:Int}(b:0<=n)(c:n<len):Ko sz (.sl id off len a) (.int k n)=some (.ptr id (off+n.toNat*sz)):=by
 simp only[Ko];rw[aV ⟨b,c⟩]
section
variable (ρ:X->V) (h:H)
theorem Zq (x:X):cW ρ h (.mov x)=some (ρ x,h):=rfl
theorem Xe (c a b:X):cW ρ h (.pick c a b)=(Uw (ρ c) (ρ a) (ρ b)).map (·,h):=by
 simp only[cW,Uw];cases ρ c<;>rfl
theorem AH (op:BinOp)(k:IntKind)(x y:X):cW ρ h (.bin op k x y)=(Yw op k (ρ x) (ρ y)).map (·,h):=by
 simp only[cW,Yw];cases ρ x<;>cases ρ y<;>try rfl
 simp only;split<;>rfl
theorem AO (neg:Bool)(x y:X):cW ρ h (.beq neg x y)=(BE neg (ρ x) (ρ y)).map (·,h):=by
 simp only[cW,BE];cases ρ x<;>cases ρ y<;>rfl
theorem Ut (neg:Bool)(x:X):cW ρ h (.snil neg x)=(Bo neg (ρ x)).map (·,h):=by
 simp only[cW,Bo];cases ρ x<;>rfl
theorem Ys (x:X):cW ρ h (.not x)=(CO (ρ x)).map (·,h):=by
 simp only[cW,CO];cases ρ x<;>rfl
theorem BP (k:IntKind)(x:X):cW ρ h (.neg k x)=(BF k (ρ x)).map (·,h):=by
 simp only[cW,BF];cases ρ x<;>try rfl
 simp only;split<;>rfl
theorem Vd (k:IntKind)(x:X):cW ρ h (.conv k x)=(Xx k (ρ x)).map (·,h):=by
 simp only[cW,Xx];cases ρ x<;>rfl
theorem Za (x:X)(i:Nat):cW ρ h (.ext x i)=(CW i (ρ x)).map (·,h):=by
 simp only[cW,CW];cases ρ x<;>rfl
theorem Tj (x:X):cW ρ h (.lens x)=(cV (ρ x)).map (·,h):=by
 simp only[cW,cV,Option.map_map];rfl
theorem Uy (agg:Bool)(off n:Nat)(x:X):cW ρ h (.part agg off n x)=(Nw agg off n (ρ x)).map (·,h):=by
 simp only[cW,Nw];cases ρ x<;>try rfl
 cases agg
 ·rfl
 ·simp only[if_true,Option.map_map];rfl
theorem Hm (x:X):cW ρ h (.ld false 1 x)=(Bn h (ρ x)).map (·,h):=by
 simp only[cW,Yc,Bn,H.row,H.cell];cases ρ x<;>try rfl
 simp only;rename_i id off
 cases h.get id with
 |none=>rfl
 |some o=>cases o with
  |cells ro vs=>
   simp only[sub]
   by_cases a:off<vs.length
   ·rw[aV om,eX a]
    have:(vs.drop off).take 1= [vs[off]]:=by
     rw[Tb a];rfl
    rw[this];rfl
   ·rw[aZ om,List.getElem?_eq_none om]
  |_=>rfl
theorem Ow (n:Nat)(x:X):cW ρ h (.ld true n x)=(Kx h n (ρ x)).map (·,h):=by
 simp only[cW,Yc,Kx];cases ρ x<;>try rfl
 simp only;cases h.row _ _ n<;>rfl
theorem CM (n:Nat)(x y:X):cW ρ h (.st n x y)=(Kz h n (ρ x) (ρ y)).map λh'=>(V.undef,h'):=by
 simp only[cW,Kz];cases ρ x<;>try rfl
 simp only;split<;>rfl
theorem Zm (sz:Nat)(x i:X):cW ρ h (.ixa sz x i)=(Ko sz (ρ x) (ρ i)).map (·,h):=rfl
theorem Zb (off:Nat)(x:X):cW ρ h (.fla off x)=(CB off (ρ x)).map (·,h):=by
 simp only[cW,CB];cases ρ x<;>rfl
theorem BO (x:X):cW ρ h (.nck x)=(CN (ρ x)).map (·,h):=by
 simp only[cW,CN];cases ρ x<;>rfl
theorem AR (sz:Nat)(x:X)(a hi b:Option X):cW ρ h (.slc sz x a hi b)=(oY sz (ρ x) (a.map ρ) (hi.map ρ) (b.map ρ)).map (·,h):=rfl
theorem Zr (sz bytes:Nat)(zero:List V)(l c:X):cW ρ h (.mks sz bytes zero l c)=uJ h sz bytes zero (ρ l) (ρ c):=rfl
theorem Yx (zero:List V):cW ρ h (.alc zero)=some (.ptr h.next 0,h.new (.cells false zero)):=rfl
theorem Zt (x:X):cW ρ h (.box x)=Bk h (ρ x):=rfl
theorem DH (a:Bool)(x y:X):cW ρ h (.mm a [x,y])=(Tc a (ρ x) [ρ y]).map (·,h):=rfl
theorem Zg (f:Nat)(a b:List X):cW ρ h (.mkf f a b)=some (.fn f (a.map ρ) (b.map ρ),h):=rfl
theorem Yz:cW ρ h .mkm=some (.mp h.next,h.new (.map [])):=rfl
def qV (h:H)(sz bytes:Nat)(x y:V):Option (V×H):=match mH y,h.slice sz y with
 |some m,some ys=>qB h sz bytes x m ys
 |_,_=>none
theorem Zx (sz bytes:Nat)(x y:X):cW ρ h (.app sz bytes x y)=qV h sz bytes (ρ x) (ρ y):=rfl
def kU (zero:List V)(parts:List (Nat×Nat×V)):Option V:=(gG zero parts).map .agg
theorem BC (zero:List V)(a:List (Nat×Nat×X)):cW ρ h (.bld zero a)=(kU zero (a.map λp=>(p.1,p.2.1,ρ p.2.2))).map (·,h):=by
 simp only[cW,kU,Option.map_map];rfl
def pF (h:H)(sz:Nat)(zero:List V)(n:Nat)(parts:List (Nat×Nat×V)):Option (V×H):=match gG (dN zero (n*sz)) parts with
  |some cs=>if cs.all V.one then some (.sl h.next 0 n (.kn n),h.new (.cells false cs)) else none
  |none=>none
theorem Zp (sz:Nat)(zero:List V)(n:Nat)(a:List (Nat×Nat×X)):cW ρ h (.bls sz zero n a)=pF h sz zero n (a.map λp=>(p.1,p.2.1,ρ p.2.2)):=rfl
theorem AT (sz:Nat)(x y:X):cW ρ h (.cpy sz x y)=Re h sz (ρ x) (ρ y):=rfl
end
theorem HA (a b:List V)(k:Nat):xv a b (.v k)=a.getD k .undef:=rfl
theorem HI (a b:List V)(k:Nat):xv a b (.l k)=b.getD k .undef:=rfl
theorem EC (a b:List V)(x:V):xv a b (.c x)=x:=rfl
theorem AY (k:Nat)(a b:List V)(v:V):(jJ (.v k) a b v).1=a.set k v:=rfl
theorem AV (k:Nat)(a b:List V)(v:V):(jJ (.v k) a b v).2=b:=rfl
theorem Yu (a b:List V)(v:V):(jJ .l a b v).1=a:=rfl
theorem AN (a b:List V)(v:V):(jJ .l a b v).2=v::b:=rfl
theorem AG (a b:List V)(v:V):(jJ .n a b v).1=a:=rfl
theorem Ym (a b:List V)(v:V):(jJ .n a b v).2=b:=rfl
theorem Iu (c d:List V)(x:X)(b:Bool):fJ c d (some (x,b))=(match xv c d x with| .bool a=>some (a==b)| .tup []=>some false|_=>none):=rfl
theorem Qk (k:IntKind)(a b:Int):arith .add k a b=some (.int k (k.wrap (a+b))):=rfl
theorem Rw (k:IntKind)(a b:Int):arith .sub k a b=some (.int k (k.wrap (a-b))):=rfl
theorem Qh (k:IntKind)(a b:Int):arith .mul k a b=some (.int k (k.wrap (a*b))):=rfl
theorem Qq (k:IntKind)(a b:Int)(c:b≠0):arith .quo k a b=some (.int k (k.wrap (a.tdiv b))):=by simp only[arith];rw[aZ c]
theorem Qt (k:IntKind)(a b:Int)(c:b≠0):arith .rem k a b=some (.int k (a.tmod b)):=by simp only[arith];rw[aZ c]
theorem Ps (k:IntKind)(a b:Int):arith .eql k a b=some (.bool (decide (a=b))):=by
 simp only[arith];congr 2
theorem Ro (k:IntKind)(a b:Int):arith .neq k a b=some (.bool (decide (a≠b))):=by
 simp only[arith];congr 2;rw[wW];simp
theorem Sj (k:IntKind)(a b:Int):arith .lss k a b=some (.bool (decide (a<b))):=rfl
theorem Qw (k:IntKind)(a b:Int):arith .leq k a b=some (.bool (decide (a<=b))):=rfl
theorem Sw (k:IntKind)(a b:Int):arith .gtr k a b=some (.bool (decide (b<a))):=rfl
theorem Qb (k:IntKind)(a b:Int):arith .geq k a b=some (.bool (decide (b<=a))):=rfl
theorem DI (k:IntKind)(a b:Int):Tc false (.int k a) [.int k b]=some (.int k (if b<a then b else a)):=by
 simp only[Tc,if_true,Bool.false_eq_true,if_false]
theorem CZ (k:IntKind)(a b:Int):Tc true (.int k a) [.int k b]=some (.int k (if b>a then b else a)):=by
 simp only[Tc,if_true]
theorem Gb {n:Int}(a: -9223372036854775808<=n)(h2:n<9223372036854775808):IntKind.i64.wrap n=n:=wrap_i64 a h2
theorem DC (a:List V)(h:H)(k:Nat):sY a h (.v k)=some (a.getD k .undef):=rfl
theorem Lc (c:List V)(h:H)(k:Nat):sY c h (.cell k false 1)=Bn h (c.getD k .undef):=by
 have:=Hm (λ_=>c.getD k .undef) h (.v 0);simp only[sY];simp only[cW] at this;generalize Yc h false 1 (c.getD k .undef)=a at*;generalize Bn h (c.getD k .undef)=b at*;cases a<;>cases b<;>simp at this ⊢;exact this
theorem Lz (a:List V)(h:H)(k n:Nat):sY a h (.cell k true n)=Kx h n (a.getD k .undef):=by
 simp only[sY,Yc,Kx];cases a.getD k .undef<;>try rfl
 simp only;cases h.row _ _ n<;>rfl
theorem Ke {α:Type}:cU ([]:List (Option α))=some []:=rfl
theorem Gr {α:Type}(a:α)(r:List (Option α)):cU (some a::r)=(cU r).map (a:: ·):=rfl
theorem Ty (v:V):wF [v]=v:=rfl
theorem Wz (v u:V):wF [v,u]= .tup [v,u]:=rfl
theorem Lg (v u t:V):wF [v,u,t]= .tup [v,u,t]:=rfl
theorem lW:V.undef= .tup []:=rfl
theorem aF (a:Fn)(args:List V):tK a args=a.init.map λo=>match o with|some j=>args.getD j .undef|none=> .undef:=rfl
theorem Qr (a:Log)(h:H):mC [] a h=true:=by simp [mC]
attribute [go_sem] BJ ED Yk Vv ER CQ Uf DN Ug Xb zG Rz Nb Jx Ma rQ Qv Ii Ms Is Pw Xl Qz Lf Mb Jy Vq Xs Yj EE AE Zc Zz BN Rq AJ Uu So Yf Tu Pu Sc EH Vl Qy Sb Up Xm Ir Zq Xe AH AO Ut Ys BP Vd Za Tj Uy Hm Ow CM Zm Zb BO AR Zr Yx Zt DH Zg Yz Zx BC Zp AT Tl Qf Ld Mw Wv Rs CH DT Bool.not_false Bool.not_true beq_true beq_false if_true if_false Bool.false_eq_true Xz Xw Qe Vm Nc Th Rn Ra Tw Xk Se Wy AD Xj EW Xq An Rh bE sD HA HI EC AY AV Yu AN AG Ym Iu Qk Rw Qh Qq Qt Ps Ro Sj Qw Sw Qb DI CZ Gb DC Lc Lz Ke Gr Ty Wz Lg Qr H.aT H.aI H.aN H.bJ H.lG H.Qj H.tD H.xW H.Ce H.Jp H.cZ H.aY true_and Option.map_some Option.map_none List.replicate_succ List.replicate_zero List.take_succ_cons List.take_zero List.length_cons List.length_nil Nat.zero_add List.foldl_cons List.foldl_nil List.map_cons List.map_nil List.getD_cons_zero List.getD_cons_succ List.set_cons_zero List.set_cons_succ List.cons_append List.nil_append pN
attribute [congr] Ml
abbrev bX (l:List V):Option Ob:=some (.cells false l)
abbrev aB (z:Int):V:=.int .i64 z
abbrev LN:=List (List Nat)
abbrev jL:=List (List (List Nat))
theorem bV {p:Prop}[d:Decidable p](h:p):decide p=true:=decide_eq_true h
theorem bM {p:Prop}[d:Decidable p](h:¬p):decide p=false:=decide_eq_false h
theorem bH {p:Nat->Option Fn}{g:Nat}(a:Fn){args:List V}{h:H}{Q:V->H->Prop}(c:p g=some a)(b:args.length=a.nargs)(d:Wp p none a.body (tK a args) h (Tg a.results Q)):Ev p g args h Q:=yH c b d
theorem IP.{u}{α:Sort u}(a:α):∃b,a=b:=⟨a,rfl⟩
theorem dX (i:Nat):(i:Int)+1=((i+1:Nat):Int):=om
end
end Go.Ay
