/- Rules for walking through the abstract machine's code. -/
import Derived.Test.YtapfcpkecmmagaaGreatAy23
import Derived.Attr
namespace Go.Ay
section
variable {id k off:Nat} {vs:List V}
def find:List (Nat×Fn)->Nat->Option Fn
 | [],_=>none
 |(k,f)::l,n=>cond (Nat.beq k n) (some f) (find l n)
attribute [congr] zK Qa Pu Kh Iy Jr Mj Dv Cu Dl Cd Aw
def H.cell (h:H)(id off:Nat):Option V:=match h.get id with
 |some (.cells _ vs)=>vs[off]?
 |_=>none
section
variable (h:H)
theorem H.aF {h:H}{ro:Bool}(hg:h.get id=some (.cells ro vs))(off:Nat):h.cell id off=vs[off]? :=by
 unfold H.cell;rw[hg]
theorem H.aT (id:Nat)(o:Option Ob):(h.set id o).get id=o:=by rw[H.fD,if_pos rfl]
theorem H.aH (hk:k≠id)(o:Option Ob):(h.set id o).get k=h.get k:=by rw[H.fD,if_neg hk]
theorem H.aM (o:Ob):(h.new o).get h.next=some o:=by rw[H.fW,if_pos rfl]
theorem H.bG (hk:k≠h.next)(o:Ob):(h.new o).get k=h.get k:=by rw[H.fW,if_neg hk]
theorem H.jM (n k:Nat):(H.mk h.tr n).get k=h.get k:=rfl
theorem H.Ij (n k off:Nat):(H.mk h.tr n).cell k off=h.cell k off:=rfl
theorem H.qG (id:Nat)(ro:Bool)(vs:List V)(off:Nat):(h.set id (some (.cells ro vs))).cell id off=vs[off]? :=H.aF (H.aT ..) off
theorem H.tW (hk:k≠id)(o:Option Ob)(off:Nat):(h.set id o).cell k off=h.cell k off:=by unfold H.cell;rw[H.aH h hk]
theorem H.xP (ro:Bool)(vs:List V)(off:Nat):(h.new (.cells ro vs)).cell h.next off=vs[off]? :=H.aF (H.aM ..) off
theorem H.Ch (hk:k≠h.next)(o:Ob)(off:Nat):(h.new o).cell k off=h.cell k off:=by unfold H.cell;rw[H.bG h hk]
end
structure Fr (h h':H):Prop where
 next:h.next<=h'.next
 get: ∀id,id<h.next->h'.get id=h.get id
theorem Fr.refl (h:H):Fr h h:=⟨eP _,λ_ _=>rfl⟩
theorem Fr.trans {a b c:H}(x:Fr a b)(y:Fr b c):Fr a c:=⟨Nat.le_trans x.next y.next,λid hid=>(y.get id (gE hid x.next)).trans (x.get id hid)⟩
theorem Fr.new {a b:H}(x:Fr a b)(o:Ob):Fr a (b.new o):=x.trans ⟨by rw[H.aV];omega,λid hid=>H.bG b (by omega) o⟩
theorem Fr.set {a b:H}(x:Fr a b)(hid:a.next<=id)(o:Option Ob):Fr a (b.set id o):=⟨x.next,λk hk=>(H.aH b (by omega) o).trans (x.get k hk)⟩
theorem Fr.bJ {a b:H}(x:Fr a b){n:Nat}(hn:b.next<=n):Fr a (H.mk b.tr n):=⟨Nat.le_trans x.next hn,λk hk=>(H.jM b n k).trans (x.get k hk)⟩
theorem Fr.cell {a b:H}(x:Fr a b)(hid:id<a.next)(off:Nat):b.cell id off=a.cell id off:=by unfold H.cell;rw[x.get id hid]
def Tb (op:BinOp)(k:IntKind)(x y:V):Option V:=match x,y with
 | .int j a,.int j' b=>if j=k/\j'=k then arith op k a b else none
 |_,_=>none
theorem Qj (op:BinOp)(k:IntKind)(a b:Int):Tb op k (.int k a) (.int k b)=arith op k a b:=by simp [Tb]
def Ux:V->Option V
 | .bool a=>some (.bool (!a))
 |_=>none
theorem Ks (a:Bool):Ux (.bool a)=some (.bool (!a)):=rfl
def Nz (c a b:V):Option V:=match c with
 | .bool t=>some (if t then a else b)
 |_=>none
theorem Eh (t:Bool)(a b:V):Nz (.bool t) a b=some (if t then a else b):=rfl
def wQ (neg:Bool):V->Option V
 | .aB=>some (.bool (!neg))
 | .sl .. | .emp _=>some (.bool neg)
 |_=>none
theorem Ed (neg:Bool):wQ neg .aB=some (.bool (!neg)):=rfl
theorem Ji (neg:Bool)(a:Addr):wQ neg (.emp a)=some (.bool neg):=rfl
theorem Oe (neg:Bool)(a b c:Nat)(d:kL):wQ neg (.sl a b c d)=some (.bool neg):=rfl
def Sj (neg:Bool)(x y:V):Option V:=match x,y with
 | .bool a,.bool b=>some (.bool (if neg then !(a==b) else a==b))
 |_,_=>none
theorem Ws (a b:Bool):Sj false (.bool a) (.bool b)=some (.bool (a==b)):=rfl
theorem Vp (a b:Bool):Sj true (.bool a) (.bool b)=some (.bool (!(a==b))):=rfl
def To (k:IntKind):V->Option V
 | .int j a=>if j=k then some (.int k (k.wrap (0-a))) else none
 |_=>none
theorem Nn (k:IntKind)(a:Int):To k (.int k a)=some (.int k (k.wrap (0-a))):=by simp [To]
def Og (k:IntKind):V->Option V
 | .int _ a=>some (.int k (k.wrap a))
 |_=>none
theorem Jy (k j:IntKind)(a:Int):Og k (.int j a)=some (.int k (k.wrap a)):=rfl
def Vl (i:Nat):V->Option V
 | .tup vs=>vs[i]?
 |_=>none
theorem Mr (i:Nat)(vs:List V):Vl i (.tup vs)=vs[i]? :=rfl
def dB (v:V):Option V:=(kM v).map λ(n:Nat)=>V.int .i64 (n:Int)
theorem Ez:dB .aB=some (.int .i64 0):=rfl
theorem Qi (a b c:Nat)(d:kL):dB (.sl a b c d)=some (.int .i64 (c:Int)):=rfl
def Hp (agg:Bool)(off n:Nat):V->Option V
 | .agg vs=>if agg then (sub vs off n).map (λws=> .agg ws) else vs[off]?
 |_=>none
theorem Kr (off n:Nat)(vs:List V):Hp false off n (.agg vs)=vs[off]? :=rfl
theorem Jc (off n:Nat)(vs:List V):Hp true off n (.agg vs)=(sub vs off n).map (λws=> .agg ws):=rfl
def Wr (off:Nat):V->Option V
 | .ptr id o=>some (.ptr id (o+off))
 |_=>none
theorem Oh (off id o:Nat):Wr off (.ptr id o)=some (.ptr id (o+off)):=rfl
def Wl:V->Option V
 | .ptr id o=>some (.ptr id o)
 |_=>none
theorem Mw (id o:Nat):Wl (.ptr id o)=some (.ptr id o):=rfl
def vV (h:H):V->Option V
 | .ptr id off=>h.cell id off
 |_=>none
theorem Ko (h:H)(id off:Nat):vV h (.ptr id off)=h.cell id off:=rfl
def Ew (h:H)(n:Nat):V->Option V
 | .ptr id off=>(h.row id off n).map .agg
 |_=>none
theorem Pq (h:H)(id off n:Nat):Ew h n (.ptr id off)=(h.row id off n).map .agg:=rfl
def Hg (h:H)(n:Nat)(x y:V):Option H:=match x with
 | .ptr id off=>if y.cells.length=n/\y.cells.all V.one then h.put id off y.cells else none
 |_=>none
def dV (o:Option Ob)(h:H)(id off:Nat)(ws:List V):Option H:=match o with
 |some (.cells false vs)=>(putAt vs off ws).map λvs'=>h.set id (some (.cells false vs'))
 |_=>none
theorem H.put_eq (h:H)(id off:Nat)(ws:List V):h.put id off ws=dV (h.get id) h id off ws:=by
 unfold H.put dV
 cases h.get id with
 |none=>rfl
 |some o=>cases o with
  |cells ro vs=>cases ro<;>rfl
  |_=>rfl
theorem Et {o o':Option Ob}{h:H}{ws:List V}(e:o=o'):dV o h id off ws=dV o' h id off ws:=by rw[e]
theorem Jw (hlt:off<vs.length)(v:V):putAt vs off [v]=some (vs.set off v):=by
 unfold putAt;rw[if_pos (by simp;omega)];congr 1;rw[List.set_eq_take_append_cons_drop,if_pos hlt];simp
theorem bE (hlt:off<vs.length)(h:H)(id:Nat)(v:V):dV (some (.cells false vs)) h id off [v]=some (h.set id (some (.cells false (vs.set off v)))):=by
 simp only[dV];rw[Jw hlt];rfl
theorem gH {y:V}(hc:y.cells= [y])(ho:y.one=true)(h:H)(id off:Nat):Hg h 1 (.ptr id off) y=dV (h.get id) h id off [y]:=by
 simp only[Hg,hc,List.length_singleton,List.all_cons,List.all_nil,ho,Bool.and_self,and_self,if_true,H.put_eq]
theorem Qy (h:H)(id off:Nat)(k:IntKind)(a:Int):Hg h 1 (.ptr id off) (.int k a)=dV (h.get id) h id off [.int k a]:=gH rfl rfl h id off
theorem Ma (h:H)(id off:Nat)(a:Bool):Hg h 1 (.ptr id off) (.bool a)=dV (h.get id) h id off [.bool a]:=gH rfl rfl h id off
theorem Vh (h:H)(id off a b c:Nat)(d:kL):Hg h 1 (.ptr id off) (.sl a b c d)=dV (h.get id) h id off [.sl a b c d]:=gH rfl rfl h id off
theorem Ni (h:H)(id off:Nat):Hg h 1 (.ptr id off) .aB=dV (h.get id) h id off [.aB]:=gH rfl rfl h id off
theorem pU (h:H)(id off n:Nat)(vs:List V)(hn:vs.length=n)(ho:vs.all V.one=true):Hg h n (.ptr id off) (.agg vs)=dV (h.get id) h id off vs:=by
 simp only[Hg,V.cells,hn,ho,and_self,if_true,H.put_eq]
def uI (h:H)(x:V):Option (V×H):=if x.cells.all V.one then some (.ptr h.next 0,h.new (.cells false x.cells)) else none
theorem iW {x:V}(hc:x.cells= [x])(ho:x.one=true)(h:H):uI h x=some (.ptr h.next 0,h.new (.cells false [x])):=by
 simp [uI,hc,ho]
theorem wF (h:H)(k:IntKind)(a:Int):uI h (.int k a)=some (.ptr h.next 0,h.new (.cells false [.int k a])):=rfl
theorem Kk (h:H)(a:Bool):uI h (.bool a)=some (.ptr h.next 0,h.new (.cells false [.bool a])):=rfl
theorem nP (h:H)(vs:List V)(ho:vs.all V.one=true):uI h (.agg vs)=some (.ptr h.next 0,h.new (.cells false vs)):=by
 simp only[uI,V.cells,ho,if_true]
theorem rR {len sz:Nat}{cap:kL}{k:IntKind}{n:Int}(h0:0<=n)(h1:n<len):Cr sz (.sl id off len cap) (.int k n)=some (.ptr id (off+n.toNat*sz)):=by
 simp only[Cr];rw[if_pos ⟨h0,h1⟩]
section
variable (ρ:X->V) (h:H)
theorem Qw (x:X):cI ρ h (.mov x)=some (ρ x,h):=rfl
theorem Nw (c a b:X):cI ρ h (.pick c a b)=(Nz (ρ c) (ρ a) (ρ b)).map (·,h):=by
 simp only[cI,Nz];cases ρ c<;>rfl
theorem Tm (op:BinOp)(k:IntKind)(x y:X):cI ρ h (.bin op k x y)=(Tb op k (ρ x) (ρ y)).map (·,h):=by
 simp only[cI,Tb];cases ρ x<;>cases ρ y<;>try rfl
 simp only;split<;>rfl
theorem Qs (neg:Bool)(x y:X):cI ρ h (.beq neg x y)=(Sj neg (ρ x) (ρ y)).map (·,h):=by
 simp only[cI,Sj];cases ρ x<;>cases ρ y<;>rfl
theorem Lm (neg:Bool)(x:X):cI ρ h (.snil neg x)=(wQ neg (ρ x)).map (·,h):=by
 simp only[cI,wQ];cases ρ x<;>rfl
theorem Sc (x:X):cI ρ h (.not x)=(Ux (ρ x)).map (·,h):=by
 simp only[cI,Ux];cases ρ x<;>rfl
theorem Qt (k:IntKind)(x:X):cI ρ h (.neg k x)=(To k (ρ x)).map (·,h):=by
 simp only[cI,To];cases ρ x<;>try rfl
 simp only;split<;>rfl
theorem Pt (k:IntKind)(x:X):cI ρ h (.conv k x)=(Og k (ρ x)).map (·,h):=by
 simp only[cI,Og];cases ρ x<;>rfl
theorem Sb (x:X)(i:Nat):cI ρ h (.ext x i)=(Vl i (ρ x)).map (·,h):=by
 simp only[cI,Vl];cases ρ x<;>rfl
theorem Mh (x:X):cI ρ h (.lens x)=(dB (ρ x)).map (·,h):=by
 simp only[cI,dB,Option.map_map];rfl
theorem Nx (agg:Bool)(off n:Nat)(x:X):cI ρ h (.part agg off n x)=(Hp agg off n (ρ x)).map (·,h):=by
 simp only[cI,Hp];cases ρ x<;>try rfl
 cases agg
 ·rfl
 ·simp only[if_true,Option.map_map];rfl
theorem zI (x:X):cI ρ h (.ld false 1 x)=(vV h (ρ x)).map (·,h):=by
 simp only[cI,Pl,vV,H.row,H.cell];cases ρ x<;>try rfl
 simp only;rename_i id off
 cases h.get id with
 |none=>rfl
 |some o=>cases o with
  |cells ro vs=>
   simp only[sub]
   by_cases hlt:off<vs.length
   ·rw[if_pos (by omega),eQ hlt]
    have:(vs.drop off).take 1= [vs[off]]:=by
     rw[List.drop_eq_getElem_cons hlt];rfl
    rw[this];rfl
   ·rw[if_neg (by omega),List.getElem?_eq_none (by omega)]
  |_=>rfl
theorem Gz (n:Nat)(x:X):cI ρ h (.ld true n x)=(Ew h n (ρ x)).map (·,h):=by
 simp only[cI,Pl,Ew];cases ρ x<;>try rfl
 simp only;cases h.row _ _ n<;>rfl
theorem Wj (n:Nat)(x y:X):cI ρ h (.st n x y)=(Hg h n (ρ x) (ρ y)).map λh'=>(V.undef,h'):=by
 simp only[cI,Hg];cases ρ x<;>try rfl
 simp only;split<;>rfl
theorem Ro (sz:Nat)(x i:X):cI ρ h (.ixa sz x i)=(Cr sz (ρ x) (ρ i)).map (·,h):=rfl
theorem Qm (off:Nat)(x:X):cI ρ h (.fla off x)=(Wr off (ρ x)).map (·,h):=by
 simp only[cI,Wr];cases ρ x<;>rfl
theorem Sn (x:X):cI ρ h (.nck x)=(Wl (ρ x)).map (·,h):=by
 simp only[cI,Wl];cases ρ x<;>rfl
theorem Sq (sz:Nat)(x:X)(lo hi mx:Option X):cI ρ h (.slc sz x lo hi mx)=(nJ sz (ρ x) (lo.map ρ) (hi.map ρ) (mx.map ρ)).map (·,h):=rfl
theorem Tn (sz bytes:Nat)(zero:List V)(l c:X):cI ρ h (.mks sz bytes zero l c)=tF h sz bytes zero (ρ l) (ρ c):=rfl
theorem Se (zero:List V):cI ρ h (.alc zero)=some (.ptr h.next 0,h.new (.cells false zero)):=rfl
theorem Qu (x:X):cI ρ h (.box x)=uI h (ρ x):=rfl
theorem Vb (mx:Bool)(x y:X):cI ρ h (.mm mx [x,y])=(Li mx (ρ x) [ρ y]).map (·,h):=rfl
theorem Ud (f:Nat)(fs cs:List X):cI ρ h (.mkf f fs cs)=some (.fn f (fs.map ρ) (cs.map ρ),h):=rfl
theorem Ti:cI ρ h .mkm=some (.mp h.next,h.new (.map [])):=rfl
def qX (h:H)(sz bytes:Nat)(x y:V):Option (V×H):=match kM y,h.slice sz y with
 |some m,some ys=>oE h sz bytes x m ys
 |_,_=>none
theorem Ru (sz bytes:Nat)(x y:X):cI ρ h (.app sz bytes x y)=qX h sz bytes (ρ x) (ρ y):=rfl
def mM (zero:List V)(parts:List (Nat×Nat×V)):Option V:=(fU zero parts).map .agg
theorem Tx (zero:List V)(parts:List (Nat×Nat×X)):cI ρ h (.bld zero parts)=(mM zero (parts.map λp=>(p.1,p.2.1,ρ p.2.2))).map (·,h):=by
 simp only[cI,mM,Option.map_map];rfl
def nG (h:H)(sz:Nat)(zero:List V)(n:Nat)(parts:List (Nat×Nat×V)):Option (V×H):=match fU (dG zero (n*sz)) parts with
  |some cs=>if cs.all V.one then some (.sl h.next 0 n (.kn n),h.new (.cells false cs)) else none
  |none=>none
theorem Rd (sz:Nat)(zero:List V)(n:Nat)(parts:List (Nat×Nat×X)):cI ρ h (.bls sz zero n parts)=nG h sz zero n (parts.map λp=>(p.1,p.2.1,ρ p.2.2)):=rfl
theorem Ts (sz:Nat)(x y:X):cI ρ h (.cpy sz x y)=Jz h sz (ρ x) (ρ y):=rfl
end
theorem Zq (vars loc:List V)(k:Nat):xv vars loc (.v k)=vars.getD k .undef:=rfl
theorem Zj (vars loc:List V)(k:Nat):xv vars loc (.l k)=loc.getD k .undef:=rfl
theorem Wc (vars loc:List V)(x:V):xv vars loc (.c x)=x:=rfl
theorem Qr (k:Nat)(vars loc:List V)(v:V):(iA (.v k) vars loc v).1=vars.set k v:=rfl
theorem Rx (k:Nat)(vars loc:List V)(v:V):(iA (.v k) vars loc v).2=loc:=rfl
theorem Ql (vars loc:List V)(v:V):(iA .l vars loc v).1=vars:=rfl
theorem Sd (vars loc:List V)(v:V):(iA .l vars loc v).2=v::loc:=rfl
theorem Rc (vars loc:List V)(v:V):(iA .n vars loc v).1=vars:=rfl
theorem Qo (vars loc:List V)(v:V):(iA .n vars loc v).2=loc:=rfl
theorem Dj (vars loc:List V)(x:X)(b:Bool):dZ vars loc (some (x,b))=(match xv vars loc x with| .bool a=>some (a==b)| .tup []=>some false|_=>none):=rfl
theorem Jk (k:IntKind)(a b:Int):arith .add k a b=some (.int k (k.wrap (a+b))):=rfl
theorem Ja (k:IntKind)(a b:Int):arith .sub k a b=some (.int k (k.wrap (a-b))):=rfl
theorem Iq (k:IntKind)(a b:Int):arith .mul k a b=some (.int k (k.wrap (a*b))):=rfl
theorem Ir (k:IntKind)(a b:Int)(hb:b≠0):arith .quo k a b=some (.int k (k.wrap (a.tdiv b))):=by simp only[arith];rw[if_neg hb]
theorem Ki (k:IntKind)(a b:Int)(hb:b≠0):arith .rem k a b=some (.int k (a.tmod b)):=by simp only[arith];rw[if_neg hb]
theorem Kw (k:IntKind)(a b:Int):arith .eql k a b=some (.bool (decide (a=b))):=by
 simp only[arith];congr 2
theorem Je (k:IntKind)(a b:Int):arith .neq k a b=some (.bool (decide (a≠b))):=by
 simp only[arith];congr 2;rw[Bool.eq_iff_iff];simp
theorem Kl (k:IntKind)(a b:Int):arith .lss k a b=some (.bool (decide (a<b))):=rfl
theorem Ke (k:IntKind)(a b:Int):arith .leq k a b=some (.bool (decide (a<=b))):=rfl
theorem Lf (k:IntKind)(a b:Int):arith .gtr k a b=some (.bool (decide (b<a))):=rfl
theorem Ld (k:IntKind)(a b:Int):arith .geq k a b=some (.bool (decide (b<=a))):=rfl
theorem Vm (k:IntKind)(a b:Int):Li false (.int k a) [.int k b]=some (.int k (if b<a then b else a)):=by
 simp only[Li,if_true,Bool.false_eq_true,if_false]
theorem Vo (k:IntKind)(a b:Int):Li true (.int k a) [.int k b]=some (.int k (if b>a then b else a)):=by
 simp only[Li,if_true]
theorem Hf {n:Int}(h1: -9223372036854775808<=n)(h2:n<9223372036854775808):IntKind.i64.wrap n=n:=wrap_i64 h1 h2
theorem Vs (vars:List V)(h:H)(k:Nat):qD vars h (.v k)=some (vars.getD k .undef):=rfl
theorem Gu (vars:List V)(h:H)(k:Nat):qD vars h (.cell k false 1)=vV h (vars.getD k .undef):=by
 have:=zI (λ_=>vars.getD k .undef) h (.v 0);simp only[qD];simp only[cI] at this;generalize Pl h false 1 (vars.getD k .undef)=a at*;generalize vV h (vars.getD k .undef)=b at*;cases a<;>cases b<;>simp at this ⊢;exact this
theorem Gn (vars:List V)(h:H)(k n:Nat):qD vars h (.cell k true n)=Ew h n (vars.getD k .undef):=by
 simp only[qD,Pl,Ew];cases vars.getD k .undef<;>try rfl
 simp only;cases h.row _ _ n<;>rfl
theorem Dk {α:Type}:bY ([]:List (Option α))=some []:=rfl
theorem Ac {α:Type}(a:α)(r:List (Option α)):bY (some a::r)=(bY r).map (a:: ·):=rfl
theorem Nh (v:V):tJ [v]=v:=rfl
theorem Nj (v u:V):tJ [v,u]= .tup [v,u]:=rfl
theorem Eo (v u t:V):tJ [v,u,t]= .tup [v,u,t]:=rfl
theorem vY:V.undef= .tup []:=rfl
theorem aE (fn:Fn)(args:List V):qF fn args=fn.init.map λo=>match o with|some j=>args.getD j .undef|none=> .undef:=rfl
theorem Iv (log:Log)(h:H):kE [] log h=true:=by simp [kE]
attribute [go_sem] Rf Vr Sx Mi Xa Va Ol Uz Pb Nq wV Ig Ec Cv Fo pI Ip Bs Gb Di Iz Nm Jo Gk Fm Bw Ph Ml Sh Vq Rw Ry Tc Rm Jn Sw Pc Jx Sk Qh Lg Jm Wi Pw Is Km Lw Oa Ct Qw Nw Tm Qs Lm Sc Qt Pt Sb Mh Nx zI Gz Wj Ro Qm Sn Sq Tn Se Qu Vb Ud Ti Ru Tx Rd Ts Qj Ks Eh Ed Oe Ji Ws Vp Bool.not_false Bool.not_true beq_true beq_false if_true if_false Bool.false_eq_true Lz Nn Jy Mr Ez Qi Kr Jc Oh Mw Ko Pq Qy Ma Vh Ni wF Kk bE rR Zq Zj Wc Qr Rx Ql Sd Rc Qo Dj Jk Ja Iq Ir Ki Kw Je Kl Ke Lf Ld Vm Vo Hf Vs Gu Gn Dk Ac Nh Nj Eo Iv H.aT H.aH H.aM H.bG H.jM H.Ij H.qG H.tW H.xP H.Ch H.cJ H.aV true_and Option.map_some Option.map_none List.replicate_succ List.replicate_zero List.take_succ_cons List.take_zero List.length_cons List.length_nil Nat.zero_add List.foldl_cons List.foldl_nil List.map_cons List.map_nil List.getD_cons_zero List.getD_cons_succ List.set_cons_zero List.set_cons_succ List.cons_append List.nil_append List.append_nil
attribute [congr] Et
abbrev cE (l:List V):Option Ob:=some (.cells false l)
abbrev aC (z:Int):V:=.int .i64 z
abbrev LN:=List (List Nat)
abbrev lU:=List (List (List Nat))
theorem mF {p:Prop}[d:Decidable p](h:p):decide p=true:=decide_eq_true h
theorem iG {p:Prop}[d:Decidable p](h:¬p):decide p=false:=decide_eq_false h
theorem bP {p:Nat->Option Fn}{g:Nat}(fn:Fn){args:List V}{h:H}{Q:V->H->Prop}(hg:p g=some fn)(hl:args.length=fn.nargs)(hw:Wp p none fn.body (qF fn args) h (Mb fn.results Q)):Ev p g args h Q:=tX hg hl hw
theorem AS.{u}{α:Sort u}(a:α):∃b,a=b:=⟨a,rfl⟩
theorem iO (i:Nat):(i:Int)+1=((i+1:Nat):Int):=by omega
end
end Go.Ay
