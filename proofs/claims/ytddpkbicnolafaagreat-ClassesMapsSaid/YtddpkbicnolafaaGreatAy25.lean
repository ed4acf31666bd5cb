/- Rules for walking through the abstract machine's code. -/
import Derived.Test.YtddpkbicnolafaaGreatAy23
import Derived.Attr
namespace Go.Ay
def find:List (Nat×Fn)->Nat->Option Fn
 | [],_=>none
 |(k,f)::l,n=>cond (Nat.beq k n) (some f) (find l n)
attribute [congr] CX aaP XO SE PX PT UW MT GL FH HG BG
def H.cell (h:H) (id off:Nat):Option V:=match h.get id with
 |some (.cells _ vs)=>vs[off]?
 |_=>none
section
variable (h:H)
theorem H.aG {h:H} {id:Nat} {ro:Bool} {vs:List V} (hg:h.get id=some (.cells ro vs)) (off:Nat):h.cell id off=vs[off]? :=by
 unfold H.cell;rw [hg]
theorem H.aV (id:Nat) (o:Option Ob):(h.set id o).get id=o:=by rw [H.jM,if_pos rfl]
theorem H.aH {id k:Nat} (hk:k≠id) (o:Option Ob):(h.set id o).get k=h.get k:=by rw [H.jM,if_neg hk]
theorem H.aQ (o:Ob):(h.new o).get h.next=some o:=by rw [H.lW,if_pos rfl]
theorem H.bM {k:Nat} (hk:k≠h.next) (o:Ob):(h.new o).get k=h.get k:=by rw [H.lW,if_neg hk]
theorem H.sV (n k:Nat):(H.mk h.tr n).get k=h.get k:=rfl
theorem H.SG (n k off:Nat):(H.mk h.tr n).cell k off=h.cell k off:=rfl
theorem H.Ig (id:Nat) (ro:Bool) (vs:List V) (off:Nat):(h.set id (some (.cells ro vs))).cell id off=vs[off]? :=H.aG (H.aV ..) off
theorem H.yH {id k:Nat} (hk:k≠id) (o:Option Ob) (off:Nat):(h.set id o).cell k off=h.cell k off:=by unfold H.cell;rw [H.aH h hk]
theorem H.Xt (ro:Bool) (vs:List V) (off:Nat):(h.new (.cells ro vs)).cell h.next off=vs[off]? :=H.aG (H.aQ ..) off
theorem H.FW {k:Nat} (hk:k≠h.next) (o:Ob) (off:Nat):(h.new o).cell k off=h.cell k off:=by unfold H.cell;rw [H.bM h hk]
end
structure Fr (h h':H):Prop where
 next:h.next<=h'.next
 get: ∀ id,id<h.next->h'.get id=h.get id
theorem Fr.refl (h:H):Fr h h:=⟨jC _,λ _ _=>rfl⟩
theorem Fr.trans {a b c:H} (x:Fr a b) (y:Fr b c):Fr a c:=⟨Nat.le_trans x.next y.next,λ id hid=>(y.get id (mS hid x.next)).trans (x.get id hid)⟩
theorem Fr.new {a b:H} (x:Fr a b) (o:Ob):Fr a (b.new o):=x.trans ⟨by rw [H.bD];omega,λ id hid=>H.bM b (by omega) o⟩
theorem Fr.set {a b:H} (x:Fr a b) {id:Nat} (hid:a.next<=id) (o:Option Ob):Fr a (b.set id o):=⟨x.next,λ k hk=>(H.aH b (by omega) o).trans (x.get k hk)⟩
theorem Fr.bF {a b:H} (x:Fr a b) {n:Nat} (hn:b.next<=n):Fr a (H.mk b.tr n):=⟨Nat.le_trans x.next hn,λ k hk=>(H.sV b n k).trans (x.get k hk)⟩
theorem Fr.cell {a b:H} (x:Fr a b) {id:Nat} (hid:id<a.next) (off:Nat):b.cell id off=a.cell id off:=by unfold H.cell;rw [x.get id hid]
def agP (op:BinOp) (k:IntKind) (x y:V):Option V:=match x,y with
 | .int j a,.int j' b=>if j=k/\j'=k then arith op k a b else none
 |_,_=>none
theorem XD (op:BinOp) (k:IntKind) (a b:Int):agP op k (.int k a) (.int k b)=arith op k a b:=by simp [agP]
def aiL:V->Option V
 | .bool a=>some (.bool (!a))
 |_=>none
theorem QT (a:Bool):aiL (.bool a)=some (.bool (!a)):=rfl
def ZX (c a b:V):Option V:=match c with
 | .bool t=>some (if t then a else b)
 |_=>none
theorem IZ (t:Bool) (a b:V):ZX (.bool t) a b=some (if t then a else b):=rfl
def Sj (neg:Bool):V->Option V
 | .aC=>some (.bool (!neg))
 | .sl .. | .emp _=>some (.bool neg)
 |_=>none
theorem JP (neg:Bool):Sj neg .aC=some (.bool (!neg)):=rfl
theorem RP (neg:Bool) (a:Addr):Sj neg (.emp a)=some (.bool neg):=rfl
theorem YT (neg:Bool) (a b c:Nat) (d:uN):Sj neg (.sl a b c d)=some (.bool neg):=rfl
def ahE (neg:Bool) (x y:V):Option V:=match x,y with
 | .bool a,.bool b=>some (.bool (if neg then !(a==b) else a==b))
 |_,_=>none
theorem ajO (a b:Bool):ahE false (.bool a) (.bool b)=some (.bool (a==b)):=rfl
theorem aiC (a b:Bool):ahE true (.bool a) (.bool b)=some (.bool (!(a==b))):=rfl
def adC (k:IntKind):V->Option V
 | .int j a=>if j=k then some (.int k (k.wrap (0-a))) else none
 |_=>none
theorem XC (k:IntKind) (a:Int):adC k (.int k a)=some (.int k (k.wrap (0-a))):=by simp [adC]
def XY (k:IntKind):V->Option V
 | .int _ a=>some (.int k (k.wrap a))
 |_=>none
theorem RW (k j:IntKind) (a:Int):XY k (.int j a)=some (.int k (k.wrap a)):=rfl
def akF (i:Nat):V->Option V
 | .tup vs=>vs[i]?
 |_=>none
theorem XQ (i:Nat) (vs:List V):akF i (.tup vs)=vs[i]? :=rfl
def dX (v:V):Option V:=(xT v).map λ (n:Nat)=>V.int .i64 (n:Int)
theorem MG:dX .aC=some (.int .i64 0):=rfl
theorem YB (a b c:Nat) (d:uN):dX (.sl a b c d)=some (.int .i64 (c:Int)):=rfl
def NL (agg:Bool) (off n:Nat):V->Option V
 | .agg vs=>if agg then (sub vs off n).map (λ ws=> .agg ws) else vs[off]?
 |_=>none
theorem RL (off n:Nat) (vs:List V):NL false off n (.agg vs)=vs[off]? :=rfl
theorem TC (off n:Nat) (vs:List V):NL true off n (.agg vs)=(sub vs off n).map (λ ws=> .agg ws):=rfl
def ahY (off:Nat):V->Option V
 | .ptr id o=>some (.ptr id (o+off))
 |_=>none
theorem aaX (off id o:Nat):ahY off (.ptr id o)=some (.ptr id (o+off)):=rfl
def akN:V->Option V
 | .ptr id o=>some (.ptr id o)
 |_=>none
theorem ZS (id o:Nat):akN (.ptr id o)=some (.ptr id o):=rfl
def Uq (h:H):V->Option V
 | .ptr id off=>h.cell id off
 |_=>none
theorem SL (h:H) (id off:Nat):Uq h (.ptr id off)=h.cell id off:=rfl
def LJ (h:H) (n:Nat):V->Option V
 | .ptr id off=>(h.row id off n).map .agg
 |_=>none
theorem abN (h:H) (id off n:Nat):LJ h n (.ptr id off)=(h.row id off n).map .agg:=rfl
def ED (h:H) (n:Nat) (x y:V):Option H:=match x with
 | .ptr id off=>if y.cells.length=n/\y.cells.all V.one then h.put id off y.cells else none
 |_=>none
def fH (o:Option Ob) (h:H) (id off:Nat) (ws:List V):Option H:=match o with
 |some (.cells false vs)=>(putAt vs off ws).map λ vs'=>h.set id (some (.cells false vs'))
 |_=>none
theorem H.put_eq (h:H) (id off:Nat) (ws:List V):h.put id off ws=fH (h.get id) h id off ws:=by
 unfold H.put fH
 cases h.get id with
 |none=>rfl
 |some o=>cases o with
  |cells ro vs=>cases ro<;>rfl
  |_=>rfl
theorem KK {o o':Option Ob} {h:H} {id off:Nat} {ws:List V} (e:o=o'):fH o h id off ws=fH o' h id off ws:=by rw [e]
theorem RC {vs:List V} {off:Nat} (hlt:off<vs.length) (v:V):putAt vs off [v]=some (vs.set off v):=by
 unfold putAt
 rw [if_pos (by simp;omega)]
 congr 1
 rw [List.set_eq_take_append_cons_drop,if_pos hlt]
 simp
theorem bQ {vs:List V} {off:Nat} (hlt:off<vs.length) (h:H) (id:Nat) (v:V):fH (some (.cells false vs)) h id off [v]=some (h.set id (some (.cells false (vs.set off v)))):=by
 simp only [fH];rw [RC hlt];rfl
theorem mH {y:V} (hc:y.cells= [y]) (ho:y.one=true) (h:H) (id off:Nat):ED h 1 (.ptr id off) y=fH (h.get id) h id off [y]:=by
 simp only [ED,hc,List.length_singleton,List.all_cons,List.all_nil,ho,Bool.and_self,and_self,if_true,H.put_eq]
theorem afV (h:H) (id off:Nat) (k:IntKind) (a:Int):ED h 1 (.ptr id off) (.int k a)=fH (h.get id) h id off [.int k a]:=mH rfl rfl h id off
theorem aaW (h:H) (id off:Nat) (a:Bool):ED h 1 (.ptr id off) (.bool a)=fH (h.get id) h id off [.bool a]:=mH rfl rfl h id off
theorem akM (h:H) (id off a b c:Nat) (d:uN):ED h 1 (.ptr id off) (.sl a b c d)=fH (h.get id) h id off [.sl a b c d]:=mH rfl rfl h id off
theorem abV (h:H) (id off:Nat):ED h 1 (.ptr id off) .aC=fH (h.get id) h id off [.aC]:=mH rfl rfl h id off
theorem Qs (h:H) (id off n:Nat) (vs:List V) (hn:vs.length=n) (ho:vs.all V.one=true):ED h n (.ptr id off) (.agg vs)=fH (h.get id) h id off vs:=by
 simp only [ED,V.cells,hn,ho,and_self,if_true,H.put_eq]
def Qb (h:H) (x:V):Option (V×H):=if x.cells.all V.one then some (.ptr h.next 0,h.new (.cells false x.cells)) else none
theorem uI {x:V} (hc:x.cells= [x]) (ho:x.one=true) (h:H):Qb h x=some (.ptr h.next 0,h.new (.cells false [x])):=by
 simp [Qb,hc,ho]
theorem Su (h:H) (k:IntKind) (a:Int):Qb h (.int k a)=some (.ptr h.next 0,h.new (.cells false [.int k a])):=rfl
theorem QZ (h:H) (a:Bool):Qb h (.bool a)=some (.ptr h.next 0,h.new (.cells false [.bool a])):=rfl
theorem Ew (h:H) (vs:List V) (ho:vs.all V.one=true):Qb h (.agg vs)=some (.ptr h.next 0,h.new (.cells false vs)):=by
 simp only [Qb,V.cells,ho,if_true]
theorem Ky {id off len sz:Nat} {cap:uN} {k:IntKind} {n:Int} (h0:0<=n) (h1:n<len):AR sz (.sl id off len cap) (.int k n)=some (.ptr id (off+n.toNat*sz)):=by
 simp only [AR];rw [if_pos ⟨h0,h1⟩]
section
variable (ρ:X->V) (h:H)
theorem afY (x:X):cY ρ h (.mov x)=some (ρ x,h):=rfl
theorem acE (c a b:X):cY ρ h (.pick c a b)=(ZX (ρ c) (ρ a) (ρ b)).map (·,h):=by
 simp only [cY,ZX];cases ρ c<;>rfl
theorem afA (op:BinOp) (k:IntKind) (x y:X):cY ρ h (.bin op k x y)=(agP op k (ρ x) (ρ y)).map (·,h):=by
 simp only [cY,agP]
 cases ρ x<;>cases ρ y<;>try rfl
 simp only
 split<;>rfl
theorem agR (neg:Bool) (x y:X):cY ρ h (.beq neg x y)=(ahE neg (ρ x) (ρ y)).map (·,h):=by
 simp only [cY,ahE]
 cases ρ x<;>cases ρ y<;>rfl
theorem aaU (neg:Bool) (x:X):cY ρ h (.snil neg x)=(Sj neg (ρ x)).map (·,h):=by
 simp only [cY,Sj];cases ρ x<;>rfl
theorem ahG (x:X):cY ρ h (.not x)=(aiL (ρ x)).map (·,h):=by
 simp only [cY,aiL];cases ρ x<;>rfl
theorem adI (k:IntKind) (x:X):cY ρ h (.neg k x)=(adC k (ρ x)).map (·,h):=by
 simp only [cY,adC];cases ρ x<;>try rfl
 simp only;split<;>rfl
theorem aaV (k:IntKind) (x:X):cY ρ h (.conv k x)=(XY k (ρ x)).map (·,h):=by
 simp only [cY,XY];cases ρ x<;>rfl
theorem acO (x:X) (i:Nat):cY ρ h (.ext x i)=(akF i (ρ x)).map (·,h):=by
 simp only [cY,akF];cases ρ x<;>rfl
theorem abO (x:X):cY ρ h (.lens x)=(dX (ρ x)).map (·,h):=by
 simp only [cY,dX,Option.map_map];rfl
theorem WO (agg:Bool) (off n:Nat) (x:X):cY ρ h (.part agg off n x)=(NL agg off n (ρ x)).map (·,h):=by
 simp only [cY,NL];cases ρ x<;>try rfl
 cases agg
 ·rfl
 ·simp only [if_true,Option.map_map];rfl
theorem AL (x:X):cY ρ h (.ld false 1 x)=(Uq h (ρ x)).map (·,h):=by
 simp only [cY,XK,Uq,H.row,H.cell]
 cases ρ x<;>try rfl
 simp only
 rename_i id off
 cases h.get id with
 |none=>rfl
 |some o=>cases o with
  |cells ro vs=>
   simp only [sub]
   by_cases hlt:off<vs.length
   ·rw [if_pos (by omega),iM hlt]
    have:(vs.drop off).take 1= [vs[off]]:=by
     rw [List.drop_eq_getElem_cons hlt];rfl
    rw [this];rfl
   ·rw [if_neg (by omega),List.getElem?_eq_none (by omega)]
  |_=>rfl
theorem OJ (n:Nat) (x:X):cY ρ h (.ld true n x)=(LJ h n (ρ x)).map (·,h):=by
 simp only [cY,XK,LJ]
 cases ρ x<;>try rfl
 simp only
 cases h.row _ _ n<;>rfl
theorem ajE (n:Nat) (x y:X):cY ρ h (.st n x y)=(ED h n (ρ x) (ρ y)).map λ h'=>(V.undef,h'):=by
 simp only [cY,ED]
 cases ρ x<;>try rfl
 simp only
 split<;>rfl
theorem afL (sz:Nat) (x i:X):cY ρ h (.ixa sz x i)=(AR sz (ρ x) (ρ i)).map (·,h):=rfl
theorem adK (off:Nat) (x:X):cY ρ h (.fla off x)=(ahY off (ρ x)).map (·,h):=by
 simp only [cY,ahY];cases ρ x<;>rfl
theorem acR (x:X):cY ρ h (.nck x)=(akN (ρ x)).map (·,h):=by
 simp only [cY,akN];cases ρ x<;>rfl
theorem aeW (sz:Nat) (x:X) (lo hi mx:Option X):cY ρ h (.slc sz x lo hi mx)=(Sk sz (ρ x) (lo.map ρ) (hi.map ρ) (mx.map ρ)).map (·,h):=rfl
theorem afM (sz bytes:Nat) (zero:List V) (l c:X):cY ρ h (.mks sz bytes zero l c)=Oq h sz bytes zero (ρ l) (ρ c):=rfl
theorem ahH (zero:List V):cY ρ h (.alc zero)=some (.ptr h.next 0,h.new (.cells false zero)):=rfl
theorem aeJ (x:X):cY ρ h (.box x)=Qb h (ρ x):=rfl
theorem aiH (mx:Bool) (x y:X):cY ρ h (.mm mx [x,y])=(UP mx (ρ x) [ρ y]).map (·,h):=rfl
theorem agM (f:Nat) (fs cs:List X):cY ρ h (.mkf f fs cs)=some (.fn f (fs.map ρ) (cs.map ρ),h):=rfl
theorem afN:cY ρ h .mkm=some (.mp h.next,h.new (.map [])):=rfl
def Kl (h:H) (sz bytes:Nat) (x y:V):Option (V×H):=match xT y,h.slice sz y with
 |some m,some ys=>Ej h sz bytes x m ys
 |_,_=>none
theorem aeI (sz bytes:Nat) (x y:X):cY ρ h (.app sz bytes x y)=Kl h sz bytes (ρ x) (ρ y):=rfl
def Dq (zero:List V) (parts:List (Nat×Nat×V)):Option V:=(jF zero parts).map .agg
theorem acZ (zero:List V) (parts:List (Nat×Nat×X)):cY ρ h (.bld zero parts)=(Dq zero (parts.map λ p=>(p.1,p.2.1,ρ p.2.2))).map (·,h):=by
 simp only [cY,Dq,Option.map_map];rfl
def sB (h:H) (sz:Nat) (zero:List V) (n:Nat) (parts:List (Nat×Nat×V)):Option (V×H):=match jF (dN zero (n*sz)) parts with
  |some cs=>if cs.all V.one then some (.sl h.next 0 n (.kn n),h.new (.cells false cs)) else none
  |none=>none
theorem agG (sz:Nat) (zero:List V) (n:Nat) (parts:List (Nat×Nat×X)):cY ρ h (.bls sz zero n parts)=sB h sz zero n (parts.map λ p=>(p.1,p.2.1,ρ p.2.2)):=rfl
theorem adB (sz:Nat) (x y:X):cY ρ h (.cpy sz x y)=agF h sz (ρ x) (ρ y):=rfl
end
theorem alZ (vars loc:List V) (k:Nat):xv vars loc (.v k)=vars.getD k .undef:=rfl
theorem alV (vars loc:List V) (k:Nat):xv vars loc (.l k)=loc.getD k .undef:=rfl
theorem ajR (vars loc:List V) (x:V):xv vars loc (.c x)=x:=rfl
theorem aeK (k:Nat) (vars loc:List V) (v:V):(nQ (.v k) vars loc v).1=vars.set k v:=rfl
theorem agX (k:Nat) (vars loc:List V) (v:V):(nQ (.v k) vars loc v).2=loc:=rfl
theorem agE (vars loc:List V) (v:V):(nQ .l vars loc v).1=vars:=rfl
theorem agQ (vars loc:List V) (v:V):(nQ .l vars loc v).2=v::loc:=rfl
theorem acT (vars loc:List V) (v:V):(nQ .n vars loc v).1=vars:=rfl
theorem aeU (vars loc:List V) (v:V):(nQ .n vars loc v).2=loc:=rfl
theorem II (vars loc:List V) (x:X) (b:Bool):gO vars loc (some (x,b))=(match xv vars loc x with| .bool a=>some (a==b)| .tup []=>some false|_=>none):=rfl
theorem RG (k:IntKind) (a b:Int):arith .add k a b=some (.int k (k.wrap (a+b))):=rfl
theorem TJ (k:IntKind) (a b:Int):arith .sub k a b=some (.int k (k.wrap (a-b))):=rfl
theorem UH (k:IntKind) (a b:Int):arith .mul k a b=some (.int k (k.wrap (a*b))):=rfl
theorem SZ (k:IntKind) (a b:Int) (hb:b≠0):arith .quo k a b=some (.int k (k.wrap (a.tdiv b))):=by simp only [arith];rw [if_neg hb]
theorem QM (k:IntKind) (a b:Int) (hb:b≠0):arith .rem k a b=some (.int k (a.tmod b)):=by simp only [arith];rw [if_neg hb]
theorem UL (k:IntKind) (a b:Int):arith .eql k a b=some (.bool (decide (a=b))):=by
 simp only [arith];congr 2
theorem SK (k:IntKind) (a b:Int):arith .neq k a b=some (.bool (decide (a≠b))):=by
 simp only [arith];congr 2;rw [Bool.eq_iff_iff];simp
theorem TL (k:IntKind) (a b:Int):arith .lss k a b=some (.bool (decide (a<b))):=rfl
theorem QX (k:IntKind) (a b:Int):arith .leq k a b=some (.bool (decide (a<=b))):=rfl
theorem RV (k:IntKind) (a b:Int):arith .gtr k a b=some (.bool (decide (b<a))):=rfl
theorem PR (k:IntKind) (a b:Int):arith .geq k a b=some (.bool (decide (b<=a))):=rfl
theorem ajV (k:IntKind) (a b:Int):UP false (.int k a) [.int k b]=some (.int k (if b<a then b else a)):=by
 simp only [UP,if_true,Bool.false_eq_true,if_false]
theorem ajI (k:IntKind) (a b:Int):UP true (.int k a) [.int k b]=some (.int k (if b>a then b else a)):=by
 simp only [UP,if_true]
theorem OB {n:Int} (h1: -9223372036854775808<=n) (h2:n<9223372036854775808):IntKind.i64.wrap n=n:=wrap_i64 h1 h2
theorem akL (vars:List V) (h:H) (k:Nat):Gw vars h (.v k)=some (vars.getD k .undef):=rfl
theorem NA (vars:List V) (h:H) (k:Nat):Gw vars h (.cell k false 1)=Uq h (vars.getD k .undef):=by
 have:=AL (λ _=>vars.getD k .undef) h (.v 0)
 simp only [Gw]
 simp only [cY] at this
 generalize XK h false 1 (vars.getD k .undef)=a at*
 generalize Uq h (vars.getD k .undef)=b at*
 cases a<;>cases b<;>simp at this ⊢
 exact this
theorem MB (vars:List V) (h:H) (k n:Nat):Gw vars h (.cell k true n)=LJ h n (vars.getD k .undef):=by
 simp only [Gw,XK,LJ]
 cases vars.getD k .undef<;>try rfl
 simp only
 cases h.row _ _ n<;>rfl
theorem HW {α:Type}:cK ([]:List (Option α))=some []:=rfl
theorem DD {α:Type} (a:α) (r:List (Option α)):cK (some a::r)=(cK r).map (a:: ·):=rfl
theorem aaG (v:V):Ny [v]=v:=rfl
theorem abE (v u:V):Ny [v,u]= .tup [v,u]:=rfl
theorem KM (v u t:V):Ny [v,u,t]= .tup [v,u,t]:=rfl
theorem uF:V.undef= .tup []:=rfl
theorem aF (fn:Fn) (args:List V):Lf fn args=fn.init.map λ o=>match o with|some j=>args.getD j .undef|none=> .undef:=rfl
theorem QA (log:Log) (h:H):tS [] log h=true:=by simp [tS]
attribute [go_sem] agU aiO aeQ ZY aiN aiM XF aiK VO aaH Vi RY NC GG JG Dz PQ FJ JR ES QV WW PO MZ KP IK XU XA afW aiE adY acP agZ agO TW acX WH RO agI XL RD RZ aiR VP RT SQ YD VX HH afY acE afA agR aaU ahG adI aaV acO abO WO AL OJ ajE afL adK acR aeW afM ahH aeJ aiH agM afN aeI acZ agG adB XD QT IZ JP YT RP ajO aiC Bool.not_false Bool.not_true beq_true beq_false if_true if_false Bool.false_eq_true YV XC RW XQ MG YB RL TC aaX ZS SL abN afV aaW akM abV Su QZ bQ Ky alZ alV ajR aeK agX agE agQ acT aeU II RG TJ UH SZ QM UL SK TL QX RV PR ajV ajI OB akL NA MB HW DD aaG abE KM QA H.aV H.aH H.aQ H.bM H.sV H.SG H.Ig H.yH H.Xt H.FW H.cG H.bD true_and Option.map_some Option.map_none List.replicate_succ List.replicate_zero List.take_succ_cons List.take_zero List.length_cons List.length_nil Nat.zero_add List.foldl_cons List.foldl_nil List.map_cons List.map_nil List.getD_cons_zero List.getD_cons_succ List.set_cons_zero List.set_cons_succ List.cons_append List.nil_append List.append_nil
attribute [congr] KK
abbrev bU (l:List V):Option Ob:=some (.cells false l)
abbrev aB (z:Int):V:=.int .i64 z
abbrev LN:=List (List Nat)
abbrev qG:=List (List (List Nat))
theorem mD {p:Prop} [d:Decidable p] (h:p):decide p=true:=decide_eq_true h
theorem fU {p:Prop} [d:Decidable p] (h:¬p):decide p=false:=decide_eq_false h
theorem hH (i:Nat):(i:Int)+1=((i+1:Nat):Int):=by omega
end Go.Ay
