/- Rules for walking through the abstract machine's code. -/
import Derived.Test.YtddpkbicnolafaaGreatAy23
import Derived.Attr
namespace Go.Ay
def find:List (Nat×Fn)->Nat->Option Fn
 | [],_=>none
 |(k,f)::l,n=>cond (Nat.beq k n) (some f) (find l n)
attribute [congr] BA VS XP SG QR QO VI JY GZ GD II CA
def H.cell (h:H) (id off:Nat):Option V:=match h.get id with
 |some (.cells _ vs)=>vs[off]?
 |_=>none
section
variable (h:H)
theorem H.aG {h:H} {id:Nat} {ro:Bool} {vs:List V} (hg:h.get id=some (.cells ro vs)) (off:Nat):h.cell id off=vs[off]? :=by
 unfold H.cell;rw [hg]
theorem H.aW (id:Nat) (o:Option Ob):(h.set id o).get id=o:=by rw [H.jP,if_pos rfl]
theorem H.aH {id k:Nat} (hk:k≠id) (o:Option Ob):(h.set id o).get k=h.get k:=by rw [H.jP,if_neg hk]
theorem H.aQ (o:Ob):(h.new o).get h.next=some o:=by rw [H.lT,if_pos rfl]
theorem H.bM {k:Nat} (hk:k≠h.next) (o:Ob):(h.new o).get k=h.get k:=by rw [H.lT,if_neg hk]
theorem H.sS (n k:Nat):(H.mk h.tr n).get k=h.get k:=rfl
theorem H.QP (n k off:Nat):(H.mk h.tr n).cell k off=h.cell k off:=rfl
theorem H.Ie (id:Nat) (ro:Bool) (vs:List V) (off:Nat):(h.set id (some (.cells ro vs))).cell id off=vs[off]? :=H.aG (H.aW ..) off
theorem H.yJ {id k:Nat} (hk:k≠id) (o:Option Ob) (off:Nat):(h.set id o).cell k off=h.cell k off:=by unfold H.cell;rw [H.aH h hk]
theorem H.Xc (ro:Bool) (vs:List V) (off:Nat):(h.new (.cells ro vs)).cell h.next off=vs[off]? :=H.aG (H.aQ ..) off
theorem H.GG {k:Nat} (hk:k≠h.next) (o:Ob) (off:Nat):(h.new o).cell k off=h.cell k off:=by unfold H.cell;rw [H.bM h hk]
end
structure Fr (h h':H):Prop where
 next:h.next<=h'.next
 get: ∀ id,id<h.next->h'.get id=h.get id
theorem Fr.refl (h:H):Fr h h:=⟨jI _,λ _ _=>rfl⟩
theorem Fr.trans {a b c:H} (x:Fr a b) (y:Fr b c):Fr a c:=⟨Nat.le_trans x.next y.next,λ id hid=>(y.get id (mM hid x.next)).trans (x.get id hid)⟩
theorem Fr.new {a b:H} (x:Fr a b) (o:Ob):Fr a (b.new o):=x.trans ⟨by rw [H.bD];omega,λ id hid=>H.bM b (by omega) o⟩
theorem Fr.set {a b:H} (x:Fr a b) {id:Nat} (hid:a.next<=id) (o:Option Ob):Fr a (b.set id o):=⟨x.next,λ k hk=>(H.aH b (by omega) o).trans (x.get k hk)⟩
theorem Fr.bF {a b:H} (x:Fr a b) {n:Nat} (hn:b.next<=n):Fr a (H.mk b.tr n):=⟨Nat.le_trans x.next hn,λ k hk=>(H.sS b n k).trans (x.get k hk)⟩
theorem Fr.cell {a b:H} (x:Fr a b) {id:Nat} (hid:id<a.next) (off:Nat):b.cell id off=a.cell id off:=by unfold H.cell;rw [x.get id hid]
def agW (op:BinOp) (k:IntKind) (x y:V):Option V:=match x,y with
 | .int j a,.int j' b=>if j=k/\j'=k then arith op k a b else none
 |_,_=>none
theorem VF (op:BinOp) (k:IntKind) (a b:Int):agW op k (.int k a) (.int k b)=arith op k a b:=by simp [agW]
def ajL:V->Option V
 | .bool a=>some (.bool (!a))
 |_=>none
theorem PZ (a:Bool):ajL (.bool a)=some (.bool (!a)):=rfl
def ZZ (c a b:V):Option V:=match c with
 | .bool t=>some (if t then a else b)
 |_=>none
theorem KU (t:Bool) (a b:V):ZZ (.bool t) a b=some (if t then a else b):=rfl
def Rn (neg:Bool):V->Option V
 | .aC=>some (.bool (!neg))
 | .sl .. | .emp _=>some (.bool neg)
 |_=>none
theorem KX (neg:Bool):Rn neg .aC=some (.bool (!neg)):=rfl
theorem PW (neg:Bool) (a:Addr):Rn neg (.emp a)=some (.bool neg):=rfl
theorem aaG (neg:Bool) (a b c:Nat) (d:uO):Rn neg (.sl a b c d)=some (.bool neg):=rfl
def agJ (neg:Bool) (x y:V):Option V:=match x,y with
 | .bool a,.bool b=>some (.bool (if neg then !(a==b) else a==b))
 |_,_=>none
theorem ahP (a b:Bool):agJ false (.bool a) (.bool b)=some (.bool (a==b)):=rfl
theorem ajB (a b:Bool):agJ true (.bool a) (.bool b)=some (.bool (!(a==b))):=rfl
def acK (k:IntKind):V->Option V
 | .int j a=>if j=k then some (.int k (k.wrap (0-a))) else none
 |_=>none
theorem UZ (k:IntKind) (a:Int):acK k (.int k a)=some (.int k (k.wrap (0-a))):=by simp [acK]
def XC (k:IntKind):V->Option V
 | .int _ a=>some (.int k (k.wrap a))
 |_=>none
theorem TE (k j:IntKind) (a:Int):XC k (.int j a)=some (.int k (k.wrap a)):=rfl
def aiW (i:Nat):V->Option V
 | .tup vs=>vs[i]?
 |_=>none
theorem ZY (i:Nat) (vs:List V):aiW i (.tup vs)=vs[i]? :=rfl
def dW (v:V):Option V:=(xF v).map λ (n:Nat)=>V.int .i64 (n:Int)
theorem MD:dW .aC=some (.int .i64 0):=rfl
theorem ZL (a b c:Nat) (d:uO):dW (.sl a b c d)=some (.int .i64 (c:Int)):=rfl
def OP (agg:Bool) (off n:Nat):V->Option V
 | .agg vs=>if agg then (sub vs off n).map (λ ws=> .agg ws) else vs[off]?
 |_=>none
theorem RY (off n:Nat) (vs:List V):OP false off n (.agg vs)=vs[off]? :=rfl
theorem TL (off n:Nat) (vs:List V):OP true off n (.agg vs)=(sub vs off n).map (λ ws=> .agg ws):=rfl
def aiG (off:Nat):V->Option V
 | .ptr id o=>some (.ptr id (o+off))
 |_=>none
theorem aaT (off id o:Nat):aiG off (.ptr id o)=some (.ptr id (o+off)):=rfl
def akA:V->Option V
 | .ptr id o=>some (.ptr id o)
 |_=>none
theorem aaD (id o:Nat):akA (.ptr id o)=some (.ptr id o):=rfl
def Uy (h:H):V->Option V
 | .ptr id off=>h.cell id off
 |_=>none
theorem RA (h:H) (id off:Nat):Uy h (.ptr id off)=h.cell id off:=rfl
def IS (h:H) (n:Nat):V->Option V
 | .ptr id off=>(h.row id off n).map .agg
 |_=>none
theorem abR (h:H) (id off n:Nat):IS h n (.ptr id off)=(h.row id off n).map .agg:=rfl
def DY (h:H) (n:Nat) (x y:V):Option H:=match x with
 | .ptr id off=>if y.cells.length=n/\y.cells.all V.one then h.put id off y.cells else none
 |_=>none
def fI (o:Option Ob) (h:H) (id off:Nat) (ws:List V):Option H:=match o with
 |some (.cells false vs)=>(putAt vs off ws).map λ vs'=>h.set id (some (.cells false vs'))
 |_=>none
theorem H.put_eq (h:H) (id off:Nat) (ws:List V):h.put id off ws=fI (h.get id) h id off ws:=by
 unfold H.put fI
 cases h.get id with
 |none=>rfl
 |some o=>cases o with
  |cells ro vs=>cases ro<;>rfl
  |_=>rfl
theorem LX {o o':Option Ob} {h:H} {id off:Nat} {ws:List V} (e:o=o'):fI o h id off ws=fI o' h id off ws:=by rw [e]
theorem TT {vs:List V} {off:Nat} (hlt:off<vs.length) (v:V):putAt vs off [v]=some (vs.set off v):=by
 unfold putAt
 rw [if_pos (by simp;omega)]
 congr 1
 rw [List.set_eq_take_append_cons_drop,if_pos hlt]
 simp
theorem bT {vs:List V} {off:Nat} (hlt:off<vs.length) (h:H) (id:Nat) (v:V):fI (some (.cells false vs)) h id off [v]=some (h.set id (some (.cells false (vs.set off v)))):=by
 simp only [fI];rw [TT hlt];rfl
theorem lU {y:V} (hc:y.cells= [y]) (ho:y.one=true) (h:H) (id off:Nat):DY h 1 (.ptr id off) y=fI (h.get id) h id off [y]:=by
 simp only [DY,hc,List.length_singleton,List.all_cons,List.all_nil,ho,Bool.and_self,and_self,if_true,H.put_eq]
theorem afO (h:H) (id off:Nat) (k:IntKind) (a:Int):DY h 1 (.ptr id off) (.int k a)=fI (h.get id) h id off [.int k a]:=lU rfl rfl h id off
theorem WJ (h:H) (id off:Nat) (a:Bool):DY h 1 (.ptr id off) (.bool a)=fI (h.get id) h id off [.bool a]:=lU rfl rfl h id off
theorem aiK (h:H) (id off a b c:Nat) (d:uO):DY h 1 (.ptr id off) (.sl a b c d)=fI (h.get id) h id off [.sl a b c d]:=lU rfl rfl h id off
theorem abT (h:H) (id off:Nat):DY h 1 (.ptr id off) .aC=fI (h.get id) h id off [.aC]:=lU rfl rfl h id off
theorem Qz (h:H) (id off n:Nat) (vs:List V) (hn:vs.length=n) (ho:vs.all V.one=true):DY h n (.ptr id off) (.agg vs)=fI (h.get id) h id off vs:=by
 simp only [DY,V.cells,hn,ho,and_self,if_true,H.put_eq]
def Qa (h:H) (x:V):Option (V×H):=if x.cells.all V.one then some (.ptr h.next 0,h.new (.cells false x.cells)) else none
theorem uH {x:V} (hc:x.cells= [x]) (ho:x.one=true) (h:H):Qa h x=some (.ptr h.next 0,h.new (.cells false [x])):=by
 simp [Qa,hc,ho]
theorem Wb (h:H) (k:IntKind) (a:Int):Qa h (.int k a)=some (.ptr h.next 0,h.new (.cells false [.int k a])):=rfl
theorem QY (h:H) (a:Bool):Qa h (.bool a)=some (.ptr h.next 0,h.new (.cells false [.bool a])):=rfl
theorem Ew (h:H) (vs:List V) (ho:vs.all V.one=true):Qa h (.agg vs)=some (.ptr h.next 0,h.new (.cells false vs)):=by
 simp only [Qa,V.cells,ho,if_true]
theorem Ky {id off len sz:Nat} {cap:uO} {k:IntKind} {n:Int} (h0:0<=n) (h1:n<len):CW sz (.sl id off len cap) (.int k n)=some (.ptr id (off+n.toNat*sz)):=by
 simp only [CW];rw [if_pos ⟨h0,h1⟩]
section
variable (ρ:X->V) (h:H)
theorem adP (x:X):cY ρ h (.mov x)=some (ρ x,h):=rfl
theorem VW (c a b:X):cY ρ h (.pick c a b)=(ZZ (ρ c) (ρ a) (ρ b)).map (·,h):=by
 simp only [cY,ZZ];cases ρ c<;>rfl
theorem agQ (op:BinOp) (k:IntKind) (x y:X):cY ρ h (.bin op k x y)=(agW op k (ρ x) (ρ y)).map (·,h):=by
 simp only [cY,agW]
 cases ρ x<;>cases ρ y<;>try rfl
 simp only
 split<;>rfl
theorem adT (neg:Bool) (x y:X):cY ρ h (.beq neg x y)=(agJ neg (ρ x) (ρ y)).map (·,h):=by
 simp only [cY,agJ]
 cases ρ x<;>cases ρ y<;>rfl
theorem abZ (neg:Bool) (x:X):cY ρ h (.snil neg x)=(Rn neg (ρ x)).map (·,h):=by
 simp only [cY,Rn];cases ρ x<;>rfl
theorem acP (x:X):cY ρ h (.not x)=(ajL (ρ x)).map (·,h):=by
 simp only [cY,ajL];cases ρ x<;>rfl
theorem aeX (k:IntKind) (x:X):cY ρ h (.neg k x)=(acK k (ρ x)).map (·,h):=by
 simp only [cY,acK];cases ρ x<;>try rfl
 simp only;split<;>rfl
theorem abO (k:IntKind) (x:X):cY ρ h (.conv k x)=(XC k (ρ x)).map (·,h):=by
 simp only [cY,XC];cases ρ x<;>rfl
theorem aeD (x:X) (i:Nat):cY ρ h (.ext x i)=(aiW i (ρ x)).map (·,h):=by
 simp only [cY,aiW];cases ρ x<;>rfl
theorem YZ (x:X):cY ρ h (.lens x)=(dW (ρ x)).map (·,h):=by
 simp only [cY,dW,Option.map_map];rfl
theorem XM (agg:Bool) (off n:Nat) (x:X):cY ρ h (.part agg off n x)=(OP agg off n (ρ x)).map (·,h):=by
 simp only [cY,OP];cases ρ x<;>try rfl
 cases agg
 ·rfl
 ·simp only [if_true,Option.map_map];rfl
theorem DH (x:X):cY ρ h (.ld false 1 x)=(Uy h (ρ x)).map (·,h):=by
 simp only [cY,ldV,Uy,H.row,H.cell]
 cases ρ x<;>try rfl
 simp only
 rename_i id off
 cases h.get id with
 |none=>rfl
 |some o=>cases o with
  |cells ro vs=>
   simp only [sub]
   by_cases hlt:off<vs.length
   ·rw [if_pos (by omega),iH hlt]
    have:(vs.drop off).take 1= [vs[off]]:=by
     rw [List.drop_eq_getElem_cons hlt];rfl
    rw [this];rfl
   ·rw [if_neg (by omega),List.getElem?_eq_none (by omega)]
  |_=>rfl
theorem NH (n:Nat) (x:X):cY ρ h (.ld true n x)=(IS h n (ρ x)).map (·,h):=by
 simp only [cY,ldV,IS]
 cases ρ x<;>try rfl
 simp only
 cases h.row _ _ n<;>rfl
theorem ahM (n:Nat) (x y:X):cY ρ h (.st n x y)=(DY h n (ρ x) (ρ y)).map λ h'=>(V.undef,h'):=by
 simp only [cY,DY]
 cases ρ x<;>try rfl
 simp only
 split<;>rfl
theorem adJ (sz:Nat) (x i:X):cY ρ h (.ixa sz x i)=(CW sz (ρ x) (ρ i)).map (·,h):=rfl
theorem aeG (off:Nat) (x:X):cY ρ h (.fla off x)=(aiG off (ρ x)).map (·,h):=by
 simp only [cY,aiG];cases ρ x<;>rfl
theorem aeW (x:X):cY ρ h (.nck x)=(akA (ρ x)).map (·,h):=by
 simp only [cY,akA];cases ρ x<;>rfl
theorem agL (sz:Nat) (x:X) (lo hi mx:Option X):cY ρ h (.slc sz x lo hi mx)=(Ui sz (ρ x) (lo.map ρ) (hi.map ρ) (mx.map ρ)).map (·,h):=rfl
theorem acQ (sz bytes:Nat) (zero:List V) (l c:X):cY ρ h (.mks sz bytes zero l c)=Ms h sz bytes zero (ρ l) (ρ c):=rfl
theorem aeJ (zero:List V):cY ρ h (.alc zero)=some (.ptr h.next 0,h.new (.cells false zero)):=rfl
theorem afR (x:X):cY ρ h (.box x)=Qa h (ρ x):=rfl
theorem akE (mx:Bool) (x y:X):cY ρ h (.mm mx [x,y])=(UO mx (ρ x) [ρ y]).map (·,h):=rfl
theorem adX (f:Nat) (fs cs:List X):cY ρ h (.mkf f fs cs)=some (.fn f (fs.map ρ) (cs.map ρ),h):=rfl
theorem acM:cY ρ h .mkm=some (.mp h.next,h.new (.map [])):=rfl
def Lc (h:H) (sz bytes:Nat) (x y:V):Option (V×H):=match xF y,h.slice sz y with
 |some m,some ys=>Di h sz bytes x m ys
 |_,_=>none
theorem acY (sz bytes:Nat) (x y:X):cY ρ h (.app sz bytes x y)=Lc h sz bytes (ρ x) (ρ y):=rfl
def Eo (zero:List V) (parts:List (Nat×Nat×V)):Option V:=(jJ zero parts).map .agg
theorem aeO (zero:List V) (parts:List (Nat×Nat×X)):cY ρ h (.bld zero parts)=(Eo zero (parts.map λ p=>(p.1,p.2.1,ρ p.2.2))).map (·,h):=by
 simp only [cY,Eo,Option.map_map];rfl
def rV (h:H) (sz:Nat) (zero:List V) (n:Nat) (parts:List (Nat×Nat×V)):Option (V×H):=match jJ (dQ zero (n*sz)) parts with
  |some cs=>if cs.all V.one then some (.sl h.next 0 n (.kn n),h.new (.cells false cs)) else none
  |none=>none
theorem acI (sz:Nat) (zero:List V) (n:Nat) (parts:List (Nat×Nat×X)):cY ρ h (.bls sz zero n parts)=rV h sz zero n (parts.map λ p=>(p.1,p.2.1,ρ p.2.2)):=rfl
theorem afP (sz:Nat) (x y:X):cY ρ h (.cpy sz x y)=adO h sz (ρ x) (ρ y):=rfl
end
theorem alO (vars loc:List V) (k:Nat):xv vars loc (.v k)=vars.getD k .undef:=rfl
theorem alJ (vars loc:List V) (k:Nat):xv vars loc (.l k)=loc.getD k .undef:=rfl
theorem ajT (vars loc:List V) (x:V):xv vars loc (.c x)=x:=rfl
theorem afI (k:Nat) (vars loc:List V) (v:V):(nM (.v k) vars loc v).1=vars.set k v:=rfl
theorem adZ (k:Nat) (vars loc:List V) (v:V):(nM (.v k) vars loc v).2=loc:=rfl
theorem afH (vars loc:List V) (v:V):(nM .l vars loc v).1=vars:=rfl
theorem aeT (vars loc:List V) (v:V):(nM .l vars loc v).2=v::loc:=rfl
theorem acO (vars loc:List V) (v:V):(nM .n vars loc v).1=vars:=rfl
theorem afL (vars loc:List V) (v:V):(nM .n vars loc v).2=loc:=rfl
theorem EL (vars loc:List V) (x:X) (b:Bool):gK vars loc (some (x,b))=(match xv vars loc x with| .bool a=>some (a==b)| .tup []=>some false|_=>none):=rfl
theorem TX (k:IntKind) (a b:Int):arith .add k a b=some (.int k (k.wrap (a+b))):=rfl
theorem SE (k:IntKind) (a b:Int):arith .sub k a b=some (.int k (k.wrap (a-b))):=rfl
theorem PM (k:IntKind) (a b:Int):arith .mul k a b=some (.int k (k.wrap (a*b))):=rfl
theorem TJ (k:IntKind) (a b:Int) (hb:b≠0):arith .quo k a b=some (.int k (k.wrap (a.tdiv b))):=by simp only [arith];rw [if_neg hb]
theorem TU (k:IntKind) (a b:Int) (hb:b≠0):arith .rem k a b=some (.int k (a.tmod b)):=by simp only [arith];rw [if_neg hb]
theorem UA (k:IntKind) (a b:Int):arith .eql k a b=some (.bool (decide (a=b))):=by
 simp only [arith];congr 2
theorem UG (k:IntKind) (a b:Int):arith .neq k a b=some (.bool (decide (a≠b))):=by
 simp only [arith];congr 2;rw [Bool.eq_iff_iff];simp
theorem QK (k:IntKind) (a b:Int):arith .lss k a b=some (.bool (decide (a<b))):=rfl
theorem TA (k:IntKind) (a b:Int):arith .leq k a b=some (.bool (decide (a<=b))):=rfl
theorem PK (k:IntKind) (a b:Int):arith .gtr k a b=some (.bool (decide (b<a))):=rfl
theorem SQ (k:IntKind) (a b:Int):arith .geq k a b=some (.bool (decide (b<=a))):=rfl
theorem akC (k:IntKind) (a b:Int):UO false (.int k a) [.int k b]=some (.int k (if b<a then b else a)):=by
 simp only [UO,if_true,Bool.false_eq_true,if_false]
theorem ajN (k:IntKind) (a b:Int):UO true (.int k a) [.int k b]=some (.int k (if b>a then b else a)):=by
 simp only [UO,if_true]
theorem OX {n:Int} (h1: -9223372036854775808<=n) (h2:n<9223372036854775808):IntKind.i64.wrap n=n:=wrap_i64 h1 h2
theorem akK (vars:List V) (h:H) (k:Nat):Hu vars h (.v k)=some (vars.getD k .undef):=rfl
theorem JB (vars:List V) (h:H) (k:Nat):Hu vars h (.cell k false 1)=Uy h (vars.getD k .undef):=by
 have:=DH (λ _=>vars.getD k .undef) h (.v 0)
 simp only [Hu]
 simp only [cY] at this
 generalize ldV h false 1 (vars.getD k .undef)=a at*
 generalize Uy h (vars.getD k .undef)=b at*
 cases a<;>cases b<;>simp at this ⊢
 exact this
theorem JM (vars:List V) (h:H) (k n:Nat):Hu vars h (.cell k true n)=IS h n (vars.getD k .undef):=by
 simp only [Hu,ldV,IS]
 cases vars.getD k .undef<;>try rfl
 simp only
 cases h.row _ _ n<;>rfl
theorem EU {α:Type}:cI ([]:List (Option α))=some []:=rfl
theorem CY {α:Type} (a:α) (r:List (Option α)):cI (some a::r)=(cI r).map (a:: ·):=rfl
theorem YJ (v:V):Oj [v]=v:=rfl
theorem ZC (v u:V):Oj [v,u]= .tup [v,u]:=rfl
theorem LY (v u t:V):Oj [v,u,t]= .tup [v,u,t]:=rfl
theorem tX:V.undef= .tup []:=rfl
theorem aF (fn:Fn) (args:List V):Ln fn args=fn.init.map λ o=>match o with|some j=>args.getD j .undef|none=> .undef:=rfl
theorem TN (log:Log) (h:H):tV [] log h=true:=by simp [tV]
attribute [go_sem] afF ahX acF ZR akB ahR VC aiZ VG YO Ul RH MK HM MJ Eu SS EB MI HV TC acD UB LD LK HG abF abA acJ aiD afZ adW adD acW TG adH WV SA adK aaY QD SJ ajF XD SU TH VE abB EE adP VW agQ adT abZ acP aeX abO aeD YZ XM DH NH ahM adJ aeG aeW agL acQ aeJ afR akE adX acM acY aeO acI afP VF PZ KU KX aaG PW ahP ajB Bool.not_false Bool.not_true beq_true beq_false if_true if_false Bool.false_eq_true ZA UZ TE ZY MD ZL RY TL aaT aaD RA abR afO WJ aiK abT Wb QY bT Ky alO alJ ajT afI adZ afH aeT acO afL EL TX SE PM TJ TU UA UG QK TA PK SQ akC ajN OX akK JB JM EU CY YJ ZC LY TN H.aW H.aH H.aQ H.bM H.sS H.QP H.Ie H.yJ H.Xc H.GG H.cG H.bD true_and Option.map_some Option.map_none List.replicate_succ List.replicate_zero List.take_succ_cons List.take_zero List.length_cons List.length_nil Nat.zero_add List.foldl_cons List.foldl_nil List.map_cons List.map_nil List.getD_cons_zero List.getD_cons_succ List.set_cons_zero List.set_cons_succ List.cons_append List.nil_append List.append_nil
attribute [congr] LX
abbrev bQ (l:List V):Option Ob:=some (.cells false l)
abbrev aB (z:Int):V:=.int .i64 z
abbrev LN:=List (List Nat)
abbrev qF:=List (List (List Nat))
theorem mG {p:Prop} [d:Decidable p] (h:p):decide p=true:=decide_eq_true h
theorem gJ {p:Prop} [d:Decidable p] (h:¬p):decide p=false:=decide_eq_false h
theorem iJ (i:Nat):(i:Int)+1=((i+1:Nat):Int):=by omega
end Go.Ay
