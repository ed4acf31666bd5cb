/- Rules for walking through the abstract machine's code. -/
import Derived.Test.YtddpkbicnolafaaGreatAy23
import Derived.Attr
namespace Go.Ay
def find:List (Nat×Fn)->Nat->Option Fn
 | [],_=>none
 |(k,f)::l,n=>cond (Nat.beq k n) (some f) (find l n)
attribute [congr] CM XK ZI UG UM SJ aeJ OH HD GG IJ DD
def H.cell (h:H)(id off:Nat):Option V:=match h.get id with
 |some (.cells _ vs)=>vs[off]?
 |_=>none
section
variable (h:H)
theorem H.aG {h:H}{id:Nat}{ro:Bool}{vs:List V}(hg:h.get id=some (.cells ro vs))(off:Nat):h.cell id off=vs[off]? :=by
 unfold H.cell;rw[hg]
theorem H.aV (id:Nat)(o:Option Ob):(h.set id o).get id=o:=by rw[H.jR,if_pos rfl]
theorem H.aH {id k:Nat}(hk:k≠id)(o:Option Ob):(h.set id o).get k=h.get k:=by rw[H.jR,if_neg hk]
theorem H.aQ (o:Ob):(h.new o).get h.next=some o:=by rw[H.mD,if_pos rfl]
theorem H.bN {k:Nat}(hk:k≠h.next)(o:Ob):(h.new o).get k=h.get k:=by rw[H.mD,if_neg hk]
theorem H.tA (n k:Nat):(H.mk h.tr n).get k=h.get k:=rfl
theorem H.SN (n k off:Nat):(H.mk h.tr n).cell k off=h.cell k off:=rfl
theorem H.Iy (id:Nat)(ro:Bool)(vs:List V)(off:Nat):(h.set id (some (.cells ro vs))).cell id off=vs[off]? :=H.aG (H.aV ..) off
theorem H.yW {id k:Nat}(hk:k≠id)(o:Option Ob)(off:Nat):(h.set id o).cell k off=h.cell k off:=by unfold H.cell;rw[H.aH h hk]
theorem H.Yb (ro:Bool)(vs:List V)(off:Nat):(h.new (.cells ro vs)).cell h.next off=vs[off]? :=H.aG (H.aQ ..) off
theorem H.HX {k:Nat}(hk:k≠h.next)(o:Ob)(off:Nat):(h.new o).cell k off=h.cell k off:=by unfold H.cell;rw[H.bN h hk]
end
structure Fr (h h':H):Prop where
 next:h.next<=h'.next
 get: ∀id,id<h.next->h'.get id=h.get id
theorem Fr.refl (h:H):Fr h h:=⟨iT _,λ_ _=>rfl⟩
theorem Fr.trans {a b c:H}(x:Fr a b)(y:Fr b c):Fr a c:=⟨Nat.le_trans x.next y.next,λid hid=>(y.get id (mO hid x.next)).trans (x.get id hid)⟩
theorem Fr.new {a b:H}(x:Fr a b)(o:Ob):Fr a (b.new o):=x.trans ⟨by rw[H.aY];omega,λid hid=>H.bN b (by omega) o⟩
theorem Fr.set {a b:H}(x:Fr a b){id:Nat}(hid:a.next<=id)(o:Option Ob):Fr a (b.set id o):=⟨x.next,λk hk=>(H.aH b (by omega) o).trans (x.get k hk)⟩
theorem Fr.bG {a b:H}(x:Fr a b){n:Nat}(hn:b.next<=n):Fr a (H.mk b.tr n):=⟨Nat.le_trans x.next hn,λk hk=>(H.tA b n k).trans (x.get k hk)⟩
theorem Fr.cell {a b:H}(x:Fr a b){id:Nat}(hid:id<a.next)(off:Nat):b.cell id off=a.cell id off:=by unfold H.cell;rw[x.get id hid]
def aiI (op:BinOp)(k:IntKind)(x y:V):Option V:=match x,y with
 | .int j a,.int j' b=>if j=k/\j'=k then arith op k a b else none
 |_,_=>none
theorem acL (op:BinOp)(k:IntKind)(a b:Int):aiI op k (.int k a) (.int k b)=arith op k a b:=by simp [aiI]
def amX:V->Option V
 | .bool a=>some (.bool (!a))
 |_=>none
theorem UY (a:Bool):amX (.bool a)=some (.bool (!a)):=rfl
def aeA (c a b:V):Option V:=match c with
 | .bool t=>some (if t then a else b)
 |_=>none
theorem KX (t:Bool)(a b:V):aeA (.bool t) a b=some (if t then a else b):=rfl
def Vp (neg:Bool):V->Option V
 | .aC=>some (.bool (!neg))
 | .sl .. | .emp _=>some (.bool neg)
 |_=>none
theorem OK (neg:Bool):Vp neg .aC=some (.bool (!neg)):=rfl
theorem SM (neg:Bool)(a:Addr):Vp neg (.emp a)=some (.bool neg):=rfl
theorem aaI (neg:Bool)(a b c:Nat)(d:uQ):Vp neg (.sl a b c d)=some (.bool neg):=rfl
def aeN (neg:Bool)(x y:V):Option V:=match x,y with
 | .bool a,.bool b=>some (.bool (if neg then !(a==b) else a==b))
 |_,_=>none
theorem alG (a b:Bool):aeN false (.bool a) (.bool b)=some (.bool (a==b)):=rfl
theorem akE (a b:Bool):aeN true (.bool a) (.bool b)=some (.bool (!(a==b))):=rfl
def aeZ (k:IntKind):V->Option V
 | .int j a=>if j=k then some (.int k (k.wrap (0-a))) else none
 |_=>none
theorem ZR (k:IntKind)(a:Int):aeZ k (.int k a)=some (.int k (k.wrap (0-a))):=by simp [aeZ]
def abF (k:IntKind):V->Option V
 | .int _ a=>some (.int k (k.wrap a))
 |_=>none
theorem VI (k j:IntKind)(a:Int):abF k (.int j a)=some (.int k (k.wrap a)):=rfl
def akY (i:Nat):V->Option V
 | .tup vs=>vs[i]?
 |_=>none
theorem YL (i:Nat)(vs:List V):akY i (.tup vs)=vs[i]? :=rfl
def dN (v:V):Option V:=(vA v).map λ(n:Nat)=>V.int .i64 (n:Int)
theorem KL:dN .aC=some (.int .i64 0):=rfl
theorem aaD (a b c:Nat)(d:uQ):dN (.sl a b c d)=some (.int .i64 (c:Int)):=rfl
def RG (agg:Bool)(off n:Nat):V->Option V
 | .agg vs=>if agg then (sub vs off n).map (λws=> .agg ws) else vs[off]?
 |_=>none
theorem RT (off n:Nat)(vs:List V):RG false off n (.agg vs)=vs[off]? :=rfl
theorem VH (off n:Nat)(vs:List V):RG true off n (.agg vs)=(sub vs off n).map (λws=> .agg ws):=rfl
def amL (off:Nat):V->Option V
 | .ptr id o=>some (.ptr id (o+off))
 |_=>none
theorem acQ (off id o:Nat):amL off (.ptr id o)=some (.ptr id (o+off)):=rfl
def alK:V->Option V
 | .ptr id o=>some (.ptr id o)
 |_=>none
theorem aeL (id o:Nat):alK (.ptr id o)=some (.ptr id o):=rfl
def Us (h:H):V->Option V
 | .ptr id off=>h.cell id off
 |_=>none
theorem SD (h:H)(id off:Nat):Us h (.ptr id off)=h.cell id off:=rfl
def MR (h:H)(n:Nat):V->Option V
 | .ptr id off=>(h.row id off n).map .agg
 |_=>none
theorem acB (h:H)(id off n:Nat):MR h n (.ptr id off)=(h.row id off n).map .agg:=rfl
def FL (h:H)(n:Nat)(x y:V):Option H:=match x with
 | .ptr id off=>if y.cells.length=n/\y.cells.all V.one then h.put id off y.cells else none
 |_=>none
def fJ (o:Option Ob)(h:H)(id off:Nat)(ws:List V):Option H:=match o with
 |some (.cells false vs)=>(putAt vs off ws).map λvs'=>h.set id (some (.cells false vs'))
 |_=>none
theorem H.put_eq (h:H)(id off:Nat)(ws:List V):h.put id off ws=fJ (h.get id) h id off ws:=by
 unfold H.put fJ
 cases h.get id with
 |none=>rfl
 |some o=>cases o with
  |cells ro vs=>cases ro<;>rfl
  |_=>rfl
theorem NQ {o o':Option Ob}{h:H}{id off:Nat}{ws:List V}(e:o=o'):fJ o h id off ws=fJ o' h id off ws:=by rw[e]
theorem RX {vs:List V}{off:Nat}(hlt:off<vs.length)(v:V):putAt vs off [v]=some (vs.set off v):=by
 unfold putAt
 rw[if_pos (by simp;omega)]
 congr 1
 rw[List.set_eq_take_append_cons_drop,if_pos hlt]
 simp
theorem bQ {vs:List V}{off:Nat}(hlt:off<vs.length)(h:H)(id:Nat)(v:V):fJ (some (.cells false vs)) h id off [v]=some (h.set id (some (.cells false (vs.set off v)))):=by
 simp only[fJ];rw[RX hlt];rfl
theorem kI {y:V}(hc:y.cells= [y])(ho:y.one=true)(h:H)(id off:Nat):FL h 1 (.ptr id off) y=fJ (h.get id) h id off [y]:=by
 simp only[FL,hc,List.length_singleton,List.all_cons,List.all_nil,ho,Bool.and_self,and_self,if_true,H.put_eq]
theorem agP (h:H)(id off:Nat)(k:IntKind)(a:Int):FL h 1 (.ptr id off) (.int k a)=fJ (h.get id) h id off [.int k a]:=kI rfl rfl h id off
theorem YT (h:H)(id off:Nat)(a:Bool):FL h 1 (.ptr id off) (.bool a)=fJ (h.get id) h id off [.bool a]:=kI rfl rfl h id off
theorem amC (h:H)(id off a b c:Nat)(d:uQ):FL h 1 (.ptr id off) (.sl a b c d)=fJ (h.get id) h id off [.sl a b c d]:=kI rfl rfl h id off
theorem XE (h:H)(id off:Nat):FL h 1 (.ptr id off) .aC=fJ (h.get id) h id off [.aC]:=kI rfl rfl h id off
theorem Rs (h:H)(id off n:Nat)(vs:List V)(hn:vs.length=n)(ho:vs.all V.one=true):FL h n (.ptr id off) (.agg vs)=fJ (h.get id) h id off vs:=by
 simp only[FL,V.cells,hn,ho,and_self,if_true,H.put_eq]
def Qq (h:H)(x:V):Option (V×H):=if x.cells.all V.one then some (.ptr h.next 0,h.new (.cells false x.cells)) else none
theorem uK {x:V}(hc:x.cells= [x])(ho:x.one=true)(h:H):Qq h x=some (.ptr h.next 0,h.new (.cells false [x])):=by
 simp [Qq,hc,ho]
theorem Sy (h:H)(k:IntKind)(a:Int):Qq h (.int k a)=some (.ptr h.next 0,h.new (.cells false [.int k a])):=rfl
theorem VO (h:H)(a:Bool):Qq h (.bool a)=some (.ptr h.next 0,h.new (.cells false [.bool a])):=rfl
theorem Fm (h:H)(vs:List V)(ho:vs.all V.one=true):Qq h (.agg vs)=some (.ptr h.next 0,h.new (.cells false vs)):=by
 simp only[Qq,V.cells,ho,if_true]
theorem Lz {id off len sz:Nat}{cap:uQ}{k:IntKind}{n:Int}(h0:0<=n)(h1:n<len):ER sz (.sl id off len cap) (.int k n)=some (.ptr id (off+n.toNat*sz)):=by
 simp only[ER];rw[if_pos ⟨h0,h1⟩]
section
variable (ρ:X->V) (h:H)
theorem ahU (x:X):cZ ρ h (.mov x)=some (ρ x,h):=rfl
theorem adX (c a b:X):cZ ρ h (.pick c a b)=(aeA (ρ c) (ρ a) (ρ b)).map (·,h):=by
 simp only[cZ,aeA];cases ρ c<;>rfl
theorem ahP (op:BinOp)(k:IntKind)(x y:X):cZ ρ h (.bin op k x y)=(aiI op k (ρ x) (ρ y)).map (·,h):=by
 simp only[cZ,aiI]
 cases ρ x<;>cases ρ y<;>try rfl
 simp only
 split<;>rfl
theorem aiZ (neg:Bool)(x y:X):cZ ρ h (.beq neg x y)=(aeN neg (ρ x) (ρ y)).map (·,h):=by
 simp only[cZ,aeN]
 cases ρ x<;>cases ρ y<;>rfl
theorem YP (neg:Bool)(x:X):cZ ρ h (.snil neg x)=(Vp neg (ρ x)).map (·,h):=by
 simp only[cZ,Vp];cases ρ x<;>rfl
theorem afL (x:X):cZ ρ h (.not x)=(amX (ρ x)).map (·,h):=by
 simp only[cZ,amX];cases ρ x<;>rfl
theorem aeS (k:IntKind)(x:X):cZ ρ h (.neg k x)=(aeZ k (ρ x)).map (·,h):=by
 simp only[cZ,aeZ];cases ρ x<;>try rfl
 simp only;split<;>rfl
theorem abV (k:IntKind)(x:X):cZ ρ h (.conv k x)=(abF k (ρ x)).map (·,h):=by
 simp only[cZ,abF];cases ρ x<;>rfl
theorem agW (x:X)(i:Nat):cZ ρ h (.ext x i)=(akY i (ρ x)).map (·,h):=by
 simp only[cZ,akY];cases ρ x<;>rfl
theorem YC (x:X):cZ ρ h (.lens x)=(dN (ρ x)).map (·,h):=by
 simp only[cZ,dN,Option.map_map];rfl
theorem aeM (agg:Bool)(off n:Nat)(x:X):cZ ρ h (.part agg off n x)=(RG agg off n (ρ x)).map (·,h):=by
 simp only[cZ,RG];cases ρ x<;>try rfl
 cases agg
 ·rfl
 ·simp only[if_true,Option.map_map];rfl
theorem BM (x:X):cZ ρ h (.ld false 1 x)=(Us h (ρ x)).map (·,h):=by
 simp only[cZ,ZU,Us,H.row,H.cell]
 cases ρ x<;>try rfl
 simp only
 rename_i id off
 cases h.get id with
 |none=>rfl
 |some o=>cases o with
  |cells ro vs=>
   simp only[sub]
   by_cases hlt:off<vs.length
   ·rw[if_pos (by omega),iH hlt]
    have:(vs.drop off).take 1= [vs[off]]:=by
     rw[List.drop_eq_getElem_cons hlt];rfl
    rw[this];rfl
   ·rw[if_neg (by omega),List.getElem?_eq_none (by omega)]
  |_=>rfl
theorem QU (n:Nat)(x:X):cZ ρ h (.ld true n x)=(MR h n (ρ x)).map (·,h):=by
 simp only[cZ,ZU,MR]
 cases ρ x<;>try rfl
 simp only
 cases h.row _ _ n<;>rfl
theorem alU (n:Nat)(x y:X):cZ ρ h (.st n x y)=(FL h n (ρ x) (ρ y)).map λh'=>(V.undef,h'):=by
 simp only[cZ,FL]
 cases ρ x<;>try rfl
 simp only
 split<;>rfl
theorem aiN (sz:Nat)(x i:X):cZ ρ h (.ixa sz x i)=(ER sz (ρ x) (ρ i)).map (·,h):=rfl
theorem afH (off:Nat)(x:X):cZ ρ h (.fla off x)=(amL off (ρ x)).map (·,h):=by
 simp only[cZ,amL];cases ρ x<;>rfl
theorem ahD (x:X):cZ ρ h (.nck x)=(alK (ρ x)).map (·,h):=by
 simp only[cZ,alK];cases ρ x<;>rfl
theorem agG (sz:Nat)(x:X)(lo hi mx:Option X):cZ ρ h (.slc sz x lo hi mx)=(Ae sz (ρ x) (lo.map ρ) (hi.map ρ) (mx.map ρ)).map (·,h):=rfl
theorem afP (sz bytes:Nat)(zero:List V)(l c:X):cZ ρ h (.mks sz bytes zero l c)=Pd h sz bytes zero (ρ l) (ρ c):=rfl
theorem aiB (zero:List V):cZ ρ h (.alc zero)=some (.ptr h.next 0,h.new (.cells false zero)):=rfl
theorem afF (x:X):cZ ρ h (.box x)=Qq h (ρ x):=rfl
theorem amI (mx:Bool)(x y:X):cZ ρ h (.mm mx [x,y])=(WW mx (ρ x) [ρ y]).map (·,h):=rfl
theorem aiC (f:Nat)(fs cs:List X):cZ ρ h (.mkf f fs cs)=some (.fn f (fs.map ρ) (cs.map ρ),h):=rfl
theorem ajB:cZ ρ h .mkm=some (.mp h.next,h.new (.map [])):=rfl
def Ep (h:H)(sz bytes:Nat)(x y:V):Option (V×H):=match vA y,h.slice sz y with
 |some m,some ys=>Cj h sz bytes x m ys
 |_,_=>none
theorem agR (sz bytes:Nat)(x y:X):cZ ρ h (.app sz bytes x y)=Ep h sz bytes (ρ x) (ρ y):=rfl
def Eg (zero:List V)(parts:List (Nat×Nat×V)):Option V:=(jH zero parts).map .agg
theorem afS (zero:List V)(parts:List (Nat×Nat×X)):cZ ρ h (.bld zero parts)=(Eg zero (parts.map λp=>(p.1,p.2.1,ρ p.2.2))).map (·,h):=by
 simp only[cZ,Eg,Option.map_map];rfl
def sD (h:H)(sz:Nat)(zero:List V)(n:Nat)(parts:List (Nat×Nat×V)):Option (V×H):=match jH (dP zero (n*sz)) parts with
  |some cs=>if cs.all V.one then some (.sl h.next 0 n (.kn n),h.new (.cells false cs)) else none
  |none=>none
theorem aiA (sz:Nat)(zero:List V)(n:Nat)(parts:List (Nat×Nat×X)):cZ ρ h (.bls sz zero n parts)=sD h sz zero n (parts.map λp=>(p.1,p.2.1,ρ p.2.2)):=rfl
theorem agZ (sz:Nat)(x y:X):cZ ρ h (.cpy sz x y)=VQ h sz (ρ x) (ρ y):=rfl
end
theorem aoB (vars loc:List V)(k:Nat):xv vars loc (.v k)=vars.getD k .undef:=rfl
theorem anQ (vars loc:List V)(k:Nat):xv vars loc (.l k)=loc.getD k .undef:=rfl
theorem alZ (vars loc:List V)(x:V):xv vars loc (.c x)=x:=rfl
theorem agE (k:Nat)(vars loc:List V)(v:V):(nE (.v k) vars loc v).1=vars.set k v:=rfl
theorem agL (k:Nat)(vars loc:List V)(v:V):(nE (.v k) vars loc v).2=loc:=rfl
theorem agD (vars loc:List V)(v:V):(nE .l vars loc v).1=vars:=rfl
theorem afD (vars loc:List V)(v:V):(nE .l vars loc v).2=v::loc:=rfl
theorem afA (vars loc:List V)(v:V):(nE .n vars loc v).1=vars:=rfl
theorem ahR (vars loc:List V)(v:V):(nE .n vars loc v).2=loc:=rfl
theorem IU (vars loc:List V)(x:X)(b:Bool):gQ vars loc (some (x,b))=(match xv vars loc x with| .bool a=>some (a==b)| .tup []=>some false|_=>none):=rfl
theorem SF (k:IntKind)(a b:Int):arith .add k a b=some (.int k (k.wrap (a+b))):=rfl
theorem TV (k:IntKind)(a b:Int):arith .sub k a b=some (.int k (k.wrap (a-b))):=rfl
theorem TG (k:IntKind)(a b:Int):arith .mul k a b=some (.int k (k.wrap (a*b))):=rfl
theorem WE (k:IntKind)(a b:Int)(hb:b≠0):arith .quo k a b=some (.int k (k.wrap (a.tdiv b))):=by simp only[arith];rw[if_neg hb]
theorem RO (k:IntKind)(a b:Int)(hb:b≠0):arith .rem k a b=some (.int k (a.tmod b)):=by simp only[arith];rw[if_neg hb]
theorem TH (k:IntKind)(a b:Int):arith .eql k a b=some (.bool (decide (a=b))):=by
 simp only[arith];congr 2
theorem UO (k:IntKind)(a b:Int):arith .neq k a b=some (.bool (decide (a≠b))):=by
 simp only[arith];congr 2;rw[Bool.eq_iff_iff];simp
theorem TE (k:IntKind)(a b:Int):arith .lss k a b=some (.bool (decide (a<b))):=rfl
theorem UN (k:IntKind)(a b:Int):arith .leq k a b=some (.bool (decide (a<=b))):=rfl
theorem VB (k:IntKind)(a b:Int):arith .gtr k a b=some (.bool (decide (b<a))):=rfl
theorem SZ (k:IntKind)(a b:Int):arith .geq k a b=some (.bool (decide (b<=a))):=rfl
theorem akO (k:IntKind)(a b:Int):WW false (.int k a) [.int k b]=some (.int k (if b<a then b else a)):=by
 simp only[WW,if_true,Bool.false_eq_true,if_false]
theorem akW (k:IntKind)(a b:Int):WW true (.int k a) [.int k b]=some (.int k (if b>a then b else a)):=by
 simp only[WW,if_true]
theorem PT {n:Int}(h1: -9223372036854775808<=n)(h2:n<9223372036854775808):IntKind.i64.wrap n=n:=wrap_i64 h1 h2
theorem akS (vars:List V)(h:H)(k:Nat):Hx vars h (.v k)=some (vars.getD k .undef):=rfl
theorem NR (vars:List V)(h:H)(k:Nat):Hx vars h (.cell k false 1)=Us h (vars.getD k .undef):=by
 have:=BM (λ_=>vars.getD k .undef) h (.v 0)
 simp only[Hx]
 simp only[cZ] at this
 generalize ZU h false 1 (vars.getD k .undef)=a at*
 generalize Us h (vars.getD k .undef)=b at*
 cases a<;>cases b<;>simp at this ⊢
 exact this
theorem NZ (vars:List V)(h:H)(k n:Nat):Hx vars h (.cell k true n)=MR h n (vars.getD k .undef):=by
 simp only[Hx,ZU,MR]
 cases vars.getD k .undef<;>try rfl
 simp only
 cases h.row _ _ n<;>rfl
theorem JB {α:Type}:cM ([]:List (Option α))=some []:=rfl
theorem EG {α:Type}(a:α)(r:List (Option α)):cM (some a::r)=(cM r).map (a:: ·):=rfl
theorem aaK (v:V):Ow [v]=v:=rfl
theorem aaB (v u:V):Ow [v,u]= .tup [v,u]:=rfl
theorem LI (v u t:V):Ow [v,u,t]= .tup [v,u,t]:=rfl
theorem uE:V.undef= .tup []:=rfl
theorem aF (fn:Fn)(args:List V):Lo fn args=fn.init.map λo=>match o with|some j=>args.getD j .undef|none=> .undef:=rfl
theorem VC (log:Log)(h:H):uH [] log h=true:=by simp [uH]
attribute [go_sem] ajF alL ajC aaY alD akF adI akQ acC adP Wa UA NU HF MC Fg UT HN OG IE SO acE UP KH LV GU acS XN ahC amF ahK ahV agO ahX WJ ahN YD VX afZ adO UE SW akB aaS TU US ZH adU GY ahU adX ahP aiZ YP afL aeS abV agW YC aeM BM QU alU aiN afH ahD agG afP aiB afF amI aiC ajB agR afS aiA agZ acL UY KX OK aaI SM alG akE Bool.not_false Bool.not_true beq_true beq_false if_true if_false Bool.false_eq_true aaL ZR VI YL KL aaD RT VH acQ aeL SD acB agP YT amC XE Sy VO bQ Lz aoB anQ alZ agE agL agD afD afA ahR IU SF TV TG WE RO TH UO TE UN VB SZ akO akW PT akS NR NZ JB EG aaK aaB LI VC H.aV H.aH H.aQ H.bN H.tA H.SN H.Iy H.yW H.Yb H.HX H.cH H.aY true_and Option.map_some Option.map_none List.replicate_succ List.replicate_zero List.take_succ_cons List.take_zero List.length_cons List.length_nil Nat.zero_add List.foldl_cons List.foldl_nil List.map_cons List.map_nil List.getD_cons_zero List.getD_cons_succ List.set_cons_zero List.set_cons_succ List.cons_append List.nil_append List.append_nil
attribute [congr] NQ
abbrev bT (l:List V):Option Ob:=some (.cells false l)
abbrev aB (z:Int):V:=.int .i64 z
abbrev LN:=List (List Nat)
abbrev qK:=List (List (List Nat))
theorem jZ {p:Prop}[d:Decidable p](h:p):decide p=true:=decide_eq_true h
theorem eX {p:Prop}[d:Decidable p](h:¬p):decide p=false:=decide_eq_false h
theorem gU (i:Nat):(i:Int)+1=((i+1:Nat):Int):=by omega
end Go.Ay
