/- Rules for walking through the abstract machine's code. -/
import Derived.Test.YtddpkbicnolafaaGreatAy23
import Derived.Attr
namespace Go.Ay
def find:List (Nat×Fn)->Nat->Option Fn
 | [],_=>none
 |(k,f)::l,n=>cond (Nat.beq k n) (some f) (find l n)
attribute [congr] EC VQ aaF UU VE RJ XT LA HO HL GD AJ
def H.cell (h:H)(id off:Nat):Option V:=match h.get id with
 |some (.cells _ vs)=>vs[off]?
 |_=>none
section
variable (h:H)
theorem H.aG {h:H}{id:Nat}{ro:Bool}{vs:List V}(hg:h.get id=some (.cells ro vs))(off:Nat):h.cell id off=vs[off]? :=by
 unfold H.cell;rw[hg]
theorem H.aX (id:Nat)(o:Option Ob):(h.set id o).get id=o:=by rw[H.jQ,if_pos rfl]
theorem H.aH {id k:Nat}(hk:k≠id)(o:Option Ob):(h.set id o).get k=h.get k:=by rw[H.jQ,if_neg hk]
theorem H.aQ (o:Ob):(h.new o).get h.next=some o:=by rw[H.lY,if_pos rfl]
theorem H.bP {k:Nat}(hk:k≠h.next)(o:Ob):(h.new o).get k=h.get k:=by rw[H.lY,if_neg hk]
theorem H.tE (n k:Nat):(H.mk h.tr n).get k=h.get k:=rfl
theorem H.SO (n k off:Nat):(H.mk h.tr n).cell k off=h.cell k off:=rfl
theorem H.Il (id:Nat)(ro:Bool)(vs:List V)(off:Nat):(h.set id (some (.cells ro vs))).cell id off=vs[off]? :=H.aG (H.aX ..) off
theorem H.Pk {id k:Nat}(hk:k≠id)(o:Option Ob)(off:Nat):(h.set id o).cell k off=h.cell k off:=by unfold H.cell;rw[H.aH h hk]
theorem H.Ws (ro:Bool)(vs:List V)(off:Nat):(h.new (.cells ro vs)).cell h.next off=vs[off]? :=H.aG (H.aQ ..) off
theorem H.HU {k:Nat}(hk:k≠h.next)(o:Ob)(off:Nat):(h.new o).cell k off=h.cell k off:=by unfold H.cell;rw[H.bP h hk]
end
structure Fr (h h':H):Prop where
 next:h.next<=h'.next
 get: ∀id,id<h.next->h'.get id=h.get id
theorem Fr.refl (h:H):Fr h h:=⟨gJ _,λ_ _=>rfl⟩
theorem Fr.trans {a b c:H}(x:Fr a b)(y:Fr b c):Fr a c:=⟨Nat.le_trans x.next y.next,λid hid=>(y.get id (nE hid x.next)).trans (x.get id hid)⟩
theorem Fr.new {a b:H}(x:Fr a b)(o:Ob):Fr a (b.new o):=x.trans ⟨by rw[H.aY];omega,λid hid=>H.bP b (by omega) o⟩
theorem Fr.set {a b:H}(x:Fr a b){id:Nat}(hid:a.next<=id)(o:Option Ob):Fr a (b.set id o):=⟨x.next,λk hk=>(H.aH b (by omega) o).trans (x.get k hk)⟩
theorem Fr.bG {a b:H}(x:Fr a b){n:Nat}(hn:b.next<=n):Fr a (H.mk b.tr n):=⟨Nat.le_trans x.next hn,λk hk=>(H.tE b n k).trans (x.get k hk)⟩
theorem Fr.cell {a b:H}(x:Fr a b){id:Nat}(hid:id<a.next)(off:Nat):b.cell id off=a.cell id off:=by unfold H.cell;rw[x.get id hid]
def aiN (op:BinOp)(k:IntKind)(x y:V):Option V:=match x,y with
 | .int j a,.int j' b=>if j=k/\j'=k then arith op k a b else none
 |_,_=>none
theorem acD (op:BinOp)(k:IntKind)(a b:Int):aiN op k (.int k a) (.int k b)=arith op k a b:=by simp [aiN]
def alN:V->Option V
 | .bool a=>some (.bool (!a))
 |_=>none
theorem TV (a:Bool):alN (.bool a)=some (.bool (!a)):=rfl
def ZR (c a b:V):Option V:=match c with
 | .bool t=>some (if t then a else b)
 |_=>none
theorem JR (t:Bool)(a b:V):ZR (.bool t) a b=some (if t then a else b):=rfl
def Ul (neg:Bool):V->Option V
 | .aC=>some (.bool (!neg))
 | .sl .. | .emp _=>some (.bool neg)
 |_=>none
theorem JF (neg:Bool):Ul neg .aC=some (.bool (!neg)):=rfl
theorem UY (neg:Bool)(a:Addr):Ul neg (.emp a)=some (.bool neg):=rfl
theorem abB (neg:Bool)(a b c:Nat)(d:uU):Ul neg (.sl a b c d)=some (.bool neg):=rfl
def afQ (neg:Bool)(x y:V):Option V:=match x,y with
 | .bool a,.bool b=>some (.bool (if neg then !(a==b) else a==b))
 |_,_=>none
theorem akG (a b:Bool):afQ false (.bool a) (.bool b)=some (.bool (a==b)):=rfl
theorem ajV (a b:Bool):afQ true (.bool a) (.bool b)=some (.bool (!(a==b))):=rfl
def afR (k:IntKind):V->Option V
 | .int j a=>if j=k then some (.int k (k.wrap (0-a))) else none
 |_=>none
theorem acR (k:IntKind)(a:Int):afR k (.int k a)=some (.int k (k.wrap (0-a))):=by simp [afR]
def adQ (k:IntKind):V->Option V
 | .int _ a=>some (.int k (k.wrap a))
 |_=>none
theorem QG (k j:IntKind)(a:Int):adQ k (.int j a)=some (.int k (k.wrap a)):=rfl
def alD (i:Nat):V->Option V
 | .tup vs=>vs[i]?
 |_=>none
theorem abO (i:Nat)(vs:List V):alD i (.tup vs)=vs[i]? :=rfl
def dI (v:V):Option V:=(xI v).map λ(n:Nat)=>V.int .i64 (n:Int)
theorem MW:dI .aC=some (.int .i64 0):=rfl
theorem YN (a b c:Nat)(d:uU):dI (.sl a b c d)=some (.int .i64 (c:Int)):=rfl
def NS (agg:Bool)(off n:Nat):V->Option V
 | .agg vs=>if agg then (sub vs off n).map (λws=> .agg ws) else vs[off]?
 |_=>none
theorem TR (off n:Nat)(vs:List V):NS false off n (.agg vs)=vs[off]? :=rfl
theorem RV (off n:Nat)(vs:List V):NS true off n (.agg vs)=(sub vs off n).map (λws=> .agg ws):=rfl
def ajK (off:Nat):V->Option V
 | .ptr id o=>some (.ptr id (o+off))
 |_=>none
theorem XK (off id o:Nat):ajK off (.ptr id o)=some (.ptr id (o+off)):=rfl
def alY:V->Option V
 | .ptr id o=>some (.ptr id o)
 |_=>none
theorem aaT (id o:Nat):alY (.ptr id o)=some (.ptr id o):=rfl
def Tp (h:H):V->Option V
 | .ptr id off=>h.cell id off
 |_=>none
theorem QQ (h:H)(id off:Nat):Tp h (.ptr id off)=h.cell id off:=rfl
def NG (h:H)(n:Nat):V->Option V
 | .ptr id off=>(h.row id off n).map .agg
 |_=>none
theorem WA (h:H)(id off n:Nat):NG h n (.ptr id off)=(h.row id off n).map .agg:=rfl
def LU (h:H)(n:Nat)(x y:V):Option H:=match x with
 | .ptr id off=>if y.cells.length=n/\y.cells.all V.one then h.put id off y.cells else none
 |_=>none
def fA (o:Option Ob)(h:H)(id off:Nat)(ws:List V):Option H:=match o with
 |some (.cells false vs)=>(putAt vs off ws).map λvs'=>h.set id (some (.cells false vs'))
 |_=>none
theorem H.put_eq (h:H)(id off:Nat)(ws:List V):h.put id off ws=fA (h.get id) h id off ws:=by
 unfold H.put fA
 cases h.get id with
 |none=>rfl
 |some o=>cases o with
  |cells ro vs=>cases ro<;>rfl
  |_=>rfl
theorem JD {o o':Option Ob}{h:H}{id off:Nat}{ws:List V}(e:o=o'):fA o h id off ws=fA o' h id off ws:=by rw[e]
theorem TE {vs:List V}{off:Nat}(hlt:off<vs.length)(v:V):putAt vs off [v]=some (vs.set off v):=by
 unfold putAt
 rw[if_pos (by simp;omega)]
 congr 1
 rw[List.set_eq_take_append_cons_drop,if_pos hlt]
 simp
theorem bU {vs:List V}{off:Nat}(hlt:off<vs.length)(h:H)(id:Nat)(v:V):fA (some (.cells false vs)) h id off [v]=some (h.set id (some (.cells false (vs.set off v)))):=by
 simp only[fA];rw[TE hlt];rfl
theorem pX {y:V}(hc:y.cells= [y])(ho:y.one=true)(h:H)(id off:Nat):LU h 1 (.ptr id off) y=fA (h.get id) h id off [y]:=by
 simp only[LU,hc,List.length_singleton,List.all_cons,List.all_nil,ho,Bool.and_self,and_self,if_true,H.put_eq]
theorem agQ (h:H)(id off:Nat)(k:IntKind)(a:Int):LU h 1 (.ptr id off) (.int k a)=fA (h.get id) h id off [.int k a]:=pX rfl rfl h id off
theorem abM (h:H)(id off:Nat)(a:Bool):LU h 1 (.ptr id off) (.bool a)=fA (h.get id) h id off [.bool a]:=pX rfl rfl h id off
theorem akA (h:H)(id off a b c:Nat)(d:uU):LU h 1 (.ptr id off) (.sl a b c d)=fA (h.get id) h id off [.sl a b c d]:=pX rfl rfl h id off
theorem YM (h:H)(id off:Nat):LU h 1 (.ptr id off) .aC=fA (h.get id) h id off [.aC]:=pX rfl rfl h id off
theorem Rn (h:H)(id off n:Nat)(vs:List V)(hn:vs.length=n)(ho:vs.all V.one=true):LU h n (.ptr id off) (.agg vs)=fA (h.get id) h id off vs:=by
 simp only[LU,V.cells,hn,ho,and_self,if_true,H.put_eq]
def Ss (h:H)(x:V):Option (V×H):=if x.cells.all V.one then some (.ptr h.next 0,h.new (.cells false x.cells)) else none
theorem yF {x:V}(hc:x.cells= [x])(ho:x.one=true)(h:H):Ss h x=some (.ptr h.next 0,h.new (.cells false [x])):=by
 simp [Ss,hc,ho]
theorem Sr (h:H)(k:IntKind)(a:Int):Ss h (.int k a)=some (.ptr h.next 0,h.new (.cells false [.int k a])):=rfl
theorem TH (h:H)(a:Bool):Ss h (.bool a)=some (.ptr h.next 0,h.new (.cells false [.bool a])):=rfl
theorem Lm (h:H)(vs:List V)(ho:vs.all V.one=true):Ss h (.agg vs)=some (.ptr h.next 0,h.new (.cells false vs)):=by
 simp only[Ss,V.cells,ho,if_true]
theorem Rm {id off len sz:Nat}{cap:uU}{k:IntKind}{n:Int}(h0:0<=n)(h1:n<len):CS sz (.sl id off len cap) (.int k n)=some (.ptr id (off+n.toNat*sz)):=by
 simp only[CS];rw[if_pos ⟨h0,h1⟩]
section
variable (ρ:X->V) (h:H)
theorem agU (x:X):dB ρ h (.mov x)=some (ρ x,h):=rfl
theorem YQ (c a b:X):dB ρ h (.pick c a b)=(ZR (ρ c) (ρ a) (ρ b)).map (·,h):=by
 simp only[dB,ZR];cases ρ c<;>rfl
theorem aeK (op:BinOp)(k:IntKind)(x y:X):dB ρ h (.bin op k x y)=(aiN op k (ρ x) (ρ y)).map (·,h):=by
 simp only[dB,aiN]
 cases ρ x<;>cases ρ y<;>try rfl
 simp only
 split<;>rfl
theorem aeU (neg:Bool)(x y:X):dB ρ h (.beq neg x y)=(afQ neg (ρ x) (ρ y)).map (·,h):=by
 simp only[dB,afQ]
 cases ρ x<;>cases ρ y<;>rfl
theorem XH (neg:Bool)(x:X):dB ρ h (.snil neg x)=(Ul neg (ρ x)).map (·,h):=by
 simp only[dB,Ul];cases ρ x<;>rfl
theorem ahR (x:X):dB ρ h (.not x)=(alN (ρ x)).map (·,h):=by
 simp only[dB,alN];cases ρ x<;>rfl
theorem ahO (k:IntKind)(x:X):dB ρ h (.neg k x)=(afR k (ρ x)).map (·,h):=by
 simp only[dB,afR];cases ρ x<;>try rfl
 simp only;split<;>rfl
theorem abA (k:IntKind)(x:X):dB ρ h (.conv k x)=(adQ k (ρ x)).map (·,h):=by
 simp only[dB,adQ];cases ρ x<;>rfl
theorem adU (x:X)(i:Nat):dB ρ h (.ext x i)=(alD i (ρ x)).map (·,h):=by
 simp only[dB,alD];cases ρ x<;>rfl
theorem acP (x:X):dB ρ h (.lens x)=(dI (ρ x)).map (·,h):=by
 simp only[dB,dI,Option.map_map];rfl
theorem XN (agg:Bool)(off n:Nat)(x:X):dB ρ h (.part agg off n x)=(NS agg off n (ρ x)).map (·,h):=by
 simp only[dB,NS];cases ρ x<;>try rfl
 cases agg
 ·rfl
 ·simp only[if_true,Option.map_map];rfl
theorem DP (x:X):dB ρ h (.ld false 1 x)=(Tp h (ρ x)).map (·,h):=by
 simp only[dB,YK,Tp,H.row,H.cell]
 cases ρ x<;>try rfl
 simp only
 rename_i id off
 cases h.get id with
 |none=>rfl
 |some o=>cases o with
  |cells ro vs=>
   simp only[sub]
   by_cases hlt:off<vs.length
   ·rw[if_pos (by omega),gO hlt]
    have:(vs.drop off).take 1= [vs[off]]:=by
     rw[List.drop_eq_getElem_cons hlt];rfl
    rw[this];rfl
   ·rw[if_neg (by omega),List.getElem?_eq_none (by omega)]
  |_=>rfl
theorem PS (n:Nat)(x:X):dB ρ h (.ld true n x)=(NG h n (ρ x)).map (·,h):=by
 simp only[dB,YK,NG]
 cases ρ x<;>try rfl
 simp only
 cases h.row _ _ n<;>rfl
theorem ajS (n:Nat)(x y:X):dB ρ h (.st n x y)=(LU h n (ρ x) (ρ y)).map λh'=>(V.undef,h'):=by
 simp only[dB,LU]
 cases ρ x<;>try rfl
 simp only
 split<;>rfl
theorem afM (sz:Nat)(x i:X):dB ρ h (.ixa sz x i)=(CS sz (ρ x) (ρ i)).map (·,h):=rfl
theorem aeY (off:Nat)(x:X):dB ρ h (.fla off x)=(ajK off (ρ x)).map (·,h):=by
 simp only[dB,ajK];cases ρ x<;>rfl
theorem ahV (x:X):dB ρ h (.nck x)=(alY (ρ x)).map (·,h):=by
 simp only[dB,alY];cases ρ x<;>rfl
theorem aeV (sz:Nat)(x:X)(lo hi mx:Option X):dB ρ h (.slc sz x lo hi mx)=(Tl sz (ρ x) (lo.map ρ) (hi.map ρ) (mx.map ρ)).map (·,h):=rfl
theorem aeE (sz bytes:Nat)(zero:List V)(l c:X):dB ρ h (.mks sz bytes zero l c)=Kz h sz bytes zero (ρ l) (ρ c):=rfl
theorem aeR (zero:List V):dB ρ h (.alc zero)=some (.ptr h.next 0,h.new (.cells false zero)):=rfl
theorem afW (x:X):dB ρ h (.box x)=Ss h (ρ x):=rfl
theorem amA (mx:Bool)(x y:X):dB ρ h (.mm mx [x,y])=(VL mx (ρ x) [ρ y]).map (·,h):=rfl
theorem afZ (f:Nat)(fs cs:List X):dB ρ h (.mkf f fs cs)=some (.fn f (fs.map ρ) (cs.map ρ),h):=rfl
theorem aeH:dB ρ h .mkm=some (.mp h.next,h.new (.map [])):=rfl
def Da (h:H)(sz bytes:Nat)(x y:V):Option (V×H):=match xI y,h.slice sz y with
 |some m,some ys=>Ba h sz bytes x m ys
 |_,_=>none
theorem ahP (sz bytes:Nat)(x y:X):dB ρ h (.app sz bytes x y)=Da h sz bytes (ρ x) (ρ y):=rfl
def Aq (zero:List V)(parts:List (Nat×Nat×V)):Option V:=(kY zero parts).map .agg
theorem agK (zero:List V)(parts:List (Nat×Nat×X)):dB ρ h (.bld zero parts)=(Aq zero (parts.map λp=>(p.1,p.2.1,ρ p.2.2))).map (·,h):=by
 simp only[dB,Aq,Option.map_map];rfl
def Ap (h:H)(sz:Nat)(zero:List V)(n:Nat)(parts:List (Nat×Nat×V)):Option (V×H):=match kY (dY zero (n*sz)) parts with
  |some cs=>if cs.all V.one then some (.sl h.next 0 n (.kn n),h.new (.cells false cs)) else none
  |none=>none
theorem aiO (sz:Nat)(zero:List V)(n:Nat)(parts:List (Nat×Nat×X)):dB ρ h (.bls sz zero n parts)=Ap h sz zero n (parts.map λp=>(p.1,p.2.1,ρ p.2.2)):=rfl
theorem ahT (sz:Nat)(x y:X):dB ρ h (.cpy sz x y)=ahB h sz (ρ x) (ρ y):=rfl
end
theorem anN (vars loc:List V)(k:Nat):xv vars loc (.v k)=vars.getD k .undef:=rfl
theorem anM (vars loc:List V)(k:Nat):xv vars loc (.l k)=loc.getD k .undef:=rfl
theorem akD (vars loc:List V)(x:V):xv vars loc (.c x)=x:=rfl
theorem afF (k:Nat)(vars loc:List V)(v:V):(oL (.v k) vars loc v).1=vars.set k v:=rfl
theorem afS (k:Nat)(vars loc:List V)(v:V):(oL (.v k) vars loc v).2=loc:=rfl
theorem afH (vars loc:List V)(v:V):(oL .l vars loc v).1=vars:=rfl
theorem agR (vars loc:List V)(v:V):(oL .l vars loc v).2=v::loc:=rfl
theorem afC (vars loc:List V)(v:V):(oL .n vars loc v).1=vars:=rfl
theorem aiC (vars loc:List V)(v:V):(oL .n vars loc v).2=loc:=rfl
theorem HT (vars loc:List V)(x:X)(b:Bool):gI vars loc (some (x,b))=(match xv vars loc x with| .bool a=>some (a==b)| .tup []=>some false|_=>none):=rfl
theorem RF (k:IntKind)(a b:Int):arith .add k a b=some (.int k (k.wrap (a+b))):=rfl
theorem SE (k:IntKind)(a b:Int):arith .sub k a b=some (.int k (k.wrap (a-b))):=rfl
theorem UH (k:IntKind)(a b:Int):arith .mul k a b=some (.int k (k.wrap (a*b))):=rfl
theorem SF (k:IntKind)(a b:Int)(hb:b≠0):arith .quo k a b=some (.int k (k.wrap (a.tdiv b))):=by simp only[arith];rw[if_neg hb]
theorem QY (k:IntKind)(a b:Int)(hb:b≠0):arith .rem k a b=some (.int k (a.tmod b)):=by simp only[arith];rw[if_neg hb]
theorem QW (k:IntKind)(a b:Int):arith .eql k a b=some (.bool (decide (a=b))):=by
 simp only[arith];congr 2
theorem SM (k:IntKind)(a b:Int):arith .neq k a b=some (.bool (decide (a≠b))):=by
 simp only[arith];congr 2;rw[Bool.eq_iff_iff];simp
theorem UN (k:IntKind)(a b:Int):arith .lss k a b=some (.bool (decide (a<b))):=rfl
theorem TK (k:IntKind)(a b:Int):arith .leq k a b=some (.bool (decide (a<=b))):=rfl
theorem TA (k:IntKind)(a b:Int):arith .gtr k a b=some (.bool (decide (b<a))):=rfl
theorem RI (k:IntKind)(a b:Int):arith .geq k a b=some (.bool (decide (b<=a))):=rfl
theorem akI (k:IntKind)(a b:Int):VL false (.int k a) [.int k b]=some (.int k (if b<a then b else a)):=by
 simp only[VL,if_true,Bool.false_eq_true,if_false]
theorem akL (k:IntKind)(a b:Int):VL true (.int k a) [.int k b]=some (.int k (if b>a then b else a)):=by
 simp only[VL,if_true]
theorem QA {n:Int}(h1: -9223372036854775808<=n)(h2:n<9223372036854775808):IntKind.i64.wrap n=n:=wrap_i64 h1 h2
theorem ajP (vars:List V)(h:H)(k:Nat):Hf vars h (.v k)=some (vars.getD k .undef):=rfl
theorem MS (vars:List V)(h:H)(k:Nat):Hf vars h (.cell k false 1)=Tp h (vars.getD k .undef):=by
 have:=DP (λ_=>vars.getD k .undef) h (.v 0)
 simp only[Hf]
 simp only[dB] at this
 generalize YK h false 1 (vars.getD k .undef)=a at*
 generalize Tp h (vars.getD k .undef)=b at*
 cases a<;>cases b<;>simp at this ⊢
 exact this
theorem KM (vars:List V)(h:H)(k n:Nat):Hf vars h (.cell k true n)=NG h n (vars.getD k .undef):=by
 simp only[Hf,YK,NG]
 cases vars.getD k .undef<;>try rfl
 simp only
 cases h.row _ _ n<;>rfl
theorem FJ {α:Type}:cK ([]:List (Option α))=some []:=rfl
theorem BI {α:Type}(a:α)(r:List (Option α)):cK (some a::r)=(cK r).map (a:: ·):=rfl
theorem aaL (v:V):Oi [v]=v:=rfl
theorem VU (v u:V):Oi [v,u]= .tup [v,u]:=rfl
theorem LS (v u t:V):Oi [v,u,t]= .tup [v,u,t]:=rfl
theorem Ff:V.undef= .tup []:=rfl
theorem aF (fn:Fn)(args:List V):Kp fn args=fn.init.map λo=>match o with|some j=>args.getD j .undef|none=> .undef:=rfl
theorem UQ (log:Log)(h:H):uN [] log h=true:=by simp [uN]
attribute [go_sem] aiM akX agX ZG alG ajD aaZ ajQ XD ZM Vu VA JV FQ LF Dv VG IJ JK ER SA XA TW LM LX IV acF aaD agC akU aiJ afK ahD ahF VB afD aaP QN agB aaC RO UX ajU abJ RB QR XB ZD GF agU YQ aeK aeU XH ahR ahO abA adU acP XN DP PS ajS afM aeY ahV aeV aeE aeR afW amA afZ aeH ahP agK aiO ahT acD TV JR JF abB UY akG ajV Bool.not_false Bool.not_true beq_true beq_false if_true if_false Bool.false_eq_true acX acR QG abO MW YN TR RV XK aaT QQ WA agQ abM akA YM Sr TH bU Rm anN anM akD afF afS afH agR afC aiC HT RF SE UH SF QY QW SM UN TK TA RI akI akL QA ajP MS KM FJ BI aaL VU LS UQ H.aX H.aH H.aQ H.bP H.tE H.SO H.Il H.Pk H.Ws H.HU H.dA H.aY true_and Option.map_some Option.map_none List.replicate_succ List.replicate_zero List.take_succ_cons List.take_zero List.length_cons List.length_nil Nat.zero_add List.foldl_cons List.foldl_nil List.map_cons List.map_nil List.getD_cons_zero List.getD_cons_succ List.set_cons_zero List.set_cons_succ List.cons_append List.nil_append List.append_nil
attribute [congr] JD
abbrev bQ (l:List V):Option Ob:=some (.cells false l)
abbrev aB (z:Int):V:=.int .i64 z
abbrev LN:=List (List Nat)
abbrev qS:=List (List (List Nat))
theorem jG {p:Prop}[d:Decidable p](h:p):decide p=true:=decide_eq_true h
theorem fQ {p:Prop}[d:Decidable p](h:¬p):decide p=false:=decide_eq_false h
theorem fS (i:Nat):(i:Int)+1=((i+1:Nat):Int):=by omega
end Go.Ay
