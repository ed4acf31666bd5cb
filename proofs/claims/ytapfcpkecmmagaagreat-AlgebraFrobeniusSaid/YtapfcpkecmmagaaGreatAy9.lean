/- One operation, whole: the other kinds. -/
import Derived.Test.YtapfcpkecmmagaaGreatAy8b
namespace Go.Ay
open Go
section
variable {t ty e:TypeId} {op:BinOp} {x y:Operand} {cx cy:X}
section
variable {P:Program} {m:M} {h:H} {w:World} {o:Oper} {a:Act} {v:V} {h':H} {nt:Nat} {pv defs:List Nat} {vars loc:List V}
theorem Ii {zu:V}(hz:gT P t=some zu): ∃i z,P.info? t=some i/\i.zero=some z:=by
 unfold gT at hz
 cases hi:P.info? t with
 |none=>simp [hi] at hz
 |some i=>
  cases hzz:i.zero with
  |none=>simp [hi,hzz] at hz
  |some z=>exact⟨i,z,rfl,hzz⟩
theorem fY {β:Type}{x:Option β}{h h':H}{v:β}(he:x.map (λy=>(y,h))=some (v,h')):x=some v/\h=h':=by
 cases x with
 |none=>simp at he
 |some u=>simp at he;exact⟨by rw[he.1],he.2⟩
theorem Dy {agg:Bool}{n:Nat}(h:Yk P t=some (agg,n)):yG P t=some agg/\(if agg then eU P t else some 1)=some n:=by
 unfold Yk at h;split at h
 ·rename_i ha
  simp only[gJ] at h;obtain⟨k,hk,h⟩:=h;cases h;exact⟨ha,hk⟩
 ·cases h;exact⟨by assumption,rfl⟩
 ·cases h
theorem vB (s:St m nt pv defs vars loc a)(hr:HR P m h w)(hf:eD m h.next)(hop:o.op= .binOp op t x y ty){k:IntKind}
  (hcx:dW pv defs x=some cx) (hcy:dW pv defs y=some cy) (he:cI (xv vars loc) h (.bin op k cx cy)=some (v,h')):Goal P m h w o a v h':=by
 have hvx:=aG s hcx
 have hvy:=aG s hcy
 simp only[cI] at he
 split at he
 ·rename_i j b j' b' hx hy
  rw[hx] at hvx
  rw[hy] at hvy
  split at he
  ·rename_i hjk
   obtain⟨he2,rfl⟩:=fY he
   obtain⟨rfl,rfl⟩:=hjk
   obtain⟨z,h1,h2⟩:=Cn (P:=P) (m:=m) (w:=w) he2 t
   refine aS.goal (s:=do eqGuard op t x y (a.eval x) (a.eval y);binOp op t (a.eval x) (a.eval y)) (aS.still hr hf (x:=z) ?_ h2) (by simp only[execOp,hop])
   rw[show a.eval x= .int _ b from hvx,show a.eval y= .int _ b' from hvy]
   simp [tY,h1]
  ·cases he
 ·cases he
theorem Ox (s:St m nt pv defs vars loc a)(hr:HR P m h w)(hf:eD m h.next)(hop:o.op= .binOp op t x y ty){k:IntKind}
  (hcx:dW pv defs x=some cx) (hcy:dW pv defs y=some cy) (he:cI (xv vars loc) h (.shf op k cx cy)=some (v,h')):Goal P m h w o a v h':=by
 have hvx:=aG s hcx
 have hvy:=aG s hcy
 simp only[cI] at he
 split at he
 ·rename_i j b j' b' hx hy
  rw[hx] at hvx
  rw[hy] at hvy
  split at he
  ·rename_i hjk
   obtain⟨he2,rfl⟩:=fY he
   subst hjk
   obtain⟨z,h1,h2⟩:=Eu (P:=P) (m:=m) (w:=w) (j:=j') he2 t
   refine aS.goal (s:=do eqGuard op t x y (a.eval x) (a.eval y);binOp op t (a.eval x) (a.eval y)) (aS.still hr hf (x:=z) ?_ h2) (by simp only[execOp,hop])
   rw[show a.eval x= .int _ b from hvx,show a.eval y= .int _ b' from hvy]
   simp [tY,h1]
  ·cases he
 ·cases he
theorem Fq (ht:P.underlying t=some .bool)(x y:Bool):(Op.equal t (.bool x) (.bool y)).run P w= .ok (x==y) w:=by
 have: ∀d,(Op.equalIn (d+1) t (.bool x) (.bool y)).run P w= .ok (x==y) w:=λd=>by simp [Op.equalIn,run_underlying ht]
 exact this 9999
theorem Gd (ht:P.underlying t=some (.slice e)):(Op.equal t (.slice none 0 0) (.slice none 0 0)).run P w= .ok true w:=by
 have: ∀d,(Op.equalIn (d+1) t (.slice none 0 0) (.slice none 0 0)).run P w= .ok true w:=λd=>by simp [Op.equalIn,run_underlying ht]
 exact this 9999
theorem wC (ht:P.underlying t=some (.slice e))(b:Addr)(n c:Nat):(Op.equal t (.slice (some b) n c) (.slice none 0 0)).run P w= .ok false w:=by
 have: ∀d,(Op.equalIn (d+1) t (.slice (some b) n c) (.slice none 0 0)).run P w= .ok false w:=λd=>by simp [Op.equalIn,run_underlying ht]
 exact this 9999
theorem Sz (s:St m nt pv defs vars loc a)(hr:HR P m h w)(hf:eD m h.next)(ho:op= .eql∨op= .neq)(hop:o.op= .binOp op t x y ty)(ht:P.underlying t=some .bool)
  (hcx:dW pv defs x=some cx) (hcy:dW pv defs y=some cy) {neg:Bool} (hneg:neg=(op matches .neq)) (he:cI (xv vars loc) h (.beq neg cx cy)=some (v,h')):Goal P m h w o a v h':=by
 have hvx:=aG s hcx
 have hvy:=aG s hcy
 simp only[cI] at he
 split at he
 ·rename_i b b' hx hy
  rw[hx] at hvx
  rw[hy] at hvy
  cases he
  refine aS.goal (s:=do eqGuard op t x y (a.eval x) (a.eval y);binOp op t (a.eval x) (a.eval y)) (aS.still hr hf (x:= .bool (if neg then !(b==b') else b==b')) ?_ rfl) (by simp only[execOp,hop])
  rw[show a.eval x= .bool b from hvx,show a.eval y= .bool b' from hvy]
  subst hneg
  rcases ho with rfl|rfl<;>simp [Ao,binOp,Fq ht]
 ·cases he
theorem Ky (s:St m nt pv defs vars loc a)(hr:HR P m h w)(hf:eD m h.next)(ho:op= .eql∨op= .neq)(hop:o.op= .binOp op t x y ty)(hy:a.eval y= .slice none 0 0)(ht:P.underlying t=some (.slice e))
  (hcx:dW pv defs x=some cx) {neg:Bool} (hneg:neg=(op matches .neq)) (he:cI (xv vars loc) h (.snil neg cx)=some (v,h')):Goal P m h w o a v h':=by
 have hvx:=aG s hcx
 simp only[cI] at he
 split at he
 ·rename_i hx
  rw[hx] at hvx
  cases he
  refine aS.goal (s:=do eqGuard op t x y (a.eval x) (a.eval y);binOp op t (a.eval x) (a.eval y)) (aS.still hr hf (x:= .bool (!neg)) ?_ rfl) (by simp only[execOp,hop])
  rw[show a.eval x= .slice none 0 0 from hvx,hy]
  subst hneg
  rcases ho with rfl|rfl<;>simp [mP,binOp,Gd ht]
 ·rename_i id off len cap hx
  rw[hx] at hvx
  cases he
  obtain⟨p,c,o',hp,hxe,_⟩:=hvx
  refine aS.goal (s:=do eqGuard op t x y (a.eval x) (a.eval y);binOp op t (a.eval x) (a.eval y)) (aS.still hr hf (x:= .bool neg) ?_ rfl) (by simp only[execOp,hop])
  rw[hxe,hy]
  subst hneg
  rcases ho with rfl|rfl<;>simp [mP,binOp,wC ht]
 ·rename_i ad hx
  rw[hx] at hvx
  cases he
  have hxe:a.eval x= .slice (some ad) 0 0:=hvx
  refine aS.goal (s:=do eqGuard op t x y (a.eval x) (a.eval y);binOp op t (a.eval x) (a.eval y)) (aS.still hr hf (x:= .bool neg) ?_ rfl) (by simp only[execOp,hop])
  rw[hxe,hy]
  subst hneg
  rcases ho with rfl|rfl<;>simp [mP,binOp,wC ht]
 ·cases he
theorem vN (s:St m nt pv defs vars loc a)(hr:HR P m h w)(hf:eD m h.next){i:I}(hc:fP P pv defs o=some (.op i))(he:cI (xv vars loc) h i=some (v,h')):Goal P m h w o a v h':=by
 unfold fP at hc;cases hop:o.op<;>simp only[hop] at hc<;>try (cases hc;done)
 case move x=>
  simp only[gJ,dE.op.injEq] at hc;obtain⟨cx,hcx,rfl⟩:=hc;simp only[cI] at he;cases he;exact tM hr hf (by simp only[execOp,hop]) (aG s hcx)
 case assign x=>
  simp only[gJ,dE.op.injEq] at hc;obtain⟨cx,hcx,rfl⟩:=hc;simp only[cI] at he;cases he;exact tM hr hf (by simp only[execOp,hop]) (aG s hcx)
 case pick c x y=>
  simp only[Option.bind_eq_bind,jU] at hc;obtain⟨cc,hcc,cx,hcx,cy,hcy,hc⟩:=hc;cases hc;have hvc:=aG s hcc;simp only[cI] at he;split at he
  ·rename_i t ht
   rw[ht] at hvc;cases he;refine aS.goal (s:=do pure (if ←asBool (a.eval c) then a.eval x else a.eval y)) (aS.still hr hf (x:=if t then a.eval x else a.eval y) ?_ ?_) (by simp only[execOp,hop];simp)
   ·rw[show a.eval c= .bool t from hvc];simp [asBool]
   ·cases t
    ·simpa using aG s hcy
    ·simpa using aG s hcx
  ·cases he
 case alloc e=>
  simp only[Option.bind_eq_bind,jU] at hc;obtain⟨zu,hz,hc⟩:=hc;cases hc;simp only[cI] at he;cases he;obtain⟨i2,z,hi,hz1⟩:=Ii hz;obtain⟨hzc,hzo,_⟩:=fV m hz hi hz1;have hadv:=mT hr hf [] hzc hzo e;simp only[List.append_nil,Array.toArray_toList] at hadv;refine aS.goal (s:=Instr.alloc e true (.tuple #[])) ⟨.pointer (some ⟨w.heap.size,0,none⟩),_,_,?_,⟨_,M.fS ..,rfl⟩,hadv⟩ (by simp only[execOp,hop]);simp [Instr.alloc,zeroValue,typeInfo,hi,hz1,newVar,newRow]
 case box e x=>
  simp only[gJ,dE.op.injEq] at hc;obtain⟨cx,hcx,rfl⟩:=hc;simp only[cI] at he;split at he
  ·rename_i hone
   cases he;have hv:=VR.cells (aG s hcx) hone;have hadv:=mT hr hf [] hv (λc hc=>(List.all_eq_true.1 hone) c hc) e;simp only[List.append_nil,Array.toArray_toList] at hadv;refine aS.goal (s:=Instr.box e (a.eval x)) ⟨.pointer (some ⟨w.heap.size,0,none⟩),_,_,?_,⟨_,M.fS ..,rfl⟩,hadv⟩ (by simp only[execOp,hop]);simp [Instr.box,newVar,newRow]
  ·cases he
 case build t parts=>
  simp only[Option.bind_eq_bind,jU] at hc;obtain⟨ps,hps,zu,hz,pl,hpl,hc⟩:=hc;cases hc;simp only[cI,gJ] at he;obtain⟨us,hus,he⟩:=he;cases he;obtain⟨h1,h2⟩:=Cm s (f:=λp x=>(p.1,x)) hps (λ_ _=>rfl);refine aS.goal (s:=Instr.build t (parts.map λ(i,x)=>(i,a.eval x))) (Jh hr hf hz hpl h1 (λj b q hb hq=>?_) hus) (by simp only[execOp,hop]);obtain⟨p,hp,e1,e2,e3⟩:=h2 j b q hb hq;exact⟨by rw[e1,e2],e3⟩
 case buildSlice t n parts=>
  simp only[Option.bind_eq_bind,jU] at hc;obtain⟨e,hel,sz,hsz,hc⟩:=hc;split at hc
  ·cases hc
  ·rename_i hnz
   have hz0:sz≠0:=λe=>hnz (.inl e)
   have hsm: ¬n*sz>2^24:=λe=>hnz (.inr (.inl e))
   have hzs:Dt P e sz=true:=by cases hq:Dt P e sz with
    |true=>rfl
    |false=>exact absurd (.inr (.inr hq)) hnz
   simp only[jU] at hc;obtain⟨ps,hps,zu,hz,hc⟩:=hc;cases hc;simp only[cI] at he;split at he
   ·rename_i us hus
    split at he
    ·rename_i hone
     cases he;obtain⟨a1,a2⟩:=fE hps;refine aS.goal (s:=Instr.buildSlice t n (parts.map λ(i,x)=>(i,a.eval x))) (Ka hr hf (kF hel) hsz hz hzs hz0 hsm (by simpa using a1) (λj b q hb hq=>?_) hus (λc hc=>(List.all_eq_true.1 hone) c hc)) (by simp only[execOp,hop]);simp only[List.getElem?_map,gJ] at hb;obtain⟨p,hp,rfl⟩:=hb;simp only[Array.toList_map,List.getElem?_map,gJ] at hq;obtain⟨r,hr1,rfl⟩:=hq;obtain⟨b',hb',hf'⟩:=a2 j r hr1;rw[hp] at hb';cases hb';simp only[gJ] at hf';obtain⟨x,hx,rfl⟩:=hf';exact⟨rfl,aG s hx⟩
    ·cases he
   ·cases he
 case load t x=>
  split at hc
  ·rename_i q hq
   obtain⟨agg,n⟩:=q;simp only[gJ,dE.op.injEq] at hc;obtain⟨cx,hcx,rfl⟩:=hc;simp only[cI] at he;obtain⟨he2,rfl⟩:=fY he;obtain⟨y,h1,h2⟩:=Cx hr (Dy hq).1 (Dy hq).2 (aG s hcx) he2;exact aS.goal (s:=Instr.loadAt t (a.eval x)) (aS.still hr hf h1 h2) (by simp only[execOp,hop])
  ·cases hc
 case store t x y=>
  simp only[Option.bind_eq_bind,jU] at hc;obtain⟨n,hn,cx,hcx,cy,hcy,hc⟩:=hc;cases hc;have hvx:=aG s hcx;have hvy:=aG s hcy;simp only[cI] at he;split at he
  ·rename_i id off hx
   rw[hx] at hvx;split at he
   ·rename_i hcond
    simp only[gJ] at he;obtain⟨h2,hput,he⟩:=he;cases he;obtain⟨p,hp,hxe⟩:=hvx;obtain⟨w',fG,hadv⟩:=qB hr hf hput (VR.cells hvy hcond.2) (λc hc=>(List.all_eq_true.1 hcond.2) c hc) hp;refine qA (s:=Instr.storeAt t (a.eval x) (a.eval y)) (by simp only[execOp,hop]) ?_ hadv
    have hcs:(a.eval y).cells.size=n:=by
     have:=eG.length (VR.cells hvy hcond.2);simp at this;omega
    rw[hxe];simp [Instr.storeAt,Instr.sureAddr,storeVar,dR hn,hcs,fG]
   ·cases he
  ·cases he
 case nilCheck x=>
  simp only[gJ,dE.op.injEq] at hc;obtain⟨cx,hcx,rfl⟩:=hc;have hvx:=aG s hcx;simp only[cI] at he;split at he
  ·rename_i id off hx
   rw[hx] at hvx;cases he;obtain⟨p,hp,hxe⟩:=hvx;refine tM hr hf (x:= .pointer (some ⟨p.1,p.2.1+off,none⟩)) ?_ ⟨p,hp,rfl⟩;simp only[execOp,hop,hxe]
  ·cases he
 case binOp op t x y ty=>
  cases op<;>simp only at hc<;>try (cases hc;done)
  all_goals first
   |(simp only[Option.bind_eq_bind,jU] at hc
     obtain⟨k,hk,cx,hcx,cy,hcy,hc⟩:=hc
     cases hc
     exact vB s hr hf hop hcx hcy he)
   |(simp only[Option.bind_eq_bind,jU] at hc
     obtain⟨k,hk,cx,hcx,cy,hcy,hc⟩:=hc
     cases hc
     exact Ox s hr hf hop hcx hcy he)
   |skip
  case add=>
   split at hc
   ·simp only[Option.bind_eq_bind,jU] at hc
    obtain⟨cx,hcx,cy,hcy,hc⟩:=hc;cases hc;have hvx:=aG s hcx;have hvy:=aG s hcy;simp only[cI] at he;split at he
    ·rename_i sa sb hx hy
     rw[hx] at hvx;rw[hy] at hvy;split at he
     ·rename_i hl
      cases he;exact aS.goal (Ku (t:=t) (x:=x) (y:=y) hr hf hvx hvy hl) (by simp only[execOp,hop])
     ·cases he
    ·cases he
   ·simp only[Option.bind_eq_bind,jU] at hc
    obtain⟨k,hk,cx,hcx,cy,hcy,hc⟩:=hc;cases hc;exact vB s hr hf hop hcx hcy he
  all_goals
   split at hc
   ·simp only[Option.bind_eq_bind,jU] at hc
    obtain⟨cx,hcx,cy,hcy,hc⟩:=hc
    cases hc
    exact vB s hr hf hop hcx hcy he
   ·rename_i hk
    simp only[Option.bind_eq_bind,jU] at hc
    obtain⟨cx,hcx,cy,hcy,hc⟩:=hc
    cases hc
    exact Sz s hr hf (by simp) hop hk hcx hcy rfl he
   ·rename_i hk
    simp only[Option.bind_eq_bind,jU] at hc
    obtain⟨cx,hcx,cy,hcy,hc⟩:=hc
    cases hc
    have hvx:=aG s hcx
    have hvy:=aG s hcy
    simp only[cI] at he
    split at he
    ·rename_i sa sb hx hy
     rw[hx] at hvx
     rw[hy] at hvy
     cases he
     first
      |exact aS.goal (yA (op:= .eql) (t:=t) (x:=x) (y:=y) hr hf (.inl rfl) hvx hvy rfl) (by simp only[execOp,hop])
      |exact aS.goal (yA (op:= .neq) (t:=t) (x:=x) (y:=y) hr hf (.inr rfl) hvx hvy rfl) (by simp only[execOp,hop])
    ·cases he
   ·rename_i e hk
    split at hc
    ·simp only[Option.bind_eq_bind,jU] at hc
     obtain⟨cx,hcx,hc⟩:=hc
     cases hc
     exact Ky s hr hf (by simp) hop rfl hk hcx rfl he
    ·cases hc
   ·cases hc
 case unOp op t x=>
  cases op<;>simp only at hc<;>try (cases hc;done)
  ·simp only[Option.bind_eq_bind,jU] at hc
   obtain⟨k,hk,cx,hcx,hc⟩:=hc;cases hc;have hvx:=aG s hcx;simp only[cI] at he;split at he
   ·rename_i j b hx
    rw[hx] at hvx;split at he
    ·rename_i hjk
     subst hjk;cases he;refine aS.goal (s:=Op.unary .neg (a.eval x)) (aS.still hr hf (x:= .int j (j.wrap (0-b))) ?_ rfl) (by simp only[execOp,hop]);rw[show a.eval x= .int _ b from hvx];simp [Op.unary,Op.intArith]
    ·cases he
   ·cases he
  ·simp only[gJ,dE.op.injEq] at hc
   obtain⟨cx,hcx,rfl⟩:=hc;have hvx:=aG s hcx;simp only[cI] at he;split at he
   ·rename_i b hx
    rw[hx] at hvx;cases he;refine aS.goal (s:=Op.unary .not (a.eval x)) (aS.still hr hf (x:= .bool (!b)) ?_ rfl) (by simp only[execOp,hop]);rw[show a.eval x= .bool b from hvx];simp [Op.unary]
   ·cases he
 case convert src dst x=>
  split at hc
  ·rename_i k0 k hs hd
   simp only[gJ,dE.op.injEq] at hc;obtain⟨cx,hcx,rfl⟩:=hc;have hvx:=aG s hcx;simp only[cI] at he;split at he
   ·rename_i j b hx
    rw[hx] at hvx;cases he;refine aS.goal (s:=convert src dst (a.eval x)) (aS.still hr hf (x:= .int k (k.wrap b)) ?_ rfl) (by simp only[execOp,hop]);rw[show a.eval x= .int _ b from hvx];simp [convert,run_underlying hs,run_underlying hd,Conv.intToInt]
   ·cases he
  ·rename_i e hs hd
   split at hc
   ·rename_i hel
    simp only[gJ,dE.op.injEq] at hc;obtain⟨cx,hcx,rfl⟩:=hc;have hvx:=aG s hcx;simp only[cI] at he;obtain⟨he2,rfl⟩:=fY he;exact aS.goal (s:=convert src dst (a.eval x)) (Lb hr hf hs hd hel hvx he2) (by simp only[execOp,hop])
   ·cases hc
  ·rename_i k0 hs hd
   simp only[gJ,dE.op.injEq] at hc;obtain⟨cx,hcx,rfl⟩:=hc;have hvx:=aG s hcx;simp only[cI] at he;split at he
   ·rename_i k n hx
    rw[hx] at hvx;split at he
    ·rename_i hn
     cases he;exact aS.goal (s:=convert src dst (a.eval x)) (Ik hr hf hs hd hvx hn.1 hn.2) (by simp only[execOp,hop])
    ·cases he
   ·cases he
  ·cases hc
 case makeFunc fn first cs=>
  cases fn<;>simp only at hc<;>try (cases hc;done)
  rename_i f;split at hc
  ·simp only[Option.bind_eq_bind,jU] at hc
   obtain⟨cf,hcf,cc,hcc,hc⟩:=hc;cases hc;simp only[cI] at he;cases he;refine aS.goal (s:=Instr.makeFunc (.func f) (first.map a.eval) (cs.map a.eval)) (aS.still hr hf (x:= .func (.func f) (first.map a.eval) (cs.map a.eval)) rfl ⟨_,_,rfl,?_,?_⟩) (by simp only[execOp,hop])
   ·simpa using eM s hcf
   ·simpa using eM s hcc
  ·cases hc
 case makeMap t r=>
  split at hc
  ·rename_i kt et ht
   split at hc
   ·rename_i sh hsh
    simp only[gJ,dE.op.injEq] at hc;obtain⟨cr,hcr,rfl⟩:=hc;have hvr:=iE s hcr;simp only[cI] at he;split at he
    ·rename_i hint
     cases he;have hadv:=eS.new hr hf (.wmap sh []) (.map #[] 0) (0,0) (λm' _ _=>⟨λi j a b hi=>by simp at hi,#[],0,heap_alloc_new w _,rfl,rfl,λi k v hi=>by simp at hi⟩);refine aS.goal (s:=Instr.makeMap t (r.map a.eval)) ⟨.map (some w.heap.size),_,_,?_,⟨_,M.fS ..,rfl⟩,hadv⟩ (by simp only[execOp,hop])
     cases r with
     |none=>simp [Instr.makeMap]
     |some x=>
      cases cr with
      |none=>exact hvr.elim
      |some cx=>
       simp only[Option.map_some,uQ] at hint;have hvx:VR m (xv vars loc cx) (a.eval x):=hvr;cases hxx:xv vars loc cx<;>rw[hxx] at hint<;>simp only[Pf,Bool.false_eq_true] at hint;rename_i k n;rw[hxx] at hvx;have hxe:a.eval x= .int k n:=hvx;simp [Instr.makeMap,hxe,run_underlying ht,asInt,asIntOf]
    ·cases he
   ·split at hc
    ·cases hc
     simp only[cI] at he;cases he;have hadv:=eS.new hr hf (.map []) (.map #[] 0) (0,0) (λm' _ _=>⟨#[],0,heap_alloc_new w _,rfl,λi k v hi=>by simp at hi⟩);refine aS.goal (s:=Instr.makeMap t (Option.map a.eval none)) ⟨.map (some w.heap.size),_,_,?_,⟨_,M.fS ..,rfl⟩,hadv⟩ (by simp only[execOp,hop]);simp [Instr.makeMap]
    ·cases hc
  ·cases hc
 case makeSlice t l c=>
  simp only[Option.bind_eq_bind,jU] at hc;obtain⟨e,hel,sz,hsz,hc⟩:=hc;split at hc
  ·cases hc
  ·rename_i hnz
   have hz0:sz≠0:=λe=>hnz (.inl e)
   have hzs:Dt P e sz=true:=by cases hq:Dt P e sz with
    |true=>rfl
    |false=>exact absurd (.inr hq) hnz
   simp only[jU] at hc;obtain⟨bytes,hb,zu,hz,cl,hcl,cc,hcc,hc⟩:=hc;cases hc;simp only[cI] at he;exact aS.goal (s:=Instr.makeSlice t (a.eval l) (a.eval c)) (Kc hr hf (kF hel) hsz hb hz hzs hz0 (aG s hcl) (aG s hcc) he) (by simp only[execOp,hop])
 case slice t x lo hi mx=>
  split at hc
  ·rename_i n e hu
   simp only[Option.bind_eq_bind,jU] at hc;obtain⟨sz,hsz,cx,hcx,cl,hcl,ch,hch,hc⟩:=hc;cases hc;have hvx:=aG s hcx;simp only[cI] at he;split at he
   ·rename_i id off hx
    rw[hx] at hvx;obtain⟨he2,rfl⟩:=fY he;exact aS.goal (s:=Instr.sliceAt t (a.eval x) (lo.map a.eval) (hi.map a.eval) none) (Il hr hf hu hsz hvx (iE s hcl) (iE s hch) he2) (by simp only[execOp,hop];rfl)
   ·cases he
  ·cases hc
  ·rename_i mx _ _ _ _
   simp only[Option.bind_eq_bind,jU] at hc;obtain⟨e,hel,sz,hsz,hc⟩:=hc;split at hc
   ·cases hc
   ·simp only[jU] at hc
    obtain⟨cx,hcx,cl,hcl,ch,hch,cm,hcm,hc⟩:=hc;cases hc;simp only[cI] at he;obtain⟨he2,rfl⟩:=fY he;exact aS.goal (s:=Instr.sliceAt t (a.eval x) (lo.map a.eval) (hi.map a.eval) (mx.map a.eval)) (Jb hr hf (kF hel) hsz (aG s hcx) (iE s hcl) (iE s hch) (iE s hcm) he2) (by simp only[execOp,hop])
 case fieldAddr t x f=>
  simp only[Option.bind_eq_bind,jU] at hc;obtain⟨fd,hfd,hc⟩:=hc;split at hc
  ·cases hc
  ·rename_i hsz
   simp only[jU] at hc;obtain⟨cx,hcx,hc⟩:=hc;cases hc;have hvx:=aG s hcx;simp only[cI] at he;split at he
   ·rename_i id off hx
    rw[hx] at hvx;cases he;obtain⟨p,hp,hxe⟩:=hvx;obtain⟨fs,hfs,hf2⟩:=xZ hfd
    cases hsz2:eU P fd.type with
    |none=>simp [hsz2] at hsz
    |some n=>
     have hn: ¬n=0:=by simpa [hsz2] using hsz
     refine aS.goal (s:=Instr.fieldAt t (a.eval x) f) (aS.still hr hf (x:= .pointer (some ⟨p.1,p.2.1+(off+fd.offset),none⟩)) ?_ ⟨p,hp,rfl⟩) (by simp only[execOp,hop]);rw[hxe];simp [Instr.fieldAt,run_underlying hfs,hf2,Instr.sureAddr,fieldPlace,dR hsz2,hn,fX,Nat.add_assoc]
   ·cases he
 case field t x f=>
  simp only[Option.bind_eq_bind,jU] at hc;obtain⟨fd,hfd,agg,hag,n,hn,cx,hcx,hc⟩:=hc;cases hc;have hvx:=aG s hcx;obtain⟨fs,hfs,hf2⟩:=xZ hfd;simp only[cI] at he;split at he
  ·rename_i vs hx
   rw[hx] at hvx;obtain⟨xs,hxe,hvr⟩:=hvx
   cases agg with
   |true=>
    simp only[if_true,gJ] at he;obtain⟨ws,hws,he⟩:=he;cases he;obtain⟨rfl,hle,hl⟩:=sub_eq hws;refine aS.goal (s:=Instr.field t (a.eval x) f) (aS.still hr hf (x:= .agg (xs.extract fd.offset (fd.offset+n))) ?_ ⟨_,rfl,?_⟩) (by simp only[execOp,hop])
    ·rw[hxe]
     simp [Instr.field,run_underlying hfs,hf2,part,asAgg,kX hag,dR hn]
    ·have:(xs.extract fd.offset (fd.offset+n)).toList=(xs.toList.drop fd.offset).take n:=by
      simp [List.extract_eq_take_drop]
     rw[this];exact (hvr.drop _).take _
   |false=>
    simp only[Bool.false_eq_true,if_false] at he;obtain⟨he2,rfl⟩:=fY he;obtain⟨y,hy,hvy⟩:=hvr.get he2;refine aS.goal (s:=Instr.field t (a.eval x) f) (aS.still hr hf (x:=y) ?_ hvy) (by simp only[execOp,hop]);rw[hxe];have hy':xs[fd.offset]? =some y:=by simpa using hy
    simp [Instr.field,run_underlying hfs,hf2,part,asAgg,kX hag,hy']
  ·cases he
 case indexAddr t x ix=>
  split at hc
  ·rename_i n e k z hu
   split at hc
   ·rename_i hb
    simp only[Option.bind_eq_bind,jU] at hc;obtain⟨sz,hsz,cx,hcx,hc⟩:=hc;cases hc;have hvx:=aG s hcx;simp only[cI] at he;split at he
    ·rename_i id off hx
     rw[hx] at hvx;cases he;obtain⟨p,hp,hxe⟩:=hvx;refine aS.goal (s:=Instr.indexAt t (a.eval x) (.int k z)) (aS.still hr hf (x:= .pointer (some ⟨p.1,p.2.1+(off+z.toNat*sz),none⟩)) ?_ ⟨p,hp,rfl⟩) (by simp only[execOp,hop];rfl);rw[hxe];simp [Instr.indexAt,asIntOf,run_underlying hu,Instr.sureAddr,dR hsz,hb.1,hb.2,fX,Nat.add_assoc]
    ·cases he
   ·cases hc
  ·rename_i n e hu _
   simp only[Option.bind_eq_bind,jU] at hc;obtain⟨sz,hsz,cx,hcx,ci,hci,hc⟩:=hc;cases hc;have hvx:=aG s hcx;have hvi:=aG s hci;simp only[cI] at he;obtain⟨he2,rfl⟩:=fY he;unfold Ju at he2;split at he2
   ·rename_i id off k z hx hi
    rw[hx] at hvx;rw[hi] at hvi;split at he2
    ·rename_i hb
     cases he2;obtain⟨p,hp,hxe⟩:=hvx;refine aS.goal (s:=Instr.indexAt t (a.eval x) (.int k z)) (aS.still hr hf (x:= .pointer (some ⟨p.1,p.2.1+(off+z.toNat*sz),none⟩)) ?_ ⟨p,hp,rfl⟩) (by simp only[execOp,hop];rw[show a.eval _= .int k z from hvi]);rw[hxe];simp [Instr.indexAt,asIntOf,run_underlying hu,Instr.sureAddr,dR hsz,hb.1,hb.2,fX,Nat.add_assoc]
    ·cases he2
   ·cases he2
  ·simp only[Option.bind_eq_bind,jU] at hc
   obtain⟨e,hel,sz,hsz,cx,hcx,ci,hci,hc⟩:=hc;cases hc;have hvx:=aG s hcx;have hvi:=aG s hci;simp only[cI] at he;obtain⟨he2,rfl⟩:=fY he;unfold Cr at he2;split at he2
   ·rename_i id off len cap k n hx hi
    rw[hx] at hvx;rw[hi] at hvi;split at he2
    ·rename_i hb
     cases he2;obtain⟨p,c,o',hp,hxe,_,ho,_⟩:=hvx;obtain rfl:=ho (by omega);refine aS.goal (s:=Instr.indexAt t (a.eval x) (.int k n)) (aS.still hr hf (x:= .pointer (some ⟨p.1,p.2.1+(o'+n.toNat*sz),none⟩)) ?_ ⟨p,hp,rfl⟩) (by simp only[execOp,hop];rw[show a.eval _= .int k n from hvi]);rw[hxe];simp [Instr.indexAt,asIntOf,run_underlying (kF hel),dR hsz,hb.1,hb.2,fX,Nat.add_assoc]
    ·cases he2
   ·cases he2
 case lookup t x k ok=>
  split at hc
  ·rename_i kt et ht
   split at hc
   ·rename_i sh hsh
    simp only[Option.bind_eq_bind,jU] at hc;obtain⟨zu,hz,cx,hcx,ck,hck,hc⟩:=hc;cases hc;have hvx:=aG s hcx;have hvk:=aG s hck;simp only[cI] at he;split at he
    ·rename_i id hx
     rw[hx] at hvx;split at he
     ·rename_i sh2 es hg
      split at he
      ·rename_i hkey
       obtain⟨rfl,hkey⟩:=hkey;have hs:=Kp hr hf ht hsh hz hvx hvk hg hkey ok;split at he
       ·rename_i u hu
        cases he;rw[hu] at hs;exact aS.goal (s:=Instr.lookup t (a.eval x) (a.eval k) ok) hs (by simp only[execOp,hop])
       ·rename_i hu
        cases he;rw[hu] at hs;exact aS.goal (s:=Instr.lookup t (a.eval x) (a.eval k) ok) hs (by simp only[execOp,hop])
      ·cases he
     ·cases he
    ·cases he
   simp only[Option.bind_eq_bind,jU] at hc;obtain⟨j,hj,zu,hz,cx,hcx,ck,hck,hc⟩:=hc;cases hc;have hvx:=aG s hcx;have hvk:=aG s hck;simp only[cI] at he;split at he
   ·rename_i id kk n hx hk
    rw[hx] at hvx;rw[hk] at hvk;split at he
    ·rename_i es hg
     split at he
     ·rename_i hkeys
      have hs:=Kt hr hf ht (lG hj) hz hvx hvk hg hkeys ok;split at he
      ·rename_i u hu
       cases he;rw[hu] at hs;exact aS.goal (s:=Instr.lookup t (a.eval x) (a.eval k) ok) hs (by simp only[execOp,hop])
      ·rename_i hu
       cases he;rw[hu] at hs;exact aS.goal (s:=Instr.lookup t (a.eval x) (a.eval k) ok) hs (by simp only[execOp,hop])
     ·cases he
    ·cases he
   ·cases he
  ·cases hc
 case mapUpdate t x k y=>
  split at hc
  ·rename_i kt et ht
   split at hc
   ·rename_i sh hsh
    simp only[Option.bind_eq_bind,jU] at hc;obtain⟨cx,hcx,ck,hck,cy,hcy,hc⟩:=hc;cases hc;have hvx:=aG s hcx;have hvk:=aG s hck;have hvy:=aG s hcy;simp only[cI] at he;split at he
    ·rename_i id hx
     rw[hx] at hvx;split at he
     ·rename_i sh2 es hg
      split at he
      ·rename_i hkey
       obtain⟨rfl,hkey⟩:=hkey;cases he;obtain⟨w',h1,h2⟩:=Kf hr hf ht hsh hvx hvk hvy hg hkey;exact qA (s:=Instr.mapUpdate t (a.eval x) (a.eval k) (a.eval y)) (by simp only[execOp,hop]) h1 h2
      ·cases he
     ·cases he
    ·cases he
   simp only[Option.bind_eq_bind,jU] at hc;obtain⟨j,hj,cx,hcx,ck,hck,cy,hcy,hc⟩:=hc;cases hc;have hvx:=aG s hcx;have hvk:=aG s hck;have hvy:=aG s hcy;simp only[cI] at he;split at he
   ·rename_i id kk n hx hk
    rw[hx] at hvx;rw[hk] at hvk;split at he
    ·rename_i es hg
     split at he
     ·rename_i hkeys
      cases he;obtain⟨w',h1,h2⟩:=Es hr hf ht (lG hj) hvx hvk hvy hg hkeys;exact qA (s:=Instr.mapUpdate t (a.eval x) (a.eval k) (a.eval y)) (by simp only[execOp,hop]) h1 h2
     ·cases he
    ·cases he
   ·cases he
  ·cases hc
 case mapEntry t x k=>
  split at hc
  ·rename_i kt et ht
   split at hc
   ·rename_i sh hsh
    simp only[Option.bind_eq_bind,jU] at hc;obtain⟨zu,hz,cx,hcx,ck,hck,hc⟩:=hc;cases hc;have hvx:=aG s hcx;have hvk:=aG s hck;simp only[cI] at he;split at he
    ·rename_i id hx
     rw[hx] at hvx;split at he
     ·rename_i sh2 es hg
      split at he
      ·rename_i hkey
       obtain⟨rfl,hkey⟩:=hkey;have hs:=Ix hr hf ht hsh hz hvx hvk hg hkey;split at he
       ·rename_i u hu
        cases he;rw[hu] at hs;exact aS.goal (s:=Instr.mapEntry t (a.eval x) (a.eval k)) hs (by simp only[execOp,hop])
       ·rename_i hu
        cases he;rw[hu] at hs;exact aS.goal (s:=Instr.mapEntry t (a.eval x) (a.eval k)) hs (by simp only[execOp,hop])
      ·cases he
     ·cases he
    ·cases he
   ·cases hc
  ·cases hc
 case entryStore t x k y=>
  simp only[Option.bind_eq_bind,jU] at hc;obtain⟨cx,hcx,ck,hck,cy,hcy,hc⟩:=hc;cases hc;have hvx:=aG s hcx;have hvk:=aG s hck;have hvy:=aG s hcy;simp only[cI] at he;split at he
  ·rename_i id n hx hk
   rw[hx] at hvx;rw[hk] at hvk;split at he
   ·rename_i sh es hg
    split at he
    ·rename_i hn
     split at he
     ·rename_i e hes
      cases he;obtain⟨kk,u⟩:=e;obtain⟨w',h1,h2⟩:=Kx (t:=t) hr hf hvx hvy hg hes
      have hke:a.eval k= .int .i64 ((n.toNat:Nat):Int):=by
       rw[show a.eval k= .int .i64 n from hvk];congr 1;omega
      rw[←hke] at h1;exact qA (s:=Instr.entryStore t (a.eval x) (a.eval k) (a.eval y)) (by simp only[execOp,hop]) h1 h2
     ·cases he
    ·cases he
   ·cases he
  ·cases he
 case index t x ix=>
  split at hc
  ·rename_i ht
   simp only[Option.bind_eq_bind,jU] at hc;obtain⟨cx,hcx,ci,hci,hc⟩:=hc;cases hc;have hvx:=aG s hcx;have hvi:=aG s hci;simp only[cI] at he;split at he
   ·rename_i l k z hx hi
    rw[hx] at hvx;rw[hi] at hvi;split at he
    ·rename_i hz
     simp only[gJ] at he;obtain⟨c,hcl,he⟩:=he;cases he;refine aS.goal (s:=Instr.index t (a.eval x) (a.eval ix)) (aS.still hr hf (x:= .int .u8 ((c%256:Nat):Int)) ?_ rfl) (by simp only[execOp,hop]);rw[show a.eval x= .string ⟨(l.map UInt8.ofNat).toArray⟩ from hvx,show a.eval ix= .int k z from hvi];have hb:(⟨(l.map UInt8.ofNat).toArray⟩:ByteArray)[z.toNat]? =some (UInt8.ofNat c):=Sy hcl;simp [Instr.index,asIntOf,run_underlying ht,hz,hb]
    ·cases he
   ·cases he
  ·cases hc
 case extract x i2=>
  simp only[gJ,dE.op.injEq] at hc;obtain⟨cx,hcx,rfl⟩:=hc;have hvx:=aG s hcx;simp only[cI] at he;split at he
  ·rename_i vs hx
   rw[hx] at hvx;obtain⟨xs,hxe,hvr⟩:=hvx;obtain⟨he2,rfl⟩:=fY he;obtain⟨y,hy,hvy⟩:=hvr.get he2;refine aS.goal (s:=Instr.extract (a.eval x) i2) (aS.still hr hf (x:=y) ?_ hvy) (by simp only[execOp,hop]);have hy':xs[i2]? =some y:=by simpa using hy
   rw[hxe];simp [Instr.extract,hy']
  ·cases he
 case makeInterface t x=>
  split at hc
  ·cases hc;simp [cI] at he
  ·rename_i d cx hni hu hcx
   cases hc;have hvx:=aG s hcx;simp only[cI] at he;cases he;refine aS.goal (s:=Instr.makeInterface t (a.eval x)) (aS.still hr hf (x:= .iface t (a.eval x)) ?_ ⟨_,rfl,hvx⟩) (by simp only[execOp,hop]);cases d<;>first
    |(simp [Instr.makeInterface,run_underlying hu];done)
    |exact (hni _ rfl).elim
  ·cases hc;simp [cI] at he
 case panic=>cases hc;simp [cI] at he
 case call c=>exact Dw s hr hf hop hc he
end
end
end Go.Ay
