/- One operation, whole: the other kinds. -/
import Derived.Test.YtcdbmkidaecdiaaGreatAy8b
namespace Go.Ay
open Go
section
variable {t ty e:TypeId} {op:BinOp} {x y:Operand} {cx cy:X}
section
variable {P:Program} {m:M} {h:H} {w:World} {o:Oper} {a:Act} {v:V} {h':H} {nt:Nat} {pv defs:List Nat} {vars loc:List V}
theorem NL {c:V}(b:sY P t=some c): ∃i z,P.info? t=some i/\i.zero=some z:=by
 unfold sY at b
 cases hi:P.info? t with
 |none=>simp [hi] at b
 |some i=>
  cases hzz:i.zero with
  |none=>simp [hi,hzz] at b
  |some z=>exact⟨i,z,rfl,hzz⟩
theorem oS {β:Type}{x:Option β}{h h':H}{v:β}(b:x.map (λy=>(y,h))=some (v,h')):x=some v/\h=h':=by
 cases x with
 |none=>simp at b
 |some u=>simp at b;exact⟨by rw[b.1],b.2⟩
theorem DZ {agg:Bool}{n:Nat}(h:ldN P t=some (agg,n)):Xg P t=some agg/\(if agg then jL P t else some 1)=some n:=by
 unfold ldN at h;split at h
 ·rename_i b
  simp only[oU] at h;obtain⟨k,c,h⟩:=h;cases h;exact⟨b,c⟩
 ·cases h;exact⟨by assumption,rfl⟩
 ·cases h
theorem Qt (s:St m nt pv defs vars loc a)(B:HR P m h w)(u:iY m h.next)(p:o.op= .binOp op t x y ty){k:IntKind}
  (l:iM pv defs x=some cx) (i:iM pv defs y=some cy) (c:fC (xv vars loc) h (.bin op k cx cy)=some (v,h')):Goal P m h w o a v h':=by
 have d:=aQ s l
 have f:=aQ s i
 simp only[fC] at c
 split at c
 ·rename_i j b J G A F
  rw[A] at d
  rw[F] at f
  split at c
  ·rename_i g
   obtain⟨n,rfl⟩:=oS c
   obtain⟨rfl,rfl⟩:=g
   obtain⟨z,q,r⟩:=AF (P:=P) (m:=m) (w:=w) n t
   refine bD.goal (s:=do eqGuard op t x y (a.eval x) (a.eval y);binOp op t (a.eval x) (a.eval y)) (bD.still B u (x:=z) ?_ r) (by simp only[execOp,p])
   rw[show a.eval x= .int _ b from d,show a.eval y= .int _ G from f]
   simp [Lj,q]
  ·cases c
 ·cases c
theorem XT (s:St m nt pv defs vars loc a)(B:HR P m h w)(u:iY m h.next)(p:o.op= .binOp op t x y ty){k:IntKind}
  (l:iM pv defs x=some cx) (i:iM pv defs y=some cy) (c:fC (xv vars loc) h (.shf op k cx cy)=some (v,h')):Goal P m h w o a v h':=by
 have d:=aQ s l
 have f:=aQ s i
 simp only[fC] at c
 split at c
 ·rename_i j b J G A F
  rw[A] at d
  rw[F] at f
  split at c
  ·rename_i g
   obtain⟨n,rfl⟩:=oS c
   subst g
   obtain⟨z,q,r⟩:=CM (P:=P) (m:=m) (w:=w) (j:=J) n t
   refine bD.goal (s:=do eqGuard op t x y (a.eval x) (a.eval y);binOp op t (a.eval x) (a.eval y)) (bD.still B u (x:=z) ?_ r) (by simp only[execOp,p])
   rw[show a.eval x= .int _ b from d,show a.eval y= .int _ G from f]
   simp [Lj,q]
  ·cases c
 ·cases c
theorem EY (b:P.underlying t=some .bool)(x y:Bool):(Op.equal t (.bool x) (.bool y)).run P w= .ok (x==y) w:=by
 have: ∀d,(Op.equalIn (d+1) t (.bool x) (.bool y)).run P w= .ok (x==y) w:=λd=>by simp [Op.equalIn,run_underlying b]
 exact this 9999
theorem CT (b:P.underlying t=some (.slice e)):(Op.equal t (.slice none 0 0) (.slice none 0 0)).run P w= .ok true w:=by
 have: ∀d,(Op.equalIn (d+1) t (.slice none 0 0) (.slice none 0 0)).run P w= .ok true w:=λd=>by simp [Op.equalIn,run_underlying b]
 exact this 9999
theorem Ov (f:P.underlying t=some (.slice e))(b:Addr)(n c:Nat):(Op.equal t (.slice (some b) n c) (.slice none 0 0)).run P w= .ok false w:=by
 have: ∀d,(Op.equalIn (d+1) t (.slice (some b) n c) (.slice none 0 0)).run P w= .ok false w:=λd=>by simp [Op.equalIn,run_underlying f]
 exact this 9999
theorem adM (s:St m nt pv defs vars loc a)(r:HR P m h w)(n:iY m h.next)(z:op= .eql∨op= .neq)(l:o.op= .binOp op t x y ty)(p:P.underlying t=some .bool)
  (j:iM pv defs x=some cx) (i:iM pv defs y=some cy) {neg:Bool} (f:neg=(op matches .neq)) (g:fC (xv vars loc) h (.beq neg cx cy)=some (v,h')):Goal P m h w o a v h':=by
 have c:=aQ s j
 have d:=aQ s i
 simp only[fC] at g
 split at g
 ·rename_i b k q u
  rw[q] at c
  rw[u] at d
  cases g
  refine bD.goal (s:=do eqGuard op t x y (a.eval x) (a.eval y);binOp op t (a.eval x) (a.eval y)) (bD.still r n (x:= .bool (if neg then !(b==k) else b==k)) ?_ rfl) (by simp only[execOp,l])
  rw[show a.eval x= .bool b from c,show a.eval y= .bool k from d]
  subst f
  rcases z with rfl|rfl<;>simp [Wn,binOp,EY p]
 ·cases g
theorem JT (s:St m nt pv defs vars loc a)(q:HR P m h w)(k:iY m h.next)(u:op= .eql∨op= .neq)(g:o.op= .binOp op t x y ty)(r:a.eval y= .slice none 0 0)(l:P.underlying t=some (.slice e))
  (n:iM pv defs x=some cx) {neg:Bool} (d:neg=(op matches .neq)) (i:fC (xv vars loc) h (.snil neg cx)=some (v,h')):Goal P m h w o a v h':=by
 have b:=aQ s n
 simp only[fC] at i
 split at i
 ·rename_i j
  rw[j] at b
  cases i
  refine bD.goal (s:=do eqGuard op t x y (a.eval x) (a.eval y);binOp op t (a.eval x) (a.eval y)) (bD.still q k (x:= .bool (!neg)) ?_ rfl) (by simp only[execOp,g])
  rw[show a.eval x= .slice none 0 0 from b,r]
  subst d
  rcases u with rfl|rfl<;>simp [xA,binOp,CT l]
 ·rename_i id B len A j
  rw[j] at b
  cases i
  obtain⟨p,c,G,F,f,_⟩:=b
  refine bD.goal (s:=do eqGuard op t x y (a.eval x) (a.eval y);binOp op t (a.eval x) (a.eval y)) (bD.still q k (x:= .bool neg) ?_ rfl) (by simp only[execOp,g])
  rw[f,r]
  subst d
  rcases u with rfl|rfl<;>simp [xA,binOp,Ov l]
 ·rename_i z j
  rw[j] at b
  cases i
  have f:a.eval x= .slice (some z) 0 0:=b
  refine bD.goal (s:=do eqGuard op t x y (a.eval x) (a.eval y);binOp op t (a.eval x) (a.eval y)) (bD.still q k (x:= .bool neg) ?_ rfl) (by simp only[execOp,g])
  rw[f,r]
  subst d
  rcases u with rfl|rfl<;>simp [xA,binOp,Ov l]
 ·cases i
theorem Qc (s:St m nt pv defs vars loc a)(K:HR P m h w)(L:iY m h.next){i:I}(g:pI P pv defs o=some (.op i))(A:fC (xv vars loc) h i=some (v,h')):Goal P m h w o a v h':=by
 unfold pI at g;cases hop:o.op<;>simp only[hop] at g<;>try (cases g;done)
 case move x=>
  simp only[oU,fO.op.injEq] at g;obtain⟨cx,B,rfl⟩:=g;simp only[fC] at A;cases A;exact Kz K L (by simp only[execOp,hop]) (aQ s B)
 case assign x=>
  simp only[oU,fO.op.injEq] at g;obtain⟨cx,B,rfl⟩:=g;simp only[fC] at A;cases A;exact Kz K L (by simp only[execOp,hop]) (aQ s B)
 case pick c x y=>
  simp only[Da,xP] at g;obtain⟨cc,a7,cx,B,cy,J,g⟩:=g;cases g;have c1:=aQ s a7;simp only[fC] at A;split at A
  ·rename_i t ht
   rw[ht] at c1;cases A;refine bD.goal (s:=do pure (if ←asBool (a.eval c) then a.eval x else a.eval y)) (bD.still K L (x:=if t then a.eval x else a.eval y) ?_ ?_) (by simp only[execOp,hop];simp)
   ·rw[show a.eval c= .bool t from c1];simp [asBool]
   ·cases t
    ·simpa using aQ s J
    ·simpa using aQ s B
  ·cases A
 case alloc e=>
  simp only[Da,xP] at g;obtain⟨zu,hz,g⟩:=g;cases g;simp only[fC] at A;cases A;obtain⟨i2,z,hi,b9⟩:=NL hz;obtain⟨d9,d2,_⟩:=qY m hz hi b9;have Q:=xU K L [] d9 d2 e;simp only[tZ,Array.toArray_toList] at Q;refine bD.goal (s:=Instr.alloc e true (.tuple #[])) ⟨.pointer (some ⟨w.heap.size,0,none⟩),_,_,?_,⟨_,M.pJ ..,rfl⟩,Q⟩ (by simp only[execOp,hop]);simp [Instr.alloc,zeroValue,typeInfo,hi,b9,newVar,newRow]
 case box e x=>
  simp only[oU,fO.op.injEq] at g;obtain⟨cx,B,rfl⟩:=g;simp only[fC] at A;split at A
  ·rename_i a4
   cases A;have hv:=VR.cells (aQ s B) a4;have Q:=xU K L [] hv (λc g=>(zP.1 a4) c g) e;simp only[tZ,Array.toArray_toList] at Q;refine bD.goal (s:=Instr.box e (a.eval x)) ⟨.pointer (some ⟨w.heap.size,0,none⟩),_,_,?_,⟨_,M.pJ ..,rfl⟩,Q⟩ (by simp only[execOp,hop]);simp [Instr.box,newVar,newRow]
  ·cases A
 case build t parts=>
  simp only[Da,xP] at g;obtain⟨ps,b6,zu,hz,pl,d8,g⟩:=g;cases g;simp only[fC,oU] at A;obtain⟨us,b7,A⟩:=A;cases A;obtain⟨h1,h2⟩:=AW s (f:=λp x=>(p.1,x)) b6 (λ_ _=>rfl);refine bD.goal (s:=Instr.build t (parts.map λ(i,x)=>(i,a.eval x))) (KK K L hz d8 h1 (λj b q hb hq=>?_) b7) (by simp only[execOp,hop]);obtain⟨p,hp,e1,e2,e3⟩:=h2 j b q hb hq;exact⟨by rw[e1,e2],e3⟩
 case buildSlice t n parts=>
  simp only[Da,xP] at g;obtain⟨e,Y,sz,R,g⟩:=g;split at g
  ·cases g
  ·rename_i a5
   have b5:sz≠0:=λe=>a5 (.inl e)
   have d7: ¬n*sz>2^24:=λe=>a5 (.inr (.inl e))
   have b4:BL P e sz=true:=by cases hq:BL P e sz with
    |true=>rfl
    |false=>exact absurd (.inr (.inr hq)) a5
   simp only[xP] at g;obtain⟨ps,b6,zu,hz,g⟩:=g;cases g;simp only[fC] at A;split at A
   ·rename_i us b7
    split at A
    ·rename_i a4
     cases A;obtain⟨a1,a2⟩:=jC b6;refine bD.goal (s:=Instr.buildSlice t n (parts.map λ(i,x)=>(i,a.eval x))) (KV K L (uS Y) R hz b4 b5 d7 (by simpa using a1) (λj b q hb hq=>?_) b7 (λc g=>(zP.1 a4) c g)) (by simp only[execOp,hop]);simp only[Qy,oU] at hb;obtain⟨p,hp,rfl⟩:=hb;simp only[Array.toList_map,Qy,oU] at hq;obtain⟨r,c4,rfl⟩:=hq;obtain⟨b',b8,c0⟩:=a2 j r c4;rw[hp] at b8;cases b8;simp only[oU] at c0;obtain⟨x,O,rfl⟩:=c0;exact⟨rfl,aQ s O⟩
    ·cases A
   ·cases A
 case load t x=>
  split at g
  ·rename_i q hq
   obtain⟨e0,n⟩:=q;simp only[oU,fO.op.injEq] at g;obtain⟨cx,B,rfl⟩:=g;simp only[fC] at A;obtain⟨G,rfl⟩:=oS A;obtain⟨y,h1,h2⟩:=BH K (DZ hq).1 (DZ hq).2 (aQ s B) G;exact bD.goal (s:=Instr.loadAt t (a.eval x)) (bD.still K L h1 h2) (by simp only[execOp,hop])
  ·cases g
 case store t x y=>
  simp only[Da,xP] at g;obtain⟨n,hn,cx,B,cy,J,g⟩:=g;cases g;have F:=aQ s B;have U:=aQ s J;simp only[fC] at A;split at A
  ·rename_i id Z O
   rw[O] at F;split at A
   ·rename_i a3
    simp only[oU] at A;obtain⟨h2,c2,A⟩:=A;cases A;obtain⟨p,hp,N⟩:=F;obtain⟨w',jI,Q⟩:=Dq K L c2 (VR.cells U a3.2) (λc g=>(zP.1 a3.2) c g) hp;refine Ts (s:=Instr.storeAt t (a.eval x) (a.eval y)) (by simp only[execOp,hop]) ?_ Q
    have d5:(a.eval y).cells.size=n:=by
     have:=iR.length (VR.cells U a3.2);simp at this;omega
    rw[N];simp [Instr.storeAt,Instr.sureAddr,storeVar,iO hn,d5,jI]
   ·cases A
  ·cases A
 case nilCheck x=>
  simp only[oU,fO.op.injEq] at g;obtain⟨cx,B,rfl⟩:=g;have F:=aQ s B;simp only[fC] at A;split at A
  ·rename_i id Z O
   rw[O] at F;cases A;obtain⟨p,hp,N⟩:=F;refine Kz K L (x:= .pointer (some ⟨p.1,p.2.1+Z,none⟩)) ?_ ⟨p,hp,rfl⟩;simp only[execOp,hop,N]
  ·cases A
 case binOp op t x y ty=>
  cases op<;>simp only at g<;>try (cases g;done)
  all_goals first
   |(simp only[Da,xP] at g
     obtain⟨k,hk,cx,B,cy,J,g⟩:=g
     cases g
     exact Qt s K L hop B J A)
   |(simp only[Da,xP] at g
     obtain⟨k,hk,cx,B,cy,J,g⟩:=g
     cases g
     exact XT s K L hop B J A)
   |skip
  case add=>
   split at g
   ·simp only[Da,xP] at g
    obtain⟨cx,B,cy,J,g⟩:=g;cases g;have F:=aQ s B;have U:=aQ s J;simp only[fC] at A;split at A
    ·rename_i sa sb O hy
     rw[O] at F;rw[hy] at U;split at A
     ·rename_i hl
      cases A;exact bD.goal (NW (t:=t) (x:=x) (y:=y) K L F U hl) (by simp only[execOp,hop])
     ·cases A
    ·cases A
   ·simp only[Da,xP] at g
    obtain⟨k,hk,cx,B,cy,J,g⟩:=g;cases g;exact Qt s K L hop B J A
  all_goals
   split at g
   ·simp only[Da,xP] at g
    obtain⟨cx,B,cy,J,g⟩:=g
    cases g
    exact Qt s K L hop B J A
   ·rename_i hk
    simp only[Da,xP] at g
    obtain⟨cx,B,cy,J,g⟩:=g
    cases g
    exact adM s K L (by simp) hop hk B J rfl A
   ·rename_i hk
    simp only[Da,xP] at g
    obtain⟨cx,B,cy,J,g⟩:=g
    cases g
    have F:=aQ s B
    have U:=aQ s J
    simp only[fC] at A
    split at A
    ·rename_i sa sb O hy
     rw[O] at F
     rw[hy] at U
     cases A
     first
      |exact bD.goal (Tw (op:= .eql) (t:=t) (x:=x) (y:=y) K L (.inl rfl) F U rfl) (by simp only[execOp,hop])
      |exact bD.goal (Tw (op:= .neq) (t:=t) (x:=x) (y:=y) K L (.inr rfl) F U rfl) (by simp only[execOp,hop])
    ·cases A
   ·rename_i e hk
    split at g
    ·simp only[Da,xP] at g
     obtain⟨cx,B,g⟩:=g
     cases g
     exact JT s K L (by simp) hop rfl hk B rfl A
    ·cases g
   ·cases g
 case unOp op t x=>
  cases op<;>simp only at g<;>try (cases g;done)
  ·simp only[oU,fO.op.injEq] at g
   obtain⟨cx,B,rfl⟩:=g;have F:=aQ s B;simp only[fC] at A;split at A
   ·rename_i b O
    rw[O] at F;cases A;refine bD.goal (s:=Op.unary .not (a.eval x)) (bD.still K L (x:= .bool (!b)) ?_ rfl) (by simp only[execOp,hop]);rw[show a.eval x= .bool b from F];simp [Op.unary]
   ·cases A
 case convert src dst x=>
  split at g
  ·rename_i k0 k hs hd
   simp only[oU,fO.op.injEq] at g;obtain⟨cx,B,rfl⟩:=g;have F:=aQ s B;simp only[fC] at A;split at A
   ·rename_i j b O
    rw[O] at F;cases A;refine bD.goal (s:=convert src dst (a.eval x)) (bD.still K L (x:= .int k (k.wrap b)) ?_ rfl) (by simp only[execOp,hop]);rw[show a.eval x= .int _ b from F];simp [convert,run_underlying hs,run_underlying hd,Conv.intToInt]
   ·cases A
  ·rename_i e hs hd
   split at g
   ·rename_i Y
    simp only[oU,fO.op.injEq] at g;obtain⟨cx,B,rfl⟩:=g;have F:=aQ s B;simp only[fC] at A;obtain⟨G,rfl⟩:=oS A;exact bD.goal (s:=convert src dst (a.eval x)) (JX K L hs hd Y F G) (by simp only[execOp,hop])
   ·cases g
  ·rename_i k0 hs hd
   simp only[oU,fO.op.injEq] at g;obtain⟨cx,B,rfl⟩:=g;have F:=aQ s B;simp only[fC] at A;split at A
   ·rename_i k n O
    rw[O] at F;split at A
    ·rename_i hn
     cases A;exact bD.goal (s:=convert src dst (a.eval x)) (NR K L hs hd F hn.1 hn.2) (by simp only[execOp,hop])
    ·cases A
   ·cases A
  ·cases g
 case makeFunc fn first cs=>
  cases fn<;>simp only at g<;>try (cases g;done)
  rename_i f;split at g
  ·simp only[Da,xP] at g
   obtain⟨cf,c7,cc,a7,g⟩:=g;cases g;simp only[fC] at A;cases A;refine bD.goal (s:=Instr.makeFunc (.func f) (first.map a.eval) (cs.map a.eval)) (bD.still K L (x:= .func (.func f) (first.map a.eval) (cs.map a.eval)) rfl ⟨_,_,rfl,?_,?_⟩) (by simp only[execOp,hop])
   ·simpa using tH s c7
   ·simpa using tH s a7
  ·cases g
 case makeMap t r=>
  split at g
  ·rename_i kt et ht
   split at g
   ·rename_i sh b1
    simp only[oU,fO.op.injEq] at g;obtain⟨cr,d1,rfl⟩:=g;have b0:=tL s d1;simp only[fC] at A;split at A
    ·rename_i a8
     cases A;have Q:=jR.new K L (.wmap sh []) (.map #[] 0) (0,0) (λm' _ _=>⟨λi j a b hi=>by simp at hi,#[],0,heap_alloc_new w _,rfl,rfl,λi k v hi=>by simp at hi⟩);refine bD.goal (s:=Instr.makeMap t (r.map a.eval)) ⟨.map (some w.heap.size),_,_,?_,⟨_,M.pJ ..,rfl⟩,Q⟩ (by simp only[execOp,hop])
     cases r with
     |none=>simp [Instr.makeMap]
     |some x=>
      cases cr with
      |none=>exact b0.elim
      |some cx=>
       simp only[Option.map_some,Nl] at a8;have F:VR m (xv vars loc cx) (a.eval x):=b0;cases hxx:xv vars loc cx<;>rw[hxx] at a8<;>simp only[UR,Bool.false_eq_true] at a8;rename_i k n;rw[hxx] at F;have N:a.eval x= .int k n:=F;simp [Instr.makeMap,N,run_underlying ht,asInt,asIntOf]
    ·cases A
   ·cases g
  ·cases g
 case makeSlice t l c=>
  simp only[Da,xP] at g;obtain⟨e,Y,sz,R,g⟩:=g;split at g
  ·cases g
  ·rename_i a5
   have b5:sz≠0:=λe=>a5 (.inl e)
   have b4:BL P e sz=true:=by cases hq:BL P e sz with
    |true=>rfl
    |false=>exact absurd (.inr hq) a5
   simp only[xP] at g;obtain⟨d3,hb,zu,hz,cl,a9,cc,a7,g⟩:=g;cases g;simp only[fC] at A;exact bD.goal (s:=Instr.makeSlice t (a.eval l) (a.eval c)) (MU K L (uS Y) R hb hz b4 b5 (aQ s a9) (aQ s a7) A) (by simp only[execOp,hop])
 case slice t x lo hi mx=>
  split at g
  ·cases g
  ·simp only[Da,xP] at g
   obtain⟨e,Y,sz,R,g⟩:=g;split at g
   ·cases g
   ·simp only[xP] at g
    obtain⟨cx,B,cl,a9,ch,d0,cm,c3,g⟩:=g;cases g;simp only[fC] at A;obtain⟨G,rfl⟩:=oS A;exact bD.goal (s:=Instr.sliceAt t (a.eval x) (lo.map a.eval) (hi.map a.eval) (mx.map a.eval)) (MY K L (uS Y) R (aQ s B) (tL s a9) (tL s d0) (tL s c3) G) (by simp only[execOp,hop])
 case fieldAddr t x f=>
  simp only[Da,xP] at g;obtain⟨fd,d4,g⟩:=g;split at g
  ·cases g
  ·rename_i R
   simp only[xP] at g;obtain⟨cx,B,g⟩:=g;cases g;have F:=aQ s B;simp only[fC] at A;split at A
   ·rename_i id Z O
    rw[O] at F;cases A;obtain⟨p,hp,N⟩:=F;obtain⟨fs,c6,d6⟩:=LI d4
    cases hsz2:jL P fd.type with
    |none=>simp [hsz2] at R
    |some n=>
     have hn: ¬n=0:=by simpa [hsz2] using R
     refine bD.goal (s:=Instr.fieldAt t (a.eval x) f) (bD.still K L (x:= .pointer (some ⟨p.1,p.2.1+(Z+fd.offset),none⟩)) ?_ ⟨p,hp,rfl⟩) (by simp only[execOp,hop]);rw[N];simp [Instr.fieldAt,run_underlying c6,d6,Instr.sureAddr,fieldPlace,iO hsz2,hn,mD,Nat.add_assoc]
   ·cases A
 case indexAddr t x ix=>
  split at g
  ·rename_i n e k z hu
   split at g
   ·rename_i hb
    simp only[Da,xP] at g;obtain⟨sz,R,cx,B,g⟩:=g;cases g;have F:=aQ s B;simp only[fC] at A;split at A
    ·rename_i id Z O
     rw[O] at F;cases A;obtain⟨p,hp,N⟩:=F;refine bD.goal (s:=Instr.indexAt t (a.eval x) (.int k z)) (bD.still K L (x:= .pointer (some ⟨p.1,p.2.1+(Z+z.toNat*sz),none⟩)) ?_ ⟨p,hp,rfl⟩) (by simp only[execOp,hop];rfl);rw[N];simp [Instr.indexAt,asIntOf,run_underlying hu,Instr.sureAddr,iO R,hb.1,hb.2,mD,Nat.add_assoc]
    ·cases A
   ·cases g
  ·rename_i n e hu _
   simp only[Da,xP] at g;obtain⟨sz,R,cx,B,ci,a6,g⟩:=g;cases g;have F:=aQ s B;have a0:=aQ s a6;simp only[fC] at A;obtain⟨G,rfl⟩:=oS A;unfold UO at G;split at G
   ·rename_i id Z k z O hi
    rw[O] at F;rw[hi] at a0;split at G
    ·rename_i hb
     cases G;obtain⟨p,hp,N⟩:=F;refine bD.goal (s:=Instr.indexAt t (a.eval x) (.int k z)) (bD.still K L (x:= .pointer (some ⟨p.1,p.2.1+(Z+z.toNat*sz),none⟩)) ?_ ⟨p,hp,rfl⟩) (by simp only[execOp,hop];rw[show a.eval _= .int k z from a0]);rw[N];simp [Instr.indexAt,asIntOf,run_underlying hu,Instr.sureAddr,iO R,hb.1,hb.2,mD,Nat.add_assoc]
    ·cases G
   ·cases G
  ·simp only[Da,xP] at g
   obtain⟨e,Y,sz,R,cx,B,ci,a6,g⟩:=g;cases g;have F:=aQ s B;have a0:=aQ s a6;simp only[fC] at A;obtain⟨G,rfl⟩:=oS A;unfold Gr at G;split at G
   ·rename_i id Z len e4 k n O hi
    rw[O] at F;rw[hi] at a0;split at G
    ·rename_i hb
     cases G;obtain⟨p,c,o',hp,N,_,ho,_⟩:=F;obtain rfl:=ho om;refine bD.goal (s:=Instr.indexAt t (a.eval x) (.int k n)) (bD.still K L (x:= .pointer (some ⟨p.1,p.2.1+(o'+n.toNat*sz),none⟩)) ?_ ⟨p,hp,rfl⟩) (by simp only[execOp,hop];rw[show a.eval _= .int k n from a0]);rw[N];simp [Instr.indexAt,asIntOf,run_underlying (uS Y),iO R,hb.1,hb.2,mD,Nat.add_assoc]
    ·cases G
   ·cases G
 case lookup t x k ok=>
  split at g
  ·rename_i kt et ht
   simp only[Da,xP] at g;obtain⟨sh,b1,zu,hz,cx,B,ck,b3,g⟩:=g;cases g;have F:=aQ s B;have b2:=aQ s b3;simp only[fC] at A;split at A
   ·rename_i id O
    rw[O] at F;split at A
    ·rename_i c8 es hg
     split at A
     ·rename_i W
      obtain⟨rfl,W⟩:=W;have hs:=OG K L ht b1 hz F b2 hg W ok;split at A
      ·rename_i u hu
       cases A;rw[hu] at hs;exact bD.goal (s:=Instr.lookup t (a.eval x) (a.eval k) ok) hs (by simp only[execOp,hop])
      ·rename_i hu
       cases A;rw[hu] at hs;exact bD.goal (s:=Instr.lookup t (a.eval x) (a.eval k) ok) hs (by simp only[execOp,hop])
     ·cases A
    ·cases A
   ·cases A
  ·cases g
 case mapUpdate t x k y=>
  split at g
  ·rename_i kt et ht
   simp only[Da,xP] at g;obtain⟨sh,b1,cx,B,ck,b3,cy,J,g⟩:=g;cases g;have F:=aQ s B;have b2:=aQ s b3;have U:=aQ s J;simp only[fC] at A;split at A
   ·rename_i id O
    rw[O] at F;split at A
    ·rename_i c8 es hg
     split at A
     ·rename_i W
      obtain⟨rfl,W⟩:=W;cases A;obtain⟨w',h1,h2⟩:=JL K L ht b1 F b2 U hg W;exact Ts (s:=Instr.mapUpdate t (a.eval x) (a.eval k) (a.eval y)) (by simp only[execOp,hop]) h1 h2
     ·cases A
    ·cases A
   ·cases A
  ·cases g
 case index t x ix=>
  split at g
  ·rename_i ht
   simp only[Da,xP] at g;obtain⟨cx,B,ci,a6,g⟩:=g;cases g;have F:=aQ s B;have a0:=aQ s a6;simp only[fC] at A;split at A
   ·rename_i l k z O hi
    rw[O] at F;rw[hi] at a0;split at A
    ·rename_i hz
     simp only[oU] at A;obtain⟨c,a9,A⟩:=A;cases A;refine bD.goal (s:=Instr.index t (a.eval x) (a.eval ix)) (bD.still K L (x:= .int .u8 ((c%256:Nat):Int)) ?_ rfl) (by simp only[execOp,hop]);rw[show a.eval x= .string ⟨(l.map UInt8.ofNat).toArray⟩ from F,show a.eval ix= .int k z from a0];have hb:(⟨(l.map UInt8.ofNat).toArray⟩:ByteArray)[z.toNat]? =some (UInt8.ofNat c):=aeB a9;simp [Instr.index,asIntOf,run_underlying ht,hz,hb]
    ·cases A
   ·cases A
  ·cases g
 case extract x i2=>
  simp only[oU,fO.op.injEq] at g;obtain⟨cx,B,rfl⟩:=g;have F:=aQ s B;simp only[fC] at A;split at A
  ·rename_i vs O
   rw[O] at F;obtain⟨xs,N,b0⟩:=F;obtain⟨G,rfl⟩:=oS A;obtain⟨y,hy,U⟩:=b0.get G;refine bD.goal (s:=Instr.extract (a.eval x) i2) (bD.still K L (x:=y) ?_ U) (by simp only[execOp,hop]);have c5:xs[i2]? =some y:=by simpa using hy
   rw[N];simp [Instr.extract,c5]
  ·cases A
 case makeInterface t x=>
  split at g
  ·cases g;simp [fC] at A
  ·rename_i d cx c9 hu B
   cases g;have F:=aQ s B;simp only[fC] at A;cases A;refine bD.goal (s:=Instr.makeInterface t (a.eval x)) (bD.still K L (x:= .iface t (a.eval x)) ?_ ⟨_,rfl,F⟩) (by simp only[execOp,hop]);cases d<;>first
    |(simp [Instr.makeInterface,run_underlying hu];done)
    |exact (c9 _ rfl).elim
  ·cases g;simp [fC] at A
 case panic=>cases g;simp [fC] at A
 case call c=>exact CS s K L hop g A
end
end
end Go.Ay
