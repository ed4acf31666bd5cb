/- One operation, whole: the other kinds. -/
import Derived.Test.YtapfcpkecmmagaaGreatAy8b
namespace Go.Ay
open Go
section
variable {t ty e:TypeId} {op:BinOp} {x y:Operand} {cx cy:X}
section
variable {P:Program} {m:M} {h:H} {w:World} {o:Oper} {a:Act} {v:V} {h':H} {nt:Nat} {pv defs:List Nat} {vars loc:List V}
theorem Px {c:V}(b:jE P t=some c): ∃i z,P.info? t=some i/\i.zero=some z:=by
 unfold jE at b
 cases hi:P.info? t with
 |none=>simp [hi] at b
 |some i=>
  cases hzz:i.zero with
  |none=>simp [hi,hzz] at b
  |some z=>exact⟨i,z,rfl,hzz⟩
theorem iU {β:Type}{x:Option β}{h h':H}{v:β}(b:x.map (λy=>(y,h))=some (v,h')):x=some v/\h=h':=by
 cases x with
 |none=>simp at b
 |some u=>simp at b;exact⟨by rw[b.1],b.2⟩
theorem Na {agg:Bool}{n:Nat}(h:GL P t=some (agg,n)):Ez P t=some agg/\(if agg then fX P t else some 1)=some n:=by
 unfold GL at h;split at h
 ·rename_i c
  simp only[jB] at h;obtain⟨k,b,h⟩:=h;cases h;exact⟨c,b⟩
 ·cases h;exact⟨by assumption,rfl⟩
 ·cases h
theorem zX (s:St m nt pv defs vars loc a)(u:HR P m h w)(B:fK m h.next)(p:o.op= .binOp op t x y ty){k:IntKind}
  (n:fC pv defs x=some cx) (g:fC pv defs y=some cy) (c:cW (xv vars loc) h (.bin op k cx cy)=some (v,h')):Goal P m h w o a v h':=by
 have f:=aJ s n
 have d:=aJ s g
 simp only[cW] at c
 split at c
 ·rename_i j b J A G F
  rw[G] at f
  rw[F] at d
  split at c
  ·rename_i i
   obtain⟨l,rfl⟩:=iU c
   obtain⟨rfl,rfl⟩:=i
   obtain⟨z,q,r⟩:=Ka (P:=P) (m:=m) (w:=w) l t
   refine aU.goal (s:=do eqGuard op t x y (a.eval x) (a.eval y);binOp op t (a.eval x) (a.eval y)) (aU.still u B (x:=z) ?_ r) (by simp only[execOp,p])
   rw[show a.eval x= .int _ b from f,show a.eval y= .int _ A from d]
   simp [xU,q]
  ·cases c
 ·cases c
theorem Ub (s:St m nt pv defs vars loc a)(u:HR P m h w)(B:fK m h.next)(p:o.op= .binOp op t x y ty){k:IntKind}
  (n:fC pv defs x=some cx) (g:fC pv defs y=some cy) (c:cW (xv vars loc) h (.shf op k cx cy)=some (v,h')):Goal P m h w o a v h':=by
 have f:=aJ s n
 have d:=aJ s g
 simp only[cW] at c
 split at c
 ·rename_i j b G A J F
  rw[J] at f
  rw[F] at d
  split at c
  ·rename_i i
   obtain⟨l,rfl⟩:=iU c
   subst i
   obtain⟨z,q,r⟩:=Lm (P:=P) (m:=m) (w:=w) (j:=G) l t
   refine aU.goal (s:=do eqGuard op t x y (a.eval x) (a.eval y);binOp op t (a.eval x) (a.eval y)) (aU.still u B (x:=z) ?_ r) (by simp only[execOp,p])
   rw[show a.eval x= .int _ b from f,show a.eval y= .int _ A from d]
   simp [xU,q]
  ·cases c
 ·cases c
theorem Li (b:P.underlying t=some .bool)(x y:Bool):(Op.equal t (.bool x) (.bool y)).run P w= .ok (x==y) w:=by
 have: ∀d,(Op.equalIn (d+1) t (.bool x) (.bool y)).run P w= .ok (x==y) w:=λd=>by simp [Op.equalIn,run_underlying b]
 exact this 9999
theorem Lk (b:P.underlying t=some (.slice e)):(Op.equal t (.slice none 0 0) (.slice none 0 0)).run P w= .ok true w:=by
 have: ∀d,(Op.equalIn (d+1) t (.slice none 0 0) (.slice none 0 0)).run P w= .ok true w:=λd=>by simp [Op.equalIn,run_underlying b]
 exact this 9999
theorem Bi (f:P.underlying t=some (.slice e))(b:Addr)(n c:Nat):(Op.equal t (.slice (some b) n c) (.slice none 0 0)).run P w= .ok false w:=by
 have: ∀d,(Op.equalIn (d+1) t (.slice (some b) n c) (.slice none 0 0)).run P w= .ok false w:=λd=>by simp [Op.equalIn,run_underlying f]
 exact this 9999
theorem AA (s:St m nt pv defs vars loc a)(p:HR P m h w)(r:fK m h.next)(q:op= .eql∨op= .neq)(l:o.op= .binOp op t x y ty)(n:P.underlying t=some .bool)
  (k:fC pv defs x=some cx) (i:fC pv defs y=some cy) {neg:Bool} (d:neg=(op matches .neq)) (g:cW (xv vars loc) h (.beq neg cx cy)=some (v,h')):Goal P m h w o a v h':=by
 have f:=aJ s k
 have c:=aJ s i
 simp only[cW] at g
 split at g
 ·rename_i b j z u
  rw[z] at f
  rw[u] at c
  cases g
  refine aU.goal (s:=do eqGuard op t x y (a.eval x) (a.eval y);binOp op t (a.eval x) (a.eval y)) (aU.still p r (x:= .bool (if neg then !(b==j) else b==j)) ?_ rfl) (by simp only[execOp,l])
  rw[show a.eval x= .bool b from f,show a.eval y= .bool j from c]
  subst d
  rcases q with rfl|rfl<;>simp [Hj,binOp,Li n]
 ·cases g
theorem Rf (s:St m nt pv defs vars loc a)(l:HR P m h w)(q:fK m h.next)(n:op= .eql∨op= .neq)(g:o.op= .binOp op t x y ty)(r:a.eval y= .slice none 0 0)(k:P.underlying t=some (.slice e))
  (u:fC pv defs x=some cx) {neg:Bool} (d:neg=(op matches .neq)) (i:cW (xv vars loc) h (.snil neg cx)=some (v,h')):Goal P m h w o a v h':=by
 have b:=aJ s u
 simp only[cW] at i
 split at i
 ·rename_i j
  rw[j] at b
  cases i
  refine aU.goal (s:=do eqGuard op t x y (a.eval x) (a.eval y);binOp op t (a.eval x) (a.eval y)) (aU.still l q (x:= .bool (!neg)) ?_ rfl) (by simp only[execOp,g])
  rw[show a.eval x= .slice none 0 0 from b,r]
  subst d
  rcases n with rfl|rfl<;>simp [oK,binOp,Lk k]
 ·rename_i id A len z j
  rw[j] at b
  cases i
  obtain⟨p,c,F,G,f,_⟩:=b
  refine aU.goal (s:=do eqGuard op t x y (a.eval x) (a.eval y);binOp op t (a.eval x) (a.eval y)) (aU.still l q (x:= .bool neg) ?_ rfl) (by simp only[execOp,g])
  rw[f,r]
  subst d
  rcases n with rfl|rfl<;>simp [oK,binOp,Bi k]
 ·rename_i B j
  rw[j] at b
  cases i
  have f:a.eval x= .slice (some B) 0 0:=b
  refine aU.goal (s:=do eqGuard op t x y (a.eval x) (a.eval y);binOp op t (a.eval x) (a.eval y)) (aU.still l q (x:= .bool neg) ?_ rfl) (by simp only[execOp,g])
  rw[f,r]
  subst d
  rcases n with rfl|rfl<;>simp [oK,binOp,Bi k]
 ·cases i
theorem Bx (s:St m nt pv defs vars loc a)(J:HR P m h w)(L:fK m h.next){i:I}(g:iJ P pv defs o=some (.op i))(A:cW (xv vars loc) h i=some (v,h')):Goal P m h w o a v h':=by
 unfold iJ at g;cases hop:o.op<;>simp only[hop] at g<;>try (cases g;done)
 case move x=>
  simp only[jB,dR.op.injEq] at g;obtain⟨cx,F,rfl⟩:=g;simp only[cW] at A;cases A;exact wV J L (by simp only[execOp,hop]) (aJ s F)
 case assign x=>
  simp only[jB,dR.op.injEq] at g;obtain⟨cx,F,rfl⟩:=g;simp only[cW] at A;cases A;exact wV J L (by simp only[execOp,hop]) (aJ s F)
 case pick c x y=>
  simp only[oF,lJ] at g;obtain⟨cc,b2,cx,F,cy,K,g⟩:=g;cases g;have c6:=aJ s b2;simp only[cW] at A;split at A
  ·rename_i t ht
   rw[ht] at c6;cases A;refine aU.goal (s:=do pure (if ←asBool (a.eval c) then a.eval x else a.eval y)) (aU.still J L (x:=if t then a.eval x else a.eval y) ?_ ?_) (by simp only[execOp,hop];simp)
   ·rw[show a.eval c= .bool t from c6];simp [asBool]
   ·cases t
    ·simpa using aJ s K
    ·simpa using aJ s F
  ·cases A
 case alloc e=>
  simp only[oF,lJ] at g;obtain⟨zu,hz,g⟩:=g;cases g;simp only[cW] at A;cases A;obtain⟨i2,z,hi,c8⟩:=Px hz;obtain⟨d2,d9,_⟩:=iM m hz hi c8;have R:=oZ J L [] d2 d9 e;simp only[pN,Array.toArray_toList] at R;refine aU.goal (s:=Instr.alloc e true (.tuple #[])) ⟨.pointer (some ⟨w.heap.size,0,none⟩),_,_,?_,⟨_,M.iI ..,rfl⟩,R⟩ (by simp only[execOp,hop]);simp [Instr.alloc,zeroValue,typeInfo,hi,c8,newVar,newRow]
 case box e x=>
  simp only[jB,dR.op.injEq] at g;obtain⟨cx,F,rfl⟩:=g;simp only[cW] at A;split at A
  ·rename_i a9
   cases A;have hv:=VR.cells (aJ s F) a9;have R:=oZ J L [] hv (λc g=>(yQ.1 a9) c g) e;simp only[pN,Array.toArray_toList] at R;refine aU.goal (s:=Instr.box e (a.eval x)) ⟨.pointer (some ⟨w.heap.size,0,none⟩),_,_,?_,⟨_,M.iI ..,rfl⟩,R⟩ (by simp only[execOp,hop]);simp [Instr.box,newVar,newRow]
  ·cases A
 case build t parts=>
  simp only[oF,lJ] at g;obtain⟨ps,c2,zu,hz,pl,d4,g⟩:=g;cases g;simp only[cW,jB] at A;obtain⟨us,b7,A⟩:=A;cases A;obtain⟨h1,h2⟩:=Ig s (f:=λp x=>(p.1,x)) c2 (λ_ _=>rfl);refine aU.goal (s:=Instr.build t (parts.map λ(i,x)=>(i,a.eval x))) (Qi J L hz d4 h1 (λj b q hb hq=>?_) b7) (by simp only[execOp,hop]);obtain⟨p,hp,e1,e2,e3⟩:=h2 j b q hb hq;exact⟨by rw[e1,e2],e3⟩
 case buildSlice t n parts=>
  simp only[oF,lJ] at g;obtain⟨e,a3,sz,W,g⟩:=g;split at g
  ·cases g
  ·rename_i b0
   have c3:sz≠0:=λe=>b0 (.inl e)
   have d6: ¬n*sz>2^24:=λe=>b0 (.inr (.inl e))
   have b8:Kv P e sz=true:=by cases hq:Kv P e sz with
    |true=>rfl
    |false=>exact absurd (.inr (.inr hq)) b0
   simp only[lJ] at g;obtain⟨ps,c2,zu,hz,g⟩:=g;cases g;simp only[cW] at A;split at A
   ·rename_i us b7
    split at A
    ·rename_i a9
     cases A;obtain⟨a1,a2⟩:=gW c2;refine aU.goal (s:=Instr.buildSlice t n (parts.map λ(i,x)=>(i,a.eval x))) (Rd J L (lV a3) W hz b8 c3 d6 (by simpa using a1) (λj b q hb hq=>?_) b7 (λc g=>(yQ.1 a9) c g)) (by simp only[execOp,hop]);simp only[Kt,jB] at hb;obtain⟨p,hp,rfl⟩:=hb;simp only[Array.toList_map,Kt,jB] at hq;obtain⟨r,e8,rfl⟩:=hq;obtain⟨b',c7,d0⟩:=a2 j r e8;rw[hp] at c7;cases c7;simp only[jB] at d0;obtain⟨x,N,rfl⟩:=d0;exact⟨rfl,aJ s N⟩
    ·cases A
   ·cases A
 case load t x=>
  split at g
  ·rename_i q hq
   obtain⟨c9,n⟩:=q;simp only[jB,dR.op.injEq] at g;obtain⟨cx,F,rfl⟩:=g;simp only[cW] at A;obtain⟨G,rfl⟩:=iU A;obtain⟨y,h1,h2⟩:=Kc J (Na hq).1 (Na hq).2 (aJ s F) G;exact aU.goal (s:=Instr.loadAt t (a.eval x)) (aU.still J L h1 h2) (by simp only[execOp,hop])
  ·cases g
 case store t x y=>
  simp only[oF,lJ] at g;obtain⟨n,hn,cx,F,cy,K,g⟩:=g;cases g;have B:=aJ s F;have O:=aJ s K;simp only[cW] at A;split at A
  ·rename_i id a0 N
   rw[N] at B;split at A
   ·rename_i a6
    simp only[jB] at A;obtain⟨h2,c5,A⟩:=A;cases A;obtain⟨p,hp,Q⟩:=B;obtain⟨w',gY,R⟩:=sK J L c5 (VR.cells O a6.2) (λc g=>(yQ.1 a6.2) c g) hp;refine sN (s:=Instr.storeAt t (a.eval x) (a.eval y)) (by simp only[execOp,hop]) ?_ R
    have e9:(a.eval y).cells.size=n:=by
     have:=fL.length (VR.cells O a6.2);simp at this;omega
    rw[Q];simp [Instr.storeAt,Instr.sureAddr,storeVar,eS hn,e9,gY]
   ·cases A
  ·cases A
 case nilCheck x=>
  simp only[jB,dR.op.injEq] at g;obtain⟨cx,F,rfl⟩:=g;have B:=aJ s F;simp only[cW] at A;split at A
  ·rename_i id a0 N
   rw[N] at B;cases A;obtain⟨p,hp,Q⟩:=B;refine wV J L (x:= .pointer (some ⟨p.1,p.2.1+a0,none⟩)) ?_ ⟨p,hp,rfl⟩;simp only[execOp,hop,Q]
  ·cases A
 case binOp op t x y ty=>
  cases op<;>simp only at g<;>try (cases g;done)
  all_goals first
   |(simp only[oF,lJ] at g
     obtain⟨k,hk,cx,F,cy,K,g⟩:=g
     cases g
     exact zX s J L hop F K A)
   |(simp only[oF,lJ] at g
     obtain⟨k,hk,cx,F,cy,K,g⟩:=g
     cases g
     exact Ub s J L hop F K A)
   |skip
  case add=>
   split at g
   ·simp only[oF,lJ] at g
    obtain⟨cx,F,cy,K,g⟩:=g;cases g;have B:=aJ s F;have O:=aJ s K;simp only[cW] at A;split at A
    ·rename_i sa sb N hy
     rw[N] at B;rw[hy] at O;split at A
     ·rename_i hl
      cases A;exact aU.goal (Si (t:=t) (x:=x) (y:=y) J L B O hl) (by simp only[execOp,hop])
     ·cases A
    ·cases A
   ·simp only[oF,lJ] at g
    obtain⟨k,hk,cx,F,cy,K,g⟩:=g;cases g;exact zX s J L hop F K A
  all_goals
   split at g
   ·simp only[oF,lJ] at g
    obtain⟨cx,F,cy,K,g⟩:=g
    cases g
    exact zX s J L hop F K A
   ·rename_i hk
    simp only[oF,lJ] at g
    obtain⟨cx,F,cy,K,g⟩:=g
    cases g
    exact AA s J L (by simp) hop hk F K rfl A
   ·rename_i hk
    simp only[oF,lJ] at g
    obtain⟨cx,F,cy,K,g⟩:=g
    cases g
    have B:=aJ s F
    have O:=aJ s K
    simp only[cW] at A
    split at A
    ·rename_i sa sb N hy
     rw[N] at B
     rw[hy] at O
     cases A
     first
      |exact aU.goal (Ew (op:= .eql) (t:=t) (x:=x) (y:=y) J L (.inl rfl) B O rfl) (by simp only[execOp,hop])
      |exact aU.goal (Ew (op:= .neq) (t:=t) (x:=x) (y:=y) J L (.inr rfl) B O rfl) (by simp only[execOp,hop])
    ·cases A
   ·rename_i e hk
    split at g
    ·simp only[oF,lJ] at g
     obtain⟨cx,F,g⟩:=g
     cases g
     exact Rf s J L (by simp) hop rfl hk F rfl A
    ·cases g
   ·cases g
 case unOp op t x=>
  cases op<;>simp only at g<;>try (cases g;done)
  ·simp only[oF,lJ] at g
   obtain⟨k,hk,cx,F,g⟩:=g;cases g;have B:=aJ s F;simp only[cW] at A;split at A
   ·rename_i j b N
    rw[N] at B;split at A
    ·rename_i d3
     subst d3;cases A;refine aU.goal (s:=Op.unary .neg (a.eval x)) (aU.still J L (x:= .int j (j.wrap (0-b))) ?_ rfl) (by simp only[execOp,hop]);rw[show a.eval x= .int _ b from B];simp [Op.unary,Op.intArith]
    ·cases A
   ·cases A
  ·simp only[jB,dR.op.injEq] at g
   obtain⟨cx,F,rfl⟩:=g;have B:=aJ s F;simp only[cW] at A;split at A
   ·rename_i b N
    rw[N] at B;cases A;refine aU.goal (s:=Op.unary .not (a.eval x)) (aU.still J L (x:= .bool (!b)) ?_ rfl) (by simp only[execOp,hop]);rw[show a.eval x= .bool b from B];simp [Op.unary]
   ·cases A
 case convert src dst x=>
  split at g
  ·rename_i k0 k hs hd
   simp only[jB,dR.op.injEq] at g;obtain⟨cx,F,rfl⟩:=g;have B:=aJ s F;simp only[cW] at A;split at A
   ·rename_i j b N
    rw[N] at B;cases A;refine aU.goal (s:=convert src dst (a.eval x)) (aU.still J L (x:= .int k (k.wrap b)) ?_ rfl) (by simp only[execOp,hop]);rw[show a.eval x= .int _ b from B];simp [convert,run_underlying hs,run_underlying hd,Conv.intToInt]
   ·cases A
  ·rename_i e hs hd
   split at g
   ·rename_i a3
    simp only[jB,dR.op.injEq] at g;obtain⟨cx,F,rfl⟩:=g;have B:=aJ s F;simp only[cW] at A;obtain⟨G,rfl⟩:=iU A;exact aU.goal (s:=convert src dst (a.eval x)) (Pt J L hs hd a3 B G) (by simp only[execOp,hop])
   ·cases g
  ·rename_i k0 hs hd
   simp only[jB,dR.op.injEq] at g;obtain⟨cx,F,rfl⟩:=g;have B:=aJ s F;simp only[cW] at A;split at A
   ·rename_i k n N
    rw[N] at B;split at A
    ·rename_i hn
     cases A;exact aU.goal (s:=convert src dst (a.eval x)) (Sg J L hs hd B hn.1 hn.2) (by simp only[execOp,hop])
    ·cases A
   ·cases A
  ·cases g
 case makeFunc fn first cs=>
  cases fn<;>simp only at g<;>try (cases g;done)
  rename_i f;split at g
  ·simp only[oF,lJ] at g
   obtain⟨cf,e6,cc,b2,g⟩:=g;cases g;simp only[cW] at A;cases A;refine aU.goal (s:=Instr.makeFunc (.func f) (first.map a.eval) (cs.map a.eval)) (aU.still J L (x:= .func (.func f) (first.map a.eval) (cs.map a.eval)) rfl ⟨_,_,rfl,?_,?_⟩) (by simp only[execOp,hop])
   ·simpa using fP s e6
   ·simpa using fP s b2
  ·cases g
 case makeMap t r=>
  split at g
  ·rename_i kt et ht
   split at g
   ·rename_i sh b1
    simp only[jB,dR.op.injEq] at g;obtain⟨cr,e5,rfl⟩:=g;have a7:=jM s e5;simp only[cW] at A;split at A
    ·rename_i b4
     cases A;have R:=fU.new J L (.wmap sh []) (.map #[] 0) (0,0) (λm' _ _=>⟨λi j a b hi=>by simp at hi,#[],0,heap_alloc_new w _,rfl,rfl,λi k v hi=>by simp at hi⟩);refine aU.goal (s:=Instr.makeMap t (r.map a.eval)) ⟨.map (some w.heap.size),_,_,?_,⟨_,M.iI ..,rfl⟩,R⟩ (by simp only[execOp,hop])
     cases r with
     |none=>simp [Instr.makeMap]
     |some x=>
      cases cr with
      |none=>exact a7.elim
      |some cx=>
       simp only[Option.map_some,Bl] at b4;have B:VR m (xv vars loc cx) (a.eval x):=a7;cases hxx:xv vars loc cx<;>rw[hxx] at b4<;>simp only[Wc,Bool.false_eq_true] at b4;rename_i k n;rw[hxx] at B;have Q:a.eval x= .int k n:=B;simp [Instr.makeMap,Q,run_underlying ht,asInt,asIntOf]
    ·cases A
   ·split at g
    ·cases g
     simp only[cW] at A;cases A;have R:=fU.new J L (.map []) (.map #[] 0) (0,0) (λm' _ _=>⟨#[],0,heap_alloc_new w _,rfl,λi k v hi=>by simp at hi⟩);refine aU.goal (s:=Instr.makeMap t (Option.map a.eval none)) ⟨.map (some w.heap.size),_,_,?_,⟨_,M.iI ..,rfl⟩,R⟩ (by simp only[execOp,hop]);simp [Instr.makeMap]
    ·cases g
  ·cases g
 case makeSlice t l c=>
  simp only[oF,lJ] at g;obtain⟨e,a3,sz,W,g⟩:=g;split at g
  ·cases g
  ·rename_i b0
   have c3:sz≠0:=λe=>b0 (.inl e)
   have b8:Kv P e sz=true:=by cases hq:Kv P e sz with
    |true=>rfl
    |false=>exact absurd (.inr hq) b0
   simp only[lJ] at g;obtain⟨e7,hb,zu,hz,cl,a5,cc,b2,g⟩:=g;cases g;simp only[cW] at A;exact aU.goal (s:=Instr.makeSlice t (a.eval l) (a.eval c)) (Rt J L (lV a3) W hb hz b8 c3 (aJ s a5) (aJ s b2) A) (by simp only[execOp,hop])
 case slice t x lo hi mx=>
  split at g
  ·rename_i n e hu
   simp only[oF,lJ] at g;obtain⟨sz,W,cx,F,cl,a5,ch,b9,g⟩:=g;cases g;have B:=aJ s F;simp only[cW] at A;split at A
   ·rename_i id a0 N
    rw[N] at B;obtain⟨G,rfl⟩:=iU A;exact aU.goal (s:=Instr.sliceAt t (a.eval x) (lo.map a.eval) (hi.map a.eval) none) (Rj J L hu W B (jM s a5) (jM s b9) G) (by simp only[execOp,hop];rfl)
   ·cases A
  ·cases g
  ·rename_i mx _ _ _ _
   simp only[oF,lJ] at g;obtain⟨e,a3,sz,W,g⟩:=g;split at g
   ·cases g
   ·simp only[lJ] at g
    obtain⟨cx,F,cl,a5,ch,b9,cm,d8,g⟩:=g;cases g;simp only[cW] at A;obtain⟨G,rfl⟩:=iU A;exact aU.goal (s:=Instr.sliceAt t (a.eval x) (lo.map a.eval) (hi.map a.eval) (mx.map a.eval)) (Qc J L (lV a3) W (aJ s F) (jM s a5) (jM s b9) (jM s d8) G) (by simp only[execOp,hop])
 case fieldAddr t x f=>
  simp only[oF,lJ] at g;obtain⟨fd,c0,g⟩:=g;split at g
  ·cases g
  ·rename_i W
   simp only[lJ] at g;obtain⟨cx,F,g⟩:=g;cases g;have B:=aJ s F;simp only[cW] at A;split at A
   ·rename_i id a0 N
    rw[N] at B;cases A;obtain⟨p,hp,Q⟩:=B;obtain⟨fs,b5,b6⟩:=Er c0
    cases hsz2:fX P fd.type with
    |none=>simp [hsz2] at W
    |some n=>
     have hn: ¬n=0:=by simpa [hsz2] using W
     refine aU.goal (s:=Instr.fieldAt t (a.eval x) f) (aU.still J L (x:= .pointer (some ⟨p.1,p.2.1+(a0+fd.offset),none⟩)) ?_ ⟨p,hp,rfl⟩) (by simp only[execOp,hop]);rw[Q];simp [Instr.fieldAt,run_underlying b5,b6,Instr.sureAddr,fieldPlace,eS hsz2,hn,iS,Nat.add_assoc]
   ·cases A
 case field t x f=>
  simp only[oF,lJ] at g;obtain⟨fd,c0,c9,c4,n,hn,cx,F,g⟩:=g;cases g;have B:=aJ s F;obtain⟨fs,b5,b6⟩:=Er c0;simp only[cW] at A;split at A
  ·rename_i vs N
   rw[N] at B;obtain⟨xs,Q,a7⟩:=B
   cases c9 with
   |true=>
    simp only[if_true,jB] at A;obtain⟨ws,e0,A⟩:=A;cases A;obtain⟨rfl,f1,hl⟩:=sub_eq e0;refine aU.goal (s:=Instr.field t (a.eval x) f) (aU.still J L (x:= .agg (xs.extract fd.offset (fd.offset+n))) ?_ ⟨_,rfl,?_⟩) (by simp only[execOp,hop])
    ·rw[Q]
     simp [Instr.field,run_underlying b5,b6,part,asAgg,mM c4,eS hn]
    ·have:(xs.extract fd.offset (fd.offset+n)).toList=(xs.toList.drop fd.offset).take n:=by
      simp [List.extract_eq_take_drop]
     rw[this];exact (a7.drop _).take _
   |false=>
    simp only[Bool.false_eq_true,if_false] at A;obtain⟨G,rfl⟩:=iU A;obtain⟨y,hy,O⟩:=a7.get G;refine aU.goal (s:=Instr.field t (a.eval x) f) (aU.still J L (x:=y) ?_ O) (by simp only[execOp,hop]);rw[Q];have c1:xs[fd.offset]? =some y:=by simpa using hy
    simp [Instr.field,run_underlying b5,b6,part,asAgg,mM c4,c1]
  ·cases A
 case indexAddr t x ix=>
  split at g
  ·rename_i n e k z hu
   split at g
   ·rename_i hb
    simp only[oF,lJ] at g;obtain⟨sz,W,cx,F,g⟩:=g;cases g;have B:=aJ s F;simp only[cW] at A;split at A
    ·rename_i id a0 N
     rw[N] at B;cases A;obtain⟨p,hp,Q⟩:=B;refine aU.goal (s:=Instr.indexAt t (a.eval x) (.int k z)) (aU.still J L (x:= .pointer (some ⟨p.1,p.2.1+(a0+z.toNat*sz),none⟩)) ?_ ⟨p,hp,rfl⟩) (by simp only[execOp,hop];rfl);rw[Q];simp [Instr.indexAt,asIntOf,run_underlying hu,Instr.sureAddr,eS W,hb.1,hb.2,iS,Nat.add_assoc]
    ·cases A
   ·cases g
  ·rename_i n e hu _
   simp only[oF,lJ] at g;obtain⟨sz,W,cx,F,ci,b3,g⟩:=g;cases g;have B:=aJ s F;have a4:=aJ s b3;simp only[cW] at A;obtain⟨G,rfl⟩:=iU A;unfold Rg at G;split at G
   ·rename_i id a0 k z N hi
    rw[N] at B;rw[hi] at a4;split at G
    ·rename_i hb
     cases G;obtain⟨p,hp,Q⟩:=B;refine aU.goal (s:=Instr.indexAt t (a.eval x) (.int k z)) (aU.still J L (x:= .pointer (some ⟨p.1,p.2.1+(a0+z.toNat*sz),none⟩)) ?_ ⟨p,hp,rfl⟩) (by simp only[execOp,hop];rw[show a.eval _= .int k z from a4]);rw[Q];simp [Instr.indexAt,asIntOf,run_underlying hu,Instr.sureAddr,eS W,hb.1,hb.2,iS,Nat.add_assoc]
    ·cases G
   ·cases G
  ·simp only[oF,lJ] at g
   obtain⟨e,a3,sz,W,cx,F,ci,b3,g⟩:=g;cases g;have B:=aJ s F;have a4:=aJ s b3;simp only[cW] at A;obtain⟨G,rfl⟩:=iU A;unfold Ko at G;split at G
   ·rename_i id a0 len f0 k n N hi
    rw[N] at B;rw[hi] at a4;split at G
    ·rename_i hb
     cases G;obtain⟨p,c,o',hp,Q,_,ho,_⟩:=B;obtain rfl:=ho om;refine aU.goal (s:=Instr.indexAt t (a.eval x) (.int k n)) (aU.still J L (x:= .pointer (some ⟨p.1,p.2.1+(o'+n.toNat*sz),none⟩)) ?_ ⟨p,hp,rfl⟩) (by simp only[execOp,hop];rw[show a.eval _= .int k n from a4]);rw[Q];simp [Instr.indexAt,asIntOf,run_underlying (lV a3),eS W,hb.1,hb.2,iS,Nat.add_assoc]
    ·cases G
   ·cases G
 case lookup t x k ok=>
  split at g
  ·rename_i kt et ht
   split at g
   ·rename_i sh b1
    simp only[oF,lJ] at g;obtain⟨zu,hz,cx,F,ck,Z,g⟩:=g;cases g;have B:=aJ s F;have Y:=aJ s Z;simp only[cW] at A;split at A
    ·rename_i id N
     rw[N] at B;split at A
     ·rename_i d1 es hg
      split at A
      ·rename_i U
       obtain⟨rfl,U⟩:=U;have hs:=Pq J L ht b1 hz B Y hg U ok;split at A
       ·rename_i u hu
        cases A;rw[hu] at hs;exact aU.goal (s:=Instr.lookup t (a.eval x) (a.eval k) ok) hs (by simp only[execOp,hop])
       ·rename_i hu
        cases A;rw[hu] at hs;exact aU.goal (s:=Instr.lookup t (a.eval x) (a.eval k) ok) hs (by simp only[execOp,hop])
      ·cases A
     ·cases A
    ·cases A
   simp only[oF,lJ] at g;obtain⟨j,hj,zu,hz,cx,F,ck,Z,g⟩:=g;cases g;have B:=aJ s F;have Y:=aJ s Z;simp only[cW] at A;split at A
   ·rename_i id kk n N hk
    rw[N] at B;rw[hk] at Y;split at A
    ·rename_i es hg
     split at A
     ·rename_i a8
      have hs:=Ri J L ht (mT hj) hz B Y hg a8 ok;split at A
      ·rename_i u hu
       cases A;rw[hu] at hs;exact aU.goal (s:=Instr.lookup t (a.eval x) (a.eval k) ok) hs (by simp only[execOp,hop])
      ·rename_i hu
       cases A;rw[hu] at hs;exact aU.goal (s:=Instr.lookup t (a.eval x) (a.eval k) ok) hs (by simp only[execOp,hop])
     ·cases A
    ·cases A
   ·cases A
  ·cases g
 case mapUpdate t x k y=>
  split at g
  ·rename_i kt et ht
   split at g
   ·rename_i sh b1
    simp only[oF,lJ] at g;obtain⟨cx,F,ck,Z,cy,K,g⟩:=g;cases g;have B:=aJ s F;have Y:=aJ s Z;have O:=aJ s K;simp only[cW] at A;split at A
    ·rename_i id N
     rw[N] at B;split at A
     ·rename_i d1 es hg
      split at A
      ·rename_i U
       obtain⟨rfl,U⟩:=U;cases A;obtain⟨w',h1,h2⟩:=Qd J L ht b1 B Y O hg U;exact sN (s:=Instr.mapUpdate t (a.eval x) (a.eval k) (a.eval y)) (by simp only[execOp,hop]) h1 h2
      ·cases A
     ·cases A
    ·cases A
   simp only[oF,lJ] at g;obtain⟨j,hj,cx,F,ck,Z,cy,K,g⟩:=g;cases g;have B:=aJ s F;have Y:=aJ s Z;have O:=aJ s K;simp only[cW] at A;split at A
   ·rename_i id kk n N hk
    rw[N] at B;rw[hk] at Y;split at A
    ·rename_i es hg
     split at A
     ·rename_i a8
      cases A;obtain⟨w',h1,h2⟩:=Mr J L ht (mT hj) B Y O hg a8;exact sN (s:=Instr.mapUpdate t (a.eval x) (a.eval k) (a.eval y)) (by simp only[execOp,hop]) h1 h2
     ·cases A
    ·cases A
   ·cases A
  ·cases g
 case mapEntry t x k=>
  split at g
  ·rename_i kt et ht
   split at g
   ·rename_i sh b1
    simp only[oF,lJ] at g;obtain⟨zu,hz,cx,F,ck,Z,g⟩:=g;cases g;have B:=aJ s F;have Y:=aJ s Z;simp only[cW] at A;split at A
    ·rename_i id N
     rw[N] at B;split at A
     ·rename_i d1 es hg
      split at A
      ·rename_i U
       obtain⟨rfl,U⟩:=U;have hs:=Sk J L ht b1 hz B Y hg U;split at A
       ·rename_i u hu
        cases A;rw[hu] at hs;exact aU.goal (s:=Instr.mapEntry t (a.eval x) (a.eval k)) hs (by simp only[execOp,hop])
       ·rename_i hu
        cases A;rw[hu] at hs;exact aU.goal (s:=Instr.mapEntry t (a.eval x) (a.eval k)) hs (by simp only[execOp,hop])
      ·cases A
     ·cases A
    ·cases A
   ·cases g
  ·cases g
 case entryStore t x k y=>
  simp only[oF,lJ] at g;obtain⟨cx,F,ck,Z,cy,K,g⟩:=g;cases g;have B:=aJ s F;have Y:=aJ s Z;have O:=aJ s K;simp only[cW] at A;split at A
  ·rename_i id n N hk
   rw[N] at B;rw[hk] at Y;split at A
   ·rename_i sh es hg
    split at A
    ·rename_i hn
     split at A
     ·rename_i e e4
      cases A;obtain⟨kk,u⟩:=e;obtain⟨w',h1,h2⟩:=Sy (t:=t) J L B O hg e4
      have d5:a.eval k= .int .i64 ((n.toNat:Nat):Int):=by
       rw[show a.eval k= .int .i64 n from Y];congr 1;omega
      rw[←d5] at h1;exact sN (s:=Instr.entryStore t (a.eval x) (a.eval k) (a.eval y)) (by simp only[execOp,hop]) h1 h2
     ·cases A
    ·cases A
   ·cases A
  ·cases A
 case index t x ix=>
  split at g
  ·rename_i ht
   simp only[oF,lJ] at g;obtain⟨cx,F,ci,b3,g⟩:=g;cases g;have B:=aJ s F;have a4:=aJ s b3;simp only[cW] at A;split at A
   ·rename_i l k z N hi
    rw[N] at B;rw[hi] at a4;split at A
    ·rename_i hz
     simp only[jB] at A;obtain⟨c,a5,A⟩:=A;cases A;refine aU.goal (s:=Instr.index t (a.eval x) (a.eval ix)) (aU.still J L (x:= .int .u8 ((c%256:Nat):Int)) ?_ rfl) (by simp only[execOp,hop]);rw[show a.eval x= .string ⟨(l.map UInt8.ofNat).toArray⟩ from B,show a.eval ix= .int k z from a4];have hb:(⟨(l.map UInt8.ofNat).toArray⟩:ByteArray)[z.toNat]? =some (UInt8.ofNat c):=BA a5;simp [Instr.index,asIntOf,run_underlying ht,hz,hb]
    ·cases A
   ·cases A
  ·cases g
 case extract x i2=>
  simp only[jB,dR.op.injEq] at g;obtain⟨cx,F,rfl⟩:=g;have B:=aJ s F;simp only[cW] at A;split at A
  ·rename_i vs N
   rw[N] at B;obtain⟨xs,Q,a7⟩:=B;obtain⟨G,rfl⟩:=iU A;obtain⟨y,hy,O⟩:=a7.get G;refine aU.goal (s:=Instr.extract (a.eval x) i2) (aU.still J L (x:=y) ?_ O) (by simp only[execOp,hop]);have c1:xs[i2]? =some y:=by simpa using hy
   rw[Q];simp [Instr.extract,c1]
  ·cases A
 case makeInterface t x=>
  split at g
  ·cases g;simp [cW] at A
  ·rename_i d cx d7 hu F
   cases g;have B:=aJ s F;simp only[cW] at A;cases A;refine aU.goal (s:=Instr.makeInterface t (a.eval x)) (aU.still J L (x:= .iface t (a.eval x)) ?_ ⟨_,rfl,B⟩) (by simp only[execOp,hop]);cases d<;>first
    |(simp [Instr.makeInterface,run_underlying hu];done)
    |exact (d7 _ rfl).elim
  ·cases g;simp [cW] at A
 case panic=>cases g;simp [cW] at A
 case call c=>exact Lb s J L hop g A
end
end
end Go.Ay
