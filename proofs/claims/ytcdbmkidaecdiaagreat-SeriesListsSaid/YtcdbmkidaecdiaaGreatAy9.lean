/- One operation, whole: the other kinds. -/
import Derived.Test.YtcdbmkidaecdiaaGreatAy8b
namespace Go.Ay
open Go
section
variable {t ty e:TypeId} {op:BinOp} {x y:Operand} {cx cy:X}
section
variable {P:Program} {m:M} {h:H} {w:World} {o:Oper} {a:Act} {v:V} {h':H} {nt:Nat} {pv defs:List Nat} {vars loc:List V}
theorem NJ {c:V}(b:kU P t=some c): ∃i z,P.info? t=some i/\i.zero=some z:=by
 unfold kU at b
 cases hi:P.info? t with
 |none=>simp [hi] at b
 |some i=>
  cases hzz:i.zero with
  |none=>simp [hi,hzz] at b
  |some z=>exact⟨i,z,rfl,hzz⟩
theorem kE {β:Type}{x:Option β}{h h':H}{v:β}(b:x.map (λy=>(y,h))=some (v,h')):x=some v/\h=h':=by
 cases x with
 |none=>simp at b
 |some u=>simp at b;exact⟨by rw[b.1],b.2⟩
theorem FU {agg:Bool}{n:Nat}(h:ldN P t=some (agg,n)):Sd P t=some agg/\(if agg then iG P t else some 1)=some n:=by
 unfold ldN at h;split at h
 ·rename_i b
  simp only[lT] at h;obtain⟨k,c,h⟩:=h;cases h;exact⟨b,c⟩
 ·cases h;exact⟨by assumption,rfl⟩
 ·cases h
theorem Oq (s:St m nt pv defs vars loc a)(G:HR P m h w)(u:fW m h.next)(n:o.op= .binOp op t x y ty){k:IntKind}
  (i:fL pv defs x=some cx) (l:fL pv defs y=some cy) (c:cK (xv vars loc) h (.bin op k cx cy)=some (v,h')):Goal P m h w o a v h':=by
 have f:=aJ s i
 have d:=aJ s l
 simp only[cK] at c
 split at c
 ·rename_i j b J q F A
  rw[F] at f
  rw[A] at d
  split at c
  ·rename_i p
   obtain⟨g,rfl⟩:=kE c
   obtain⟨rfl,rfl⟩:=p
   obtain⟨z,r,B⟩:=Zi (P:=P) (m:=m) (w:=w) g t
   refine aT.goal (s:=do eqGuard op t x y (a.eval x) (a.eval y);binOp op t (a.eval x) (a.eval y)) (aT.still G u (x:=z) ?_ B) (by simp only[execOp,n])
   rw[show a.eval x= .int _ b from f,show a.eval y= .int _ q from d]
   simp [Kt,r]
  ·cases c
 ·cases c
theorem TB (s:St m nt pv defs vars loc a)(J:HR P m h w)(u:fW m h.next)(n:o.op= .binOp op t x y ty){k:IntKind}
  (i:fL pv defs x=some cx) (l:fL pv defs y=some cy) (c:cK (xv vars loc) h (.shf op k cx cy)=some (v,h')):Goal P m h w o a v h':=by
 have f:=aJ s i
 have d:=aJ s l
 simp only[cK] at c
 split at c
 ·rename_i j b G q F A
  rw[F] at f
  rw[A] at d
  split at c
  ·rename_i p
   obtain⟨g,rfl⟩:=kE c
   subst p
   obtain⟨z,r,B⟩:=FL (P:=P) (m:=m) (w:=w) (j:=G) g t
   refine aT.goal (s:=do eqGuard op t x y (a.eval x) (a.eval y);binOp op t (a.eval x) (a.eval y)) (aT.still J u (x:=z) ?_ B) (by simp only[execOp,n])
   rw[show a.eval x= .int _ b from f,show a.eval y= .int _ q from d]
   simp [Kt,r]
  ·cases c
 ·cases c
theorem EC (b:P.underlying t=some .bool)(x y:Bool):(Op.equal t (.bool x) (.bool y)).run P w= .ok (x==y) w:=by
 have: ∀d,(Op.equalIn (d+1) t (.bool x) (.bool y)).run P w= .ok (x==y) w:=λd=>by simp [Op.equalIn,run_underlying b]
 exact this 9999
theorem CC (b:P.underlying t=some (.slice e)):(Op.equal t (.slice none 0 0) (.slice none 0 0)).run P w= .ok true w:=by
 have: ∀d,(Op.equalIn (d+1) t (.slice none 0 0) (.slice none 0 0)).run P w= .ok true w:=λd=>by simp [Op.equalIn,run_underlying b]
 exact this 9999
theorem Nh (f:P.underlying t=some (.slice e))(b:Addr)(n c:Nat):(Op.equal t (.slice (some b) n c) (.slice none 0 0)).run P w= .ok false w:=by
 have: ∀d,(Op.equalIn (d+1) t (.slice (some b) n c) (.slice none 0 0)).run P w= .ok false w:=λd=>by simp [Op.equalIn,run_underlying f]
 exact this 9999
theorem acX (s:St m nt pv defs vars loc a)(n:HR P m h w)(q:fW m h.next)(p:op= .eql∨op= .neq)(l:o.op= .binOp op t x y ty)(z:P.underlying t=some .bool)
  (i:fL pv defs x=some cx) (k:fL pv defs y=some cy) {neg:Bool} (f:neg=(op matches .neq)) (g:cK (xv vars loc) h (.beq neg cx cy)=some (v,h')):Goal P m h w o a v h':=by
 have d:=aJ s i
 have c:=aJ s k
 simp only[cK] at g
 split at g
 ·rename_i b j u r
  rw[u] at d
  rw[r] at c
  cases g
  refine aT.goal (s:=do eqGuard op t x y (a.eval x) (a.eval y);binOp op t (a.eval x) (a.eval y)) (aT.still n q (x:= .bool (if neg then !(b==j) else b==j)) ?_ rfl) (by simp only[execOp,l])
  rw[show a.eval x= .bool b from d,show a.eval y= .bool j from c]
  subst f
  rcases p with rfl|rfl<;>simp [Uj,binOp,EC z]
 ·cases g
theorem KS (s:St m nt pv defs vars loc a)(l:HR P m h w)(q:fW m h.next)(n:op= .eql∨op= .neq)(g:o.op= .binOp op t x y ty)(r:a.eval y= .slice none 0 0)(u:P.underlying t=some (.slice e))
  (k:fL pv defs x=some cx) {neg:Bool} (d:neg=(op matches .neq)) (i:cK (xv vars loc) h (.snil neg cx)=some (v,h')):Goal P m h w o a v h':=by
 have b:=aJ s k
 simp only[cK] at i
 split at i
 ·rename_i j
  rw[j] at b
  cases i
  refine aT.goal (s:=do eqGuard op t x y (a.eval x) (a.eval y);binOp op t (a.eval x) (a.eval y)) (aT.still l q (x:= .bool (!neg)) ?_ rfl) (by simp only[execOp,g])
  rw[show a.eval x= .slice none 0 0 from b,r]
  subst d
  rcases n with rfl|rfl<;>simp [vM,binOp,CC u]
 ·rename_i id z len A j
  rw[j] at b
  cases i
  obtain⟨p,c,G,F,f,_⟩:=b
  refine aT.goal (s:=do eqGuard op t x y (a.eval x) (a.eval y);binOp op t (a.eval x) (a.eval y)) (aT.still l q (x:= .bool neg) ?_ rfl) (by simp only[execOp,g])
  rw[f,r]
  subst d
  rcases n with rfl|rfl<;>simp [vM,binOp,Nh u]
 ·rename_i B j
  rw[j] at b
  cases i
  have f:a.eval x= .slice (some B) 0 0:=b
  refine aT.goal (s:=do eqGuard op t x y (a.eval x) (a.eval y);binOp op t (a.eval x) (a.eval y)) (aT.still l q (x:= .bool neg) ?_ rfl) (by simp only[execOp,g])
  rw[f,r]
  subst d
  rcases n with rfl|rfl<;>simp [vM,binOp,Nh u]
 ·cases i
theorem On (s:St m nt pv defs vars loc a)(K:HR P m h w)(L:fW m h.next){i:I}(g:jG P pv defs o=some (.op i))(A:cK (xv vars loc) h i=some (v,h')):Goal P m h w o a v h':=by
 unfold jG at g;cases hop:o.op<;>simp only[hop] at g<;>try (cases g;done)
 case move x=>
  simp only[lT,dO.op.injEq] at g;obtain⟨cx,F,rfl⟩:=g;simp only[cK] at A;cases A;exact Ju K L (by simp only[execOp,hop]) (aJ s F)
 case assign x=>
  simp only[lT,dO.op.injEq] at g;obtain⟨cx,F,rfl⟩:=g;simp only[cK] at A;cases A;exact Ju K L (by simp only[execOp,hop]) (aJ s F)
 case pick c x y=>
  simp only[vD,qL] at g;obtain⟨cc,b3,cx,F,cy,J,g⟩:=g;cases g;have c7:=aJ s b3;simp only[cK] at A;split at A
  ·rename_i t ht
   rw[ht] at c7;cases A;refine aT.goal (s:=do pure (if ←asBool (a.eval c) then a.eval x else a.eval y)) (aT.still K L (x:=if t then a.eval x else a.eval y) ?_ ?_) (by simp only[execOp,hop];simp)
   ·rw[show a.eval c= .bool t from c7];simp [asBool]
   ·cases t
    ·simpa using aJ s J
    ·simpa using aJ s F
  ·cases A
 case alloc e=>
  simp only[vD,qL] at g;obtain⟨zu,hz,g⟩:=g;cases g;simp only[cK] at A;cases A;obtain⟨i2,z,hi,c6⟩:=NJ hz;obtain⟨e6,e4,_⟩:=jR m hz hi c6;have R:=wU K L [] e6 e4 e;simp only[tD,Array.toArray_toList] at R;refine aT.goal (s:=Instr.alloc e true (.tuple #[])) ⟨.pointer (some ⟨w.heap.size,0,none⟩),_,_,?_,⟨_,M.jH ..,rfl⟩,R⟩ (by simp only[execOp,hop]);simp [Instr.alloc,zeroValue,typeInfo,hi,c6,newVar,newRow]
 case box e x=>
  simp only[lT,dO.op.injEq] at g;obtain⟨cx,F,rfl⟩:=g;simp only[cK] at A;split at A
  ·rename_i a9
   cases A;have hv:=VR.cells (aJ s F) a9;have R:=wU K L [] hv (λc g=>(Lw.1 a9) c g) e;simp only[tD,Array.toArray_toList] at R;refine aT.goal (s:=Instr.box e (a.eval x)) ⟨.pointer (some ⟨w.heap.size,0,none⟩),_,_,?_,⟨_,M.jH ..,rfl⟩,R⟩ (by simp only[execOp,hop]);simp [Instr.box,newVar,newRow]
  ·cases A
 case build t parts=>
  simp only[vD,qL] at g;obtain⟨ps,c2,zu,hz,pl,e7,g⟩:=g;cases g;simp only[cK,lT] at A;obtain⟨us,c1,A⟩:=A;cases A;obtain⟨h1,h2⟩:=Xy s (f:=λp x=>(p.1,x)) c2 (λ_ _=>rfl);refine aT.goal (s:=Instr.build t (parts.map λ(i,x)=>(i,a.eval x))) (NX K L hz e7 h1 (λj b q hb hq=>?_) c1) (by simp only[execOp,hop]);obtain⟨p,hp,e1,e2,e3⟩:=h2 j b q hb hq;exact⟨by rw[e1,e2],e3⟩
 case buildSlice t n parts=>
  simp only[vD,qL] at g;obtain⟨e,a3,sz,W,g⟩:=g;split at g
  ·cases g
  ·rename_i b1
   have b8:sz≠0:=λe=>b1 (.inl e)
   have e0: ¬n*sz>2^24:=λe=>b1 (.inr (.inl e))
   have b9:BX P e sz=true:=by cases hq:BX P e sz with
    |true=>rfl
    |false=>exact absurd (.inr (.inr hq)) b1
   simp only[qL] at g;obtain⟨ps,c2,zu,hz,g⟩:=g;cases g;simp only[cK] at A;split at A
   ·rename_i us c1
    split at A
    ·rename_i a9
     cases A;obtain⟨a1,a2⟩:=iO c2;refine aT.goal (s:=Instr.buildSlice t n (parts.map λ(i,x)=>(i,a.eval x))) (MT K L (rF a3) W hz b9 b8 e0 (by simpa using a1) (λj b q hb hq=>?_) c1 (λc g=>(Lw.1 a9) c g)) (by simp only[execOp,hop]);simp only[Wy,lT] at hb;obtain⟨p,hp,rfl⟩:=hb;simp only[Array.toList_map,Wy,lT] at hq;obtain⟨r,e9,rfl⟩:=hq;obtain⟨b',c5,c4⟩:=a2 j r e9;rw[hp] at c5;cases c5;simp only[lT] at c4;obtain⟨x,N,rfl⟩:=c4;exact⟨rfl,aJ s N⟩
    ·cases A
   ·cases A
 case load t x=>
  split at g
  ·rename_i q hq
   obtain⟨d0,n⟩:=q;simp only[lT,dO.op.injEq] at g;obtain⟨cx,F,rfl⟩:=g;simp only[cK] at A;obtain⟨G,rfl⟩:=kE A;obtain⟨y,h1,h2⟩:=AS K (FU hq).1 (FU hq).2 (aJ s F) G;exact aT.goal (s:=Instr.loadAt t (a.eval x)) (aT.still K L h1 h2) (by simp only[execOp,hop])
  ·cases g
 case store t x y=>
  simp only[vD,qL] at g;obtain⟨n,hn,cx,F,cy,J,g⟩:=g;cases g;have B:=aJ s F;have O:=aJ s J;simp only[cK] at A;split at A
  ·rename_i id a0 N
   rw[N] at B;split at A
   ·rename_i a7
    simp only[lT] at A;obtain⟨h2,d1,A⟩:=A;cases A;obtain⟨p,hp,Q⟩:=B;obtain⟨w',iB,R⟩:=Cc K L d1 (VR.cells O a7.2) (λc g=>(Lw.1 a7.2) c g) hp;refine Bq (s:=Instr.storeAt t (a.eval x) (a.eval y)) (by simp only[execOp,hop]) ?_ R
    have e5:(a.eval y).cells.size=n:=by
     have:=gJ.length (VR.cells O a7.2);simp at this;omega
    rw[Q];simp [Instr.storeAt,Instr.sureAddr,storeVar,fE hn,e5,iB]
   ·cases A
  ·cases A
 case nilCheck x=>
  simp only[lT,dO.op.injEq] at g;obtain⟨cx,F,rfl⟩:=g;have B:=aJ s F;simp only[cK] at A;split at A
  ·rename_i id a0 N
   rw[N] at B;cases A;obtain⟨p,hp,Q⟩:=B;refine Ju K L (x:= .pointer (some ⟨p.1,p.2.1+a0,none⟩)) ?_ ⟨p,hp,rfl⟩;simp only[execOp,hop,Q]
  ·cases A
 case binOp op t x y ty=>
  cases op<;>simp only at g<;>try (cases g;done)
  all_goals first
   |(simp only[vD,qL] at g
     obtain⟨k,hk,cx,F,cy,J,g⟩:=g
     cases g
     exact Oq s K L hop F J A)
   |(simp only[vD,qL] at g
     obtain⟨k,hk,cx,F,cy,J,g⟩:=g
     cases g
     exact TB s K L hop F J A)
   |skip
  case add=>
   split at g
   ·simp only[vD,qL] at g
    obtain⟨cx,F,cy,J,g⟩:=g;cases g;have B:=aJ s F;have O:=aJ s J;simp only[cK] at A;split at A
    ·rename_i sa sb N hy
     rw[N] at B;rw[hy] at O;split at A
     ·rename_i hl
      cases A;exact aT.goal (MB (t:=t) (x:=x) (y:=y) K L B O hl) (by simp only[execOp,hop])
     ·cases A
    ·cases A
   ·simp only[vD,qL] at g
    obtain⟨k,hk,cx,F,cy,J,g⟩:=g;cases g;exact Oq s K L hop F J A
  all_goals
   split at g
   ·simp only[vD,qL] at g
    obtain⟨cx,F,cy,J,g⟩:=g
    cases g
    exact Oq s K L hop F J A
   ·rename_i hk
    simp only[vD,qL] at g
    obtain⟨cx,F,cy,J,g⟩:=g
    cases g
    exact acX s K L (by simp) hop hk F J rfl A
   ·rename_i hk
    simp only[vD,qL] at g
    obtain⟨cx,F,cy,J,g⟩:=g
    cases g
    have B:=aJ s F
    have O:=aJ s J
    simp only[cK] at A
    split at A
    ·rename_i sa sb N hy
     rw[N] at B
     rw[hy] at O
     cases A
     first
      |exact aT.goal (Sh (op:= .eql) (t:=t) (x:=x) (y:=y) K L (.inl rfl) B O rfl) (by simp only[execOp,hop])
      |exact aT.goal (Sh (op:= .neq) (t:=t) (x:=x) (y:=y) K L (.inr rfl) B O rfl) (by simp only[execOp,hop])
    ·cases A
   ·rename_i e hk
    split at g
    ·simp only[vD,qL] at g
     obtain⟨cx,F,g⟩:=g
     cases g
     exact KS s K L (by simp) hop rfl hk F rfl A
    ·cases g
   ·cases g
 case unOp op t x=>
  cases op<;>simp only at g<;>try (cases g;done)
  ·simp only[vD,qL] at g
   obtain⟨k,hk,cx,F,g⟩:=g;cases g;have B:=aJ s F;simp only[cK] at A;split at A
   ·rename_i j b N
    rw[N] at B;split at A
    ·rename_i d6
     subst d6;cases A;refine aT.goal (s:=Op.unary .neg (a.eval x)) (aT.still K L (x:= .int j (j.wrap (0-b))) ?_ rfl) (by simp only[execOp,hop]);rw[show a.eval x= .int _ b from B];simp [Op.unary,Op.intArith]
    ·cases A
   ·cases A
  ·simp only[lT,dO.op.injEq] at g
   obtain⟨cx,F,rfl⟩:=g;have B:=aJ s F;simp only[cK] at A;split at A
   ·rename_i b N
    rw[N] at B;cases A;refine aT.goal (s:=Op.unary .not (a.eval x)) (aT.still K L (x:= .bool (!b)) ?_ rfl) (by simp only[execOp,hop]);rw[show a.eval x= .bool b from B];simp [Op.unary]
   ·cases A
 case convert src dst x=>
  split at g
  ·rename_i k0 k hs hd
   simp only[lT,dO.op.injEq] at g;obtain⟨cx,F,rfl⟩:=g;have B:=aJ s F;simp only[cK] at A;split at A
   ·rename_i j b N
    rw[N] at B;cases A;refine aT.goal (s:=convert src dst (a.eval x)) (aT.still K L (x:= .int k (k.wrap b)) ?_ rfl) (by simp only[execOp,hop]);rw[show a.eval x= .int _ b from B];simp [convert,run_underlying hs,run_underlying hd,Conv.intToInt]
   ·cases A
  ·rename_i e hs hd
   split at g
   ·rename_i a3
    simp only[lT,dO.op.injEq] at g;obtain⟨cx,F,rfl⟩:=g;have B:=aJ s F;simp only[cK] at A;obtain⟨G,rfl⟩:=kE A;exact aT.goal (s:=convert src dst (a.eval x)) (NS K L hs hd a3 B G) (by simp only[execOp,hop])
   ·cases g
  ·rename_i k0 hs hd
   simp only[lT,dO.op.injEq] at g;obtain⟨cx,F,rfl⟩:=g;have B:=aJ s F;simp only[cK] at A;split at A
   ·rename_i k n N
    rw[N] at B;split at A
    ·rename_i hn
     cases A;exact aT.goal (s:=convert src dst (a.eval x)) (MO K L hs hd B hn.1 hn.2) (by simp only[execOp,hop])
    ·cases A
   ·cases A
  ·cases g
 case makeFunc fn first cs=>
  cases fn<;>simp only at g<;>try (cases g;done)
  rename_i f;split at g
  ·simp only[vD,qL] at g
   obtain⟨cf,e8,cc,b3,g⟩:=g;cases g;simp only[cK] at A;cases A;refine aT.goal (s:=Instr.makeFunc (.func f) (first.map a.eval) (cs.map a.eval)) (aT.still K L (x:= .func (.func f) (first.map a.eval) (cs.map a.eval)) rfl ⟨_,_,rfl,?_,?_⟩) (by simp only[execOp,hop])
   ·simpa using gY s e8
   ·simpa using gY s b3
  ·cases g
 case makeMap t r=>
  split at g
  ·rename_i kt et ht
   split at g
   ·rename_i sh b0
    simp only[lT,dO.op.injEq] at g;obtain⟨cr,d8,rfl⟩:=g;have a8:=lV s d8;simp only[cK] at A;split at A
    ·rename_i b4
     cases A;have R:=iC.new K L (.wmap sh []) (.map #[] 0) (0,0) (λm' _ _=>⟨λi j a b hi=>by simp at hi,#[],0,heap_alloc_new w _,rfl,rfl,λi k v hi=>by simp at hi⟩);refine aT.goal (s:=Instr.makeMap t (r.map a.eval)) ⟨.map (some w.heap.size),_,_,?_,⟨_,M.jH ..,rfl⟩,R⟩ (by simp only[execOp,hop])
     cases r with
     |none=>simp [Instr.makeMap]
     |some x=>
      cases cr with
      |none=>exact a8.elim
      |some cx=>
       simp only[Option.map_some,Mt] at b4;have B:VR m (xv vars loc cx) (a.eval x):=a8;cases hxx:xv vars loc cx<;>rw[hxx] at b4<;>simp only[XB,Bool.false_eq_true] at b4;rename_i k n;rw[hxx] at B;have Q:a.eval x= .int k n:=B;simp [Instr.makeMap,Q,run_underlying ht,asInt,asIntOf]
    ·cases A
   ·split at g
    ·cases g
     simp only[cK] at A;cases A;have R:=iC.new K L (.map []) (.map #[] 0) (0,0) (λm' _ _=>⟨#[],0,heap_alloc_new w _,rfl,λi k v hi=>by simp at hi⟩);refine aT.goal (s:=Instr.makeMap t (Option.map a.eval none)) ⟨.map (some w.heap.size),_,_,?_,⟨_,M.jH ..,rfl⟩,R⟩ (by simp only[execOp,hop]);simp [Instr.makeMap]
    ·cases g
  ·cases g
 case makeSlice t l c=>
  simp only[vD,qL] at g;obtain⟨e,a3,sz,W,g⟩:=g;split at g
  ·cases g
  ·rename_i b1
   have b8:sz≠0:=λe=>b1 (.inl e)
   have b9:BX P e sz=true:=by cases hq:BX P e sz with
    |true=>rfl
    |false=>exact absurd (.inr hq) b1
   simp only[qL] at g;obtain⟨d3,hb,zu,hz,cl,a5,cc,b3,g⟩:=g;cases g;simp only[cK] at A;exact aT.goal (s:=Instr.makeSlice t (a.eval l) (a.eval c)) (MW K L (rF a3) W hb hz b9 b8 (aJ s a5) (aJ s b3) A) (by simp only[execOp,hop])
 case slice t x lo hi mx=>
  split at g
  ·rename_i n e hu
   simp only[vD,qL] at g;obtain⟨sz,W,cx,F,cl,a5,ch,b7,g⟩:=g;cases g;have B:=aJ s F;simp only[cK] at A;split at A
   ·rename_i id a0 N
    rw[N] at B;obtain⟨G,rfl⟩:=kE A;exact aT.goal (s:=Instr.sliceAt t (a.eval x) (lo.map a.eval) (hi.map a.eval) none) (LR K L hu W B (lV s a5) (lV s b7) G) (by simp only[execOp,hop];rfl)
   ·cases A
  ·cases g
  ·rename_i mx _ _ _ _
   simp only[vD,qL] at g;obtain⟨e,a3,sz,W,g⟩:=g;split at g
   ·cases g
   ·simp only[qL] at g
    obtain⟨cx,F,cl,a5,ch,b7,cm,d9,g⟩:=g;cases g;simp only[cK] at A;obtain⟨G,rfl⟩:=kE A;exact aT.goal (s:=Instr.sliceAt t (a.eval x) (lo.map a.eval) (hi.map a.eval) (mx.map a.eval)) (LO K L (rF a3) W (aJ s F) (lV s a5) (lV s b7) (lV s d9) G) (by simp only[execOp,hop])
 case fieldAddr t x f=>
  simp only[vD,qL] at g;obtain⟨fd,c3,g⟩:=g;split at g
  ·cases g
  ·rename_i W
   simp only[qL] at g;obtain⟨cx,F,g⟩:=g;cases g;have B:=aJ s F;simp only[cK] at A;split at A
   ·rename_i id a0 N
    rw[N] at B;cases A;obtain⟨p,hp,Q⟩:=B;obtain⟨fs,b5,b6⟩:=Tw c3
    cases hsz2:iG P fd.type with
    |none=>simp [hsz2] at W
    |some n=>
     have hn: ¬n=0:=by simpa [hsz2] using W
     refine aT.goal (s:=Instr.fieldAt t (a.eval x) f) (aT.still K L (x:= .pointer (some ⟨p.1,p.2.1+(a0+fd.offset),none⟩)) ?_ ⟨p,hp,rfl⟩) (by simp only[execOp,hop]);rw[Q];simp [Instr.fieldAt,run_underlying b5,b6,Instr.sureAddr,fieldPlace,fE hsz2,hn,jW,Nat.add_assoc]
   ·cases A
 case field t x f=>
  simp only[vD,qL] at g;obtain⟨fd,c3,d0,c8,n,hn,cx,F,g⟩:=g;cases g;have B:=aJ s F;obtain⟨fs,b5,b6⟩:=Tw c3;simp only[cK] at A;split at A
  ·rename_i vs N
   rw[N] at B;obtain⟨xs,Q,a8⟩:=B
   cases d0 with
   |true=>
    simp only[if_true,lT] at A;obtain⟨ws,d5,A⟩:=A;cases A;obtain⟨rfl,f0,hl⟩:=sub_eq d5;refine aT.goal (s:=Instr.field t (a.eval x) f) (aT.still K L (x:= .agg (xs.extract fd.offset (fd.offset+n))) ?_ ⟨_,rfl,?_⟩) (by simp only[execOp,hop])
    ·rw[Q]
     simp [Instr.field,run_underlying b5,b6,part,asAgg,sM c8,fE hn]
    ·have:(xs.extract fd.offset (fd.offset+n)).toList=(xs.toList.drop fd.offset).take n:=by
      simp [List.extract_eq_take_drop]
     rw[this];exact (a8.drop _).take _
   |false=>
    simp only[Bool.false_eq_true,if_false] at A;obtain⟨G,rfl⟩:=kE A;obtain⟨y,hy,O⟩:=a8.get G;refine aT.goal (s:=Instr.field t (a.eval x) f) (aT.still K L (x:=y) ?_ O) (by simp only[execOp,hop]);rw[Q];have c0:xs[fd.offset]? =some y:=by simpa using hy
    simp [Instr.field,run_underlying b5,b6,part,asAgg,sM c8,c0]
  ·cases A
 case indexAddr t x ix=>
  split at g
  ·rename_i n e k z hu
   split at g
   ·rename_i hb
    simp only[vD,qL] at g;obtain⟨sz,W,cx,F,g⟩:=g;cases g;have B:=aJ s F;simp only[cK] at A;split at A
    ·rename_i id a0 N
     rw[N] at B;cases A;obtain⟨p,hp,Q⟩:=B;refine aT.goal (s:=Instr.indexAt t (a.eval x) (.int k z)) (aT.still K L (x:= .pointer (some ⟨p.1,p.2.1+(a0+z.toNat*sz),none⟩)) ?_ ⟨p,hp,rfl⟩) (by simp only[execOp,hop];rfl);rw[Q];simp [Instr.indexAt,asIntOf,run_underlying hu,Instr.sureAddr,fE W,hb.1,hb.2,jW,Nat.add_assoc]
    ·cases A
   ·cases g
  ·rename_i n e hu _
   simp only[vD,qL] at g;obtain⟨sz,W,cx,F,ci,b2,g⟩:=g;cases g;have B:=aJ s F;have a4:=aJ s b2;simp only[cK] at A;obtain⟨G,rfl⟩:=kE A;unfold OC at G;split at G
   ·rename_i id a0 k z N hi
    rw[N] at B;rw[hi] at a4;split at G
    ·rename_i hb
     cases G;obtain⟨p,hp,Q⟩:=B;refine aT.goal (s:=Instr.indexAt t (a.eval x) (.int k z)) (aT.still K L (x:= .pointer (some ⟨p.1,p.2.1+(a0+z.toNat*sz),none⟩)) ?_ ⟨p,hp,rfl⟩) (by simp only[execOp,hop];rw[show a.eval _= .int k z from a4]);rw[Q];simp [Instr.indexAt,asIntOf,run_underlying hu,Instr.sureAddr,fE W,hb.1,hb.2,jW,Nat.add_assoc]
    ·cases G
   ·cases G
  ·simp only[vD,qL] at g
   obtain⟨e,a3,sz,W,cx,F,ci,b2,g⟩:=g;cases g;have B:=aJ s F;have a4:=aJ s b2;simp only[cK] at A;obtain⟨G,rfl⟩:=kE A;unfold Gu at G;split at G
   ·rename_i id a0 len f1 k n N hi
    rw[N] at B;rw[hi] at a4;split at G
    ·rename_i hb
     cases G;obtain⟨p,c,o',hp,Q,_,ho,_⟩:=B;obtain rfl:=ho om;refine aT.goal (s:=Instr.indexAt t (a.eval x) (.int k n)) (aT.still K L (x:= .pointer (some ⟨p.1,p.2.1+(o'+n.toNat*sz),none⟩)) ?_ ⟨p,hp,rfl⟩) (by simp only[execOp,hop];rw[show a.eval _= .int k n from a4]);rw[Q];simp [Instr.indexAt,asIntOf,run_underlying (rF a3),fE W,hb.1,hb.2,jW,Nat.add_assoc]
    ·cases G
   ·cases G
 case lookup t x k ok=>
  split at g
  ·rename_i kt et ht
   split at g
   ·rename_i sh b0
    simp only[vD,qL] at g;obtain⟨zu,hz,cx,F,ck,Z,g⟩:=g;cases g;have B:=aJ s F;have Y:=aJ s Z;simp only[cK] at A;split at A
    ·rename_i id N
     rw[N] at B;split at A
     ·rename_i c9 es hg
      split at A
      ·rename_i U
       obtain⟨rfl,U⟩:=U;have hs:=NN K L ht b0 hz B Y hg U ok;split at A
       ·rename_i u hu
        cases A;rw[hu] at hs;exact aT.goal (s:=Instr.lookup t (a.eval x) (a.eval k) ok) hs (by simp only[execOp,hop])
       ·rename_i hu
        cases A;rw[hu] at hs;exact aT.goal (s:=Instr.lookup t (a.eval x) (a.eval k) ok) hs (by simp only[execOp,hop])
      ·cases A
     ·cases A
    ·cases A
   simp only[vD,qL] at g;obtain⟨j,hj,zu,hz,cx,F,ck,Z,g⟩:=g;cases g;have B:=aJ s F;have Y:=aJ s Z;simp only[cK] at A;split at A
   ·rename_i id kk n N hk
    rw[N] at B;rw[hk] at Y;split at A
    ·rename_i es hg
     split at A
     ·rename_i a6
      have hs:=JR K L ht (uC hj) hz B Y hg a6 ok;split at A
      ·rename_i u hu
       cases A;rw[hu] at hs;exact aT.goal (s:=Instr.lookup t (a.eval x) (a.eval k) ok) hs (by simp only[execOp,hop])
      ·rename_i hu
       cases A;rw[hu] at hs;exact aT.goal (s:=Instr.lookup t (a.eval x) (a.eval k) ok) hs (by simp only[execOp,hop])
     ·cases A
    ·cases A
   ·cases A
  ·cases g
 case mapUpdate t x k y=>
  split at g
  ·rename_i kt et ht
   split at g
   ·rename_i sh b0
    simp only[vD,qL] at g;obtain⟨cx,F,ck,Z,cy,J,g⟩:=g;cases g;have B:=aJ s F;have Y:=aJ s Z;have O:=aJ s J;simp only[cK] at A;split at A
    ·rename_i id N
     rw[N] at B;split at A
     ·rename_i c9 es hg
      split at A
      ·rename_i U
       obtain⟨rfl,U⟩:=U;cases A;obtain⟨w',h1,h2⟩:=LJ K L ht b0 B Y O hg U;exact Bq (s:=Instr.mapUpdate t (a.eval x) (a.eval k) (a.eval y)) (by simp only[execOp,hop]) h1 h2
      ·cases A
     ·cases A
    ·cases A
   simp only[vD,qL] at g;obtain⟨j,hj,cx,F,ck,Z,cy,J,g⟩:=g;cases g;have B:=aJ s F;have Y:=aJ s Z;have O:=aJ s J;simp only[cK] at A;split at A
   ·rename_i id kk n N hk
    rw[N] at B;rw[hk] at Y;split at A
    ·rename_i es hg
     split at A
     ·rename_i a6
      cases A;obtain⟨w',h1,h2⟩:=FJ K L ht (uC hj) B Y O hg a6;exact Bq (s:=Instr.mapUpdate t (a.eval x) (a.eval k) (a.eval y)) (by simp only[execOp,hop]) h1 h2
     ·cases A
    ·cases A
   ·cases A
  ·cases g
 case mapEntry t x k=>
  split at g
  ·rename_i kt et ht
   split at g
   ·rename_i sh b0
    simp only[vD,qL] at g;obtain⟨zu,hz,cx,F,ck,Z,g⟩:=g;cases g;have B:=aJ s F;have Y:=aJ s Z;simp only[cK] at A;split at A
    ·rename_i id N
     rw[N] at B;split at A
     ·rename_i c9 es hg
      split at A
      ·rename_i U
       obtain⟨rfl,U⟩:=U;have hs:=NH K L ht b0 hz B Y hg U;split at A
       ·rename_i u hu
        cases A;rw[hu] at hs;exact aT.goal (s:=Instr.mapEntry t (a.eval x) (a.eval k)) hs (by simp only[execOp,hop])
       ·rename_i hu
        cases A;rw[hu] at hs;exact aT.goal (s:=Instr.mapEntry t (a.eval x) (a.eval k)) hs (by simp only[execOp,hop])
      ·cases A
     ·cases A
    ·cases A
   ·cases g
  ·cases g
 case entryStore t x k y=>
  simp only[vD,qL] at g;obtain⟨cx,F,ck,Z,cy,J,g⟩:=g;cases g;have B:=aJ s F;have Y:=aJ s Z;have O:=aJ s J;simp only[cK] at A;split at A
  ·rename_i id n N hk
   rw[N] at B;rw[hk] at Y;split at A
   ·rename_i sh es hg
    split at A
    ·rename_i hn
     split at A
     ·rename_i e d2
      cases A;obtain⟨kk,u⟩:=e;obtain⟨w',h1,h2⟩:=KJ (t:=t) K L B O hg d2
      have d7:a.eval k= .int .i64 ((n.toNat:Nat):Int):=by
       rw[show a.eval k= .int .i64 n from Y];congr 1;omega
      rw[←d7] at h1;exact Bq (s:=Instr.entryStore t (a.eval x) (a.eval k) (a.eval y)) (by simp only[execOp,hop]) h1 h2
     ·cases A
    ·cases A
   ·cases A
  ·cases A
 case index t x ix=>
  split at g
  ·rename_i ht
   simp only[vD,qL] at g;obtain⟨cx,F,ci,b2,g⟩:=g;cases g;have B:=aJ s F;have a4:=aJ s b2;simp only[cK] at A;split at A
   ·rename_i l k z N hi
    rw[N] at B;rw[hi] at a4;split at A
    ·rename_i hz
     simp only[lT] at A;obtain⟨c,a5,A⟩:=A;cases A;refine aT.goal (s:=Instr.index t (a.eval x) (a.eval ix)) (aT.still K L (x:= .int .u8 ((c%256:Nat):Int)) ?_ rfl) (by simp only[execOp,hop]);rw[show a.eval x= .string ⟨(l.map UInt8.ofNat).toArray⟩ from B,show a.eval ix= .int k z from a4];have hb:(⟨(l.map UInt8.ofNat).toArray⟩:ByteArray)[z.toNat]? =some (UInt8.ofNat c):=abT a5;simp [Instr.index,asIntOf,run_underlying ht,hz,hb]
    ·cases A
   ·cases A
  ·cases g
 case extract x i2=>
  simp only[lT,dO.op.injEq] at g;obtain⟨cx,F,rfl⟩:=g;have B:=aJ s F;simp only[cK] at A;split at A
  ·rename_i vs N
   rw[N] at B;obtain⟨xs,Q,a8⟩:=B;obtain⟨G,rfl⟩:=kE A;obtain⟨y,hy,O⟩:=a8.get G;refine aT.goal (s:=Instr.extract (a.eval x) i2) (aT.still K L (x:=y) ?_ O) (by simp only[execOp,hop]);have c0:xs[i2]? =some y:=by simpa using hy
   rw[Q];simp [Instr.extract,c0]
  ·cases A
 case makeInterface t x=>
  split at g
  ·cases g;simp [cK] at A
  ·rename_i d cx d4 hu F
   cases g;have B:=aJ s F;simp only[cK] at A;cases A;refine aT.goal (s:=Instr.makeInterface t (a.eval x)) (aT.still K L (x:= .iface t (a.eval x)) ?_ ⟨_,rfl,B⟩) (by simp only[execOp,hop]);cases d<;>first
    |(simp [Instr.makeInterface,run_underlying hu];done)
    |exact (d4 _ rfl).elim
  ·cases g;simp [cK] at A
 case panic=>cases g;simp [cK] at A
 case call c=>exact EH s K L hop g A
end
end
end Go.Ay
