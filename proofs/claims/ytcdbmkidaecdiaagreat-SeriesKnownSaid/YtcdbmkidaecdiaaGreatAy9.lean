/- One operation, whole: the other kinds. -/
import Derived.Test.YtcdbmkidaecdiaaGreatAy8b
namespace Go.Ay
open Go
section
variable {t ty e:TypeId} {op:BinOp} {x y:Operand} {cx cy:X}
section
variable {P:Program} {m:M} {h:H} {w:World} {o:Oper} {a:Act} {v:V} {h':H} {nt:Nat} {pv defs:List Nat} {vars loc:List V}
theorem IV {c:V}(b:lV P t=some c): ∃i z,P.info? t=some i/\i.zero=some z:=by
 unfold lV at b
 cases hi:P.info? t with
 |none=>simp [hi] at b
 |some i=>
  cases hzz:i.zero with
  |none=>simp [hi,hzz] at b
  |some z=>exact⟨i,z,rfl,hzz⟩
theorem kU {β:Type}{x:Option β}{h h':H}{v:β}(b:x.map (λy=>(y,h))=some (v,h')):x=some v/\h=h':=by
 cases x with
 |none=>simp at b
 |some u=>simp at b;exact⟨by rw[b.1],b.2⟩
theorem DA {agg:Bool}{n:Nat}(h:ldN P t=some (agg,n)):Qv P t=some agg/\(if agg then iV P t else some 1)=some n:=by
 unfold ldN at h;split at h
 ·rename_i c
  simp only[mJ] at h;obtain⟨k,b,h⟩:=h;cases h;exact⟨c,b⟩
 ·cases h;exact⟨by assumption,rfl⟩
 ·cases h
theorem Ov (s:St m nt pv defs vars loc a)(A:HR P m h w)(F:gK m h.next)(n:o.op= .binOp op t x y ty){k:IntKind}
  (l:fU pv defs x=some cx) (i:fU pv defs y=some cy) (c:cI (xv vars loc) h (.bin op k cx cy)=some (v,h')):Goal P m h w o a v h':=by
 have d:=aJ s l
 have f:=aJ s i
 simp only[cI] at c
 split at c
 ·rename_i j b J G r u
  rw[r] at d
  rw[u] at f
  split at c
  ·rename_i p
   obtain⟨g,rfl⟩:=kU c
   obtain⟨rfl,rfl⟩:=p
   obtain⟨z,B,q⟩:=Zm (P:=P) (m:=m) (w:=w) g t
   refine aT.goal (s:=do eqGuard op t x y (a.eval x) (a.eval y);binOp op t (a.eval x) (a.eval y)) (aT.still A F (x:=z) ?_ q) (by simp only[execOp,n])
   rw[show a.eval x= .int _ b from d,show a.eval y= .int _ G from f]
   simp [Jz,B]
  ·cases c
 ·cases c
theorem UX (s:St m nt pv defs vars loc a)(B:HR P m h w)(G:gK m h.next)(n:o.op= .binOp op t x y ty){k:IntKind}
  (l:fU pv defs x=some cx) (i:fU pv defs y=some cy) (c:cI (xv vars loc) h (.shf op k cx cy)=some (v,h')):Goal P m h w o a v h':=by
 have d:=aJ s l
 have f:=aJ s i
 simp only[cI] at c
 split at c
 ·rename_i j b u J r A
  rw[r] at d
  rw[A] at f
  split at c
  ·rename_i p
   obtain⟨g,rfl⟩:=kU c
   subst p
   obtain⟨z,F,q⟩:=DC (P:=P) (m:=m) (w:=w) (j:=u) g t
   refine aT.goal (s:=do eqGuard op t x y (a.eval x) (a.eval y);binOp op t (a.eval x) (a.eval y)) (aT.still B G (x:=z) ?_ q) (by simp only[execOp,n])
   rw[show a.eval x= .int _ b from d,show a.eval y= .int _ J from f]
   simp [Jz,F]
  ·cases c
 ·cases c
theorem BF (b:P.underlying t=some .bool)(x y:Bool):(Op.equal t (.bool x) (.bool y)).run P w= .ok (x==y) w:=by
 have: ∀d,(Op.equalIn (d+1) t (.bool x) (.bool y)).run P w= .ok (x==y) w:=λd=>by simp [Op.equalIn,run_underlying b]
 exact this 9999
theorem CC (b:P.underlying t=some (.slice e)):(Op.equal t (.slice none 0 0) (.slice none 0 0)).run P w= .ok true w:=by
 have: ∀d,(Op.equalIn (d+1) t (.slice none 0 0) (.slice none 0 0)).run P w= .ok true w:=λd=>by simp [Op.equalIn,run_underlying b]
 exact this 9999
theorem Ow (f:P.underlying t=some (.slice e))(b:Addr)(n c:Nat):(Op.equal t (.slice (some b) n c) (.slice none 0 0)).run P w= .ok false w:=by
 have: ∀d,(Op.equalIn (d+1) t (.slice (some b) n c) (.slice none 0 0)).run P w= .ok false w:=λd=>by simp [Op.equalIn,run_underlying f]
 exact this 9999
theorem acF (s:St m nt pv defs vars loc a)(u:HR P m h w)(z:gK m h.next)(p:op= .eql∨op= .neq)(k:o.op= .binOp op t x y ty)(q:P.underlying t=some .bool)
  (j:fU pv defs x=some cx) (i:fU pv defs y=some cy) {neg:Bool} (f:neg=(op matches .neq)) (g:cI (xv vars loc) h (.beq neg cx cy)=some (v,h')):Goal P m h w o a v h':=by
 have c:=aJ s j
 have d:=aJ s i
 simp only[cI] at g
 split at g
 ·rename_i b l n r
  rw[n] at c
  rw[r] at d
  cases g
  refine aT.goal (s:=do eqGuard op t x y (a.eval x) (a.eval y);binOp op t (a.eval x) (a.eval y)) (aT.still u z (x:= .bool (if neg then !(b==l) else b==l)) ?_ rfl) (by simp only[execOp,k])
  rw[show a.eval x= .bool b from c,show a.eval y= .bool l from d]
  subst f
  rcases p with rfl|rfl<;>simp [Ts,binOp,BF q]
 ·cases g
theorem JQ (s:St m nt pv defs vars loc a)(r:HR P m h w)(u:gK m h.next)(k:op= .eql∨op= .neq)(g:o.op= .binOp op t x y ty)(n:a.eval y= .slice none 0 0)(l:P.underlying t=some (.slice e))
  (q:fU pv defs x=some cx) {neg:Bool} (d:neg=(op matches .neq)) (i:cI (xv vars loc) h (.snil neg cx)=some (v,h')):Goal P m h w o a v h':=by
 have b:=aJ s q
 simp only[cI] at i
 split at i
 ·rename_i j
  rw[j] at b
  cases i
  refine aT.goal (s:=do eqGuard op t x y (a.eval x) (a.eval y);binOp op t (a.eval x) (a.eval y)) (aT.still r u (x:= .bool (!neg)) ?_ rfl) (by simp only[execOp,g])
  rw[show a.eval x= .slice none 0 0 from b,n]
  subst d
  rcases k with rfl|rfl<;>simp [vJ,binOp,CC l]
 ·rename_i id B len A j
  rw[j] at b
  cases i
  obtain⟨p,c,F,G,f,_⟩:=b
  refine aT.goal (s:=do eqGuard op t x y (a.eval x) (a.eval y);binOp op t (a.eval x) (a.eval y)) (aT.still r u (x:= .bool neg) ?_ rfl) (by simp only[execOp,g])
  rw[f,n]
  subst d
  rcases k with rfl|rfl<;>simp [vJ,binOp,Ow l]
 ·rename_i z j
  rw[j] at b
  cases i
  have f:a.eval x= .slice (some z) 0 0:=b
  refine aT.goal (s:=do eqGuard op t x y (a.eval x) (a.eval y);binOp op t (a.eval x) (a.eval y)) (aT.still r u (x:= .bool neg) ?_ rfl) (by simp only[execOp,g])
  rw[f,n]
  subst d
  rcases k with rfl|rfl<;>simp [vJ,binOp,Ow l]
 ·cases i
theorem Mh (s:St m nt pv defs vars loc a)(J:HR P m h w)(L:gK m h.next){i:I}(g:jO P pv defs o=some (.op i))(A:cI (xv vars loc) h i=some (v,h')):Goal P m h w o a v h':=by
 unfold jO at g;cases hop:o.op<;>simp only[hop] at g<;>try (cases g;done)
 case move x=>
  simp only[mJ,dR.op.injEq] at g;obtain⟨cx,F,rfl⟩:=g;simp only[cI] at A;cases A;exact Jq J L (by simp only[execOp,hop]) (aJ s F)
 case assign x=>
  simp only[mJ,dR.op.injEq] at g;obtain⟨cx,F,rfl⟩:=g;simp only[cI] at A;cases A;exact Jq J L (by simp only[execOp,hop]) (aJ s F)
 case pick c x y=>
  simp only[uV,qM] at g;obtain⟨cc,b3,cx,F,cy,K,g⟩:=g;cases g;have c8:=aJ s b3;simp only[cI] at A;split at A
  ·rename_i t ht
   rw[ht] at c8;cases A;refine aT.goal (s:=do pure (if ←asBool (a.eval c) then a.eval x else a.eval y)) (aT.still J L (x:=if t then a.eval x else a.eval y) ?_ ?_) (by simp only[execOp,hop];simp)
   ·rw[show a.eval c= .bool t from c8];simp [asBool]
   ·cases t
    ·simpa using aJ s K
    ·simpa using aJ s F
  ·cases A
 case alloc e=>
  simp only[uV,qM] at g;obtain⟨zu,hz,g⟩:=g;cases g;simp only[cI] at A;cases A;obtain⟨i2,z,hi,c6⟩:=IV hz;obtain⟨e5,d2,_⟩:=kC m hz hi c6;have U:=wQ J L [] e5 d2 e;simp only[vF,Array.toArray_toList] at U;refine aT.goal (s:=Instr.alloc e true (.tuple #[])) ⟨.pointer (some ⟨w.heap.size,0,none⟩),_,_,?_,⟨_,M.jR ..,rfl⟩,U⟩ (by simp only[execOp,hop]);simp [Instr.alloc,zeroValue,typeInfo,hi,c6,newVar,newRow]
 case box e x=>
  simp only[mJ,dR.op.injEq] at g;obtain⟨cx,F,rfl⟩:=g;simp only[cI] at A;split at A
  ·rename_i a9
   cases A;have hv:=VR.cells (aJ s F) a9;have U:=wQ J L [] hv (λc g=>(Kv.1 a9) c g) e;simp only[vF,Array.toArray_toList] at U;refine aT.goal (s:=Instr.box e (a.eval x)) ⟨.pointer (some ⟨w.heap.size,0,none⟩),_,_,?_,⟨_,M.jR ..,rfl⟩,U⟩ (by simp only[execOp,hop]);simp [Instr.box,newVar,newRow]
  ·cases A
 case build t parts=>
  simp only[uV,qM] at g;obtain⟨ps,b8,zu,hz,pl,e6,g⟩:=g;cases g;simp only[cI,mJ] at A;obtain⟨us,b7,A⟩:=A;cases A;obtain⟨h1,h2⟩:=Yh s (f:=λp x=>(p.1,x)) b8 (λ_ _=>rfl);refine aT.goal (s:=Instr.build t (parts.map λ(i,x)=>(i,a.eval x))) (JG J L hz e6 h1 (λj b q hb hq=>?_) b7) (by simp only[execOp,hop]);obtain⟨p,hp,e1,e2,e3⟩:=h2 j b q hb hq;exact⟨by rw[e1,e2],e3⟩
 case buildSlice t n parts=>
  simp only[uV,qM] at g;obtain⟨e,a3,sz,W,g⟩:=g;split at g
  ·cases g
  ·rename_i b0
   have c2:sz≠0:=λe=>b0 (.inl e)
   have e8: ¬n*sz>2^24:=λe=>b0 (.inr (.inl e))
   have c0:AP P e sz=true:=by cases hq:AP P e sz with
    |true=>rfl
    |false=>exact absurd (.inr (.inr hq)) b0
   simp only[qM] at g;obtain⟨ps,b8,zu,hz,g⟩:=g;cases g;simp only[cI] at A;split at A
   ·rename_i us b7
    split at A
    ·rename_i a9
     cases A;obtain⟨a1,a2⟩:=jD b8;refine aT.goal (s:=Instr.buildSlice t n (parts.map λ(i,x)=>(i,a.eval x))) (KP J L (qX a3) W hz c0 c2 e8 (by simpa using a1) (λj b q hb hq=>?_) b7 (λc g=>(Kv.1 a9) c g)) (by simp only[execOp,hop]);simp only[Ol,mJ] at hb;obtain⟨p,hp,rfl⟩:=hb;simp only[Array.toList_map,Ol,mJ] at hq;obtain⟨r,e0,rfl⟩:=hq;obtain⟨b',c7,c5⟩:=a2 j r e0;rw[hp] at c7;cases c7;simp only[mJ] at c5;obtain⟨x,N,rfl⟩:=c5;exact⟨rfl,aJ s N⟩
    ·cases A
   ·cases A
 case load t x=>
  split at g
  ·rename_i q hq
   obtain⟨d0,n⟩:=q;simp only[mJ,dR.op.injEq] at g;obtain⟨cx,F,rfl⟩:=g;simp only[cI] at A;obtain⟨G,rfl⟩:=kU A;obtain⟨y,h1,h2⟩:=AG J (DA hq).1 (DA hq).2 (aJ s F) G;exact aT.goal (s:=Instr.loadAt t (a.eval x)) (aT.still J L h1 h2) (by simp only[execOp,hop])
  ·cases g
 case store t x y=>
  simp only[uV,qM] at g;obtain⟨n,hn,cx,F,cy,K,g⟩:=g;cases g;have B:=aJ s F;have O:=aJ s K;simp only[cI] at A;split at A
  ·rename_i id a0 N
   rw[N] at B;split at A
   ·rename_i a5
    simp only[mJ] at A;obtain⟨h2,c4,A⟩:=A;cases A;obtain⟨p,hp,Q⟩:=B;obtain⟨w',iP,U⟩:=Bx J L c4 (VR.cells O a5.2) (λc g=>(Kv.1 a5.2) c g) hp;refine Cc (s:=Instr.storeAt t (a.eval x) (a.eval y)) (by simp only[execOp,hop]) ?_ U
    have e7:(a.eval y).cells.size=n:=by
     have:=gZ.length (VR.cells O a5.2);simp at this;omega
    rw[Q];simp [Instr.storeAt,Instr.sureAddr,storeVar,fN hn,e7,iP]
   ·cases A
  ·cases A
 case nilCheck x=>
  simp only[mJ,dR.op.injEq] at g;obtain⟨cx,F,rfl⟩:=g;have B:=aJ s F;simp only[cI] at A;split at A
  ·rename_i id a0 N
   rw[N] at B;cases A;obtain⟨p,hp,Q⟩:=B;refine Jq J L (x:= .pointer (some ⟨p.1,p.2.1+a0,none⟩)) ?_ ⟨p,hp,rfl⟩;simp only[execOp,hop,Q]
  ·cases A
 case binOp op t x y ty=>
  cases op<;>simp only at g<;>try (cases g;done)
  all_goals first
   |(simp only[uV,qM] at g
     obtain⟨k,hk,cx,F,cy,K,g⟩:=g
     cases g
     exact Ov s J L hop F K A)
   |(simp only[uV,qM] at g
     obtain⟨k,hk,cx,F,cy,K,g⟩:=g
     cases g
     exact UX s J L hop F K A)
   |skip
  case add=>
   split at g
   ·simp only[uV,qM] at g
    obtain⟨cx,F,cy,K,g⟩:=g;cases g;have B:=aJ s F;have O:=aJ s K;simp only[cI] at A;split at A
    ·rename_i sa sb N hy
     rw[N] at B;rw[hy] at O;split at A
     ·rename_i hl
      cases A;exact aT.goal (LH (t:=t) (x:=x) (y:=y) J L B O hl) (by simp only[execOp,hop])
     ·cases A
    ·cases A
   ·simp only[uV,qM] at g
    obtain⟨k,hk,cx,F,cy,K,g⟩:=g;cases g;exact Ov s J L hop F K A
  all_goals
   split at g
   ·simp only[uV,qM] at g
    obtain⟨cx,F,cy,K,g⟩:=g
    cases g
    exact Ov s J L hop F K A
   ·rename_i hk
    simp only[uV,qM] at g
    obtain⟨cx,F,cy,K,g⟩:=g
    cases g
    exact acF s J L (by simp) hop hk F K rfl A
   ·rename_i hk
    simp only[uV,qM] at g
    obtain⟨cx,F,cy,K,g⟩:=g
    cases g
    have B:=aJ s F
    have O:=aJ s K
    simp only[cI] at A
    split at A
    ·rename_i sa sb N hy
     rw[N] at B
     rw[hy] at O
     cases A
     first
      |exact aT.goal (Ri (op:= .eql) (t:=t) (x:=x) (y:=y) J L (.inl rfl) B O rfl) (by simp only[execOp,hop])
      |exact aT.goal (Ri (op:= .neq) (t:=t) (x:=x) (y:=y) J L (.inr rfl) B O rfl) (by simp only[execOp,hop])
    ·cases A
   ·rename_i e hk
    split at g
    ·simp only[uV,qM] at g
     obtain⟨cx,F,g⟩:=g
     cases g
     exact JQ s J L (by simp) hop rfl hk F rfl A
    ·cases g
   ·cases g
 case unOp op t x=>
  cases op<;>simp only at g<;>try (cases g;done)
  ·simp only[uV,qM] at g
   obtain⟨k,hk,cx,F,g⟩:=g;cases g;have B:=aJ s F;simp only[cI] at A;split at A
   ·rename_i j b N
    rw[N] at B;split at A
    ·rename_i d9
     subst d9;cases A;refine aT.goal (s:=Op.unary .neg (a.eval x)) (aT.still J L (x:= .int j (j.wrap (0-b))) ?_ rfl) (by simp only[execOp,hop]);rw[show a.eval x= .int _ b from B];simp [Op.unary,Op.intArith]
    ·cases A
   ·cases A
  ·simp only[mJ,dR.op.injEq] at g
   obtain⟨cx,F,rfl⟩:=g;have B:=aJ s F;simp only[cI] at A;split at A
   ·rename_i b N
    rw[N] at B;cases A;refine aT.goal (s:=Op.unary .not (a.eval x)) (aT.still J L (x:= .bool (!b)) ?_ rfl) (by simp only[execOp,hop]);rw[show a.eval x= .bool b from B];simp [Op.unary]
   ·cases A
 case convert src dst x=>
  split at g
  ·rename_i k0 k hs hd
   simp only[mJ,dR.op.injEq] at g;obtain⟨cx,F,rfl⟩:=g;have B:=aJ s F;simp only[cI] at A;split at A
   ·rename_i j b N
    rw[N] at B;cases A;refine aT.goal (s:=convert src dst (a.eval x)) (aT.still J L (x:= .int k (k.wrap b)) ?_ rfl) (by simp only[execOp,hop]);rw[show a.eval x= .int _ b from B];simp [convert,run_underlying hs,run_underlying hd,Conv.intToInt]
   ·cases A
  ·rename_i e hs hd
   split at g
   ·rename_i a3
    simp only[mJ,dR.op.injEq] at g;obtain⟨cx,F,rfl⟩:=g;have B:=aJ s F;simp only[cI] at A;obtain⟨G,rfl⟩:=kU A;exact aT.goal (s:=convert src dst (a.eval x)) (LD J L hs hd a3 B G) (by simp only[execOp,hop])
   ·cases g
  ·rename_i k0 hs hd
   simp only[mJ,dR.op.injEq] at g;obtain⟨cx,F,rfl⟩:=g;have B:=aJ s F;simp only[cI] at A;split at A
   ·rename_i k n N
    rw[N] at B;split at A
    ·rename_i hn
     cases A;exact aT.goal (s:=convert src dst (a.eval x)) (LI J L hs hd B hn.1 hn.2) (by simp only[execOp,hop])
    ·cases A
   ·cases A
  ·cases g
 case makeFunc fn first cs=>
  cases fn<;>simp only at g<;>try (cases g;done)
  rename_i f;split at g
  ·simp only[uV,qM] at g
   obtain⟨cf,d6,cc,b3,g⟩:=g;cases g;simp only[cI] at A;cases A;refine aT.goal (s:=Instr.makeFunc (.func f) (first.map a.eval) (cs.map a.eval)) (aT.still J L (x:= .func (.func f) (first.map a.eval) (cs.map a.eval)) rfl ⟨_,_,rfl,?_,?_⟩) (by simp only[execOp,hop])
   ·simpa using iM s d6
   ·simpa using iM s b3
  ·cases g
 case makeMap t r=>
  split at g
  ·rename_i kt et ht
   split at g
   ·rename_i sh b1
    simp only[mJ,dR.op.injEq] at g;obtain⟨cr,d5,rfl⟩:=g;have a8:=mK s d5;simp only[cI] at A;split at A
    ·rename_i b2
     cases A;have U:=iO.new J L (.wmap sh []) (.map #[] 0) (0,0) (λm' _ _=>⟨λi j a b hi=>by simp at hi,#[],0,heap_alloc_new w _,rfl,rfl,λi k v hi=>by simp at hi⟩);refine aT.goal (s:=Instr.makeMap t (r.map a.eval)) ⟨.map (some w.heap.size),_,_,?_,⟨_,M.jR ..,rfl⟩,U⟩ (by simp only[execOp,hop])
     cases r with
     |none=>simp [Instr.makeMap]
     |some x=>
      cases cr with
      |none=>exact a8.elim
      |some cx=>
       simp only[Option.map_some,Mb] at b2;have B:VR m (xv vars loc cx) (a.eval x):=a8;cases hxx:xv vars loc cx<;>rw[hxx] at b2<;>simp only[PF,Bool.false_eq_true] at b2;rename_i k n;rw[hxx] at B;have Q:a.eval x= .int k n:=B;simp [Instr.makeMap,Q,run_underlying ht,asInt,asIntOf]
    ·cases A
   ·split at g
    ·cases g
     simp only[cI] at A;cases A;have U:=iO.new J L (.map []) (.map #[] 0) (0,0) (λm' _ _=>⟨#[],0,heap_alloc_new w _,rfl,λi k v hi=>by simp at hi⟩);refine aT.goal (s:=Instr.makeMap t (Option.map a.eval none)) ⟨.map (some w.heap.size),_,_,?_,⟨_,M.jR ..,rfl⟩,U⟩ (by simp only[execOp,hop]);simp [Instr.makeMap]
    ·cases g
  ·cases g
 case makeSlice t l c=>
  simp only[uV,qM] at g;obtain⟨e,a3,sz,W,g⟩:=g;split at g
  ·cases g
  ·rename_i b0
   have c2:sz≠0:=λe=>b0 (.inl e)
   have c0:AP P e sz=true:=by cases hq:AP P e sz with
    |true=>rfl
    |false=>exact absurd (.inr hq) b0
   simp only[qM] at g;obtain⟨e4,hb,zu,hz,cl,a7,cc,b3,g⟩:=g;cases g;simp only[cI] at A;exact aT.goal (s:=Instr.makeSlice t (a.eval l) (a.eval c)) (MS J L (qX a3) W hb hz c0 c2 (aJ s a7) (aJ s b3) A) (by simp only[execOp,hop])
 case slice t x lo hi mx=>
  split at g
  ·rename_i n e hu
   simp only[uV,qM] at g;obtain⟨sz,W,cx,F,cl,a7,ch,c1,g⟩:=g;cases g;have B:=aJ s F;simp only[cI] at A;split at A
   ·rename_i id a0 N
    rw[N] at B;obtain⟨G,rfl⟩:=kU A;exact aT.goal (s:=Instr.sliceAt t (a.eval x) (lo.map a.eval) (hi.map a.eval) none) (IJ J L hu W B (mK s a7) (mK s c1) G) (by simp only[execOp,hop];rfl)
   ·cases A
  ·cases g
  ·rename_i mx _ _ _ _
   simp only[uV,qM] at g;obtain⟨e,a3,sz,W,g⟩:=g;split at g
   ·cases g
   ·simp only[qM] at g
    obtain⟨cx,F,cl,a7,ch,c1,cm,e9,g⟩:=g;cases g;simp only[cI] at A;obtain⟨G,rfl⟩:=kU A;exact aT.goal (s:=Instr.sliceAt t (a.eval x) (lo.map a.eval) (hi.map a.eval) (mx.map a.eval)) (JD J L (qX a3) W (aJ s F) (mK s a7) (mK s c1) (mK s e9) G) (by simp only[execOp,hop])
 case fieldAddr t x f=>
  simp only[uV,qM] at g;obtain⟨fd,b9,g⟩:=g;split at g
  ·cases g
  ·rename_i W
   simp only[qM] at g;obtain⟨cx,F,g⟩:=g;cases g;have B:=aJ s F;simp only[cI] at A;split at A
   ·rename_i id a0 N
    rw[N] at B;cases A;obtain⟨p,hp,Q⟩:=B;obtain⟨fs,b6,b5⟩:=Se b9
    cases hsz2:iV P fd.type with
    |none=>simp [hsz2] at W
    |some n=>
     have hn: ¬n=0:=by simpa [hsz2] using W
     refine aT.goal (s:=Instr.fieldAt t (a.eval x) f) (aT.still J L (x:= .pointer (some ⟨p.1,p.2.1+(a0+fd.offset),none⟩)) ?_ ⟨p,hp,rfl⟩) (by simp only[execOp,hop]);rw[Q];simp [Instr.fieldAt,run_underlying b6,b5,Instr.sureAddr,fieldPlace,fN hsz2,hn,kS,Nat.add_assoc]
   ·cases A
 case field t x f=>
  simp only[uV,qM] at g;obtain⟨fd,b9,d0,c9,n,hn,cx,F,g⟩:=g;cases g;have B:=aJ s F;obtain⟨fs,b6,b5⟩:=Se b9;simp only[cI] at A;split at A
  ·rename_i vs N
   rw[N] at B;obtain⟨xs,Q,a8⟩:=B
   cases d0 with
   |true=>
    simp only[if_true,mJ] at A;obtain⟨ws,d3,A⟩:=A;cases A;obtain⟨rfl,f0,hl⟩:=sub_eq d3;refine aT.goal (s:=Instr.field t (a.eval x) f) (aT.still J L (x:= .agg (xs.extract fd.offset (fd.offset+n))) ?_ ⟨_,rfl,?_⟩) (by simp only[execOp,hop])
    ·rw[Q]
     simp [Instr.field,run_underlying b6,b5,part,asAgg,sS c9,fN hn]
    ·have:(xs.extract fd.offset (fd.offset+n)).toList=(xs.toList.drop fd.offset).take n:=by
      simp [List.extract_eq_take_drop]
     rw[this];exact (a8.drop _).take _
   |false=>
    simp only[Bool.false_eq_true,if_false] at A;obtain⟨G,rfl⟩:=kU A;obtain⟨y,hy,O⟩:=a8.get G;refine aT.goal (s:=Instr.field t (a.eval x) f) (aT.still J L (x:=y) ?_ O) (by simp only[execOp,hop]);rw[Q];have c3:xs[fd.offset]? =some y:=by simpa using hy
    simp [Instr.field,run_underlying b6,b5,part,asAgg,sS c9,c3]
  ·cases A
 case indexAddr t x ix=>
  split at g
  ·rename_i n e k z hu
   split at g
   ·rename_i hb
    simp only[uV,qM] at g;obtain⟨sz,W,cx,F,g⟩:=g;cases g;have B:=aJ s F;simp only[cI] at A;split at A
    ·rename_i id a0 N
     rw[N] at B;cases A;obtain⟨p,hp,Q⟩:=B;refine aT.goal (s:=Instr.indexAt t (a.eval x) (.int k z)) (aT.still J L (x:= .pointer (some ⟨p.1,p.2.1+(a0+z.toNat*sz),none⟩)) ?_ ⟨p,hp,rfl⟩) (by simp only[execOp,hop];rfl);rw[Q];simp [Instr.indexAt,asIntOf,run_underlying hu,Instr.sureAddr,fN W,hb.1,hb.2,kS,Nat.add_assoc]
    ·cases A
   ·cases g
  ·rename_i n e hu _
   simp only[uV,qM] at g;obtain⟨sz,W,cx,F,ci,b4,g⟩:=g;cases g;have B:=aJ s F;have a4:=aJ s b4;simp only[cI] at A;obtain⟨G,rfl⟩:=kU A;unfold KZ at G;split at G
   ·rename_i id a0 k z N hi
    rw[N] at B;rw[hi] at a4;split at G
    ·rename_i hb
     cases G;obtain⟨p,hp,Q⟩:=B;refine aT.goal (s:=Instr.indexAt t (a.eval x) (.int k z)) (aT.still J L (x:= .pointer (some ⟨p.1,p.2.1+(a0+z.toNat*sz),none⟩)) ?_ ⟨p,hp,rfl⟩) (by simp only[execOp,hop];rw[show a.eval _= .int k z from a4]);rw[Q];simp [Instr.indexAt,asIntOf,run_underlying hu,Instr.sureAddr,fN W,hb.1,hb.2,kS,Nat.add_assoc]
    ·cases G
   ·cases G
  ·simp only[uV,qM] at g
   obtain⟨e,a3,sz,W,cx,F,ci,b4,g⟩:=g;cases g;have B:=aJ s F;have a4:=aJ s b4;simp only[cI] at A;obtain⟨G,rfl⟩:=kU A;unfold Dz at G;split at G
   ·rename_i id a0 len f1 k n N hi
    rw[N] at B;rw[hi] at a4;split at G
    ·rename_i hb
     cases G;obtain⟨p,c,o',hp,Q,_,ho,_⟩:=B;obtain rfl:=ho om;refine aT.goal (s:=Instr.indexAt t (a.eval x) (.int k n)) (aT.still J L (x:= .pointer (some ⟨p.1,p.2.1+(o'+n.toNat*sz),none⟩)) ?_ ⟨p,hp,rfl⟩) (by simp only[execOp,hop];rw[show a.eval _= .int k n from a4]);rw[Q];simp [Instr.indexAt,asIntOf,run_underlying (qX a3),fN W,hb.1,hb.2,kS,Nat.add_assoc]
    ·cases G
   ·cases G
 case lookup t x k ok=>
  split at g
  ·rename_i kt et ht
   split at g
   ·rename_i sh b1
    simp only[uV,qM] at g;obtain⟨zu,hz,cx,F,ck,Z,g⟩:=g;cases g;have B:=aJ s F;have Y:=aJ s Z;simp only[cI] at A;split at A
    ·rename_i id N
     rw[N] at B;split at A
     ·rename_i d1 es hg
      split at A
      ·rename_i R
       obtain⟨rfl,R⟩:=R;have hs:=JH J L ht b1 hz B Y hg R ok;split at A
       ·rename_i u hu
        cases A;rw[hu] at hs;exact aT.goal (s:=Instr.lookup t (a.eval x) (a.eval k) ok) hs (by simp only[execOp,hop])
       ·rename_i hu
        cases A;rw[hu] at hs;exact aT.goal (s:=Instr.lookup t (a.eval x) (a.eval k) ok) hs (by simp only[execOp,hop])
      ·cases A
     ·cases A
    ·cases A
   simp only[uV,qM] at g;obtain⟨j,hj,zu,hz,cx,F,ck,Z,g⟩:=g;cases g;have B:=aJ s F;have Y:=aJ s Z;simp only[cI] at A;split at A
   ·rename_i id kk n N hk
    rw[N] at B;rw[hk] at Y;split at A
    ·rename_i es hg
     split at A
     ·rename_i a6
      have hs:=JE J L ht (uE hj) hz B Y hg a6 ok;split at A
      ·rename_i u hu
       cases A;rw[hu] at hs;exact aT.goal (s:=Instr.lookup t (a.eval x) (a.eval k) ok) hs (by simp only[execOp,hop])
      ·rename_i hu
       cases A;rw[hu] at hs;exact aT.goal (s:=Instr.lookup t (a.eval x) (a.eval k) ok) hs (by simp only[execOp,hop])
     ·cases A
    ·cases A
   ·cases A
  ·cases g
 case mapUpdate t x k y=>
  split at g
  ·rename_i kt et ht
   split at g
   ·rename_i sh b1
    simp only[uV,qM] at g;obtain⟨cx,F,ck,Z,cy,K,g⟩:=g;cases g;have B:=aJ s F;have Y:=aJ s Z;have O:=aJ s K;simp only[cI] at A;split at A
    ·rename_i id N
     rw[N] at B;split at A
     ·rename_i d1 es hg
      split at A
      ·rename_i R
       obtain⟨rfl,R⟩:=R;cases A;obtain⟨w',h1,h2⟩:=IT J L ht b1 B Y O hg R;exact Cc (s:=Instr.mapUpdate t (a.eval x) (a.eval k) (a.eval y)) (by simp only[execOp,hop]) h1 h2
      ·cases A
     ·cases A
    ·cases A
   simp only[uV,qM] at g;obtain⟨j,hj,cx,F,ck,Z,cy,K,g⟩:=g;cases g;have B:=aJ s F;have Y:=aJ s Z;have O:=aJ s K;simp only[cI] at A;split at A
   ·rename_i id kk n N hk
    rw[N] at B;rw[hk] at Y;split at A
    ·rename_i es hg
     split at A
     ·rename_i a6
      cases A;obtain⟨w',h1,h2⟩:=BS J L ht (uE hj) B Y O hg a6;exact Cc (s:=Instr.mapUpdate t (a.eval x) (a.eval k) (a.eval y)) (by simp only[execOp,hop]) h1 h2
     ·cases A
    ·cases A
   ·cases A
  ·cases g
 case mapEntry t x k=>
  split at g
  ·rename_i kt et ht
   split at g
   ·rename_i sh b1
    simp only[uV,qM] at g;obtain⟨zu,hz,cx,F,ck,Z,g⟩:=g;cases g;have B:=aJ s F;have Y:=aJ s Z;simp only[cI] at A;split at A
    ·rename_i id N
     rw[N] at B;split at A
     ·rename_i d1 es hg
      split at A
      ·rename_i R
       obtain⟨rfl,R⟩:=R;have hs:=LZ J L ht b1 hz B Y hg R;split at A
       ·rename_i u hu
        cases A;rw[hu] at hs;exact aT.goal (s:=Instr.mapEntry t (a.eval x) (a.eval k)) hs (by simp only[execOp,hop])
       ·rename_i hu
        cases A;rw[hu] at hs;exact aT.goal (s:=Instr.mapEntry t (a.eval x) (a.eval k)) hs (by simp only[execOp,hop])
      ·cases A
     ·cases A
    ·cases A
   ·cases g
  ·cases g
 case entryStore t x k y=>
  simp only[uV,qM] at g;obtain⟨cx,F,ck,Z,cy,K,g⟩:=g;cases g;have B:=aJ s F;have Y:=aJ s Z;have O:=aJ s K;simp only[cI] at A;split at A
  ·rename_i id n N hk
   rw[N] at B;rw[hk] at Y;split at A
   ·rename_i sh es hg
    split at A
    ·rename_i hn
     split at A
     ·rename_i e d4
      cases A;obtain⟨kk,u⟩:=e;obtain⟨w',h1,h2⟩:=KL (t:=t) J L B O hg d4
      have d8:a.eval k= .int .i64 ((n.toNat:Nat):Int):=by
       rw[show a.eval k= .int .i64 n from Y];congr 1;omega
      rw[←d8] at h1;exact Cc (s:=Instr.entryStore t (a.eval x) (a.eval k) (a.eval y)) (by simp only[execOp,hop]) h1 h2
     ·cases A
    ·cases A
   ·cases A
  ·cases A
 case index t x ix=>
  split at g
  ·rename_i ht
   simp only[uV,qM] at g;obtain⟨cx,F,ci,b4,g⟩:=g;cases g;have B:=aJ s F;have a4:=aJ s b4;simp only[cI] at A;split at A
   ·rename_i l k z N hi
    rw[N] at B;rw[hi] at a4;split at A
    ·rename_i hz
     simp only[mJ] at A;obtain⟨c,a7,A⟩:=A;cases A;refine aT.goal (s:=Instr.index t (a.eval x) (a.eval ix)) (aT.still J L (x:= .int .u8 ((c%256:Nat):Int)) ?_ rfl) (by simp only[execOp,hop]);rw[show a.eval x= .string ⟨(l.map UInt8.ofNat).toArray⟩ from B,show a.eval ix= .int k z from a4];have hb:(⟨(l.map UInt8.ofNat).toArray⟩:ByteArray)[z.toNat]? =some (UInt8.ofNat c):=YE a7;simp [Instr.index,asIntOf,run_underlying ht,hz,hb]
    ·cases A
   ·cases A
  ·cases g
 case extract x i2=>
  simp only[mJ,dR.op.injEq] at g;obtain⟨cx,F,rfl⟩:=g;have B:=aJ s F;simp only[cI] at A;split at A
  ·rename_i vs N
   rw[N] at B;obtain⟨xs,Q,a8⟩:=B;obtain⟨G,rfl⟩:=kU A;obtain⟨y,hy,O⟩:=a8.get G;refine aT.goal (s:=Instr.extract (a.eval x) i2) (aT.still J L (x:=y) ?_ O) (by simp only[execOp,hop]);have c3:xs[i2]? =some y:=by simpa using hy
   rw[Q];simp [Instr.extract,c3]
  ·cases A
 case makeInterface t x=>
  split at g
  ·cases g;simp [cI] at A
  ·rename_i d cx d7 hu F
   cases g;have B:=aJ s F;simp only[cI] at A;cases A;refine aT.goal (s:=Instr.makeInterface t (a.eval x)) (aT.still J L (x:= .iface t (a.eval x)) ?_ ⟨_,rfl,B⟩) (by simp only[execOp,hop]);cases d<;>first
    |(simp [Instr.makeInterface,run_underlying hu];done)
    |exact (d7 _ rfl).elim
  ·cases g;simp [cI] at A
 case panic=>cases g;simp [cI] at A
 case call c=>exact DE s J L hop g A
end
end
end Go.Ay
