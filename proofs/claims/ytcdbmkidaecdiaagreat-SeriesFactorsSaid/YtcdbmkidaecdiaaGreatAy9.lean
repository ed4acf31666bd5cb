/- One operation, whole: the other kinds. -/
import Derived.Test.YtcdbmkidaecdiaaGreatAy8b
namespace Go.Ay
open Go
section
variable {t ty e:TypeId} {op:BinOp} {x y:Operand} {cx cy:X}
section
variable {P:Program} {m:M} {h:H} {w:World} {o:Oper} {a:Act} {v:V} {h':H} {nt:Nat} {pv defs:List Nat} {vars loc:List V}
theorem IV {c:V}(b:lV P t=some c): ∃i z,P.info? t=some i/\i.zero=some z:=by
 unfold lV at b
 cases hi:P.info? t with
 |none=>simp [hi] at b
 |some i=>
  cases hzz:i.zero with
  |none=>simp [hi,hzz] at b
  |some z=>exact⟨i,z,rfl,hzz⟩
theorem kU {β:Type}{x:Option β}{h h':H}{v:β}(b:x.map (λy=>(y,h))=some (v,h')):x=some v/\h=h':=by
 cases x with
 |none=>simp at b
 |some u=>simp at b;exact⟨by rw[b.1],b.2⟩
theorem DA {agg:Bool}{n:Nat}(h:ldN P t=some (agg,n)):Qv P t=some agg/\(if agg then iV P t else some 1)=some n:=by
 unfold ldN at h;split at h
 ·rename_i c
  simp only[mJ] at h;obtain⟨k,b,h⟩:=h;cases h;exact⟨c,b⟩
 ·cases h;exact⟨by assumption,rfl⟩
 ·cases h
theorem Ov (s:St m nt pv defs vars loc a)(B:HR P m h w)(F:Al m h.next)(p:o.op= .binOp op t x y ty){k:IntKind}
  (l:fU pv defs x=some cx) (n:fU pv defs y=some cy) (c:cI (xv vars loc) h (.bin op k cx cy)=some (v,h')):Goal P m h w o a v h':=by
 have d:=aJ s l
 have f:=aJ s n
 simp only[cI] at c
 split at c
 ·rename_i j b K J A u
  rw[A] at d
  rw[u] at f
  split at c
  ·rename_i q
   obtain⟨i,rfl⟩:=kU c
   obtain⟨rfl,rfl⟩:=q
   obtain⟨z,G,r⟩:=Zm (P:=P) (m:=m) (w:=w) i t
   refine aT.goal (s:=do eqGuard op t x y (a.eval x) (a.eval y);binOp op t (a.eval x) (a.eval y)) (aT.still B F (x:=z) ?_ r) (by simp only[execOp,p])
   rw[show a.eval x= .int _ b from d,show a.eval y= .int _ J from f]
   simp [Jz,G]
  ·cases c
 ·cases c
theorem UX (s:St m nt pv defs vars loc a)(F:HR P m h w)(G:Al m h.next)(p:o.op= .binOp op t x y ty){k:IntKind}
  (l:fU pv defs x=some cx) (n:fU pv defs y=some cy) (c:cI (xv vars loc) h (.shf op k cx cy)=some (v,h')):Goal P m h w o a v h':=by
 have d:=aJ s l
 have f:=aJ s n
 simp only[cI] at c
 split at c
 ·rename_i j b r K B A
  rw[B] at d
  rw[A] at f
  split at c
  ·rename_i q
   obtain⟨i,rfl⟩:=kU c
   subst q
   obtain⟨z,J,u⟩:=DC (P:=P) (m:=m) (w:=w) (j:=r) i t
   refine aT.goal (s:=do eqGuard op t x y (a.eval x) (a.eval y);binOp op t (a.eval x) (a.eval y)) (aT.still F G (x:=z) ?_ u) (by simp only[execOp,p])
   rw[show a.eval x= .int _ b from d,show a.eval y= .int _ K from f]
   simp [Jz,J]
  ·cases c
 ·cases c
theorem BF (b:P.underlying t=some .bool)(x y:Bool):(Op.equal t (.bool x) (.bool y)).run P w= .ok (x==y) w:=by
 have: ∀d,(Op.equalIn (d+1) t (.bool x) (.bool y)).run P w= .ok (x==y) w:=λd=>by simp [Op.equalIn,run_underlying b]
 exact this 9999
theorem CC (b:P.underlying t=some (.slice e)):(Op.equal t (.slice none 0 0) (.slice none 0 0)).run P w= .ok true w:=by
 have: ∀d,(Op.equalIn (d+1) t (.slice none 0 0) (.slice none 0 0)).run P w= .ok true w:=λd=>by simp [Op.equalIn,run_underlying b]
 exact this 9999
theorem Ow (f:P.underlying t=some (.slice e))(b:Addr)(n c:Nat):(Op.equal t (.slice (some b) n c) (.slice none 0 0)).run P w= .ok false w:=by
 have: ∀d,(Op.equalIn (d+1) t (.slice (some b) n c) (.slice none 0 0)).run P w= .ok false w:=λd=>by simp [Op.equalIn,run_underlying f]
 exact this 9999
theorem acF (s:St m nt pv defs vars loc a)(z:HR P m h w)(A:Al m h.next)(u:op= .eql∨op= .neq)(l:o.op= .binOp op t x y ty)(p:P.underlying t=some .bool)
  (j:fU pv defs x=some cx) (k:fU pv defs y=some cy) {neg:Bool} (c:neg=(op matches .neq)) (i:cI (xv vars loc) h (.beq neg cx cy)=some (v,h')):Goal P m h w o a v h':=by
 have d:=aJ s j
 have f:=aJ s k
 simp only[cI] at i
 split at i
 ·rename_i b n r q
  rw[r] at d
  rw[q] at f
  cases i
  refine aT.goal (s:=do eqGuard op t x y (a.eval x) (a.eval y);binOp op t (a.eval x) (a.eval y)) (aT.still z A (x:= .bool (if neg then !(b==n) else b==n)) ?_ rfl) (by simp only[execOp,l])
  rw[show a.eval x= .bool b from d,show a.eval y= .bool n from f]
  subst c
  rcases u with rfl|rfl<;>simp [Ts,binOp,BF p]
 ·cases i
theorem JQ (s:St m nt pv defs vars loc a)(u:HR P m h w)(z:Al m h.next)(r:op= .eql∨op= .neq)(f:o.op= .binOp op t x y ty)(q:a.eval y= .slice none 0 0)(n:P.underlying t=some (.slice e))
  (l:fU pv defs x=some cx) {neg:Bool} (d:neg=(op matches .neq)) (j:cI (xv vars loc) h (.snil neg cx)=some (v,h')):Goal P m h w o a v h':=by
 have b:=aJ s l
 simp only[cI] at j
 split at j
 ·rename_i k
  rw[k] at b
  cases j
  refine aT.goal (s:=do eqGuard op t x y (a.eval x) (a.eval y);binOp op t (a.eval x) (a.eval y)) (aT.still u z (x:= .bool (!neg)) ?_ rfl) (by simp only[execOp,f])
  rw[show a.eval x= .slice none 0 0 from b,q]
  subst d
  rcases r with rfl|rfl<;>simp [vJ,binOp,CC n]
 ·rename_i id A len F k
  rw[k] at b
  cases j
  obtain⟨p,c,G,J,i,_⟩:=b
  refine aT.goal (s:=do eqGuard op t x y (a.eval x) (a.eval y);binOp op t (a.eval x) (a.eval y)) (aT.still u z (x:= .bool neg) ?_ rfl) (by simp only[execOp,f])
  rw[i,q]
  subst d
  rcases r with rfl|rfl<;>simp [vJ,binOp,Ow n]
 ·rename_i B k
  rw[k] at b
  cases j
  have i:a.eval x= .slice (some B) 0 0:=b
  refine aT.goal (s:=do eqGuard op t x y (a.eval x) (a.eval y);binOp op t (a.eval x) (a.eval y)) (aT.still u z (x:= .bool neg) ?_ rfl) (by simp only[execOp,f])
  rw[i,q]
  subst d
  rcases r with rfl|rfl<;>simp [vJ,binOp,Ow n]
 ·cases j
theorem Mh (s:St m nt pv defs vars loc a)(L:HR P m h w)(N:Al m h.next){i:I}(A:jO P pv defs o=some (.op i))(B:cI (xv vars loc) h i=some (v,h')):Goal P m h w o a v h':=by
 unfold jO at A;cases hop:o.op<;>simp only[hop] at A<;>try (cases A;done)
 case move x=>
  simp only[mJ,dR.op.injEq] at A;obtain⟨cx,G,rfl⟩:=A;simp only[cI] at B;cases B;exact Jq L N (by simp only[execOp,hop]) (aJ s G)
 case assign x=>
  simp only[mJ,dR.op.injEq] at A;obtain⟨cx,G,rfl⟩:=A;simp only[cI] at B;cases B;exact Jq L N (by simp only[execOp,hop]) (aJ s G)
 case pick c x y=>
  simp only[uV,qM] at A;obtain⟨cc,b5,cx,G,cy,K,A⟩:=A;cases A;have d2:=aJ s b5;simp only[cI] at B;split at B
  ·rename_i t ht
   rw[ht] at d2;cases B;refine aT.goal (s:=do pure (if ←asBool (a.eval c) then a.eval x else a.eval y)) (aT.still L N (x:=if t then a.eval x else a.eval y) ?_ ?_) (by simp only[execOp,hop];simp)
   ·rw[show a.eval c= .bool t from d2];simp [asBool]
   ·cases t
    ·simpa using aJ s K
    ·simpa using aJ s G
  ·cases B
 case alloc e=>
  simp only[uV,qM] at A;obtain⟨zu,hz,A⟩:=A;cases A;simp only[cI] at B;cases B;obtain⟨i2,z,hi,d1⟩:=IV hz;obtain⟨e0,e8,_⟩:=kC m hz hi d1;have U:=wQ L N [] e0 e8 e;simp only[vF,Array.toArray_toList] at U;refine aT.goal (s:=Instr.alloc e true (.tuple #[])) ⟨.pointer (some ⟨w.heap.size,0,none⟩),_,_,?_,⟨_,M.jR ..,rfl⟩,U⟩ (by simp only[execOp,hop]);simp [Instr.alloc,zeroValue,typeInfo,hi,d1,newVar,newRow]
 case box e x=>
  simp only[mJ,dR.op.injEq] at A;obtain⟨cx,G,rfl⟩:=A;simp only[cI] at B;split at B
  ·rename_i b0
   cases B;have hv:=VR.cells (aJ s G) b0;have U:=wQ L N [] hv (λc A=>(Kv.1 b0) c A) e;simp only[vF,Array.toArray_toList] at U;refine aT.goal (s:=Instr.box e (a.eval x)) ⟨.pointer (some ⟨w.heap.size,0,none⟩),_,_,?_,⟨_,M.jR ..,rfl⟩,U⟩ (by simp only[execOp,hop]);simp [Instr.box,newVar,newRow]
  ·cases B
 case build t parts=>
  simp only[uV,qM] at A;obtain⟨ps,c2,zu,hz,pl,e5,A⟩:=A;cases A;simp only[cI,mJ] at B;obtain⟨us,c4,B⟩:=B;cases B;obtain⟨h1,h2⟩:=Yh s (f:=λp x=>(p.1,x)) c2 (λ_ _=>rfl);refine aT.goal (s:=Instr.build t (parts.map λ(i,x)=>(i,a.eval x))) (JG L N hz e5 h1 (λj b q hb hq=>?_) c4) (by simp only[execOp,hop]);obtain⟨p,hp,e1,e2,e3⟩:=h2 j b q hb hq;exact⟨by rw[e1,e2],e3⟩
 case buildSlice t n parts=>
  simp only[uV,qM] at A;obtain⟨e,a4,sz,Y,A⟩:=A;split at A
  ·cases A
  ·rename_i b2
   have c0:sz≠0:=λe=>b2 (.inl e)
   have e7: ¬n*sz>2^24:=λe=>b2 (.inr (.inl e))
   have b9:mC P e sz=true:=by cases hq:mC P e sz with
    |true=>rfl
    |false=>exact absurd (.inr (.inr hq)) b2
   simp only[qM] at A;obtain⟨ps,c2,zu,hz,A⟩:=A;cases A;simp only[cI] at B;split at B
   ·rename_i us c4
    split at B
    ·rename_i b0
     cases B;obtain⟨a1,a2⟩:=jD c2;refine aT.goal (s:=Instr.buildSlice t n (parts.map λ(i,x)=>(i,a.eval x))) (KP L N (qX a4) Y hz b9 c0 e7 (by simpa using a1) (λj b q hb hq=>?_) c4 (λc A=>(Kv.1 b0) c A)) (by simp only[execOp,hop]);simp only[Ol,mJ] at hb;obtain⟨p,hp,rfl⟩:=hb;simp only[Array.toList_map,Ol,mJ] at hq;obtain⟨r,d8,rfl⟩:=hq;obtain⟨b',c9,d0⟩:=a2 j r d8;rw[hp] at c9;cases c9;simp only[mJ] at d0;obtain⟨x,O,rfl⟩:=d0;exact⟨rfl,aJ s O⟩
    ·cases B
   ·cases B
 case load t x=>
  split at A
  ·rename_i q hq
   obtain⟨c5,n⟩:=q;simp only[mJ,dR.op.injEq] at A;obtain⟨cx,G,rfl⟩:=A;simp only[cI] at B;obtain⟨J,rfl⟩:=kU B;obtain⟨y,h1,h2⟩:=AG L (DA hq).1 (DA hq).2 (aJ s G) J;exact aT.goal (s:=Instr.loadAt t (a.eval x)) (aT.still L N h1 h2) (by simp only[execOp,hop])
  ·cases A
 case store t x y=>
  simp only[uV,qM] at A;obtain⟨n,hn,cx,G,cy,K,A⟩:=A;cases A;have F:=aJ s G;have Q:=aJ s K;simp only[cI] at B;split at B
  ·rename_i id a3 O
   rw[O] at F;split at B
   ·rename_i a7
    simp only[mJ] at B;obtain⟨h2,c6,B⟩:=B;cases B;obtain⟨p,hp,R⟩:=F;obtain⟨w',iP,U⟩:=Bx L N c6 (VR.cells Q a7.2) (λc A=>(Kv.1 a7.2) c A) hp;refine Xv (s:=Instr.storeAt t (a.eval x) (a.eval y)) (by simp only[execOp,hop]) ?_ U
    have d4:(a.eval y).cells.size=n:=by
     have:=gZ.length (VR.cells Q a7.2);simp at this;omega
    rw[R];simp [Instr.storeAt,Instr.sureAddr,storeVar,uP hn,d4,iP]
   ·cases B
  ·cases B
 case nilCheck x=>
  simp only[mJ,dR.op.injEq] at A;obtain⟨cx,G,rfl⟩:=A;have F:=aJ s G;simp only[cI] at B;split at B
  ·rename_i id a3 O
   rw[O] at F;cases B;obtain⟨p,hp,R⟩:=F;refine Jq L N (x:= .pointer (some ⟨p.1,p.2.1+a3,none⟩)) ?_ ⟨p,hp,rfl⟩;simp only[execOp,hop,R]
  ·cases B
 case binOp op t x y ty=>
  cases op<;>simp only at A<;>try (cases A;done)
  all_goals first
   |(simp only[uV,qM] at A
     obtain⟨k,hk,cx,G,cy,K,A⟩:=A
     cases A
     exact Ov s L N hop G K B)
   |(simp only[uV,qM] at A
     obtain⟨k,hk,cx,G,cy,K,A⟩:=A
     cases A
     exact UX s L N hop G K B)
   |skip
  case add=>
   split at A
   ·simp only[uV,qM] at A
    obtain⟨cx,G,cy,K,A⟩:=A;cases A;have F:=aJ s G;have Q:=aJ s K;simp only[cI] at B;split at B
    ·rename_i sa sb O hy
     rw[O] at F;rw[hy] at Q;split at B
     ·rename_i hl
      cases B;exact aT.goal (anB (t:=t) (x:=x) (y:=y) L N F Q hl) (by simp only[execOp,hop])
     ·cases B
    ·cases B
   ·simp only[uV,qM] at A
    obtain⟨k,hk,cx,G,cy,K,A⟩:=A;cases A;exact Ov s L N hop G K B
  all_goals
   split at A
   ·simp only[uV,qM] at A
    obtain⟨cx,G,cy,K,A⟩:=A
    cases A
    exact Ov s L N hop G K B
   ·rename_i hk
    simp only[uV,qM] at A
    obtain⟨cx,G,cy,K,A⟩:=A
    cases A
    exact acF s L N (by simp) hop hk G K rfl B
   ·rename_i hk
    simp only[uV,qM] at A
    obtain⟨cx,G,cy,K,A⟩:=A
    cases A
    have F:=aJ s G
    have Q:=aJ s K
    simp only[cI] at B
    split at B
    ·rename_i sa sb O hy
     rw[O] at F
     rw[hy] at Q
     cases B
     first
      |exact aT.goal (akO (op:= .eql) (t:=t) (x:=x) (y:=y) L N (.inl rfl) F Q rfl) (by simp only[execOp,hop])
      |exact aT.goal (akO (op:= .neq) (t:=t) (x:=x) (y:=y) L N (.inr rfl) F Q rfl) (by simp only[execOp,hop])
    ·cases B
   ·rename_i e hk
    split at A
    ·simp only[uV,qM] at A
     obtain⟨cx,G,A⟩:=A
     cases A
     exact JQ s L N (by simp) hop rfl hk G rfl B
    ·cases A
   ·cases A
 case unOp op t x=>
  cases op<;>simp only at A<;>try (cases A;done)
  ·simp only[uV,qM] at A
   obtain⟨k,hk,cx,G,A⟩:=A;cases A;have F:=aJ s G;simp only[cI] at B;split at B
   ·rename_i j b O
    rw[O] at F;split at B
    ·rename_i e6
     subst e6;cases B;refine aT.goal (s:=Op.unary .neg (a.eval x)) (aT.still L N (x:= .int j (j.wrap (0-b))) ?_ rfl) (by simp only[execOp,hop]);rw[show a.eval x= .int _ b from F];simp [Op.unary,Op.intArith]
    ·cases B
   ·cases B
  ·simp only[mJ,dR.op.injEq] at A
   obtain⟨cx,G,rfl⟩:=A;have F:=aJ s G;simp only[cI] at B;split at B
   ·rename_i b O
    rw[O] at F;cases B;refine aT.goal (s:=Op.unary .not (a.eval x)) (aT.still L N (x:= .bool (!b)) ?_ rfl) (by simp only[execOp,hop]);rw[show a.eval x= .bool b from F];simp [Op.unary]
   ·cases B
 case convert src dst x=>
  split at A
  ·rename_i k0 k hs hd
   simp only[mJ,dR.op.injEq] at A;obtain⟨cx,G,rfl⟩:=A;have F:=aJ s G;simp only[cI] at B;split at B
   ·rename_i j b O
    rw[O] at F;cases B;refine aT.goal (s:=convert src dst (a.eval x)) (aT.still L N (x:= .int k (k.wrap b)) ?_ rfl) (by simp only[execOp,hop]);rw[show a.eval x= .int _ b from F];simp [convert,run_underlying hs,run_underlying hd,Conv.intToInt]
   ·cases B
  ·rename_i e hs hd
   split at A
   ·rename_i a4
    simp only[mJ,dR.op.injEq] at A;obtain⟨cx,G,rfl⟩:=A;have F:=aJ s G;simp only[cI] at B;obtain⟨J,rfl⟩:=kU B;exact aT.goal (s:=convert src dst (a.eval x)) (LD L N hs hd a4 F J) (by simp only[execOp,hop])
   ·cases A
  ·rename_i k0 hs hd
   simp only[mJ,dR.op.injEq] at A;obtain⟨cx,G,rfl⟩:=A;have F:=aJ s G;simp only[cI] at B;split at B
   ·rename_i k n O
    rw[O] at F;split at B
    ·rename_i hn
     cases B;exact aT.goal (s:=convert src dst (a.eval x)) (LI L N hs hd F hn.1 hn.2) (by simp only[execOp,hop])
    ·cases B
   ·cases B
  ·cases A
 case makeFunc fn first cs=>
  cases fn<;>simp only at A<;>try (cases A;done)
  rename_i f;split at A
  ·simp only[uV,qM] at A
   obtain⟨cf,d7,cc,b5,A⟩:=A;cases A;simp only[cI] at B;cases B;refine aT.goal (s:=Instr.makeFunc (.func f) (first.map a.eval) (cs.map a.eval)) (aT.still L N (x:= .func (.func f) (first.map a.eval) (cs.map a.eval)) rfl ⟨_,_,rfl,?_,?_⟩) (by simp only[execOp,hop])
   ·simpa using iM s d7
   ·simpa using iM s b5
  ·cases A
 case makeMap t r=>
  split at A
  ·rename_i kt et ht
   split at A
   ·rename_i sh b1
    simp only[mJ,dR.op.injEq] at A;obtain⟨cr,f0,rfl⟩:=A;have a8:=mK s f0;simp only[cI] at B;split at B
    ·rename_i b4
     cases B;have U:=iO.new L N (.wmap sh []) (.map #[] 0) (0,0) (λm' _ _=>⟨λi j a b hi=>by simp at hi,#[],0,heap_alloc_new w _,rfl,rfl,λi k v hi=>by simp at hi⟩);refine aT.goal (s:=Instr.makeMap t (r.map a.eval)) ⟨.map (some w.heap.size),_,_,?_,⟨_,M.jR ..,rfl⟩,U⟩ (by simp only[execOp,hop])
     cases r with
     |none=>simp [Instr.makeMap]
     |some x=>
      cases cr with
      |none=>exact a8.elim
      |some cx=>
       simp only[Option.map_some,Mb] at b4;have F:VR m (xv vars loc cx) (a.eval x):=a8;cases hxx:xv vars loc cx<;>rw[hxx] at b4<;>simp only[PF,Bool.false_eq_true] at b4;rename_i k n;rw[hxx] at F;have R:a.eval x= .int k n:=F;simp [Instr.makeMap,R,run_underlying ht,asInt,asIntOf]
    ·cases B
   ·split at A
    ·cases A
     simp only[cI] at B;cases B;have U:=iO.new L N (.map []) (.map #[] 0) (0,0) (λm' _ _=>⟨#[],0,heap_alloc_new w _,rfl,λi k v hi=>by simp at hi⟩);refine aT.goal (s:=Instr.makeMap t (Option.map a.eval none)) ⟨.map (some w.heap.size),_,_,?_,⟨_,M.jR ..,rfl⟩,U⟩ (by simp only[execOp,hop]);simp [Instr.makeMap]
    ·cases A
  ·cases A
 case makeSlice t l c=>
  simp only[uV,qM] at A;obtain⟨e,a4,sz,Y,A⟩:=A;split at A
  ·cases A
  ·rename_i b2
   have c0:sz≠0:=λe=>b2 (.inl e)
   have b9:mC P e sz=true:=by cases hq:mC P e sz with
    |true=>rfl
    |false=>exact absurd (.inr hq) b2
   simp only[qM] at A;obtain⟨d6,hb,zu,hz,cl,a9,cc,b5,A⟩:=A;cases A;simp only[cI] at B;exact aT.goal (s:=Instr.makeSlice t (a.eval l) (a.eval c)) (MS L N (qX a4) Y hb hz b9 c0 (aJ s a9) (aJ s b5) B) (by simp only[execOp,hop])
 case slice t x lo hi mx=>
  split at A
  ·rename_i n e hu
   simp only[uV,qM] at A;obtain⟨sz,Y,cx,G,cl,a9,ch,c3,A⟩:=A;cases A;have F:=aJ s G;simp only[cI] at B;split at B
   ·rename_i id a3 O
    rw[O] at F;obtain⟨J,rfl⟩:=kU B;exact aT.goal (s:=Instr.sliceAt t (a.eval x) (lo.map a.eval) (hi.map a.eval) none) (IJ L N hu Y F (mK s a9) (mK s c3) J) (by simp only[execOp,hop];rfl)
   ·cases B
  ·cases A
  ·rename_i mx _ _ _ _
   simp only[uV,qM] at A;obtain⟨e,a4,sz,Y,A⟩:=A;split at A
   ·cases A
   ·simp only[qM] at A
    obtain⟨cx,G,cl,a9,ch,c3,cm,e4,A⟩:=A;cases A;simp only[cI] at B;obtain⟨J,rfl⟩:=kU B;exact aT.goal (s:=Instr.sliceAt t (a.eval x) (lo.map a.eval) (hi.map a.eval) (mx.map a.eval)) (JD L N (qX a4) Y (aJ s G) (mK s a9) (mK s c3) (mK s e4) J) (by simp only[execOp,hop])
 case fieldAddr t x f=>
  simp only[uV,qM] at A;obtain⟨fd,b8,A⟩:=A;split at A
  ·cases A
  ·rename_i Y
   simp only[qM] at A;obtain⟨cx,G,A⟩:=A;cases A;have F:=aJ s G;simp only[cI] at B;split at B
   ·rename_i id a3 O
    rw[O] at F;cases B;obtain⟨p,hp,R⟩:=F;obtain⟨fs,b7,b6⟩:=Se b8
    cases hsz2:iV P fd.type with
    |none=>simp [hsz2] at Y
    |some n=>
     have hn: ¬n=0:=by simpa [hsz2] using Y
     refine aT.goal (s:=Instr.fieldAt t (a.eval x) f) (aT.still L N (x:= .pointer (some ⟨p.1,p.2.1+(a3+fd.offset),none⟩)) ?_ ⟨p,hp,rfl⟩) (by simp only[execOp,hop]);rw[R];simp [Instr.fieldAt,run_underlying b7,b6,Instr.sureAddr,fieldPlace,uP hsz2,hn,Ew,Nat.add_assoc]
   ·cases B
 case field t x f=>
  simp only[uV,qM] at A;obtain⟨fd,b8,c5,c7,n,hn,cx,G,A⟩:=A;cases A;have F:=aJ s G;obtain⟨fs,b7,b6⟩:=Se b8;simp only[cI] at B;split at B
  ·rename_i vs O
   rw[O] at F;obtain⟨xs,R,a8⟩:=F
   cases c5 with
   |true=>
    simp only[if_true,mJ] at B;obtain⟨ws,d5,B⟩:=B;cases B;obtain⟨rfl,f2,hl⟩:=sub_eq d5;refine aT.goal (s:=Instr.field t (a.eval x) f) (aT.still L N (x:= .agg (xs.extract fd.offset (fd.offset+n))) ?_ ⟨_,rfl,?_⟩) (by simp only[execOp,hop])
    ·rw[R]
     simp [Instr.field,run_underlying b7,b6,part,asAgg,ahS c7,uP hn]
    ·have:(xs.extract fd.offset (fd.offset+n)).toList=(xs.toList.drop fd.offset).take n:=by
      simp [List.extract_eq_take_drop]
     rw[this];exact (a8.drop _).take _
   |false=>
    simp only[Bool.false_eq_true,if_false] at B;obtain⟨J,rfl⟩:=kU B;obtain⟨y,hy,Q⟩:=a8.get J;refine aT.goal (s:=Instr.field t (a.eval x) f) (aT.still L N (x:=y) ?_ Q) (by simp only[execOp,hop]);rw[R];have c1:xs[fd.offset]? =some y:=by simpa using hy
    simp [Instr.field,run_underlying b7,b6,part,asAgg,ahS c7,c1]
  ·cases B
 case indexAddr t x ix=>
  split at A
  ·rename_i n e k z hu
   split at A
   ·rename_i hb
    simp only[uV,qM] at A;obtain⟨sz,Y,cx,G,A⟩:=A;cases A;have F:=aJ s G;simp only[cI] at B;split at B
    ·rename_i id a3 O
     rw[O] at F;cases B;obtain⟨p,hp,R⟩:=F;refine aT.goal (s:=Instr.indexAt t (a.eval x) (.int k z)) (aT.still L N (x:= .pointer (some ⟨p.1,p.2.1+(a3+z.toNat*sz),none⟩)) ?_ ⟨p,hp,rfl⟩) (by simp only[execOp,hop];rfl);rw[R];simp [Instr.indexAt,asIntOf,run_underlying hu,Instr.sureAddr,uP Y,hb.1,hb.2,Ew,Nat.add_assoc]
    ·cases B
   ·cases A
  ·rename_i n e hu _
   simp only[uV,qM] at A;obtain⟨sz,Y,cx,G,ci,b3,A⟩:=A;cases A;have F:=aJ s G;have a5:=aJ s b3;simp only[cI] at B;obtain⟨J,rfl⟩:=kU B;unfold KZ at J;split at J
   ·rename_i id a3 k z O hi
    rw[O] at F;rw[hi] at a5;split at J
    ·rename_i hb
     cases J;obtain⟨p,hp,R⟩:=F;refine aT.goal (s:=Instr.indexAt t (a.eval x) (.int k z)) (aT.still L N (x:= .pointer (some ⟨p.1,p.2.1+(a3+z.toNat*sz),none⟩)) ?_ ⟨p,hp,rfl⟩) (by simp only[execOp,hop];rw[show a.eval _= .int k z from a5]);rw[R];simp [Instr.indexAt,asIntOf,run_underlying hu,Instr.sureAddr,uP Y,hb.1,hb.2,Ew,Nat.add_assoc]
    ·cases J
   ·cases J
  ·simp only[uV,qM] at A
   obtain⟨e,a4,sz,Y,cx,G,ci,b3,A⟩:=A;cases A;have F:=aJ s G;have a5:=aJ s b3;simp only[cI] at B;obtain⟨J,rfl⟩:=kU B;unfold Dz at J;split at J
   ·rename_i id a3 len f1 k n O hi
    rw[O] at F;rw[hi] at a5;split at J
    ·rename_i hb
     cases J;obtain⟨p,c,o',hp,R,_,ho,_⟩:=F;obtain rfl:=ho om;refine aT.goal (s:=Instr.indexAt t (a.eval x) (.int k n)) (aT.still L N (x:= .pointer (some ⟨p.1,p.2.1+(o'+n.toNat*sz),none⟩)) ?_ ⟨p,hp,rfl⟩) (by simp only[execOp,hop];rw[show a.eval _= .int k n from a5]);rw[R];simp [Instr.indexAt,asIntOf,run_underlying (qX a4),uP Y,hb.1,hb.2,Ew,Nat.add_assoc]
    ·cases J
   ·cases J
 case lookup t x k ok=>
  split at A
  ·rename_i kt et ht
   split at A
   ·rename_i sh b1
    simp only[uV,qM] at A;obtain⟨zu,hz,cx,G,ck,a0,A⟩:=A;cases A;have F:=aJ s G;have Z:=aJ s a0;simp only[cI] at B;split at B
    ·rename_i id O
     rw[O] at F;split at B
     ·rename_i c8 es hg
      split at B
      ·rename_i W
       obtain⟨rfl,W⟩:=W;have hs:=JH L N ht b1 hz F Z hg W ok;split at B
       ·rename_i u hu
        cases B;rw[hu] at hs;exact aT.goal (s:=Instr.lookup t (a.eval x) (a.eval k) ok) hs (by simp only[execOp,hop])
       ·rename_i hu
        cases B;rw[hu] at hs;exact aT.goal (s:=Instr.lookup t (a.eval x) (a.eval k) ok) hs (by simp only[execOp,hop])
      ·cases B
     ·cases B
    ·cases B
   simp only[uV,qM] at A;obtain⟨j,hj,zu,hz,cx,G,ck,a0,A⟩:=A;cases A;have F:=aJ s G;have Z:=aJ s a0;simp only[cI] at B;split at B
   ·rename_i id kk n O hk
    rw[O] at F;rw[hk] at Z;split at B
    ·rename_i es hg
     split at B
     ·rename_i a6
      have hs:=JE L N ht (uE hj) hz F Z hg a6 ok;split at B
      ·rename_i u hu
       cases B;rw[hu] at hs;exact aT.goal (s:=Instr.lookup t (a.eval x) (a.eval k) ok) hs (by simp only[execOp,hop])
      ·rename_i hu
       cases B;rw[hu] at hs;exact aT.goal (s:=Instr.lookup t (a.eval x) (a.eval k) ok) hs (by simp only[execOp,hop])
     ·cases B
    ·cases B
   ·cases B
  ·cases A
 case mapUpdate t x k y=>
  split at A
  ·rename_i kt et ht
   split at A
   ·rename_i sh b1
    simp only[uV,qM] at A;obtain⟨cx,G,ck,a0,cy,K,A⟩:=A;cases A;have F:=aJ s G;have Z:=aJ s a0;have Q:=aJ s K;simp only[cI] at B;split at B
    ·rename_i id O
     rw[O] at F;split at B
     ·rename_i c8 es hg
      split at B
      ·rename_i W
       obtain⟨rfl,W⟩:=W;cases B;obtain⟨w',h1,h2⟩:=IT L N ht b1 F Z Q hg W;exact Xv (s:=Instr.mapUpdate t (a.eval x) (a.eval k) (a.eval y)) (by simp only[execOp,hop]) h1 h2
      ·cases B
     ·cases B
    ·cases B
   simp only[uV,qM] at A;obtain⟨j,hj,cx,G,ck,a0,cy,K,A⟩:=A;cases A;have F:=aJ s G;have Z:=aJ s a0;have Q:=aJ s K;simp only[cI] at B;split at B
   ·rename_i id kk n O hk
    rw[O] at F;rw[hk] at Z;split at B
    ·rename_i es hg
     split at B
     ·rename_i a6
      cases B;obtain⟨w',h1,h2⟩:=BS L N ht (uE hj) F Z Q hg a6;exact Xv (s:=Instr.mapUpdate t (a.eval x) (a.eval k) (a.eval y)) (by simp only[execOp,hop]) h1 h2
     ·cases B
    ·cases B
   ·cases B
  ·cases A
 case mapEntry t x k=>
  split at A
  ·rename_i kt et ht
   split at A
   ·rename_i sh b1
    simp only[uV,qM] at A;obtain⟨zu,hz,cx,G,ck,a0,A⟩:=A;cases A;have F:=aJ s G;have Z:=aJ s a0;simp only[cI] at B;split at B
    ·rename_i id O
     rw[O] at F;split at B
     ·rename_i c8 es hg
      split at B
      ·rename_i W
       obtain⟨rfl,W⟩:=W;have hs:=LZ L N ht b1 hz F Z hg W;split at B
       ·rename_i u hu
        cases B;rw[hu] at hs;exact aT.goal (s:=Instr.mapEntry t (a.eval x) (a.eval k)) hs (by simp only[execOp,hop])
       ·rename_i hu
        cases B;rw[hu] at hs;exact aT.goal (s:=Instr.mapEntry t (a.eval x) (a.eval k)) hs (by simp only[execOp,hop])
      ·cases B
     ·cases B
    ·cases B
   ·cases A
  ·cases A
 case entryStore t x k y=>
  simp only[uV,qM] at A;obtain⟨cx,G,ck,a0,cy,K,A⟩:=A;cases A;have F:=aJ s G;have Z:=aJ s a0;have Q:=aJ s K;simp only[cI] at B;split at B
  ·rename_i id n O hk
   rw[O] at F;rw[hk] at Z;split at B
   ·rename_i sh es hg
    split at B
    ·rename_i hn
     split at B
     ·rename_i e d9
      cases B;obtain⟨kk,u⟩:=e;obtain⟨w',h1,h2⟩:=KL (t:=t) L N F Q hg d9
      have e9:a.eval k= .int .i64 ((n.toNat:Nat):Int):=by
       rw[show a.eval k= .int .i64 n from Z];congr 1;omega
      rw[←e9] at h1;exact Xv (s:=Instr.entryStore t (a.eval x) (a.eval k) (a.eval y)) (by simp only[execOp,hop]) h1 h2
     ·cases B
    ·cases B
   ·cases B
  ·cases B
 case index t x ix=>
  split at A
  ·rename_i ht
   simp only[uV,qM] at A;obtain⟨cx,G,ci,b3,A⟩:=A;cases A;have F:=aJ s G;have a5:=aJ s b3;simp only[cI] at B;split at B
   ·rename_i l k z O hi
    rw[O] at F;rw[hi] at a5;split at B
    ·rename_i hz
     simp only[mJ] at B;obtain⟨c,a9,B⟩:=B;cases B;refine aT.goal (s:=Instr.index t (a.eval x) (a.eval ix)) (aT.still L N (x:= .int .u8 ((c%256:Nat):Int)) ?_ rfl) (by simp only[execOp,hop]);rw[show a.eval x= .string ⟨(l.map UInt8.ofNat).toArray⟩ from F,show a.eval ix= .int k z from a5];have hb:(⟨(l.map UInt8.ofNat).toArray⟩:ByteArray)[z.toNat]? =some (UInt8.ofNat c):=YE a9;simp [Instr.index,asIntOf,run_underlying ht,hz,hb]
    ·cases B
   ·cases B
  ·cases A
 case extract x i2=>
  simp only[mJ,dR.op.injEq] at A;obtain⟨cx,G,rfl⟩:=A;have F:=aJ s G;simp only[cI] at B;split at B
  ·rename_i vs O
   rw[O] at F;obtain⟨xs,R,a8⟩:=F;obtain⟨J,rfl⟩:=kU B;obtain⟨y,hy,Q⟩:=a8.get J;refine aT.goal (s:=Instr.extract (a.eval x) i2) (aT.still L N (x:=y) ?_ Q) (by simp only[execOp,hop]);have c1:xs[i2]? =some y:=by simpa using hy
   rw[R];simp [Instr.extract,c1]
  ·cases B
 case makeInterface t x=>
  split at A
  ·cases A;simp [cI] at B
  ·rename_i d cx d3 hu G
   cases A;have F:=aJ s G;simp only[cI] at B;cases B;refine aT.goal (s:=Instr.makeInterface t (a.eval x)) (aT.still L N (x:= .iface t (a.eval x)) ?_ ⟨_,rfl,F⟩) (by simp only[execOp,hop]);cases d<;>first
    |(simp [Instr.makeInterface,run_underlying hu];done)
    |exact (d3 _ rfl).elim
  ·cases A;simp [cI] at B
 case panic=>cases A;simp [cI] at B
 case call c=>exact DE s L N hop A B
end
end
end Go.Ay
