/- One operation, whole: the other kinds. -/
import Derived.Test.YtcdbmkidaecdiaaGreatAy8b
namespace Go.Ay
open Go
section
variable {t ty e:TypeId} {op:BinOp} {x y:Operand} {cx cy:X}
section
variable {P:Program} {m:M} {h:H} {w:World} {o:Oper} {a:Act} {v:V} {h':H} {nt:Nat} {pv defs:List Nat} {vars loc:List V}
theorem NL {c:V}(b:sY P t=some c): ∃i z,P.info? t=some i/\i.zero=some z:=by
 unfold sY at b
 cases hi:P.info? t with
 |none=>simp [hi] at b
 |some i=>
  cases hzz:i.zero with
  |none=>simp [hi,hzz] at b
  |some z=>exact⟨i,z,rfl,hzz⟩
theorem oS {β:Type}{x:Option β}{h h':H}{v:β}(b:x.map (λy=>(y,h))=some (v,h')):x=some v/\h=h':=by
 cases x with
 |none=>simp at b
 |some u=>simp at b;exact⟨by rw[b.1],b.2⟩
theorem DZ {agg:Bool}{n:Nat}(h:ldN P t=some (agg,n)):Xg P t=some agg/\(if agg then jL P t else some 1)=some n:=by
 unfold ldN at h;split at h
 ·rename_i c
  simp only[oU] at h;obtain⟨k,b,h⟩:=h;cases h;exact⟨c,b⟩
 ·cases h;exact⟨by assumption,rfl⟩
 ·cases h
theorem Qt (s:St m nt pv defs vars loc a)(A:HR P m h w)(G:iY m h.next)(p:o.op= .binOp op t x y ty){k:IntKind}
  (i:iM pv defs x=some cx) (n:iM pv defs y=some cy) (c:fC (xv vars loc) h (.bin op k cx cy)=some (v,h')):Goal P m h w o a v h':=by
 have d:=aQ s i
 have f:=aQ s n
 simp only[fC] at c
 split at c
 ·rename_i j b K J u F
  rw[u] at d
  rw[F] at f
  split at c
  ·rename_i q
   obtain⟨l,rfl⟩:=oS c
   obtain⟨rfl,rfl⟩:=q
   obtain⟨z,r,B⟩:=AF (P:=P) (m:=m) (w:=w) l t
   refine bD.goal (s:=do eqGuard op t x y (a.eval x) (a.eval y);binOp op t (a.eval x) (a.eval y)) (bD.still A G (x:=z) ?_ B) (by simp only[execOp,p])
   rw[show a.eval x= .int _ b from d,show a.eval y= .int _ J from f]
   simp [Lj,r]
  ·cases c
 ·cases c
theorem XT (s:St m nt pv defs vars loc a)(B:HR P m h w)(J:iY m h.next)(p:o.op= .binOp op t x y ty){k:IntKind}
  (i:iM pv defs x=some cx) (n:iM pv defs y=some cy) (c:fC (xv vars loc) h (.shf op k cx cy)=some (v,h')):Goal P m h w o a v h':=by
 have d:=aQ s i
 have f:=aQ s n
 simp only[fC] at c
 split at c
 ·rename_i j b u K A G
  rw[A] at d
  rw[G] at f
  split at c
  ·rename_i q
   obtain⟨l,rfl⟩:=oS c
   subst q
   obtain⟨z,r,F⟩:=CM (P:=P) (m:=m) (w:=w) (j:=u) l t
   refine bD.goal (s:=do eqGuard op t x y (a.eval x) (a.eval y);binOp op t (a.eval x) (a.eval y)) (bD.still B J (x:=z) ?_ F) (by simp only[execOp,p])
   rw[show a.eval x= .int _ b from d,show a.eval y= .int _ K from f]
   simp [Lj,r]
  ·cases c
 ·cases c
theorem EY (b:P.underlying t=some .bool)(x y:Bool):(Op.equal t (.bool x) (.bool y)).run P w= .ok (x==y) w:=by
 have: ∀d,(Op.equalIn (d+1) t (.bool x) (.bool y)).run P w= .ok (x==y) w:=λd=>by simp [Op.equalIn,run_underlying b]
 exact this 9999
theorem CT (b:P.underlying t=some (.slice e)):(Op.equal t (.slice none 0 0) (.slice none 0 0)).run P w= .ok true w:=by
 have: ∀d,(Op.equalIn (d+1) t (.slice none 0 0) (.slice none 0 0)).run P w= .ok true w:=λd=>by simp [Op.equalIn,run_underlying b]
 exact this 9999
theorem Ov (f:P.underlying t=some (.slice e))(b:Addr)(n c:Nat):(Op.equal t (.slice (some b) n c) (.slice none 0 0)).run P w= .ok false w:=by
 have: ∀d,(Op.equalIn (d+1) t (.slice (some b) n c) (.slice none 0 0)).run P w= .ok false w:=λd=>by simp [Op.equalIn,run_underlying f]
 exact this 9999
theorem adM (s:St m nt pv defs vars loc a)(u:HR P m h w)(A:iY m h.next)(p:op= .eql∨op= .neq)(k:o.op= .binOp op t x y ty)(q:P.underlying t=some .bool)
  (l:iM pv defs x=some cx) (j:iM pv defs y=some cy) {neg:Bool} (f:neg=(op matches .neq)) (i:fC (xv vars loc) h (.beq neg cx cy)=some (v,h')):Goal P m h w o a v h':=by
 have c:=aQ s l
 have d:=aQ s j
 simp only[fC] at i
 split at i
 ·rename_i b n r z
  rw[r] at c
  rw[z] at d
  cases i
  refine bD.goal (s:=do eqGuard op t x y (a.eval x) (a.eval y);binOp op t (a.eval x) (a.eval y)) (bD.still u A (x:= .bool (if neg then !(b==n) else b==n)) ?_ rfl) (by simp only[execOp,k])
  rw[show a.eval x= .bool b from c,show a.eval y= .bool n from d]
  subst f
  rcases p with rfl|rfl<;>simp [Wn,binOp,EY q]
 ·cases i
theorem JT (s:St m nt pv defs vars loc a)(q:HR P m h w)(z:iY m h.next)(l:op= .eql∨op= .neq)(i:o.op= .binOp op t x y ty)(r:a.eval y= .slice none 0 0)(n:P.underlying t=some (.slice e))
  (u:iM pv defs x=some cx) {neg:Bool} (d:neg=(op matches .neq)) (j:fC (xv vars loc) h (.snil neg cx)=some (v,h')):Goal P m h w o a v h':=by
 have b:=aQ s u
 simp only[fC] at j
 split at j
 ·rename_i k
  rw[k] at b
  cases j
  refine bD.goal (s:=do eqGuard op t x y (a.eval x) (a.eval y);binOp op t (a.eval x) (a.eval y)) (bD.still q z (x:= .bool (!neg)) ?_ rfl) (by simp only[execOp,i])
  rw[show a.eval x= .slice none 0 0 from b,r]
  subst d
  rcases l with rfl|rfl<;>simp [xA,binOp,CT n]
 ·rename_i id A len F k
  rw[k] at b
  cases j
  obtain⟨p,c,G,J,f,_⟩:=b
  refine bD.goal (s:=do eqGuard op t x y (a.eval x) (a.eval y);binOp op t (a.eval x) (a.eval y)) (bD.still q z (x:= .bool neg) ?_ rfl) (by simp only[execOp,i])
  rw[f,r]
  subst d
  rcases l with rfl|rfl<;>simp [xA,binOp,Ov n]
 ·rename_i B k
  rw[k] at b
  cases j
  have f:a.eval x= .slice (some B) 0 0:=b
  refine bD.goal (s:=do eqGuard op t x y (a.eval x) (a.eval y);binOp op t (a.eval x) (a.eval y)) (bD.still q z (x:= .bool neg) ?_ rfl) (by simp only[execOp,i])
  rw[f,r]
  subst d
  rcases l with rfl|rfl<;>simp [xA,binOp,Ov n]
 ·cases j
theorem Qc (s:St m nt pv defs vars loc a)(L:HR P m h w)(N:iY m h.next){i:I}(A:pI P pv defs o=some (.op i))(B:fC (xv vars loc) h i=some (v,h')):Goal P m h w o a v h':=by
 unfold pI at A;cases hop:o.op<;>simp only[hop] at A<;>try (cases A;done)
 case move x=>
  simp only[oU,fO.op.injEq] at A;obtain⟨cx,F,rfl⟩:=A;simp only[fC] at B;cases B;exact Kz L N (by simp only[execOp,hop]) (aQ s F)
 case assign x=>
  simp only[oU,fO.op.injEq] at A;obtain⟨cx,F,rfl⟩:=A;simp only[fC] at B;cases B;exact Kz L N (by simp only[execOp,hop]) (aQ s F)
 case pick c x y=>
  simp only[Da,xP] at A;obtain⟨cc,a7,cx,F,cy,K,A⟩:=A;cases A;have c1:=aQ s a7;simp only[fC] at B;split at B
  ·rename_i t ht
   rw[ht] at c1;cases B;refine bD.goal (s:=do pure (if ←asBool (a.eval c) then a.eval x else a.eval y)) (bD.still L N (x:=if t then a.eval x else a.eval y) ?_ ?_) (by simp only[execOp,hop];simp)
   ·rw[show a.eval c= .bool t from c1];simp [asBool]
   ·cases t
    ·simpa using aQ s K
    ·simpa using aQ s F
  ·cases B
 case alloc e=>
  simp only[Da,xP] at A;obtain⟨zu,hz,A⟩:=A;cases A;simp only[fC] at B;cases B;obtain⟨i2,z,hi,c2⟩:=NL hz;obtain⟨c5,c9,_⟩:=qY m hz hi c2;have U:=xU L N [] c5 c9 e;simp only[tZ,Array.toArray_toList] at U;refine bD.goal (s:=Instr.alloc e true (.tuple #[])) ⟨.pointer (some ⟨w.heap.size,0,none⟩),_,_,?_,⟨_,M.pJ ..,rfl⟩,U⟩ (by simp only[execOp,hop]);simp [Instr.alloc,zeroValue,typeInfo,hi,c2,newVar,newRow]
 case box e x=>
  simp only[oU,fO.op.injEq] at A;obtain⟨cx,F,rfl⟩:=A;simp only[fC] at B;split at B
  ·rename_i a5
   cases B;have hv:=VR.cells (aQ s F) a5;have U:=xU L N [] hv (λc A=>(zP.1 a5) c A) e;simp only[tZ,Array.toArray_toList] at U;refine bD.goal (s:=Instr.box e (a.eval x)) ⟨.pointer (some ⟨w.heap.size,0,none⟩),_,_,?_,⟨_,M.pJ ..,rfl⟩,U⟩ (by simp only[execOp,hop]);simp [Instr.box,newVar,newRow]
  ·cases B
 case build t parts=>
  simp only[Da,xP] at A;obtain⟨ps,b6,zu,hz,pl,d3,A⟩:=A;cases A;simp only[fC,oU] at B;obtain⟨us,b4,B⟩:=B;cases B;obtain⟨h1,h2⟩:=AW s (f:=λp x=>(p.1,x)) b6 (λ_ _=>rfl);refine bD.goal (s:=Instr.build t (parts.map λ(i,x)=>(i,a.eval x))) (KK L N hz d3 h1 (λj b q hb hq=>?_) b4) (by simp only[execOp,hop]);obtain⟨p,hp,e1,e2,e3⟩:=h2 j b q hb hq;exact⟨by rw[e1,e2],e3⟩
 case buildSlice t n parts=>
  simp only[Da,xP] at A;obtain⟨e,Z,sz,R,A⟩:=A;split at A
  ·cases A
  ·rename_i a6
   have b7:sz≠0:=λe=>a6 (.inl e)
   have e0: ¬n*sz>2^24:=λe=>a6 (.inr (.inl e))
   have b5:BL P e sz=true:=by cases hq:BL P e sz with
    |true=>rfl
    |false=>exact absurd (.inr (.inr hq)) a6
   simp only[xP] at A;obtain⟨ps,b6,zu,hz,A⟩:=A;cases A;simp only[fC] at B;split at B
   ·rename_i us b4
    split at B
    ·rename_i a5
     cases B;obtain⟨a1,a2⟩:=jC b6;refine bD.goal (s:=Instr.buildSlice t n (parts.map λ(i,x)=>(i,a.eval x))) (KV L N (uS Z) R hz b5 b7 e0 (by simpa using a1) (λj b q hb hq=>?_) b4 (λc A=>(zP.1 a5) c A)) (by simp only[execOp,hop]);simp only[Qy,oU] at hb;obtain⟨p,hp,rfl⟩:=hb;simp only[Array.toList_map,Qy,oU] at hq;obtain⟨r,d8,rfl⟩:=hq;obtain⟨b',b9,c3⟩:=a2 j r d8;rw[hp] at b9;cases b9;simp only[oU] at c3;obtain⟨x,O,rfl⟩:=c3;exact⟨rfl,aQ s O⟩
    ·cases B
   ·cases B
 case load t x=>
  split at A
  ·rename_i q hq
   obtain⟨e4,n⟩:=q;simp only[oU,fO.op.injEq] at A;obtain⟨cx,F,rfl⟩:=A;simp only[fC] at B;obtain⟨J,rfl⟩:=oS B;obtain⟨y,h1,h2⟩:=BH L (DZ hq).1 (DZ hq).2 (aQ s F) J;exact bD.goal (s:=Instr.loadAt t (a.eval x)) (bD.still L N h1 h2) (by simp only[execOp,hop])
  ·cases A
 case store t x y=>
  simp only[Da,xP] at A;obtain⟨n,hn,cx,F,cy,K,A⟩:=A;cases A;have G:=aQ s F;have W:=aQ s K;simp only[fC] at B;split at B
  ·rename_i id a0 O
   rw[O] at G;split at B
   ·rename_i a4
    simp only[oU] at B;obtain⟨h2,c0,B⟩:=B;cases B;obtain⟨p,hp,Q⟩:=G;obtain⟨w',jI,U⟩:=Dq L N c0 (VR.cells W a4.2) (λc A=>(zP.1 a4.2) c A) hp;refine Ts (s:=Instr.storeAt t (a.eval x) (a.eval y)) (by simp only[execOp,hop]) ?_ U
    have d2:(a.eval y).cells.size=n:=by
     have:=iR.length (VR.cells W a4.2);simp at this;omega
    rw[Q];simp [Instr.storeAt,Instr.sureAddr,storeVar,iO hn,d2,jI]
   ·cases B
  ·cases B
 case nilCheck x=>
  simp only[oU,fO.op.injEq] at A;obtain⟨cx,F,rfl⟩:=A;have G:=aQ s F;simp only[fC] at B;split at B
  ·rename_i id a0 O
   rw[O] at G;cases B;obtain⟨p,hp,Q⟩:=G;refine Kz L N (x:= .pointer (some ⟨p.1,p.2.1+a0,none⟩)) ?_ ⟨p,hp,rfl⟩;simp only[execOp,hop,Q]
  ·cases B
 case binOp op t x y ty=>
  cases op<;>simp only at A<;>try (cases A;done)
  all_goals first
   |(simp only[Da,xP] at A
     obtain⟨k,hk,cx,F,cy,K,A⟩:=A
     cases A
     exact Qt s L N hop F K B)
   |(simp only[Da,xP] at A
     obtain⟨k,hk,cx,F,cy,K,A⟩:=A
     cases A
     exact XT s L N hop F K B)
   |skip
  case add=>
   split at A
   ·simp only[Da,xP] at A
    obtain⟨cx,F,cy,K,A⟩:=A;cases A;have G:=aQ s F;have W:=aQ s K;simp only[fC] at B;split at B
    ·rename_i sa sb O hy
     rw[O] at G;rw[hy] at W;split at B
     ·rename_i hl
      cases B;exact bD.goal (NW (t:=t) (x:=x) (y:=y) L N G W hl) (by simp only[execOp,hop])
     ·cases B
    ·cases B
   ·simp only[Da,xP] at A
    obtain⟨k,hk,cx,F,cy,K,A⟩:=A;cases A;exact Qt s L N hop F K B
  all_goals
   split at A
   ·simp only[Da,xP] at A
    obtain⟨cx,F,cy,K,A⟩:=A
    cases A
    exact Qt s L N hop F K B
   ·rename_i hk
    simp only[Da,xP] at A
    obtain⟨cx,F,cy,K,A⟩:=A
    cases A
    exact adM s L N (by simp) hop hk F K rfl B
   ·rename_i hk
    simp only[Da,xP] at A
    obtain⟨cx,F,cy,K,A⟩:=A
    cases A
    have G:=aQ s F
    have W:=aQ s K
    simp only[fC] at B
    split at B
    ·rename_i sa sb O hy
     rw[O] at G
     rw[hy] at W
     cases B
     first
      |exact bD.goal (Tw (op:= .eql) (t:=t) (x:=x) (y:=y) L N (.inl rfl) G W rfl) (by simp only[execOp,hop])
      |exact bD.goal (Tw (op:= .neq) (t:=t) (x:=x) (y:=y) L N (.inr rfl) G W rfl) (by simp only[execOp,hop])
    ·cases B
   ·rename_i e hk
    split at A
    ·simp only[Da,xP] at A
     obtain⟨cx,F,A⟩:=A
     cases A
     exact JT s L N (by simp) hop rfl hk F rfl B
    ·cases A
   ·cases A
 case unOp op t x=>
  cases op<;>simp only at A<;>try (cases A;done)
  ·simp only[oU,fO.op.injEq] at A
   obtain⟨cx,F,rfl⟩:=A;have G:=aQ s F;simp only[fC] at B;split at B
   ·rename_i b O
    rw[O] at G;cases B;refine bD.goal (s:=Op.unary .not (a.eval x)) (bD.still L N (x:= .bool (!b)) ?_ rfl) (by simp only[execOp,hop]);rw[show a.eval x= .bool b from G];simp [Op.unary]
   ·cases B
 case convert src dst x=>
  split at A
  ·rename_i k0 k hs hd
   simp only[oU,fO.op.injEq] at A;obtain⟨cx,F,rfl⟩:=A;have G:=aQ s F;simp only[fC] at B;split at B
   ·rename_i j b O
    rw[O] at G;cases B;refine bD.goal (s:=convert src dst (a.eval x)) (bD.still L N (x:= .int k (k.wrap b)) ?_ rfl) (by simp only[execOp,hop]);rw[show a.eval x= .int _ b from G];simp [convert,run_underlying hs,run_underlying hd,Conv.intToInt]
   ·cases B
  ·rename_i e hs hd
   split at A
   ·rename_i Z
    simp only[oU,fO.op.injEq] at A;obtain⟨cx,F,rfl⟩:=A;have G:=aQ s F;simp only[fC] at B;obtain⟨J,rfl⟩:=oS B;exact bD.goal (s:=convert src dst (a.eval x)) (JX L N hs hd Z G J) (by simp only[execOp,hop])
   ·cases A
  ·rename_i k0 hs hd
   simp only[oU,fO.op.injEq] at A;obtain⟨cx,F,rfl⟩:=A;have G:=aQ s F;simp only[fC] at B;split at B
   ·rename_i k n O
    rw[O] at G;split at B
    ·rename_i hn
     cases B;exact bD.goal (s:=convert src dst (a.eval x)) (NR L N hs hd G hn.1 hn.2) (by simp only[execOp,hop])
    ·cases B
   ·cases B
  ·cases A
 case makeFunc fn first cs=>
  cases fn<;>simp only at A<;>try (cases A;done)
  rename_i f;split at A
  ·simp only[Da,xP] at A
   obtain⟨cf,d9,cc,a7,A⟩:=A;cases A;simp only[fC] at B;cases B;refine bD.goal (s:=Instr.makeFunc (.func f) (first.map a.eval) (cs.map a.eval)) (bD.still L N (x:= .func (.func f) (first.map a.eval) (cs.map a.eval)) rfl ⟨_,_,rfl,?_,?_⟩) (by simp only[execOp,hop])
   ·simpa using tH s d9
   ·simpa using tH s a7
  ·cases A
 case makeMap t r=>
  split at A
  ·rename_i kt et ht
   split at A
   ·rename_i sh b1
    simp only[oU,fO.op.injEq] at A;obtain⟨cr,c6,rfl⟩:=A;have b2:=tL s c6;simp only[fC] at B;split at B
    ·rename_i a8
     cases B;have U:=jR.new L N (.wmap sh []) (.map #[] 0) (0,0) (λm' _ _=>⟨λi j a b hi=>by simp at hi,#[],0,heap_alloc_new w _,rfl,rfl,λi k v hi=>by simp at hi⟩);refine bD.goal (s:=Instr.makeMap t (r.map a.eval)) ⟨.map (some w.heap.size),_,_,?_,⟨_,M.pJ ..,rfl⟩,U⟩ (by simp only[execOp,hop])
     cases r with
     |none=>simp [Instr.makeMap]
     |some x=>
      cases cr with
      |none=>exact b2.elim
      |some cx=>
       simp only[Option.map_some,Nl] at a8;have G:VR m (xv vars loc cx) (a.eval x):=b2;cases hxx:xv vars loc cx<;>rw[hxx] at a8<;>simp only[UR,Bool.false_eq_true] at a8;rename_i k n;rw[hxx] at G;have Q:a.eval x= .int k n:=G;simp [Instr.makeMap,Q,run_underlying ht,asInt,asIntOf]
    ·cases B
   ·cases A
  ·cases A
 case makeSlice t l c=>
  simp only[Da,xP] at A;obtain⟨e,Z,sz,R,A⟩:=A;split at A
  ·cases A
  ·rename_i a6
   have b7:sz≠0:=λe=>a6 (.inl e)
   have b5:BL P e sz=true:=by cases hq:BL P e sz with
    |true=>rfl
    |false=>exact absurd (.inr hq) a6
   simp only[xP] at A;obtain⟨c7,hb,zu,hz,cl,b0,cc,a7,A⟩:=A;cases A;simp only[fC] at B;exact bD.goal (s:=Instr.makeSlice t (a.eval l) (a.eval c)) (MU L N (uS Z) R hb hz b5 b7 (aQ s b0) (aQ s a7) B) (by simp only[execOp,hop])
 case slice t x lo hi mx=>
  split at A
  ·cases A
  ·simp only[Da,xP] at A
   obtain⟨e,Z,sz,R,A⟩:=A;split at A
   ·cases A
   ·simp only[xP] at A
    obtain⟨cx,F,cl,b0,ch,d0,cm,d6,A⟩:=A;cases A;simp only[fC] at B;obtain⟨J,rfl⟩:=oS B;exact bD.goal (s:=Instr.sliceAt t (a.eval x) (lo.map a.eval) (hi.map a.eval) (mx.map a.eval)) (MY L N (uS Z) R (aQ s F) (tL s b0) (tL s d0) (tL s d6) J) (by simp only[execOp,hop])
 case fieldAddr t x f=>
  simp only[Da,xP] at A;obtain⟨fd,d1,A⟩:=A;split at A
  ·cases A
  ·rename_i R
   simp only[xP] at A;obtain⟨cx,F,A⟩:=A;cases A;have G:=aQ s F;simp only[fC] at B;split at B
   ·rename_i id a0 O
    rw[O] at G;cases B;obtain⟨p,hp,Q⟩:=G;obtain⟨fs,d4,c4⟩:=LI d1
    cases hsz2:jL P fd.type with
    |none=>simp [hsz2] at R
    |some n=>
     have hn: ¬n=0:=by simpa [hsz2] using R
     refine bD.goal (s:=Instr.fieldAt t (a.eval x) f) (bD.still L N (x:= .pointer (some ⟨p.1,p.2.1+(a0+fd.offset),none⟩)) ?_ ⟨p,hp,rfl⟩) (by simp only[execOp,hop]);rw[Q];simp [Instr.fieldAt,run_underlying d4,c4,Instr.sureAddr,fieldPlace,iO hsz2,hn,mD,Nat.add_assoc]
   ·cases B
 case indexAddr t x ix=>
  split at A
  ·rename_i n e k z hu
   split at A
   ·rename_i hb
    simp only[Da,xP] at A;obtain⟨sz,R,cx,F,A⟩:=A;cases A;have G:=aQ s F;simp only[fC] at B;split at B
    ·rename_i id a0 O
     rw[O] at G;cases B;obtain⟨p,hp,Q⟩:=G;refine bD.goal (s:=Instr.indexAt t (a.eval x) (.int k z)) (bD.still L N (x:= .pointer (some ⟨p.1,p.2.1+(a0+z.toNat*sz),none⟩)) ?_ ⟨p,hp,rfl⟩) (by simp only[execOp,hop];rfl);rw[Q];simp [Instr.indexAt,asIntOf,run_underlying hu,Instr.sureAddr,iO R,hb.1,hb.2,mD,Nat.add_assoc]
    ·cases B
   ·cases A
  ·rename_i n e hu _
   simp only[Da,xP] at A;obtain⟨sz,R,cx,F,ci,a9,A⟩:=A;cases A;have G:=aQ s F;have a3:=aQ s a9;simp only[fC] at B;obtain⟨J,rfl⟩:=oS B;unfold UO at J;split at J
   ·rename_i id a0 k z O hi
    rw[O] at G;rw[hi] at a3;split at J
    ·rename_i hb
     cases J;obtain⟨p,hp,Q⟩:=G;refine bD.goal (s:=Instr.indexAt t (a.eval x) (.int k z)) (bD.still L N (x:= .pointer (some ⟨p.1,p.2.1+(a0+z.toNat*sz),none⟩)) ?_ ⟨p,hp,rfl⟩) (by simp only[execOp,hop];rw[show a.eval _= .int k z from a3]);rw[Q];simp [Instr.indexAt,asIntOf,run_underlying hu,Instr.sureAddr,iO R,hb.1,hb.2,mD,Nat.add_assoc]
    ·cases J
   ·cases J
  ·simp only[Da,xP] at A
   obtain⟨e,Z,sz,R,cx,F,ci,a9,A⟩:=A;cases A;have G:=aQ s F;have a3:=aQ s a9;simp only[fC] at B;obtain⟨J,rfl⟩:=oS B;unfold Gr at J;split at J
   ·rename_i id a0 len e5 k n O hi
    rw[O] at G;rw[hi] at a3;split at J
    ·rename_i hb
     cases J;obtain⟨p,c,o',hp,Q,_,ho,_⟩:=G;obtain rfl:=ho om;refine bD.goal (s:=Instr.indexAt t (a.eval x) (.int k n)) (bD.still L N (x:= .pointer (some ⟨p.1,p.2.1+(o'+n.toNat*sz),none⟩)) ?_ ⟨p,hp,rfl⟩) (by simp only[execOp,hop];rw[show a.eval _= .int k n from a3]);rw[Q];simp [Instr.indexAt,asIntOf,run_underlying (uS Z),iO R,hb.1,hb.2,mD,Nat.add_assoc]
    ·cases J
   ·cases J
 case lookup t x k ok=>
  split at A
  ·rename_i kt et ht
   simp only[Da,xP] at A;obtain⟨sh,b1,zu,hz,cx,F,ck,b3,A⟩:=A;cases A;have G:=aQ s F;have b8:=aQ s b3;simp only[fC] at B;split at B
   ·rename_i id O
    rw[O] at G;split at B
    ·rename_i d7 es hg
     split at B
     ·rename_i Y
      obtain⟨rfl,Y⟩:=Y;have hs:=OG L N ht b1 hz G b8 hg Y ok;split at B
      ·rename_i u hu
       cases B;rw[hu] at hs;exact bD.goal (s:=Instr.lookup t (a.eval x) (a.eval k) ok) hs (by simp only[execOp,hop])
      ·rename_i hu
       cases B;rw[hu] at hs;exact bD.goal (s:=Instr.lookup t (a.eval x) (a.eval k) ok) hs (by simp only[execOp,hop])
     ·cases B
    ·cases B
   ·cases B
  ·cases A
 case mapUpdate t x k y=>
  split at A
  ·rename_i kt et ht
   simp only[Da,xP] at A;obtain⟨sh,b1,cx,F,ck,b3,cy,K,A⟩:=A;cases A;have G:=aQ s F;have b8:=aQ s b3;have W:=aQ s K;simp only[fC] at B;split at B
   ·rename_i id O
    rw[O] at G;split at B
    ·rename_i d7 es hg
     split at B
     ·rename_i Y
      obtain⟨rfl,Y⟩:=Y;cases B;obtain⟨w',h1,h2⟩:=JL L N ht b1 G b8 W hg Y;exact Ts (s:=Instr.mapUpdate t (a.eval x) (a.eval k) (a.eval y)) (by simp only[execOp,hop]) h1 h2
     ·cases B
    ·cases B
   ·cases B
  ·cases A
 case index t x ix=>
  split at A
  ·rename_i ht
   simp only[Da,xP] at A;obtain⟨cx,F,ci,a9,A⟩:=A;cases A;have G:=aQ s F;have a3:=aQ s a9;simp only[fC] at B;split at B
   ·rename_i l k z O hi
    rw[O] at G;rw[hi] at a3;split at B
    ·rename_i hz
     simp only[oU] at B;obtain⟨c,b0,B⟩:=B;cases B;refine bD.goal (s:=Instr.index t (a.eval x) (a.eval ix)) (bD.still L N (x:= .int .u8 ((c%256:Nat):Int)) ?_ rfl) (by simp only[execOp,hop]);rw[show a.eval x= .string ⟨(l.map UInt8.ofNat).toArray⟩ from G,show a.eval ix= .int k z from a3];have hb:(⟨(l.map UInt8.ofNat).toArray⟩:ByteArray)[z.toNat]? =some (UInt8.ofNat c):=aeB b0;simp [Instr.index,asIntOf,run_underlying ht,hz,hb]
    ·cases B
   ·cases B
  ·cases A
 case extract x i2=>
  simp only[oU,fO.op.injEq] at A;obtain⟨cx,F,rfl⟩:=A;have G:=aQ s F;simp only[fC] at B;split at B
  ·rename_i vs O
   rw[O] at G;obtain⟨xs,Q,b2⟩:=G;obtain⟨J,rfl⟩:=oS B;obtain⟨y,hy,W⟩:=b2.get J;refine bD.goal (s:=Instr.extract (a.eval x) i2) (bD.still L N (x:=y) ?_ W) (by simp only[execOp,hop]);have d5:xs[i2]? =some y:=by simpa using hy
   rw[Q];simp [Instr.extract,d5]
  ·cases B
 case makeInterface t x=>
  split at A
  ·cases A;simp [fC] at B
  ·rename_i d cx c8 hu F
   cases A;have G:=aQ s F;simp only[fC] at B;cases B;refine bD.goal (s:=Instr.makeInterface t (a.eval x)) (bD.still L N (x:= .iface t (a.eval x)) ?_ ⟨_,rfl,G⟩) (by simp only[execOp,hop]);cases d<;>first
    |(simp [Instr.makeInterface,run_underlying hu];done)
    |exact (c8 _ rfl).elim
  ·cases A;simp [fC] at B
 case panic=>cases A;simp [fC] at B
 case call c=>exact CS s L N hop A B
end
end
end Go.Ay
