/- One operation, whole: the other kinds. -/
import Derived.Test.YtapfcpkecmmagaaGreatAy8b
namespace Go.Ay
open Go
section
variable {t ty e:TypeId} {op:BinOp} {x y:Operand} {cx cy:X}
section
variable {P:Program} {m:M} {h:H} {w:World} {o:Oper} {a:Act} {v:V} {h':H} {nt:Nat} {pv defs:List Nat} {vars loc:List V}
theorem Rn {c:V}(b:jB P t=some c): ∃i z,P.info? t=some i/\i.zero=some z:=by
 unfold jB at b
 cases hi:P.info? t with
 |none=>simp [hi] at b
 |some i=>
  cases hzz:i.zero with
  |none=>simp [hi,hzz] at b
  |some z=>exact⟨i,z,rfl,hzz⟩
theorem iV {β:Type}{x:Option β}{h h':H}{v:β}(b:x.map (λy=>(y,h))=some (v,h')):x=some v/\h=h':=by
 cases x with
 |none=>simp at b
 |some u=>simp at b;exact⟨by rw[b.1],b.2⟩
theorem Mr {agg:Bool}{n:Nat}(h:HV P t=some (agg,n)):Eh P t=some agg/\(if agg then gE P t else some 1)=some n:=by
 unfold HV at h;split at h
 ·rename_i b
  simp only[jA] at h;obtain⟨k,c,h⟩:=h;cases h;exact⟨b,c⟩
 ·cases h;exact⟨by assumption,rfl⟩
 ·cases h
theorem Bn (s:St m nt pv defs vars loc a)(A:HR P m h w)(r:fL m h.next)(p:o.op= .binOp op t x y ty){k:IntKind}
  (g:fC pv defs x=some cx) (i:fC pv defs y=some cy) (c:cZ (xv vars loc) h (.bin op k cx cy)=some (v,h')):Goal P m h w o a v h':=by
 have d:=aJ s g
 have f:=aJ s i
 simp only[cZ] at c
 split at c
 ·rename_i j b J F u q
  rw[u] at d
  rw[q] at f
  split at c
  ·rename_i l
   obtain⟨n,rfl⟩:=iV c
   obtain⟨rfl,rfl⟩:=l
   obtain⟨z,B,G⟩:=Ks (P:=P) (m:=m) (w:=w) n t
   refine aU.goal (s:=do eqGuard op t x y (a.eval x) (a.eval y);binOp op t (a.eval x) (a.eval y)) (aU.still A r (x:=z) ?_ G) (by simp only[execOp,p])
   rw[show a.eval x= .int _ b from d,show a.eval y= .int _ F from f]
   simp [yG,B]
  ·cases c
 ·cases c
theorem Wx (s:St m nt pv defs vars loc a)(A:HR P m h w)(r:fL m h.next)(p:o.op= .binOp op t x y ty){k:IntKind}
  (g:fC pv defs x=some cx) (i:fC pv defs y=some cy) (c:cZ (xv vars loc) h (.shf op k cx cy)=some (v,h')):Goal P m h w o a v h':=by
 have d:=aJ s g
 have f:=aJ s i
 simp only[cZ] at c
 split at c
 ·rename_i j b J F u q
  rw[u] at d
  rw[q] at f
  split at c
  ·rename_i l
   obtain⟨n,rfl⟩:=iV c
   subst l
   obtain⟨z,B,G⟩:=Md (P:=P) (m:=m) (w:=w) (j:=J) n t
   refine aU.goal (s:=do eqGuard op t x y (a.eval x) (a.eval y);binOp op t (a.eval x) (a.eval y)) (aU.still A r (x:=z) ?_ G) (by simp only[execOp,p])
   rw[show a.eval x= .int _ b from d,show a.eval y= .int _ F from f]
   simp [yG,B]
  ·cases c
 ·cases c
theorem Ni (b:P.underlying t=some .bool)(x y:Bool):(Op.equal t (.bool x) (.bool y)).run P w= .ok (x==y) w:=by
 have: ∀d,(Op.equalIn (d+1) t (.bool x) (.bool y)).run P w= .ok (x==y) w:=λd=>by simp [Op.equalIn,run_underlying b]
 exact this 9999
theorem Mo (b:P.underlying t=some (.slice e)):(Op.equal t (.slice none 0 0) (.slice none 0 0)).run P w= .ok true w:=by
 have: ∀d,(Op.equalIn (d+1) t (.slice none 0 0) (.slice none 0 0)).run P w= .ok true w:=λd=>by simp [Op.equalIn,run_underlying b]
 exact this 9999
theorem Bl (f:P.underlying t=some (.slice e))(b:Addr)(n c:Nat):(Op.equal t (.slice (some b) n c) (.slice none 0 0)).run P w= .ok false w:=by
 have: ∀d,(Op.equalIn (d+1) t (.slice (some b) n c) (.slice none 0 0)).run P w= .ok false w:=λd=>by simp [Op.equalIn,run_underlying f]
 exact this 9999
theorem AS (s:St m nt pv defs vars loc a)(z:HR P m h w)(q:fL m h.next)(u:op= .eql∨op= .neq)(l:o.op= .binOp op t x y ty)(p:P.underlying t=some .bool)
  (i:fC pv defs x=some cx) (j:fC pv defs y=some cy) {neg:Bool} (d:neg=(op matches .neq)) (g:cZ (xv vars loc) h (.beq neg cx cy)=some (v,h')):Goal P m h w o a v h':=by
 have c:=aJ s i
 have f:=aJ s j
 simp only[cZ] at g
 split at g
 ·rename_i b k r n
  rw[r] at c
  rw[n] at f
  cases g
  refine aU.goal (s:=do eqGuard op t x y (a.eval x) (a.eval y);binOp op t (a.eval x) (a.eval y)) (aU.still z q (x:= .bool (if neg then !(b==k) else b==k)) ?_ rfl) (by simp only[execOp,l])
  rw[show a.eval x= .bool b from c,show a.eval y= .bool k from f]
  subst d
  rcases u with rfl|rfl<;>simp [Gb,binOp,Ni p]
 ·cases g
theorem Qf (s:St m nt pv defs vars loc a)(r:HR P m h w)(n:fL m h.next)(q:op= .eql∨op= .neq)(g:o.op= .binOp op t x y ty)(k:a.eval y= .slice none 0 0)(l:P.underlying t=some (.slice e))
  (u:fC pv defs x=some cx) {neg:Bool} (d:neg=(op matches .neq)) (i:cZ (xv vars loc) h (.snil neg cx)=some (v,h')):Goal P m h w o a v h':=by
 have b:=aJ s u
 simp only[cZ] at i
 split at i
 ·rename_i j
  rw[j] at b
  cases i
  refine aU.goal (s:=do eqGuard op t x y (a.eval x) (a.eval y);binOp op t (a.eval x) (a.eval y)) (aU.still r n (x:= .bool (!neg)) ?_ rfl) (by simp only[execOp,g])
  rw[show a.eval x= .slice none 0 0 from b,k]
  subst d
  rcases q with rfl|rfl<;>simp [oW,binOp,Mo l]
 ·rename_i id z len A j
  rw[j] at b
  cases i
  obtain⟨p,c,F,G,f,_⟩:=b
  refine aU.goal (s:=do eqGuard op t x y (a.eval x) (a.eval y);binOp op t (a.eval x) (a.eval y)) (aU.still r n (x:= .bool neg) ?_ rfl) (by simp only[execOp,g])
  rw[f,k]
  subst d
  rcases q with rfl|rfl<;>simp [oW,binOp,Bl l]
 ·rename_i B j
  rw[j] at b
  cases i
  have f:a.eval x= .slice (some B) 0 0:=b
  refine aU.goal (s:=do eqGuard op t x y (a.eval x) (a.eval y);binOp op t (a.eval x) (a.eval y)) (aU.still r n (x:= .bool neg) ?_ rfl) (by simp only[execOp,g])
  rw[f,k]
  subst d
  rcases q with rfl|rfl<;>simp [oW,binOp,Bl l]
 ·cases i
theorem Be (s:St m nt pv defs vars loc a)(J:HR P m h w)(L:fL m h.next){i:I}(g:iI P pv defs o=some (.op i))(A:cZ (xv vars loc) h i=some (v,h')):Goal P m h w o a v h':=by
 unfold iI at g;cases hop:o.op<;>simp only[hop] at g<;>try (cases g;done)
 case move x=>
  simp only[jA,dV.op.injEq] at g;obtain⟨cx,F,rfl⟩:=g;simp only[cZ] at A;cases A;exact xG J L (by simp only[execOp,hop]) (aJ s F)
 case assign x=>
  simp only[jA,dV.op.injEq] at g;obtain⟨cx,F,rfl⟩:=g;simp only[cZ] at A;cases A;exact xG J L (by simp only[execOp,hop]) (aJ s F)
 case pick c x y=>
  simp only[oS,lT] at g;obtain⟨cc,b3,cx,F,cy,K,g⟩:=g;cases g;have c8:=aJ s b3;simp only[cZ] at A;split at A
  ·rename_i t ht
   rw[ht] at c8;cases A;refine aU.goal (s:=do pure (if ←asBool (a.eval c) then a.eval x else a.eval y)) (aU.still J L (x:=if t then a.eval x else a.eval y) ?_ ?_) (by simp only[execOp,hop];simp)
   ·rw[show a.eval c= .bool t from c8];simp [asBool]
   ·cases t
    ·simpa using aJ s K
    ·simpa using aJ s F
  ·cases A
 case alloc e=>
  simp only[oS,lT] at g;obtain⟨zu,hz,g⟩:=g;cases g;simp only[cZ] at A;cases A;obtain⟨i2,z,hi,d0⟩:=Rn hz;obtain⟨d5,e4,_⟩:=iS m hz hi d0;have R:=pP J L [] d5 e4 e;simp only[qA,Array.toArray_toList] at R;refine aU.goal (s:=Instr.alloc e true (.tuple #[])) ⟨.pointer (some ⟨w.heap.size,0,none⟩),_,_,?_,⟨_,M.iM ..,rfl⟩,R⟩ (by simp only[execOp,hop]);simp [Instr.alloc,zeroValue,typeInfo,hi,d0,newVar,newRow]
 case box e x=>
  simp only[jA,dV.op.injEq] at g;obtain⟨cx,F,rfl⟩:=g;simp only[cZ] at A;split at A
  ·rename_i a9
   cases A;have hv:=VR.cells (aJ s F) a9;have R:=pP J L [] hv (λc g=>(zE.1 a9) c g) e;simp only[qA,Array.toArray_toList] at R;refine aU.goal (s:=Instr.box e (a.eval x)) ⟨.pointer (some ⟨w.heap.size,0,none⟩),_,_,?_,⟨_,M.iM ..,rfl⟩,R⟩ (by simp only[execOp,hop]);simp [Instr.box,newVar,newRow]
  ·cases A
 case build t parts=>
  simp only[oS,lT] at g;obtain⟨ps,c2,zu,hz,pl,e6,g⟩:=g;cases g;simp only[cZ,jA] at A;obtain⟨us,b8,A⟩:=A;cases A;obtain⟨h1,h2⟩:=Jf s (f:=λp x=>(p.1,x)) c2 (λ_ _=>rfl);refine aU.goal (s:=Instr.build t (parts.map λ(i,x)=>(i,a.eval x))) (Sw J L hz e6 h1 (λj b q hb hq=>?_) b8) (by simp only[execOp,hop]);obtain⟨p,hp,e1,e2,e3⟩:=h2 j b q hb hq;exact⟨by rw[e1,e2],e3⟩
 case buildSlice t n parts=>
  simp only[oS,lT] at g;obtain⟨e,a3,sz,W,g⟩:=g;split at g
  ·cases g
  ·rename_i b0
   have b7:sz≠0:=λe=>b0 (.inl e)
   have d4: ¬n*sz>2^24:=λe=>b0 (.inr (.inl e))
   have b9:Lf P e sz=true:=by cases hq:Lf P e sz with
    |true=>rfl
    |false=>exact absurd (.inr (.inr hq)) b0
   simp only[lT] at g;obtain⟨ps,c2,zu,hz,g⟩:=g;cases g;simp only[cZ] at A;split at A
   ·rename_i us b8
    split at A
    ·rename_i a9
     cases A;obtain⟨a1,a2⟩:=gO c2;refine aU.goal (s:=Instr.buildSlice t n (parts.map λ(i,x)=>(i,a.eval x))) (Sf J L (lY a3) W hz b9 b7 d4 (by simpa using a1) (λj b q hb hq=>?_) b8 (λc g=>(zE.1 a9) c g)) (by simp only[execOp,hop]);simp only[Lc,jA] at hb;obtain⟨p,hp,rfl⟩:=hb;simp only[Array.toList_map,Lc,jA] at hq;obtain⟨r,d6,rfl⟩:=hq;obtain⟨b',c5,c9⟩:=a2 j r d6;rw[hp] at c5;cases c5;simp only[jA] at c9;obtain⟨x,N,rfl⟩:=c9;exact⟨rfl,aJ s N⟩
    ·cases A
   ·cases A
 case load t x=>
  split at g
  ·rename_i q hq
   obtain⟨c6,n⟩:=q;simp only[jA,dV.op.injEq] at g;obtain⟨cx,F,rfl⟩:=g;simp only[cZ] at A;obtain⟨G,rfl⟩:=iV A;obtain⟨y,h1,h2⟩:=Je J (Mr hq).1 (Mr hq).2 (aJ s F) G;exact aU.goal (s:=Instr.loadAt t (a.eval x)) (aU.still J L h1 h2) (by simp only[execOp,hop])
  ·cases g
 case store t x y=>
  simp only[oS,lT] at g;obtain⟨n,hn,cx,F,cy,K,g⟩:=g;cases g;have B:=aJ s F;have O:=aJ s K;simp only[cZ] at A;split at A
  ·rename_i id a0 N
   rw[N] at B;split at A
   ·rename_i a5
    simp only[jA] at A;obtain⟨h2,c7,A⟩:=A;cases A;obtain⟨p,hp,Q⟩:=B;obtain⟨w',iA,R⟩:=sP J L c7 (VR.cells O a5.2) (λc g=>(zE.1 a5.2) c g) hp;refine sF (s:=Instr.storeAt t (a.eval x) (a.eval y)) (by simp only[execOp,hop]) ?_ R
    have e5:(a.eval y).cells.size=n:=by
     have:=fP.length (VR.cells O a5.2);simp at this;omega
    rw[Q];simp [Instr.storeAt,Instr.sureAddr,storeVar,eQ hn,e5,iA]
   ·cases A
  ·cases A
 case nilCheck x=>
  simp only[jA,dV.op.injEq] at g;obtain⟨cx,F,rfl⟩:=g;have B:=aJ s F;simp only[cZ] at A;split at A
  ·rename_i id a0 N
   rw[N] at B;cases A;obtain⟨p,hp,Q⟩:=B;refine xG J L (x:= .pointer (some ⟨p.1,p.2.1+a0,none⟩)) ?_ ⟨p,hp,rfl⟩;simp only[execOp,hop,Q]
  ·cases A
 case binOp op t x y ty=>
  cases op<;>simp only at g<;>try (cases g;done)
  all_goals first
   |(simp only[oS,lT] at g
     obtain⟨k,hk,cx,F,cy,K,g⟩:=g
     cases g
     exact Bn s J L hop F K A)
   |(simp only[oS,lT] at g
     obtain⟨k,hk,cx,F,cy,K,g⟩:=g
     cases g
     exact Wx s J L hop F K A)
   |skip
  case add=>
   split at g
   ·simp only[oS,lT] at g
    obtain⟨cx,F,cy,K,g⟩:=g;cases g;have B:=aJ s F;have O:=aJ s K;simp only[cZ] at A;split at A
    ·rename_i sa sb N hy
     rw[N] at B;rw[hy] at O;split at A
     ·rename_i hl
      cases A;exact aU.goal (Rg (t:=t) (x:=x) (y:=y) J L B O hl) (by simp only[execOp,hop])
     ·cases A
    ·cases A
   ·simp only[oS,lT] at g
    obtain⟨k,hk,cx,F,cy,K,g⟩:=g;cases g;exact Bn s J L hop F K A
  all_goals
   split at g
   ·simp only[oS,lT] at g
    obtain⟨cx,F,cy,K,g⟩:=g
    cases g
    exact Bn s J L hop F K A
   ·rename_i hk
    simp only[oS,lT] at g
    obtain⟨cx,F,cy,K,g⟩:=g
    cases g
    exact AS s J L (by simp) hop hk F K rfl A
   ·rename_i hk
    simp only[oS,lT] at g
    obtain⟨cx,F,cy,K,g⟩:=g
    cases g
    have B:=aJ s F
    have O:=aJ s K
    simp only[cZ] at A
    split at A
    ·rename_i sa sb N hy
     rw[N] at B
     rw[hy] at O
     cases A
     first
      |exact aU.goal (Fe (op:= .eql) (t:=t) (x:=x) (y:=y) J L (.inl rfl) B O rfl) (by simp only[execOp,hop])
      |exact aU.goal (Fe (op:= .neq) (t:=t) (x:=x) (y:=y) J L (.inr rfl) B O rfl) (by simp only[execOp,hop])
    ·cases A
   ·rename_i e hk
    split at g
    ·simp only[oS,lT] at g
     obtain⟨cx,F,g⟩:=g
     cases g
     exact Qf s J L (by simp) hop rfl hk F rfl A
    ·cases g
   ·cases g
 case unOp op t x=>
  cases op<;>simp only at g<;>try (cases g;done)
  ·simp only[oS,lT] at g
   obtain⟨k,hk,cx,F,g⟩:=g;cases g;have B:=aJ s F;simp only[cZ] at A;split at A
   ·rename_i j b N
    rw[N] at B;split at A
    ·rename_i d2
     subst d2;cases A;refine aU.goal (s:=Op.unary .neg (a.eval x)) (aU.still J L (x:= .int j (j.wrap (0-b))) ?_ rfl) (by simp only[execOp,hop]);rw[show a.eval x= .int _ b from B];simp [Op.unary,Op.intArith]
    ·cases A
   ·cases A
  ·simp only[jA,dV.op.injEq] at g
   obtain⟨cx,F,rfl⟩:=g;have B:=aJ s F;simp only[cZ] at A;split at A
   ·rename_i b N
    rw[N] at B;cases A;refine aU.goal (s:=Op.unary .not (a.eval x)) (aU.still J L (x:= .bool (!b)) ?_ rfl) (by simp only[execOp,hop]);rw[show a.eval x= .bool b from B];simp [Op.unary]
   ·cases A
 case convert src dst x=>
  split at g
  ·rename_i k0 k hs hd
   simp only[jA,dV.op.injEq] at g;obtain⟨cx,F,rfl⟩:=g;have B:=aJ s F;simp only[cZ] at A;split at A
   ·rename_i j b N
    rw[N] at B;cases A;refine aU.goal (s:=convert src dst (a.eval x)) (aU.still J L (x:= .int k (k.wrap b)) ?_ rfl) (by simp only[execOp,hop]);rw[show a.eval x= .int _ b from B];simp [convert,run_underlying hs,run_underlying hd,Conv.intToInt]
   ·cases A
  ·rename_i e hs hd
   split at g
   ·rename_i a3
    simp only[jA,dV.op.injEq] at g;obtain⟨cx,F,rfl⟩:=g;have B:=aJ s F;simp only[cZ] at A;obtain⟨G,rfl⟩:=iV A;exact aU.goal (s:=convert src dst (a.eval x)) (Rm J L hs hd a3 B G) (by simp only[execOp,hop])
   ·cases g
  ·rename_i k0 hs hd
   simp only[jA,dV.op.injEq] at g;obtain⟨cx,F,rfl⟩:=g;have B:=aJ s F;simp only[cZ] at A;split at A
   ·rename_i k n N
    rw[N] at B;split at A
    ·rename_i hn
     cases A;exact aU.goal (s:=convert src dst (a.eval x)) (Rz J L hs hd B hn.1 hn.2) (by simp only[execOp,hop])
    ·cases A
   ·cases A
  ·cases g
 case makeFunc fn first cs=>
  cases fn<;>simp only at g<;>try (cases g;done)
  rename_i f;split at g
  ·simp only[oS,lT] at g
   obtain⟨cf,d7,cc,b3,g⟩:=g;cases g;simp only[cZ] at A;cases A;refine aU.goal (s:=Instr.makeFunc (.func f) (first.map a.eval) (cs.map a.eval)) (aU.still J L (x:= .func (.func f) (first.map a.eval) (cs.map a.eval)) rfl ⟨_,_,rfl,?_,?_⟩) (by simp only[execOp,hop])
   ·simpa using fR s d7
   ·simpa using fR s b3
  ·cases g
 case makeMap t r=>
  split at g
  ·rename_i kt et ht
   split at g
   ·rename_i sh b1
    simp only[jA,dV.op.injEq] at g;obtain⟨cr,d3,rfl⟩:=g;have a8:=jM s d3;simp only[cZ] at A;split at A
    ·rename_i b2
     cases A;have R:=fY.new J L (.wmap sh []) (.map #[] 0) (0,0) (λm' _ _=>⟨λi j a b hi=>by simp at hi,#[],0,heap_alloc_new w _,rfl,rfl,λi k v hi=>by simp at hi⟩);refine aU.goal (s:=Instr.makeMap t (r.map a.eval)) ⟨.map (some w.heap.size),_,_,?_,⟨_,M.iM ..,rfl⟩,R⟩ (by simp only[execOp,hop])
     cases r with
     |none=>simp [Instr.makeMap]
     |some x=>
      cases cr with
      |none=>exact a8.elim
      |some cx=>
       simp only[Option.map_some,zT] at b2;have B:VR m (xv vars loc cx) (a.eval x):=a8;cases hxx:xv vars loc cx<;>rw[hxx] at b2<;>simp only[Xs,Bool.false_eq_true] at b2;rename_i k n;rw[hxx] at B;have Q:a.eval x= .int k n:=B;simp [Instr.makeMap,Q,run_underlying ht,asInt,asIntOf]
    ·cases A
   ·split at g
    ·cases g
     simp only[cZ] at A;cases A;have R:=fY.new J L (.map []) (.map #[] 0) (0,0) (λm' _ _=>⟨#[],0,heap_alloc_new w _,rfl,λi k v hi=>by simp at hi⟩);refine aU.goal (s:=Instr.makeMap t (Option.map a.eval none)) ⟨.map (some w.heap.size),_,_,?_,⟨_,M.iM ..,rfl⟩,R⟩ (by simp only[execOp,hop]);simp [Instr.makeMap]
    ·cases g
  ·cases g
 case makeSlice t l c=>
  simp only[oS,lT] at g;obtain⟨e,a3,sz,W,g⟩:=g;split at g
  ·cases g
  ·rename_i b0
   have b7:sz≠0:=λe=>b0 (.inl e)
   have b9:Lf P e sz=true:=by cases hq:Lf P e sz with
    |true=>rfl
    |false=>exact absurd (.inr hq) b0
   simp only[lT] at g;obtain⟨e0,hb,zu,hz,cl,a6,cc,b3,g⟩:=g;cases g;simp only[cZ] at A;exact aU.goal (s:=Instr.makeSlice t (a.eval l) (a.eval c)) (Rq J L (lY a3) W hb hz b9 b7 (aJ s a6) (aJ s b3) A) (by simp only[execOp,hop])
 case slice t x lo hi mx=>
  split at g
  ·rename_i n e hu
   simp only[oS,lT] at g;obtain⟨sz,W,cx,F,cl,a6,ch,c1,g⟩:=g;cases g;have B:=aJ s F;simp only[cZ] at A;split at A
   ·rename_i id a0 N
    rw[N] at B;obtain⟨G,rfl⟩:=iV A;exact aU.goal (s:=Instr.sliceAt t (a.eval x) (lo.map a.eval) (hi.map a.eval) none) (Ru J L hu W B (jM s a6) (jM s c1) G) (by simp only[execOp,hop];rfl)
   ·cases A
  ·cases g
  ·rename_i mx _ _ _ _
   simp only[oS,lT] at g;obtain⟨e,a3,sz,W,g⟩:=g;split at g
   ·cases g
   ·simp only[lT] at g
    obtain⟨cx,F,cl,a6,ch,c1,cm,d8,g⟩:=g;cases g;simp only[cZ] at A;obtain⟨G,rfl⟩:=iV A;exact aU.goal (s:=Instr.sliceAt t (a.eval x) (lo.map a.eval) (hi.map a.eval) (mx.map a.eval)) (Sz J L (lY a3) W (aJ s F) (jM s a6) (jM s c1) (jM s d8) G) (by simp only[execOp,hop])
 case fieldAddr t x f=>
  simp only[oS,lT] at g;obtain⟨fd,c3,g⟩:=g;split at g
  ·cases g
  ·rename_i W
   simp only[lT] at g;obtain⟨cx,F,g⟩:=g;cases g;have B:=aJ s F;simp only[cZ] at A;split at A
   ·rename_i id a0 N
    rw[N] at B;cases A;obtain⟨p,hp,Q⟩:=B;obtain⟨fs,b6,b5⟩:=Et c3
    cases hsz2:gE P fd.type with
    |none=>simp [hsz2] at W
    |some n=>
     have hn: ¬n=0:=by simpa [hsz2] using W
     refine aU.goal (s:=Instr.fieldAt t (a.eval x) f) (aU.still J L (x:= .pointer (some ⟨p.1,p.2.1+(a0+fd.offset),none⟩)) ?_ ⟨p,hp,rfl⟩) (by simp only[execOp,hop]);rw[Q];simp [Instr.fieldAt,run_underlying b6,b5,Instr.sureAddr,fieldPlace,eQ hsz2,hn,iU,Nat.add_assoc]
   ·cases A
 case field t x f=>
  simp only[oS,lT] at g;obtain⟨fd,c3,c6,c4,n,hn,cx,F,g⟩:=g;cases g;have B:=aJ s F;obtain⟨fs,b6,b5⟩:=Et c3;simp only[cZ] at A;split at A
  ·rename_i vs N
   rw[N] at B;obtain⟨xs,Q,a8⟩:=B
   cases c6 with
   |true=>
    simp only[if_true,jA] at A;obtain⟨ws,e7,A⟩:=A;cases A;obtain⟨rfl,f0,hl⟩:=sub_eq e7;refine aU.goal (s:=Instr.field t (a.eval x) f) (aU.still J L (x:= .agg (xs.extract fd.offset (fd.offset+n))) ?_ ⟨_,rfl,?_⟩) (by simp only[execOp,hop])
    ·rw[Q]
     simp [Instr.field,run_underlying b6,b5,part,asAgg,mK c4,eQ hn]
    ·have:(xs.extract fd.offset (fd.offset+n)).toList=(xs.toList.drop fd.offset).take n:=by
      simp [List.extract_eq_take_drop]
     rw[this];exact (a8.drop _).take _
   |false=>
    simp only[Bool.false_eq_true,if_false] at A;obtain⟨G,rfl⟩:=iV A;obtain⟨y,hy,O⟩:=a8.get G;refine aU.goal (s:=Instr.field t (a.eval x) f) (aU.still J L (x:=y) ?_ O) (by simp only[execOp,hop]);rw[Q];have c0:xs[fd.offset]? =some y:=by simpa using hy
    simp [Instr.field,run_underlying b6,b5,part,asAgg,mK c4,c0]
  ·cases A
 case indexAddr t x ix=>
  split at g
  ·rename_i n e k z hu
   split at g
   ·rename_i hb
    simp only[oS,lT] at g;obtain⟨sz,W,cx,F,g⟩:=g;cases g;have B:=aJ s F;simp only[cZ] at A;split at A
    ·rename_i id a0 N
     rw[N] at B;cases A;obtain⟨p,hp,Q⟩:=B;refine aU.goal (s:=Instr.indexAt t (a.eval x) (.int k z)) (aU.still J L (x:= .pointer (some ⟨p.1,p.2.1+(a0+z.toNat*sz),none⟩)) ?_ ⟨p,hp,rfl⟩) (by simp only[execOp,hop];rfl);rw[Q];simp [Instr.indexAt,asIntOf,run_underlying hu,Instr.sureAddr,eQ W,hb.1,hb.2,iU,Nat.add_assoc]
    ·cases A
   ·cases g
  ·rename_i n e hu _
   simp only[oS,lT] at g;obtain⟨sz,W,cx,F,ci,b4,g⟩:=g;cases g;have B:=aJ s F;have a4:=aJ s b4;simp only[cZ] at A;obtain⟨G,rfl⟩:=iV A;unfold Rl at G;split at G
   ·rename_i id a0 k z N hi
    rw[N] at B;rw[hi] at a4;split at G
    ·rename_i hb
     cases G;obtain⟨p,hp,Q⟩:=B;refine aU.goal (s:=Instr.indexAt t (a.eval x) (.int k z)) (aU.still J L (x:= .pointer (some ⟨p.1,p.2.1+(a0+z.toNat*sz),none⟩)) ?_ ⟨p,hp,rfl⟩) (by simp only[execOp,hop];rw[show a.eval _= .int k z from a4]);rw[Q];simp [Instr.indexAt,asIntOf,run_underlying hu,Instr.sureAddr,eQ W,hb.1,hb.2,iU,Nat.add_assoc]
    ·cases G
   ·cases G
  ·simp only[oS,lT] at g
   obtain⟨e,a3,sz,W,cx,F,ci,b4,g⟩:=g;cases g;have B:=aJ s F;have a4:=aJ s b4;simp only[cZ] at A;obtain⟨G,rfl⟩:=iV A;unfold Cu at G;split at G
   ·rename_i id a0 len f1 k n N hi
    rw[N] at B;rw[hi] at a4;split at G
    ·rename_i hb
     cases G;obtain⟨p,c,o',hp,Q,_,ho,_⟩:=B;obtain rfl:=ho om;refine aU.goal (s:=Instr.indexAt t (a.eval x) (.int k n)) (aU.still J L (x:= .pointer (some ⟨p.1,p.2.1+(o'+n.toNat*sz),none⟩)) ?_ ⟨p,hp,rfl⟩) (by simp only[execOp,hop];rw[show a.eval _= .int k n from a4]);rw[Q];simp [Instr.indexAt,asIntOf,run_underlying (lY a3),eQ W,hb.1,hb.2,iU,Nat.add_assoc]
    ·cases G
   ·cases G
 case lookup t x k ok=>
  split at g
  ·rename_i kt et ht
   split at g
   ·rename_i sh b1
    simp only[oS,lT] at g;obtain⟨zu,hz,cx,F,ck,Z,g⟩:=g;cases g;have B:=aJ s F;have Y:=aJ s Z;simp only[cZ] at A;split at A
    ·rename_i id N
     rw[N] at B;split at A
     ·rename_i d1 es hg
      split at A
      ·rename_i U
       obtain⟨rfl,U⟩:=U;have hs:=Ry J L ht b1 hz B Y hg U ok;split at A
       ·rename_i u hu
        cases A;rw[hu] at hs;exact aU.goal (s:=Instr.lookup t (a.eval x) (a.eval k) ok) hs (by simp only[execOp,hop])
       ·rename_i hu
        cases A;rw[hu] at hs;exact aU.goal (s:=Instr.lookup t (a.eval x) (a.eval k) ok) hs (by simp only[execOp,hop])
      ·cases A
     ·cases A
    ·cases A
   simp only[oS,lT] at g;obtain⟨j,hj,zu,hz,cx,F,ck,Z,g⟩:=g;cases g;have B:=aJ s F;have Y:=aJ s Z;simp only[cZ] at A;split at A
   ·rename_i id kk n N hk
    rw[N] at B;rw[hk] at Y;split at A
    ·rename_i es hg
     split at A
     ·rename_i a7
      have hs:=Rt J L ht (nI hj) hz B Y hg a7 ok;split at A
      ·rename_i u hu
       cases A;rw[hu] at hs;exact aU.goal (s:=Instr.lookup t (a.eval x) (a.eval k) ok) hs (by simp only[execOp,hop])
      ·rename_i hu
       cases A;rw[hu] at hs;exact aU.goal (s:=Instr.lookup t (a.eval x) (a.eval k) ok) hs (by simp only[execOp,hop])
     ·cases A
    ·cases A
   ·cases A
  ·cases g
 case mapUpdate t x k y=>
  split at g
  ·rename_i kt et ht
   split at g
   ·rename_i sh b1
    simp only[oS,lT] at g;obtain⟨cx,F,ck,Z,cy,K,g⟩:=g;cases g;have B:=aJ s F;have Y:=aJ s Z;have O:=aJ s K;simp only[cZ] at A;split at A
    ·rename_i id N
     rw[N] at B;split at A
     ·rename_i d1 es hg
      split at A
      ·rename_i U
       obtain⟨rfl,U⟩:=U;cases A;obtain⟨w',h1,h2⟩:=Th J L ht b1 B Y O hg U;exact sF (s:=Instr.mapUpdate t (a.eval x) (a.eval k) (a.eval y)) (by simp only[execOp,hop]) h1 h2
      ·cases A
     ·cases A
    ·cases A
   simp only[oS,lT] at g;obtain⟨j,hj,cx,F,ck,Z,cy,K,g⟩:=g;cases g;have B:=aJ s F;have Y:=aJ s Z;have O:=aJ s K;simp only[cZ] at A;split at A
   ·rename_i id kk n N hk
    rw[N] at B;rw[hk] at Y;split at A
    ·rename_i es hg
     split at A
     ·rename_i a7
      cases A;obtain⟨w',h1,h2⟩:=Lw J L ht (nI hj) B Y O hg a7;exact sF (s:=Instr.mapUpdate t (a.eval x) (a.eval k) (a.eval y)) (by simp only[execOp,hop]) h1 h2
     ·cases A
    ·cases A
   ·cases A
  ·cases g
 case mapEntry t x k=>
  split at g
  ·rename_i kt et ht
   split at g
   ·rename_i sh b1
    simp only[oS,lT] at g;obtain⟨zu,hz,cx,F,ck,Z,g⟩:=g;cases g;have B:=aJ s F;have Y:=aJ s Z;simp only[cZ] at A;split at A
    ·rename_i id N
     rw[N] at B;split at A
     ·rename_i d1 es hg
      split at A
      ·rename_i U
       obtain⟨rfl,U⟩:=U;have hs:=Ra J L ht b1 hz B Y hg U;split at A
       ·rename_i u hu
        cases A;rw[hu] at hs;exact aU.goal (s:=Instr.mapEntry t (a.eval x) (a.eval k)) hs (by simp only[execOp,hop])
       ·rename_i hu
        cases A;rw[hu] at hs;exact aU.goal (s:=Instr.mapEntry t (a.eval x) (a.eval k)) hs (by simp only[execOp,hop])
      ·cases A
     ·cases A
    ·cases A
   ·cases g
  ·cases g
 case entryStore t x k y=>
  simp only[oS,lT] at g;obtain⟨cx,F,ck,Z,cy,K,g⟩:=g;cases g;have B:=aJ s F;have Y:=aJ s Z;have O:=aJ s K;simp only[cZ] at A;split at A
  ·rename_i id n N hk
   rw[N] at B;rw[hk] at Y;split at A
   ·rename_i sh es hg
    split at A
    ·rename_i hn
     split at A
     ·rename_i e e8
      cases A;obtain⟨kk,u⟩:=e;obtain⟨w',h1,h2⟩:=Ri (t:=t) J L B O hg e8
      have e9:a.eval k= .int .i64 ((n.toNat:Nat):Int):=by
       rw[show a.eval k= .int .i64 n from Y];congr 1;omega
      rw[←e9] at h1;exact sF (s:=Instr.entryStore t (a.eval x) (a.eval k) (a.eval y)) (by simp only[execOp,hop]) h1 h2
     ·cases A
    ·cases A
   ·cases A
  ·cases A
 case index t x ix=>
  split at g
  ·rename_i ht
   simp only[oS,lT] at g;obtain⟨cx,F,ci,b4,g⟩:=g;cases g;have B:=aJ s F;have a4:=aJ s b4;simp only[cZ] at A;split at A
   ·rename_i l k z N hi
    rw[N] at B;rw[hi] at a4;split at A
    ·rename_i hz
     simp only[jA] at A;obtain⟨c,a6,A⟩:=A;cases A;refine aU.goal (s:=Instr.index t (a.eval x) (a.eval ix)) (aU.still J L (x:= .int .u8 ((c%256:Nat):Int)) ?_ rfl) (by simp only[execOp,hop]);rw[show a.eval x= .string ⟨(l.map UInt8.ofNat).toArray⟩ from B,show a.eval ix= .int k z from a4];have hb:(⟨(l.map UInt8.ofNat).toArray⟩:ByteArray)[z.toNat]? =some (UInt8.ofNat c):=BM a6;simp [Instr.index,asIntOf,run_underlying ht,hz,hb]
    ·cases A
   ·cases A
  ·cases g
 case extract x i2=>
  simp only[jA,dV.op.injEq] at g;obtain⟨cx,F,rfl⟩:=g;have B:=aJ s F;simp only[cZ] at A;split at A
  ·rename_i vs N
   rw[N] at B;obtain⟨xs,Q,a8⟩:=B;obtain⟨G,rfl⟩:=iV A;obtain⟨y,hy,O⟩:=a8.get G;refine aU.goal (s:=Instr.extract (a.eval x) i2) (aU.still J L (x:=y) ?_ O) (by simp only[execOp,hop]);have c0:xs[i2]? =some y:=by simpa using hy
   rw[Q];simp [Instr.extract,c0]
  ·cases A
 case makeInterface t x=>
  split at g
  ·cases g;simp [cZ] at A
  ·rename_i d cx d9 hu F
   cases g;have B:=aJ s F;simp only[cZ] at A;cases A;refine aU.goal (s:=Instr.makeInterface t (a.eval x)) (aU.still J L (x:= .iface t (a.eval x)) ?_ ⟨_,rfl,B⟩) (by simp only[execOp,hop]);cases d<;>first
    |(simp [Instr.makeInterface,run_underlying hu];done)
    |exact (d9 _ rfl).elim
  ·cases g;simp [cZ] at A
 case panic=>cases g;simp [cZ] at A
 case call c=>exact Na s J L hop g A
end
end
end Go.Ay
