/- A round of a range over a function; the statements; all together. -/
import Derived.Test.YtcdbmkidaecdiaaGreatAy19
namespace Go.Ay
open Go
section
variable {m:M} {h:H} {w:World}
section
variable {P:Program} {p:Nat->Option Fn} {cl yl:dP} {N:Nat}
theorem zJ (k:HR P m h w)(l:Qk m h.next){id:Nat}{r r':eH}{q:Nat×Nat×Nat}{L L':Loop}(d:h.get id=some (.loop r))(f:m id=some q)(i:w.heap[q.1]? =some (.loop L))(a:CV P m r' L'):
  iO P m h w m (h.set id (some (.loop r'))) (w.putObj q.1 (.loop L')):=by
 have c:=(AS.1 i).1
 exact iO.put k l.fresh d rfl rfl f ⟨L',World.putObj_heap_same c,a⟩ rfl rfl rfl (by simp) (λb j=>World.putObj_heap_other j)
theorem Hz (d:HR P m h w){id:Nat}{r:eH}{q:Nat×Nat×Nat}(b:h.get id=some (.loop r))(c:m id=some q): ∃L,w.heap[q.1]? =some (.loop L)/\CV P m r L:=by
 obtain⟨i,a,f⟩:=d.live id _ b;rw[c] at a;cases a;exact f
theorem Uh (hS:acK P cl yl N):Ao P (vG cl yl N):=by
 intro id b0 h v h' c m w xs q hx hr F W;simp only[vG] at c;split at c
 ·rename_i r a6
  split at c
  ·rename_i a9
   obtain⟨L,hL,Q⟩:=Hz hr a6 W;obtain⟨⟨nt,pv,hv,U,Z,G⟩,iP,a7,b3⟩:=Q
   have z:xs.size=L.params.size:=by
    have h1:=(jD G).1;have h2:=gZ.length hx;simp at h1 h2;omega
   refine⟨_,_,_,_,run_yield hL z,roundIn_of_wpIn trivial ?_⟩;have y:=Ys _ _ _ _ _ _ G hx hv
   have a2:(L.params.zip xs).foldl (λi (x:Tmp×Value)=>i.setIfInBounds x.1 x.2) L.tmps=(L.params.toList.zip xs.toList).foldl (λi (x:Tmp×Value)=>i.setIfInBounds x.1 x.2) L.tmps:=by
    rw[←Array.foldl_toList,Array.toList_zip]
   split at c
   ·rename_i a0 b1 h2 O
    refine hS nt pv _ _ U _ _ _ _ _ _ _ O m w ⟨_, []⟩ (some q.1) ?_ ⟨q,W,rfl⟩ hr F _ ?_
    ·show jM m nt pv _ ((L.params.zip xs).foldl (λi (x:Tmp×Value)=>i.setIfInBounds x.1 x.2) L.tmps)
     rw[a2];exact y
    ·intro a1 w1 m1 b4 b a5 _ _ _
     have s:=b.ext _ _ W;split at c
     ·rename_i r2 u
      split at c
      ·rename_i K
       obtain⟨L2,J,f⟩:=Hz b.rel u s
       have B:CV P m1 {r2 with st:= .busy} {L2 with state:= .busy}:=⟨f.vars,rfl,f.pend,f.nn⟩
       have k:=zJ b.rel (b.low F) u s J B;have R:L2.state= .ready:=by rw[f.st,K];rfl
       refine⟨_,run_beginRound J R,?_⟩;split at c
       ·rename_i e a4 a8 h3 A
        refine hS nt pv _ _ Z _ _ _ _ _ _ _ A m1 _ a1 (some q.1) a5 ⟨q,s,rfl⟩ k.rel (k.low (b.low F)) _ ?_;intro a3 w3 Y b2 a _ _ _ _;have t:=a.ext _ _ s;have d:=(b.trans k).trans a;split at c
        ·rename_i r3 l
         obtain⟨L3,o,j⟩:=Hz a.rel l t
         cases e with
         |norm=>
          simp only at c;cases c;refine⟨_,_,run_endRound none o,_,Y,rfl,rfl,d.trans (zJ a.rel (d.low F) l t o ⟨j.vars,rfl,rfl,by simp⟩)⟩
         |ret=>
          simp only at c;cases c;refine⟨_,_,run_endRound (some .ret) o,_,Y,rfl,rfl,d.trans (zJ a.rel (d.low F) l t o ⟨j.vars,rfl,rfl,by simp⟩)⟩
         |exit n=>
          simp only at c;cases c;refine⟨_,_,run_endRound (some (.exit n)) o,_,Y,rfl,rfl,d.trans (zJ a.rel (d.low F) l t o ⟨j.vars,rfl,rfl,by simp⟩)⟩
        ·cases c
       ·cases c
      ·cases c
     ·cases c
   ·cases c
  ·cases c
 ·cases c
theorem Vr {n:Nat}(a:0<n):List.range n=List.range (n- 1)++ [n- 1]:=by
 obtain⟨k,rfl⟩: ∃k,n=k+1:=⟨n- 1,om⟩
 simp [List.range_succ]
theorem RX (hC:Dd P cl){rd rr:Option Nat}{h':H}{nt:Nat}{pv:List Nat}{vars:List V}{a:Act}{g:Nat}{fs cs:List V}{v:V}{pars:List Nat}{as bd:C}{x:X}{fo:Operand}{ps:Array Tmp}{z A:Code}
  (hv:jM m nt pv vars a.tmps) (a1:RdR m rd rr) (hr:HR P m h w) (hl:Qk m h.next) (hx:fU pv [] fo=some x) (b4:xv vars [] x= .fn g fs cs) (b7:cH (ps.toList.map λt=>idx t pv)=some pars)
  (b5:jL P nt pv z=some as) (b6:jL P nt pv A=some bd) (Z:LR rd h=true)
  (he:cl g (fs++ .yl h.next::cs) (h.new (.loop {vars,pars,assign:=as,body:=bd,st:= .ready,pend:=none}))=some (v,h')) {r:eH} (b0:h'.get h.next=some (.loop r)) (a3:r.st≠ .busy)
  {Q:Exit->Act->World->Prop} (hQ:JZ P m h w nt pv a (r.pend.getD .norm) vars [] (h'.set h.next (some (.loop {r with st:= .out}))) false Q):(Code.rangeFunc fo ps z A).wpIn (Wf rr) 0 P Q a w:=by
 refine wpIn_rangeFunc (λfn _=>?_)
 have a8:=aJ (s:=(⟨hv,xZ.nil ..⟩:St m nt pv [] vars [] a)) hx
 rw[b4] at a8
 obtain⟨xs,ys,c1,h1,h2⟩:=a8
 have c2: ∃(l:Nat) (j:List Deferred) (f u:World) (dd:Nat),(Instr.enterLoop fn a.tmps ps z A rr).run P w= .ok (l,j) f/\iO P m h w m h u/\l=u.heap.size/\
   f=u.alloc (.loop {state:= .ready,pending:=none,fn,tmps:=a.tmps,params:=ps,assign:=z,body:=A,defers:=dd})/\
   (j= []∨ ∃d:Deferred,j= [d]/\d.target= .collected w.heap.size/\u.heap.size=w.heap.size+1/\u.heap[w.heap.size]? =some (.deferred (some []))):=by
  cases rd with
  |none=>
   cases rr with
   |none=>
    exact⟨_,_,_,w.alloc (.deferred (some [])),w.heap.size,run_enterLoop_outer fn a.tmps ps z A,iO.laid hr _,by simp,rfl,.inr ⟨_,rfl,rfl,by simp,heap_alloc_new w _⟩⟩
   |some l=>exact a1.elim
  |some id=>
   cases rr with
   |none=>exact a1.elim
   |some l=>
    obtain⟨q,Y,rfl⟩:=a1;simp only[LR] at Z;split at Z
    ·rename_i r0 a7
     obtain⟨L0,b8,_⟩:=Hz hr a7 Y;exact⟨_,_,_,w,L0.defers,Cw b8 fn a.tmps ps z A,iO.Rn hr,rfl,rfl,.inl rfl⟩
    ·cases Z
 obtain⟨l,j,f,u,dd,a5,o,b9,c0,a2⟩:=c2
 subst b9
 have F:=o.low hl
 have b:=iO.new o.rel F.fresh (.loop {vars,pars,assign:=as,body:=bd,st:= .ready,pend:=none})
  (.loop {state:= .ready,pending:=none,fn,tmps:=a.tmps,params:=ps,assign:=z,body:=A,defers:=dd}) (0,0)
  (λm' e _=>⟨_,heap_alloc_new u _,⟨⟨nt,pv,hv.mono e,b5,b6,b7⟩,rfl,rfl,by simp⟩⟩)
 rw[←c0] at b
 have a4:=b.low F
 have a0:gZ (m.set h.next (u.heap.size,0,0)) (fs++ .yl h.next::cs) (xs++ #[Value.func (.yield u.heap.size) #[] #[]]++ys).toList:=by
  have e1:=gZ.mono b.ext _ _ h1;have e2:=gZ.mono b.ext _ _ h2
  have e3:gZ (m.set h.next (u.heap.size,0,0)) (.yl h.next::cs) (.func (.yield u.heap.size) #[] #[]::ys.toList):=⟨⟨_,M.jR ..,rfl⟩,e2⟩
  have:=e1.append e3;simpa using this
 have W:=(hC _ _ _ _ _ he).2 _ f _ a0 b.rel a4
 refine⟨u.heap.size,j,f,{target:= .fn (.func g) ys,args:=xs++ #[Value.func (.yield u.heap.size) #[] #[]]},f,g,xs++ #[Value.func (.yield u.heap.size) #[] #[]]++ys,f,a5,?_,λ_ _=>trivial,?_,λhh=>by simp [Fence.wide] at hh,?_⟩
 ·have b3:a.eval (.const (.func (.yield u.heap.size) #[] #[]))= .func (.yield u.heap.size) #[] #[]:=rfl
  simp [resolve,rangeCall,c1,Deferred.ofValue,b3]
 ·simp only[Go.invoke];exact qC (hC _ _ _ _ _ he).1
 ·have K:CallsIn (Wf rr) 0 P g (xs++ #[Value.func (.yield u.heap.size) #[] #[]]++ys) f (Dm P _ _ f v h'):=W
  refine CallsIn.mono K (λe w2 hh=>?_)
  obtain⟨y,m2,rfl,_,i⟩:=hh
  have a6:=i.ext _ _ (M.jR m h.next (u.heap.size,0,0))
  obtain⟨L,hL,k⟩:=Hz i.rel b0 a6
  have iP:L.state≠ .busy:=by
   rw[k.st];cases hs:r.st<;>simp [ahC];exact a3 hs
  have R:=(o.trans b).trans i
  have B:=zJ i.rel (R.low hl) b0 a6 hL (r':={r with st:= .out}) (L':={L with state:= .exhausted}) ⟨k.vars,rfl,k.pend,k.nn⟩
  refine⟨L.pending,_,run_endLoop hL iP,?_⟩
  have O:=R.trans B
  have Y:=hQ {a with defers:=j++a.defers} _ m2 j O (hv.mono O.ext) rfl ?_ (λh=>by cases h)
  ·have G:=k.pend
   have a9:=k.nn
   cases hpe:r.pend with
   |none=>
    rw[hpe] at Y G;split
    ·exact Y
    ·rename_i c J;rw[G] at J;cases J
   |some e=>
    rw[hpe] at Y G;split
    ·rename_i J
     rw[G] at J
     cases e with
     |norm=>exact absurd hpe a9
     |ret=>cases J
     |exit n=>cases J
    ·rename_i c J
     rw[G] at J
     cases e with
     |norm=>exact absurd hpe a9
     |ret=>cases J;exact wpIn_ret Y
     |exit n=>cases J;exact wpIn_exit Y
  ·rcases a2 with rfl|⟨d,rfl,hd,c3,U⟩
   ·rfl
   ·refine .inl ⟨w.heap.size,hd,fM _,?_,?_,rfl⟩
    ·have k1:=b.kept.size
     have k2:=i.kept.size
     have k3:=B.kept.size
     omega
    ·have b1:f.heap[w.heap.size]? =some (.deferred (some [])):=(b.kept.block _ om (λhf=>o.rel.not_def U hf.lb)).trans U
     have b2:w2.heap[w.heap.size]? =some (.deferred (some [])):=(i.kept.block _ (AS.1 b1).1 (λhf=>b.rel.not_def b1 hf.lb)).trans b1
     exact (B.kept.block _ (AS.1 b2).1 (λhf=>i.rel.not_def b2 hf.lb)).trans b2
end
end
end Go.Ay
