/- A round of a range over a function; the statements; all together. -/
import Derived.Test.YtcdbmkidaecdiaaGreatAy19
namespace Go.Ay
open Go
section
variable {m:M} {h:H} {w:World}
section
variable {P:Program} {p:Nat->Option Fn} {cl yl:dP} {N:Nat}
theorem zJ (g:HR P m h w)(i:Qk m h.next){id:Nat}{r r':eH}{q:Nat×Nat×Nat}{L L':Loop}(c:h.get id=some (.loop r))(f:m id=some q)(e:w.heap[q.1]? =some (.loop L))(a:CV P m r' L'):
  iO P m h w m (h.set id (some (.loop r'))) (w.putObj q.1 (.loop L')):=by
 have d:=(AS.1 e).1
 exact iO.put g i.fresh c rfl rfl f ⟨L',World.putObj_heap_same d,a⟩ rfl rfl rfl (by simp) (λb j=>World.putObj_heap_other j)
theorem Hz (e:HR P m h w){id:Nat}{r:eH}{q:Nat×Nat×Nat}(b:h.get id=some (.loop r))(d:m id=some q): ∃L,w.heap[q.1]? =some (.loop L)/\CV P m r L:=by
 obtain⟨f,a,c⟩:=e.live id _ b;rw[d] at a;cases a;exact c
theorem Uh (hS:acK P cl yl N):Ao P (vG cl yl N):=by
 intro id a8 h v h' c m w xs q hx hr B hq;simp only[vG] at c;split at c
 ·rename_i r W
  split at c
  ·rename_i a9
   obtain⟨L,hL,G⟩:=Hz hr W hq;obtain⟨⟨Z,pv,hv,a5,a6,F⟩,iP,a2,b3⟩:=G
   have z:xs.size=L.params.size:=by
    have h1:=(jD F).1;have h2:=gZ.length hx;simp at h1 h2;omega
   refine⟨_,_,_,_,run_yield hL z,roundIn_of_wpIn trivial ?_⟩;have y:=Ys _ _ _ _ _ _ F hx hv
   have Y:(L.params.zip xs).foldl (λg (x:Tmp×Value)=>g.setIfInBounds x.1 x.2) L.tmps=(L.params.toList.zip xs.toList).foldl (λg (x:Tmp×Value)=>g.setIfInBounds x.1 x.2) L.tmps:=by
    rw[←Array.foldl_toList,Array.toList_zip]
   split at c
   ·rename_i a0 a7 h2 O
    refine hS Z pv _ _ a5 _ _ _ _ _ _ _ O m w ⟨_, []⟩ (some q.1) ?_ ⟨q,hq,rfl⟩ hr B _ ?_
    ·show jM m Z pv _ ((L.params.zip xs).foldl (λg (x:Tmp×Value)=>g.setIfInBounds x.1 x.2) L.tmps)
     rw[Y];exact y
    ·intro a1 w1 m1 b2 a U _ _ _
     have s:=a.ext _ _ hq;split at c
     ·rename_i r2 t
      split at c
      ·rename_i K
       obtain⟨L2,Q,f⟩:=Hz a.rel t s
       have u:CV P m1 {r2 with st:= .busy} {L2 with state:= .busy}:=⟨f.vars,rfl,f.pend,f.nn⟩
       have i:=zJ a.rel (a.low B) t s Q u;have J:L2.state= .ready:=by rw[f.st,K];rfl
       refine⟨_,run_beginRound Q J,?_⟩;split at c
       ·rename_i e a4 b0 h3 A
        refine hS Z pv _ _ a6 _ _ _ _ _ _ _ A m1 _ a1 (some q.1) U ⟨q,s,rfl⟩ i.rel (i.low (a.low B)) _ ?_;intro a3 w3 R b1 b _ _ _ _;have o:=b.ext _ _ s;have d:=(a.trans i).trans b;split at c
        ·rename_i r3 k
         obtain⟨L3,l,j⟩:=Hz b.rel k o
         cases e with
         |norm=>
          simp only at c;cases c;refine⟨_,_,run_endRound none l,_,R,rfl,rfl,d.trans (zJ b.rel (d.low B) k o l ⟨j.vars,rfl,rfl,by simp⟩)⟩
         |ret=>
          simp only at c;cases c;refine⟨_,_,run_endRound (some .ret) l,_,R,rfl,rfl,d.trans (zJ b.rel (d.low B) k o l ⟨j.vars,rfl,rfl,by simp⟩)⟩
         |exit n=>
          simp only at c;cases c;refine⟨_,_,run_endRound (some (.exit n)) l,_,R,rfl,rfl,d.trans (zJ b.rel (d.low B) k o l ⟨j.vars,rfl,rfl,by simp⟩)⟩
        ·cases c
       ·cases c
      ·cases c
     ·cases c
   ·cases c
  ·cases c
 ·cases c
theorem Vr {n:Nat}(a:0<n):List.range n=List.range (n- 1)++ [n- 1]:=by
 obtain⟨k,rfl⟩: ∃k,n=k+1:=⟨n- 1,om⟩
 simp [List.range_succ]
theorem RX (hC:Dd P cl){rd rr:Option Nat}{h':H}{nt:Nat}{pv:List Nat}{vars:List V}{a:Act}{g:Nat}{fs cs:List V}{v:V}{pars:List Nat}{as bd:C}{x:X}{fo:Operand}{ps:Array Tmp}{B A:Code}
  (hv:jM m nt pv vars a.tmps) (a2:RdR m rd rr) (hr:HR P m h w) (hl:Qk m h.next) (hx:fU pv [] fo=some x) (b9:xv vars [] x= .fn g fs cs) (b4:cH (ps.toList.map λt=>idx t pv)=some pars)
  (c0:jL P nt pv B=some as) (c1:jL P nt pv A=some bd) (a0:LR rd h=true)
  (he:cl g (fs++ .yl h.next::cs) (h.new (.loop {vars,pars,assign:=as,body:=bd,st:= .ready,pend:=none}))=some (v,h')) {r:eH} (a5:h'.get h.next=some (.loop r)) (W:r.st≠ .busy)
  {Q:Exit->Act->World->Prop} (hQ:JZ P m h w nt pv a (r.pend.getD .norm) vars [] (h'.set h.next (some (.loop {r with st:= .out}))) false Q):(Code.rangeFunc fo ps B A).wpIn (Wf rr) 0 P Q a w:=by
 refine wpIn_rangeFunc (λfn _=>?_)
 have a9:=aJ (s:=(⟨hv,xZ.nil ..⟩:St m nt pv [] vars [] a)) hx
 rw[b9] at a9
 obtain⟨xs,ys,b5,h1,h2⟩:=a9
 have b7: ∃(l:Nat) (j:List Deferred) (f u:World) (dd:Nat),(Instr.enterLoop fn a.tmps ps B A rr).run P w= .ok (l,j) f/\iO P m h w m h u/\l=u.heap.size/\
   f=u.alloc (.loop {state:= .ready,pending:=none,fn,tmps:=a.tmps,params:=ps,assign:=B,body:=A,defers:=dd})/\
   (j= []∨ ∃d:Deferred,j= [d]/\d.target= .collected w.heap.size/\u.heap.size=w.heap.size+1/\u.heap[w.heap.size]? =some (.deferred (some []))):=by
  cases rd with
  |none=>
   cases rr with
   |none=>
    exact⟨_,_,_,w.alloc (.deferred (some [])),w.heap.size,run_enterLoop_outer fn a.tmps ps B A,iO.laid hr _,by simp,rfl,.inr ⟨_,rfl,rfl,by simp,heap_alloc_new w _⟩⟩
   |some l=>exact a2.elim
  |some id=>
   cases rr with
   |none=>exact a2.elim
   |some l=>
    obtain⟨q,hq,rfl⟩:=a2;simp only[LR] at a0;split at a0
    ·rename_i r0 a7
     obtain⟨L0,b3,_⟩:=Hz hr a7 hq;exact⟨_,_,_,w,L0.defers,Cw b3 fn a.tmps ps B A,iO.Rn hr,rfl,rfl,.inl rfl⟩
    ·cases a0
 obtain⟨l,j,f,u,dd,a4,o,b0,b8,a1⟩:=b7
 subst b0
 have G:=o.low hl
 have b:=iO.new o.rel G.fresh (.loop {vars,pars,assign:=as,body:=bd,st:= .ready,pend:=none})
  (.loop {state:= .ready,pending:=none,fn,tmps:=a.tmps,params:=ps,assign:=B,body:=A,defers:=dd}) (0,0)
  (λm' e _=>⟨_,heap_alloc_new u _,⟨⟨nt,pv,hv.mono e,c0,c1,b4⟩,rfl,rfl,by simp⟩⟩)
 rw[←b8] at b
 have a3:=b.low G
 have Y:gZ (m.set h.next (u.heap.size,0,0)) (fs++ .yl h.next::cs) (xs++ #[Value.func (.yield u.heap.size) #[] #[]]++ys).toList:=by
  have e1:=gZ.mono b.ext _ _ h1;have e2:=gZ.mono b.ext _ _ h2
  have e3:gZ (m.set h.next (u.heap.size,0,0)) (.yl h.next::cs) (.func (.yield u.heap.size) #[] #[]::ys.toList):=⟨⟨_,M.jR ..,rfl⟩,e2⟩
  have:=e1.append e3;simpa using this
 have Z:=(hC _ _ _ _ _ he).2 _ f _ Y b.rel a3
 refine⟨u.heap.size,j,f,{target:= .fn (.func g) ys,args:=xs++ #[Value.func (.yield u.heap.size) #[] #[]]},f,g,xs++ #[Value.func (.yield u.heap.size) #[] #[]]++ys,f,a4,?_,λ_ _=>trivial,?_,λhh=>by simp [Fence.wide] at hh,?_⟩
 ·have b6:a.eval (.const (.func (.yield u.heap.size) #[] #[]))= .func (.yield u.heap.size) #[] #[]:=rfl
  simp [resolve,rangeCall,b5,Deferred.ofValue,b6]
 ·simp only[Go.invoke];exact qC (hC _ _ _ _ _ he).1
 ·have K:CallsIn (Wf rr) 0 P g (xs++ #[Value.func (.yield u.heap.size) #[] #[]]++ys) f (Dm P _ _ f v h'):=Z
  refine CallsIn.mono K (λe w2 hh=>?_)
  obtain⟨y,m2,rfl,_,i⟩:=hh
  have a6:=i.ext _ _ (M.jR m h.next (u.heap.size,0,0))
  obtain⟨L,hL,k⟩:=Hz i.rel a5 a6
  have iP:L.state≠ .busy:=by
   rw[k.st];cases hs:r.st<;>simp [ahC];exact W hs
  have U:=(o.trans b).trans i
  have z:=zJ i.rel (U.low hl) a5 a6 hL (r':={r with st:= .out}) (L':={L with state:= .exhausted}) ⟨k.vars,rfl,k.pend,k.nn⟩
  refine⟨L.pending,_,run_endLoop hL iP,?_⟩
  have R:=U.trans z
  have hq:=hQ {a with defers:=j++a.defers} _ m2 j R (hv.mono R.ext) rfl ?_ (λh=>by cases h)
  ·have F:=k.pend
   have a8:=k.nn
   cases hpe:r.pend with
   |none=>
    rw[hpe] at hq F;split
    ·exact hq
    ·rename_i c J;rw[F] at J;cases J
   |some e=>
    rw[hpe] at hq F;split
    ·rename_i J
     rw[F] at J
     cases e with
     |norm=>exact absurd hpe a8
     |ret=>cases J
     |exit n=>cases J
    ·rename_i c J
     rw[F] at J
     cases e with
     |norm=>exact absurd hpe a8
     |ret=>cases J;exact wpIn_ret hq
     |exit n=>cases J;exact wpIn_exit hq
  ·rcases a1 with rfl|⟨d,rfl,hd,c2,O⟩
   ·rfl
   ·refine .inl ⟨w.heap.size,hd,fM _,?_,?_,rfl⟩
    ·have k1:=b.kept.size
     have k2:=i.kept.size
     have k3:=z.kept.size
     omega
    ·have b1:f.heap[w.heap.size]? =some (.deferred (some [])):=(b.kept.block _ om (λhf=>o.rel.not_def O hf.lb)).trans O
     have b2:w2.heap[w.heap.size]? =some (.deferred (some [])):=(i.kept.block _ (AS.1 b1).1 (λhf=>b.rel.not_def b1 hf.lb)).trans b1
     exact (z.kept.block _ (AS.1 b2).1 (λhf=>i.rel.not_def b2 hf.lb)).trans b2
end
end
end Go.Ay
