/- A round of a range over a function; the statements; all together. -/
import Derived.Test.YtapfcpkecmmagaaGreatAy19
namespace Go.Ay
open Go
section
variable {m:M} {h:H} {w:World}
section
variable {P:Program} {p:Nat->Option Fn} {cl yl:dP} {N:Nat}
theorem sB (f:HR P m h w)(e:Cq m h.next){id:Nat}{r r':fM}{q:Nat×Nat×Nat}{L L':Loop}(c:h.get id=some (.loop r))(g:m id=some q)(d:w.heap[q.1]? =some (.loop L))(a:Lr P m r' L'):
  fU P m h w m (h.set id (some (.loop r'))) (w.putObj q.1 (.loop L')):=by
 have b:=(Gu.1 d).1
 exact fU.put f e.fresh c rfl rfl g ⟨L',World.putObj_heap_same b,a⟩ rfl rfl rfl (by simp) (λb b=>World.putObj_heap_other b)
theorem uK (d:HR P m h w){id:Nat}{r:fM}{q:Nat×Nat×Nat}(b:h.get id=some (.loop r))(c:m id=some q): ∃L,w.heap[q.1]? =some (.loop L)/\Lr P m r L:=by
 obtain⟨f,a,e⟩:=d.live id _ b;rw[c] at a;cases a;exact e
theorem Gh (hS:Zu P cl yl N):rX P (oN cl yl N):=by
 intro id a8 h v h' c m w xs q hx hr B hq;simp only[oN] at c;split at c
 ·rename_i r a2
  split at c
  ·rename_i a7
   obtain⟨L,hL,F⟩:=uK hr a2 hq;obtain⟨⟨nt,pv,hv,W,U,O⟩,gY,a0,b0⟩:=F
   have z:xs.size=L.params.size:=by
    have h1:=(gW O).1;have h2:=fL.length hx;simp at h1 h2;omega
   refine⟨_,_,_,_,run_yield hL z,roundIn_of_wpIn trivial ?_⟩;have y:=Hw _ _ _ _ _ _ O hx hv
   have Y:(L.params.zip xs).foldl (λg (x:Tmp×Value)=>g.setIfInBounds x.1 x.2) L.tmps=(L.params.toList.zip xs.toList).foldl (λg (x:Tmp×Value)=>g.setIfInBounds x.1 x.2) L.tmps:=by
    rw[←Array.foldl_toList,Array.toList_zip]
   split at c
   ·rename_i a5 a6 h2 J
    refine hS nt pv _ _ W _ _ _ _ _ _ _ J m w ⟨_, []⟩ (some q.1) ?_ ⟨q,hq,rfl⟩ hr B _ ?_
    ·show iG m nt pv _ ((L.params.zip xs).foldl (λg (x:Tmp×Value)=>g.setIfInBounds x.1 x.2) L.tmps)
     rw[Y];exact y
    ·intro a1 w1 m1 b2 b a4 _ _ _
     have s:=b.ext _ _ hq;split at c
     ·rename_i r2 t
      split at c
      ·rename_i G
       obtain⟨L2,Q,f⟩:=uK b.rel t s
       have A:Lr P m1 {r2 with st:= .busy} {L2 with state:= .busy}:=⟨f.vars,rfl,f.pend,f.nn⟩
       have j:=sB b.rel (b.low B) t s Q A;have K:L2.state= .ready:=by rw[f.st,G];rfl
       refine⟨_,run_beginRound Q K,?_⟩;split at c
       ·rename_i e R a9 h3 u
        refine hS nt pv _ _ U _ _ _ _ _ _ _ u m1 _ a1 (some q.1) a4 ⟨q,s,rfl⟩ j.rel (j.low (b.low B)) _ ?_;intro a3 w3 Z b1 a _ _ _ _;have o:=a.ext _ _ s;have d:=(b.trans j).trans a;split at c
        ·rename_i r3 k
         obtain⟨L3,l,i⟩:=uK a.rel k o
         cases e with
         |norm=>
          simp only at c;cases c;refine⟨_,_,run_endRound none l,_,Z,rfl,rfl,d.trans (sB a.rel (d.low B) k o l ⟨i.vars,rfl,rfl,by simp⟩)⟩
         |ret=>
          simp only at c;cases c;refine⟨_,_,run_endRound (some .ret) l,_,Z,rfl,rfl,d.trans (sB a.rel (d.low B) k o l ⟨i.vars,rfl,rfl,by simp⟩)⟩
         |exit n=>
          simp only at c;cases c;refine⟨_,_,run_endRound (some (.exit n)) l,_,Z,rfl,rfl,d.trans (sB a.rel (d.low B) k o l ⟨i.vars,rfl,rfl,by simp⟩)⟩
        ·cases c
       ·cases c
      ·cases c
     ·cases c
   ·cases c
  ·cases c
 ·cases c
theorem Hl {n:Nat}(a:0<n):List.range n=List.range (n- 1)++ [n- 1]:=by
 obtain⟨k,rfl⟩: ∃k,n=k+1:=⟨n- 1,om⟩
 simp [List.range_succ]
theorem Xr (hC:tN P cl){rd rr:Option Nat}{h':H}{nt:Nat}{pv:List Nat}{vars:List V}{a:Act}{g:Nat}{fs cs:List V}{v:V}{pars:List Nat}{as bd:C}{x:X}{fo:Operand}{Y:Array Tmp}{A z:Code}
  (hv:iG m nt pv vars a.tmps) (a0:CX m rd rr) (hr:HR P m h w) (hl:Cq m h.next) (hx:fC pv [] fo=some x) (b7:xv vars [] x= .fn g fs cs) (c0:cU (Y.toList.map λt=>idx t pv)=some pars)
  (b8:iE P nt pv A=some as) (b9:iE P nt pv z=some bd) (a4:Qm rd h=true)
  (he:cl g (fs++ .yl h.next::cs) (h.new (.loop {vars,pars,assign:=as,body:=bd,st:= .ready,pend:=none}))=some (v,h')) {r:fM} (a8:h'.get h.next=some (.loop r)) (a3:r.st≠ .busy)
  {Q:Exit->Act->World->Prop} (hQ:Qa P m h w nt pv a (r.pend.getD .norm) vars [] (h'.set h.next (some (.loop {r with st:= .out}))) false Q):(Code.rangeFunc fo Y A z).wpIn (Wf rr) 0 P Q a w:=by
 refine wpIn_rangeFunc (λfn _=>?_)
 have a7:=aJ (s:=(⟨hv,qK.nil ..⟩:St m nt pv [] vars [] a)) hx
 rw[b7] at a7
 obtain⟨xs,ys,b5,h1,h2⟩:=a7
 have c2: ∃(l:Nat) (j:List Deferred) (f u:World) (dd:Nat),(Instr.enterLoop fn a.tmps Y A z rr).run P w= .ok (l,j) f/\fU P m h w m h u/\l=u.heap.size/\
   f=u.alloc (.loop {state:= .ready,pending:=none,fn,tmps:=a.tmps,params:=Y,assign:=A,body:=z,defers:=dd})/\
   (j= []∨ ∃d:Deferred,j= [d]/\d.target= .collected w.heap.size/\u.heap.size=w.heap.size+1/\u.heap[w.heap.size]? =some (.deferred (some []))):=by
  cases rd with
  |none=>
   cases rr with
   |none=>
    exact⟨_,_,_,w.alloc (.deferred (some [])),w.heap.size,run_enterLoop_outer fn a.tmps Y A z,fU.laid hr _,by simp,rfl,.inr ⟨_,rfl,rfl,by simp,heap_alloc_new w _⟩⟩
   |some l=>exact a0.elim
  |some id=>
   cases rr with
   |none=>exact a0.elim
   |some l=>
    obtain⟨q,hq,rfl⟩:=a0;simp only[Qm] at a4;split at a4
    ·rename_i r0 a6
     obtain⟨L0,b3,_⟩:=uK hr a6 hq;exact⟨_,_,_,w,L0.defers,sU b3 fn a.tmps Y A z,fU.Dz hr,rfl,rfl,.inl rfl⟩
    ·cases a4
 obtain⟨l,j,f,u,dd,b0,o,c1,b4,W⟩:=c2
 subst c1
 have G:=o.low hl
 have b:=fU.new o.rel G.fresh (.loop {vars,pars,assign:=as,body:=bd,st:= .ready,pend:=none})
  (.loop {state:= .ready,pending:=none,fn,tmps:=a.tmps,params:=Y,assign:=A,body:=z,defers:=dd}) (0,0)
  (λm' e _=>⟨_,heap_alloc_new u _,⟨⟨nt,pv,hv.mono e,b8,b9,c0⟩,rfl,rfl,by simp⟩⟩)
 rw[←b4] at b
 have a1:=b.low G
 have Z:fL (m.set h.next (u.heap.size,0,0)) (fs++ .yl h.next::cs) (xs++ #[Value.func (.yield u.heap.size) #[] #[]]++ys).toList:=by
  have e1:=fL.mono b.ext _ _ h1;have e2:=fL.mono b.ext _ _ h2
  have e3:fL (m.set h.next (u.heap.size,0,0)) (.yl h.next::cs) (.func (.yield u.heap.size) #[] #[]::ys.toList):=⟨⟨_,M.iI ..,rfl⟩,e2⟩
  have:=e1.append e3;simpa using this
 have a2:=(hC _ _ _ _ _ he).2 _ f _ Z b.rel a1
 refine⟨u.heap.size,j,f,{target:= .fn (.func g) ys,args:=xs++ #[Value.func (.yield u.heap.size) #[] #[]]},f,g,xs++ #[Value.func (.yield u.heap.size) #[] #[]]++ys,f,b0,?_,λ_ _=>trivial,?_,λhh=>by simp [Fence.wide] at hh,?_⟩
 ·have b6:a.eval (.const (.func (.yield u.heap.size) #[] #[]))= .func (.yield u.heap.size) #[] #[]:=rfl
  simp [resolve,rangeCall,b5,Deferred.ofValue,b6]
 ·simp only[Go.invoke];exact lF (hC _ _ _ _ _ he).1
 ·have K:CallsIn (Wf rr) 0 P g (xs++ #[Value.func (.yield u.heap.size) #[] #[]]++ys) f (tC P _ _ f v h'):=a2
  refine CallsIn.mono K (λe w2 hh=>?_)
  obtain⟨y,m2,rfl,_,i⟩:=hh
  have a9:=i.ext _ _ (M.iI m h.next (u.heap.size,0,0))
  obtain⟨L,hL,k⟩:=uK i.rel a8 a9
  have gY:L.state≠ .busy:=by
   rw[k.st];cases hs:r.st<;>simp [FO];exact a3 hs
  have R:=(o.trans b).trans i
  have B:=sB i.rel (R.low hl) a8 a9 hL (r':={r with st:= .out}) (L':={L with state:= .exhausted}) ⟨k.vars,rfl,k.pend,k.nn⟩
  refine⟨L.pending,_,run_endLoop hL gY,?_⟩
  have U:=R.trans B
  have hq:=hQ {a with defers:=j++a.defers} _ m2 j U (hv.mono U.ext) rfl ?_ (λh=>by cases h)
  ·have F:=k.pend
   have a5:=k.nn
   cases hpe:r.pend with
   |none=>
    rw[hpe] at hq F;split
    ·exact hq
    ·rename_i c J;rw[F] at J;cases J
   |some e=>
    rw[hpe] at hq F;split
    ·rename_i J
     rw[F] at J
     cases e with
     |norm=>exact absurd hpe a5
     |ret=>cases J
     |exit n=>cases J
    ·rename_i c J
     rw[F] at J
     cases e with
     |norm=>exact absurd hpe a5
     |ret=>cases J;exact wpIn_ret hq
     |exit n=>cases J;exact wpIn_exit hq
  ·rcases W with rfl|⟨d,rfl,hd,c3,O⟩
   ·rfl
   ·refine .inl ⟨w.heap.size,hd,fH _,?_,?_,rfl⟩
    ·have k1:=b.kept.size
     have k2:=i.kept.size
     have k3:=B.kept.size
     omega
    ·have b1:f.heap[w.heap.size]? =some (.deferred (some [])):=(b.kept.block _ om (λhf=>o.rel.not_def O hf.lb)).trans O
     have b2:w2.heap[w.heap.size]? =some (.deferred (some [])):=(i.kept.block _ (Gu.1 b1).1 (λhf=>b.rel.not_def b1 hf.lb)).trans b1
     exact (B.kept.block _ (Gu.1 b2).1 (λhf=>i.rel.not_def b2 hf.lb)).trans b2
end
end
end Go.Ay
