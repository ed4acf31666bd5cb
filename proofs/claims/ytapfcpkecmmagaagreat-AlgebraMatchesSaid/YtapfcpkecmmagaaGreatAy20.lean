/- A round of a range over a function; the statements; all together. -/
import Derived.Test.YtapfcpkecmmagaaGreatAy19
namespace Go.Ay
open Go
section
variable {m:M} {h:H} {w:World}
section
variable {P:Program} {p:Nat->Option Fn} {cl yl:dP} {N:Nat}
theorem rW (g:HR P m h w)(d:Cx m h.next){id:Nat}{r r':fQ}{q:Nat×Nat×Nat}{L L':Loop}(c:h.get id=some (.loop r))(e:m id=some q)(f:w.heap[q.1]? =some (.loop L))(a:Mc P m r' L'):
  fY P m h w m (h.set id (some (.loop r'))) (w.putObj q.1 (.loop L')):=by
 have b:=(Er.1 f).1
 exact fY.put g d.fresh c rfl rfl e ⟨L',World.putObj_heap_same b,a⟩ rfl rfl rfl (by simp) (λb b=>World.putObj_heap_other b)
theorem vJ (e:HR P m h w){id:Nat}{r:fQ}{q:Nat×Nat×Nat}(b:h.get id=some (.loop r))(d:m id=some q): ∃L,w.heap[q.1]? =some (.loop L)/\Mc P m r L:=by
 obtain⟨f,a,c⟩:=e.live id _ b;rw[d] at a;cases a;exact c
theorem Gx (hS:Zu P cl yl N):rY P (oY cl yl N):=by
 intro id a7 h v h' c m w xs q hx hr B hq;simp only[oY] at c;split at c
 ·rename_i r R
  split at c
  ·rename_i a6
   obtain⟨L,hL,O⟩:=vJ hr R hq;obtain⟨⟨Z,pv,hv,W,a5,Q⟩,iA,Y,b0⟩:=O
   have y:xs.size=L.params.size:=by
    have h1:=(gO Q).1;have h2:=fP.length hx;simp at h1 h2;omega
   refine⟨_,_,_,_,run_yield hL y,roundIn_of_wpIn trivial ?_⟩;have A:=Hv _ _ _ _ _ _ Q hx hv
   have a2:(L.params.zip xs).foldl (λg (x:Tmp×Value)=>g.setIfInBounds x.1 x.2) L.tmps=(L.params.toList.zip xs.toList).foldl (λg (x:Tmp×Value)=>g.setIfInBounds x.1 x.2) L.tmps:=by
    rw[←Array.foldl_toList,Array.toList_zip]
   split at c
   ·rename_i a4 a9 h2 F
    refine hS Z pv _ _ W _ _ _ _ _ _ _ F m w ⟨_, []⟩ (some q.1) ?_ ⟨q,hq,rfl⟩ hr B _ ?_
    ·show iG m Z pv _ ((L.params.zip xs).foldl (λg (x:Tmp×Value)=>g.setIfInBounds x.1 x.2) L.tmps)
     rw[a2];exact A
    ·intro a1 w1 m1 b2 b U _ _ _
     have o:=b.ext _ _ hq;split at c
     ·rename_i r2 t
      split at c
      ·rename_i J
       obtain⟨L2,K,f⟩:=vJ b.rel t o
       have u:Mc P m1 {r2 with st:= .busy} {L2 with state:= .busy}:=⟨f.vars,rfl,f.pend,f.nn⟩
       have i:=rW b.rel (b.low B) t o K u;have G:L2.state= .ready:=by rw[f.st,J];rfl
       refine⟨_,run_beginRound K G,?_⟩;split at c
       ·rename_i e a0 a8 h3 z
        refine hS Z pv _ _ a5 _ _ _ _ _ _ _ z m1 _ a1 (some q.1) U ⟨q,o,rfl⟩ i.rel (i.low (b.low B)) _ ?_;intro a3 w3 m3 b1 a _ _ _ _;have s:=a.ext _ _ o;have d:=(b.trans i).trans a;split at c
        ·rename_i r3 k
         obtain⟨L3,l,j⟩:=vJ a.rel k s
         cases e with
         |norm=>
          simp only at c;cases c;refine⟨_,_,run_endRound none l,_,m3,rfl,rfl,d.trans (rW a.rel (d.low B) k s l ⟨j.vars,rfl,rfl,by simp⟩)⟩
         |ret=>
          simp only at c;cases c;refine⟨_,_,run_endRound (some .ret) l,_,m3,rfl,rfl,d.trans (rW a.rel (d.low B) k s l ⟨j.vars,rfl,rfl,by simp⟩)⟩
         |exit n=>
          simp only at c;cases c;refine⟨_,_,run_endRound (some (.exit n)) l,_,m3,rfl,rfl,d.trans (rW a.rel (d.low B) k s l ⟨j.vars,rfl,rfl,by simp⟩)⟩
        ·cases c
       ·cases c
      ·cases c
     ·cases c
   ·cases c
  ·cases c
 ·cases c
theorem Gi {n:Nat}(a:0<n):List.range n=List.range (n- 1)++ [n- 1]:=by
 obtain⟨k,rfl⟩: ∃k,n=k+1:=⟨n- 1,om⟩
 simp [List.range_succ]
theorem Vo (hC:tE P cl){rd rr:Option Nat}{h':H}{nt:Nat}{pv:List Nat}{vars:List V}{a:Act}{g:Nat}{fs cs:List V}{v:V}{pars:List Nat}{as bd:C}{x:X}{fo:Operand}{ps:Array Tmp}{B z:Code}
  (hv:iG m nt pv vars a.tmps) (W:EL m rd rr) (hr:HR P m h w) (hl:Cx m h.next) (hx:fC pv [] fo=some x) (c0:xv vars [] x= .fn g fs cs) (b7:cV (ps.toList.map λt=>idx t pv)=some pars)
  (b5:iF P nt pv B=some as) (b4:iF P nt pv z=some bd) (a3:Rs rd h=true)
  (he:cl g (fs++ .yl h.next::cs) (h.new (.loop {vars,pars,assign:=as,body:=bd,st:= .ready,pend:=none}))=some (v,h')) {r:fQ} (a6:h'.get h.next=some (.loop r)) (Y:r.st≠ .busy)
  {Q:Exit->Act->World->Prop} (hQ:Rx P m h w nt pv a (r.pend.getD .norm) vars [] (h'.set h.next (some (.loop {r with st:= .out}))) false Q):(Code.rangeFunc fo ps B z).wpIn (Wf rr) 0 P Q a w:=by
 refine wpIn_rangeFunc (λfn _=>?_)
 have a8:=aJ (s:=(⟨hv,qS.nil ..⟩:St m nt pv [] vars [] a)) hx
 rw[c0] at a8
 obtain⟨xs,ys,b3,h1,h2⟩:=a8
 have b8: ∃(l:Nat) (j:List Deferred) (f u:World) (dd:Nat),(Instr.enterLoop fn a.tmps ps B z rr).run P w= .ok (l,j) f/\fY P m h w m h u/\l=u.heap.size/\
   f=u.alloc (.loop {state:= .ready,pending:=none,fn,tmps:=a.tmps,params:=ps,assign:=B,body:=z,defers:=dd})/\
   (j= []∨ ∃d:Deferred,j= [d]/\d.target= .collected w.heap.size/\u.heap.size=w.heap.size+1/\u.heap[w.heap.size]? =some (.deferred (some []))):=by
  cases rd with
  |none=>
   cases rr with
   |none=>
    exact⟨_,_,_,w.alloc (.deferred (some [])),w.heap.size,run_enterLoop_outer fn a.tmps ps B z,fY.laid hr _,by simp,rfl,.inr ⟨_,rfl,rfl,by simp,heap_alloc_new w _⟩⟩
   |some l=>exact W.elim
  |some id=>
   cases rr with
   |none=>exact W.elim
   |some l=>
    obtain⟨q,hq,rfl⟩:=W;simp only[Rs] at a3;split at a3
    ·rename_i r0 a9
     obtain⟨L0,b0,_⟩:=vJ hr a9 hq;exact⟨_,_,_,w,L0.defers,sV b0 fn a.tmps ps B z,fY.Df hr,rfl,rfl,.inl rfl⟩
    ·cases a3
 obtain⟨l,j,f,u,dd,a7,o,b9,c1,a1⟩:=b8
 subst b9
 have F:=o.low hl
 have b:=fY.new o.rel F.fresh (.loop {vars,pars,assign:=as,body:=bd,st:= .ready,pend:=none})
  (.loop {state:= .ready,pending:=none,fn,tmps:=a.tmps,params:=ps,assign:=B,body:=z,defers:=dd}) (0,0)
  (λm' e _=>⟨_,heap_alloc_new u _,⟨⟨nt,pv,hv.mono e,b5,b4,b7⟩,rfl,rfl,by simp⟩⟩)
 rw[←c1] at b
 have a2:=b.low F
 have Z:fP (m.set h.next (u.heap.size,0,0)) (fs++ .yl h.next::cs) (xs++ #[Value.func (.yield u.heap.size) #[] #[]]++ys).toList:=by
  have e1:=fP.mono b.ext _ _ h1;have e2:=fP.mono b.ext _ _ h2
  have e3:fP (m.set h.next (u.heap.size,0,0)) (.yl h.next::cs) (.func (.yield u.heap.size) #[] #[]::ys.toList):=⟨⟨_,M.iM ..,rfl⟩,e2⟩
  have:=e1.append e3;simpa using this
 have a0:=(hC _ _ _ _ _ he).2 _ f _ Z b.rel a2
 refine⟨u.heap.size,j,f,{target:= .fn (.func g) ys,args:=xs++ #[Value.func (.yield u.heap.size) #[] #[]]},f,g,xs++ #[Value.func (.yield u.heap.size) #[] #[]]++ys,f,a7,?_,λ_ _=>trivial,?_,λhh=>by simp [Fence.wide] at hh,?_⟩
 ·have b6:a.eval (.const (.func (.yield u.heap.size) #[] #[]))= .func (.yield u.heap.size) #[] #[]:=rfl
  simp [resolve,rangeCall,b3,Deferred.ofValue,b6]
 ·simp only[Go.invoke];exact lE (hC _ _ _ _ _ he).1
 ·have K:CallsIn (Wf rr) 0 P g (xs++ #[Value.func (.yield u.heap.size) #[] #[]]++ys) f (tF P _ _ f v h'):=a0
  refine CallsIn.mono K (λe w2 hh=>?_)
  obtain⟨y,m2,rfl,_,i⟩:=hh
  have a5:=i.ext _ _ (M.iM m h.next (u.heap.size,0,0))
  obtain⟨L,hL,k⟩:=vJ i.rel a6 a5
  have iA:L.state≠ .busy:=by
   rw[k.st];cases hs:r.st<;>simp [HF];exact Y hs
  have R:=(o.trans b).trans i
  have A:=rW i.rel (R.low hl) a6 a5 hL (r':={r with st:= .out}) (L':={L with state:= .exhausted}) ⟨k.vars,rfl,k.pend,k.nn⟩
  refine⟨L.pending,_,run_endLoop hL iA,?_⟩
  have O:=R.trans A
  have hq:=hQ {a with defers:=j++a.defers} _ m2 j O (hv.mono O.ext) rfl ?_ (λh=>by cases h)
  ·have G:=k.pend
   have a4:=k.nn
   cases hpe:r.pend with
   |none=>
    rw[hpe] at hq G;split
    ·exact hq
    ·rename_i c J;rw[G] at J;cases J
   |some e=>
    rw[hpe] at hq G;split
    ·rename_i J
     rw[G] at J
     cases e with
     |norm=>exact absurd hpe a4
     |ret=>cases J
     |exit n=>cases J
    ·rename_i c J
     rw[G] at J
     cases e with
     |norm=>exact absurd hpe a4
     |ret=>cases J;exact wpIn_ret hq
     |exit n=>cases J;exact wpIn_exit hq
  ·rcases a1 with rfl|⟨d,rfl,hd,c2,U⟩
   ·rfl
   ·refine .inl ⟨w.heap.size,hd,eS _,?_,?_,rfl⟩
    ·have k1:=b.kept.size
     have k2:=i.kept.size
     have k3:=A.kept.size
     omega
    ·have b1:f.heap[w.heap.size]? =some (.deferred (some [])):=(b.kept.block _ om (λhf=>o.rel.not_def U hf.lb)).trans U
     have b2:w2.heap[w.heap.size]? =some (.deferred (some [])):=(i.kept.block _ (Er.1 b1).1 (λhf=>b.rel.not_def b1 hf.lb)).trans b1
     exact (A.kept.block _ (Er.1 b2).1 (λhf=>i.rel.not_def b2 hf.lb)).trans b2
end
end
end Go.Ay
