/- A round of a range over a function; the statements; all together. -/
import Derived.Test.YtcdbmkidaecdiaaGreatAy19
namespace Go.Ay
open Go
section
variable {m:M} {h:H} {w:World}
section
variable {P:Program} {p:Nat->Option Fn} {cl yl:lQ} {N:Nat}
theorem Cs (f:HR P m h w)(l:Vz m h.next){id:Nat}{r r':fK}{q:Nat×Nat×Nat}{L L':Loop}(c:h.get id=some (.loop r))(k:m id=some q)(j:w.heap[q.1]? =some (.loop L))(a:DD P m r' L'):
  jR P m h w m (h.set id (some (.loop r'))) (w.putObj q.1 (.loop L')):=by
 have d:=(HF.1 j).1
 exact jR.put f l.fresh c rfl rfl k ⟨L',World.putObj_heap_same d,a⟩ rfl rfl rfl (by simp) (λb i=>World.putObj_heap_other i)
theorem Ij (d:HR P m h w){id:Nat}{r:fK}{q:Nat×Nat×Nat}(b:h.get id=some (.loop r))(f:m id=some q): ∃L,w.heap[q.1]? =some (.loop L)/\DD P m r L:=by
 obtain⟨i,a,c⟩:=d.live id _ b;rw[f] at a;cases a;exact c
theorem Vo (hS:agZ P cl yl N):Bp P (Ou cl yl N):=by
 intro id a8 h v h' f m w xs q hx hr F hq;simp only[Ou] at f;split at f
 ·rename_i r Y
  split at f
  ·rename_i a7
   obtain⟨L,hL,R⟩:=Ij hr Y hq;obtain⟨⟨U,pv,hv,a0,Z,J⟩,jI,a6,a9⟩:=R
   have y:xs.size=L.params.size:=by
    have h1:=(jC J).1;have h2:=iR.length hx;simp at h1 h2;omega
   refine⟨_,_,_,_,run_yield hL y,roundIn_of_wpIn trivial ?_⟩;have A:=Xr _ _ _ _ _ _ J hx hv
   have a5:(L.params.zip xs).foldl (λi (x:Tmp×Value)=>i.setIfInBounds x.1 x.2) L.tmps=(L.params.toList.zip xs.toList).foldl (λi (x:Tmp×Value)=>i.setIfInBounds x.1 x.2) L.tmps:=by
    rw[←Array.foldl_toList,Array.toList_zip]
   split at f
   ·rename_i W h2 G
    refine hS U pv _ _ a0 _ _ _ _ _ _ G m w ⟨_, []⟩ (some q.1) ?_ ⟨q,hq,rfl⟩ hr F _ ?_
    ·show jW m U pv _ ((L.params.zip xs).foldl (λi (x:Tmp×Value)=>i.setIfInBounds x.1 x.2) L.tmps)
     rw[a5];exact A
    ·intro a1 w1 m1 b0 a a4 _ _
     have s:=a.ext _ _ hq;split at f
     ·rename_i r2 u
      split at f
      ·rename_i Q
       obtain⟨L2,O,d⟩:=Ij a.rel u s
       have z:DD P m1 {r2 with st:= .busy} {L2 with state:= .busy}:=⟨d.vars,rfl,d.pend,d.nn⟩
       have j:=Cs a.rel (a.low F) u s O z;have K:L2.state= .ready:=by rw[d.st,Q];rfl
       refine⟨_,run_beginRound O K,?_⟩;split at f
       ·rename_i e a2 h3 B
        refine hS U pv _ _ Z _ _ _ _ _ _ B m1 _ a1 (some q.1) a4 ⟨q,s,rfl⟩ j.rel (j.low (a.low F)) _ ?_;intro a3 w3 m3 b1 b _ _ _;have t:=b.ext _ _ s;have c:=(a.trans j).trans b;split at f
        ·rename_i r3 l
         obtain⟨L3,o,k⟩:=Ij b.rel l t
         cases e with
         |norm=>
          cases f;exact⟨_,_,run_endRound none o,_,m3,rfl,rfl,c.trans (Cs b.rel (c.low F) l t o ⟨k.vars,rfl,rfl,by simp⟩)⟩
         |ret=>
          cases f;exact⟨_,_,run_endRound (some .ret) o,_,m3,rfl,rfl,c.trans (Cs b.rel (c.low F) l t o ⟨k.vars,rfl,rfl,by simp⟩)⟩
         |exit n=>
          cases f;exact⟨_,_,run_endRound (some (.exit n)) o,_,m3,rfl,rfl,c.trans (Cs b.rel (c.low F) l t o ⟨k.vars,rfl,rfl,by simp⟩)⟩
        ·cases f
       ·cases f
      ·cases f
     ·cases f
   ·cases f
  ·cases f
 ·cases f
theorem UP (hC:Hz P cl){rd rr:Option Nat}{h':H}{nt:Nat}{pv:List Nat}{vars:List V}{a:Act}{g:Nat}{fs cs:List V}{v:V}{pars:List Nat}{as bd:C}{x:X}{fo:Operand}{ps:Array Tmp}{z B:Code}
  (hv:jW m nt pv vars a.tmps) (a1:RdR m rd rr) (hr:HR P m h w) (hl:Vz m h.next) (hx:iM pv [] fo=some x) (b0:xv vars [] x= .fn g fs cs) (b7:dG (ps.toList.map λt=>idx t pv)=some pars)
  (b4:lC P nt pv z=some as) (b3:lC P nt pv B=some bd) (Z:KI rd h=true)
  (he:cl g (fs++ .yl h.next::cs) (h.new (.loop {vars,pars,assign:=as,body:=bd,st:= .ready,pend:=none}))=some (v,h')) {r:fK} (a6:h'.get h.next=some (.loop r)) (a2:r.st≠ .busy)
  {Q:Exit->Act->World->Prop} (hQ:OI P m h w nt pv a (r.pend.getD .norm) vars (h'.set h.next (some (.loop {r with st:= .out}))) Q):(Code.rangeFunc fo ps z B).wpIn (Wf rr) 0 P Q a w:=by
 refine wpIn_rangeFunc (λfn _=>?_)
 have a8:=aQ (s:=(⟨hv,Dy.nil ..⟩:St m nt pv [] vars [] a)) hx
 rw[b0] at a8
 obtain⟨xs,ys,c1,h1,h2⟩:=a8
 have b8: ∃(l:Nat) (j:List Deferred) (f u:World) (dd:Nat),(Instr.enterLoop fn a.tmps ps z B rr).run P w= .ok (l,j) f/\jR P m h w m h u/\l=u.heap.size/\
   f=u.alloc (.loop {state:= .ready,pending:=none,fn,tmps:=a.tmps,params:=ps,assign:=z,body:=B,defers:=dd})/\
   (j= []∨ ∃d:Deferred,j= [d]/\d.target= .collected w.heap.size/\u.heap.size=w.heap.size+1/\u.heap[w.heap.size]? =some (.deferred (some []))):=by
  cases rd with
  |none=>
   cases rr with
   |none=>
    exact⟨_,_,_,w.alloc (.deferred (some [])),w.heap.size,run_enterLoop_outer fn a.tmps ps z B,jR.laid hr _,by simp,rfl,.inr ⟨_,rfl,rfl,by simp,heap_alloc_new w _⟩⟩
   |some l=>exact a1.elim
  |some id=>
   cases rr with
   |none=>exact a1.elim
   |some l=>
    obtain⟨q,hq,rfl⟩:=a1;simp only[KI] at Z;split at Z
    ·rename_i r0 a4
     obtain⟨L0,b5,_⟩:=Ij hr a4 hq;exact⟨_,_,_,w,L0.defers,Dz b5 fn a.tmps ps z B,jR.Sa hr,rfl,rfl,.inl rfl⟩
    ·cases Z
 obtain⟨l,j,f,u,dd,a7,o,b9,b6,Y⟩:=b8
 subst b9
 have G:=o.low hl
 have b:=jR.new o.rel G.fresh (.loop {vars,pars,assign:=as,body:=bd,st:= .ready,pend:=none})
  (.loop {state:= .ready,pending:=none,fn,tmps:=a.tmps,params:=ps,assign:=z,body:=B,defers:=dd}) (0,0)
  (λm' e _=>⟨_,heap_alloc_new u _,⟨⟨nt,pv,hv.mono e,b4,b3,b7⟩,rfl,rfl,by simp⟩⟩)
 rw[←b6] at b
 have W:=b.low G
 have a3:iR (m.set h.next (u.heap.size,0,0)) (fs++ .yl h.next::cs) (xs++ #[Value.func (.yield u.heap.size) #[] #[]]++ys).toList:=by
  have e1:=iR.mono b.ext _ _ h1;have e2:=iR.mono b.ext _ _ h2
  have e3:iR (m.set h.next (u.heap.size,0,0)) (.yl h.next::cs) (.func (.yield u.heap.size) #[] #[]::ys.toList):=⟨⟨_,M.pJ ..,rfl⟩,e2⟩
  have:=e1.append e3;simpa using this
 have a0:=(hC _ _ _ _ _ he).2 _ f _ a3 b.rel W
 refine⟨u.heap.size,j,f,{target:= .fn (.func g) ys,args:=xs++ #[Value.func (.yield u.heap.size) #[] #[]]},f,g,xs++ #[Value.func (.yield u.heap.size) #[] #[]]++ys,f,a7,?_,λ_ _=>trivial,?_,λhh=>by simp [Fence.wide] at hh,?_⟩
 ·have c0:a.eval (.const (.func (.yield u.heap.size) #[] #[]))= .func (.yield u.heap.size) #[] #[]:=rfl
  simp [resolve,rangeCall,c1,Deferred.ofValue,c0]
 ·simp only[Go.invoke];exact Fl (hC _ _ _ _ _ he).1
 ·have K:CallsIn (Wf rr) 0 P g (xs++ #[Value.func (.yield u.heap.size) #[] #[]]++ys) f (Lu P _ _ f v h'):=a0
  refine CallsIn.mono K (λe w2 hh=>?_)
  obtain⟨y,m2,rfl,_,i⟩:=hh
  have a9:=i.ext _ _ (M.pJ m h.next (u.heap.size,0,0))
  obtain⟨L,hL,k⟩:=Ij i.rel a6 a9
  have jI:L.state≠ .busy:=by
   rw[k.st];cases hs:r.st<;>simp [aiR];exact a2 hs
  have O:=(o.trans b).trans i
  have A:=Cs i.rel (O.low hl) a6 a9 hL (r':={r with st:= .out}) (L':={L with state:= .exhausted}) ⟨k.vars,rfl,k.pend,k.nn⟩
  refine⟨L.pending,_,run_endLoop hL jI,?_⟩
  have U:=O.trans A
  have hq:=hQ {a with defers:=j++a.defers} _ m2 j U (hv.mono U.ext) rfl ?_
  ·have F:=k.pend
   have a5:=k.nn
   cases hpe:r.pend with
   |none=>
    rw[hpe] at hq F;split
    ·exact hq
    ·rename_i c J;rw[F] at J;cases J
   |some e=>
    rw[hpe] at hq F;split
    ·rename_i J
     rw[F] at J
     cases e with
     |norm=>exact absurd hpe a5
     |ret=>cases J
     |exit n=>cases J
    ·rename_i c J
     rw[F] at J
     cases e with
     |norm=>exact absurd hpe a5
     |ret=>cases J;exact wpIn_ret hq
     |exit n=>cases J;exact wpIn_exit hq
  ·rcases Y with rfl|⟨d,rfl,hd,c2,R⟩
   ·trivial
   ·refine⟨w.heap.size,hd,fN _,?_,?_,trivial⟩
    ·have k1:=b.kept.size
     have k2:=i.kept.size
     have k3:=A.kept.size
     omega
    ·have b1:f.heap[w.heap.size]? =some (.deferred (some [])):=(b.kept.block _ om (λhf=>o.rel.not_def R hf.lb)).trans R
     have b2:w2.heap[w.heap.size]? =some (.deferred (some [])):=(i.kept.block _ (HF.1 b1).1 (λhf=>b.rel.not_def b1 hf.lb)).trans b1
     exact (A.kept.block _ (HF.1 b2).1 (λhf=>i.rel.not_def b2 hf.lb)).trans b2
end
end
end Go.Ay
