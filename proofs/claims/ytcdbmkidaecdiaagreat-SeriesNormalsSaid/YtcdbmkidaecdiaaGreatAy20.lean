/- A round of a range over a function; the statements; all together. -/
import Derived.Test.YtcdbmkidaecdiaaGreatAy19
namespace Go.Ay
open Go
section
variable {m:M} {h:H} {w:World}
section
variable {P:Program} {p:Nat->Option Fn} {cl yl:lQ} {N:Nat}
theorem Cs (f:HR P m h w)(i:Vz m h.next){id:Nat}{r r':fK}{q:Nat×Nat×Nat}{L L':Loop}(d:h.get id=some (.loop r))(g:m id=some q)(e:w.heap[q.1]? =some (.loop L))(a:DD P m r' L'):
  jR P m h w m (h.set id (some (.loop r'))) (w.putObj q.1 (.loop L')):=by
 have c:=(HF.1 e).1
 exact jR.put f i.fresh d rfl rfl g ⟨L',World.putObj_heap_same c,a⟩ rfl rfl rfl (by simp) (λb j=>World.putObj_heap_other j)
theorem Ij (d:HR P m h w){id:Nat}{r:fK}{q:Nat×Nat×Nat}(b:h.get id=some (.loop r))(e:m id=some q): ∃L,w.heap[q.1]? =some (.loop L)/\DD P m r L:=by
 obtain⟨f,a,c⟩:=d.live id _ b;rw[e] at a;cases a;exact c
theorem Vo (hS:agZ P cl yl N):Bp P (Ou cl yl N):=by
 intro id a8 h v h' f m w xs q hx hr B Y;simp only[Ou] at f;split at f
 ·rename_i r U
  split at f
  ·rename_i a9
   obtain⟨L,hL,G⟩:=Ij hr U Y;obtain⟨⟨W,pv,hv,a5,a2,J⟩,jI,R,b0⟩:=G
   have A:xs.size=L.params.size:=by
    have h1:=(jC J).1;have h2:=iR.length hx;simp at h1 h2;omega
   refine⟨_,_,_,_,run_yield hL A,roundIn_of_wpIn trivial ?_⟩;have u:=Xr _ _ _ _ _ _ J hx hv
   have a7:(L.params.zip xs).foldl (λg (x:Tmp×Value)=>g.setIfInBounds x.1 x.2) L.tmps=(L.params.toList.zip xs.toList).foldl (λg (x:Tmp×Value)=>g.setIfInBounds x.1 x.2) L.tmps:=by
    rw[←Array.foldl_toList,Array.toList_zip]
   split at f
   ·rename_i a4 h2 F
    refine hS W pv _ _ a5 _ _ _ _ _ _ F m w ⟨_, []⟩ (some q.1) ?_ ⟨q,Y,rfl⟩ hr B _ ?_
    ·show jW m W pv _ ((L.params.zip xs).foldl (λg (x:Tmp×Value)=>g.setIfInBounds x.1 x.2) L.tmps)
     rw[a7];exact u
    ·intro a1 w1 m1 b1 a a0 _ _
     have o:=a.ext _ _ Y;split at f
     ·rename_i r2 t
      split at f
      ·rename_i Q
       obtain⟨L2,K,d⟩:=Ij a.rel t o
       have y:DD P m1 {r2 with st:= .busy} {L2 with state:= .busy}:=⟨d.vars,rfl,d.pend,d.nn⟩
       have j:=Cs a.rel (a.low B) t o K y;have O:L2.state= .ready:=by rw[d.st,Q];rfl
       refine⟨_,run_beginRound K O,?_⟩;split at f
       ·rename_i e a6 h3 z
        refine hS W pv _ _ a2 _ _ _ _ _ _ z m1 _ a1 (some q.1) a0 ⟨q,o,rfl⟩ j.rel (j.low (a.low B)) _ ?_;intro a3 w3 Z b2 b _ _ _;have s:=b.ext _ _ o;have c:=(a.trans j).trans b;split at f
        ·rename_i r3 k
         obtain⟨L3,l,i⟩:=Ij b.rel k s
         cases e with
         |norm=>
          cases f;exact⟨_,_,run_endRound none l,_,Z,rfl,rfl,c.trans (Cs b.rel (c.low B) k s l ⟨i.vars,rfl,rfl,by simp⟩)⟩
         |ret=>
          cases f;exact⟨_,_,run_endRound (some .ret) l,_,Z,rfl,rfl,c.trans (Cs b.rel (c.low B) k s l ⟨i.vars,rfl,rfl,by simp⟩)⟩
         |exit n=>
          cases f;exact⟨_,_,run_endRound (some (.exit n)) l,_,Z,rfl,rfl,c.trans (Cs b.rel (c.low B) k s l ⟨i.vars,rfl,rfl,by simp⟩)⟩
        ·cases f
       ·cases f
      ·cases f
     ·cases f
   ·cases f
  ·cases f
 ·cases f
theorem UP (hC:Hz P cl){rd rr:Option Nat}{h':H}{nt:Nat}{pv:List Nat}{vars:List V}{a:Act}{g:Nat}{fs cs:List V}{v:V}{pars:List Nat}{as bd:C}{x:X}{fo:Operand}{ps:Array Tmp}{A z:Code}
  (hv:jW m nt pv vars a.tmps) (a4:RdR m rd rr) (hr:HR P m h w) (hl:Vz m h.next) (hx:iM pv [] fo=some x) (b4:xv vars [] x= .fn g fs cs) (b6:dG (ps.toList.map λt=>idx t pv)=some pars)
  (c0:lC P nt pv A=some as) (b9:lC P nt pv z=some bd) (Y:KI rd h=true)
  (he:cl g (fs++ .yl h.next::cs) (h.new (.loop {vars,pars,assign:=as,body:=bd,st:= .ready,pend:=none}))=some (v,h')) {r:fK} (a7:h'.get h.next=some (.loop r)) (a3:r.st≠ .busy)
  {Q:Exit->Act->World->Prop} (hQ:OI P m h w nt pv a (r.pend.getD .norm) vars (h'.set h.next (some (.loop {r with st:= .out}))) Q):(Code.rangeFunc fo ps A z).wpIn (Wf rr) 0 P Q a w:=by
 refine wpIn_rangeFunc (λfn _=>?_)
 have a8:=aQ (s:=(⟨hv,Dy.nil ..⟩:St m nt pv [] vars [] a)) hx
 rw[b4] at a8
 obtain⟨xs,ys,b8,h1,h2⟩:=a8
 have b5: ∃(l:Nat) (j:List Deferred) (f u:World) (dd:Nat),(Instr.enterLoop fn a.tmps ps A z rr).run P w= .ok (l,j) f/\jR P m h w m h u/\l=u.heap.size/\
   f=u.alloc (.loop {state:= .ready,pending:=none,fn,tmps:=a.tmps,params:=ps,assign:=A,body:=z,defers:=dd})/\
   (j= []∨ ∃d:Deferred,j= [d]/\d.target= .collected w.heap.size/\u.heap.size=w.heap.size+1/\u.heap[w.heap.size]? =some (.deferred (some []))):=by
  cases rd with
  |none=>
   cases rr with
   |none=>
    exact⟨_,_,_,w.alloc (.deferred (some [])),w.heap.size,run_enterLoop_outer fn a.tmps ps A z,jR.laid hr _,by simp,rfl,.inr ⟨_,rfl,rfl,by simp,heap_alloc_new w _⟩⟩
   |some l=>exact a4.elim
  |some id=>
   cases rr with
   |none=>exact a4.elim
   |some l=>
    obtain⟨q,Z,rfl⟩:=a4;simp only[KI] at Y;split at Y
    ·rename_i r0 b0
     obtain⟨L0,c2,_⟩:=Ij hr b0 Z;exact⟨_,_,_,w,L0.defers,Dz c2 fn a.tmps ps A z,jR.Sa hr,rfl,rfl,.inl rfl⟩
    ·cases Y
 obtain⟨l,j,f,u,dd,a5,o,b3,c1,W⟩:=b5
 subst b3
 have F:=o.low hl
 have b:=jR.new o.rel F.fresh (.loop {vars,pars,assign:=as,body:=bd,st:= .ready,pend:=none})
  (.loop {state:= .ready,pending:=none,fn,tmps:=a.tmps,params:=ps,assign:=A,body:=z,defers:=dd}) (0,0)
  (λm' e _=>⟨_,heap_alloc_new u _,⟨⟨nt,pv,hv.mono e,c0,b9,b6⟩,rfl,rfl,by simp⟩⟩)
 rw[←c1] at b
 have a2:=b.low F
 have a0:iR (m.set h.next (u.heap.size,0,0)) (fs++ .yl h.next::cs) (xs++ #[Value.func (.yield u.heap.size) #[] #[]]++ys).toList:=by
  have e1:=iR.mono b.ext _ _ h1;have e2:=iR.mono b.ext _ _ h2
  have e3:iR (m.set h.next (u.heap.size,0,0)) (.yl h.next::cs) (.func (.yield u.heap.size) #[] #[]::ys.toList):=⟨⟨_,M.pJ ..,rfl⟩,e2⟩
  have:=e1.append e3;simpa using this
 have a1:=(hC _ _ _ _ _ he).2 _ f _ a0 b.rel a2
 refine⟨u.heap.size,j,f,{target:= .fn (.func g) ys,args:=xs++ #[Value.func (.yield u.heap.size) #[] #[]]},f,g,xs++ #[Value.func (.yield u.heap.size) #[] #[]]++ys,f,a5,?_,λ_ _=>trivial,?_,λhh=>by simp [Fence.wide] at hh,?_⟩
 ·have b7:a.eval (.const (.func (.yield u.heap.size) #[] #[]))= .func (.yield u.heap.size) #[] #[]:=rfl
  simp [resolve,rangeCall,b8,Deferred.ofValue,b7]
 ·simp only[Go.invoke];exact Fl (hC _ _ _ _ _ he).1
 ·have K:CallsIn (Wf rr) 0 P g (xs++ #[Value.func (.yield u.heap.size) #[] #[]]++ys) f (Lu P _ _ f v h'):=a1
  refine CallsIn.mono K (λe w2 hh=>?_)
  obtain⟨y,m2,rfl,_,i⟩:=hh
  have a9:=i.ext _ _ (M.pJ m h.next (u.heap.size,0,0))
  obtain⟨L,hL,k⟩:=Ij i.rel a7 a9
  have jI:L.state≠ .busy:=by
   rw[k.st];cases hs:r.st<;>simp [aiR];exact a3 hs
  have U:=(o.trans b).trans i
  have B:=Cs i.rel (U.low hl) a7 a9 hL (r':={r with st:= .out}) (L':={L with state:= .exhausted}) ⟨k.vars,rfl,k.pend,k.nn⟩
  refine⟨L.pending,_,run_endLoop hL jI,?_⟩
  have O:=U.trans B
  have Z:=hQ {a with defers:=j++a.defers} _ m2 j O (hv.mono O.ext) rfl ?_
  ·have G:=k.pend
   have a6:=k.nn
   cases hpe:r.pend with
   |none=>
    rw[hpe] at Z G;split
    ·exact Z
    ·rename_i c J;rw[G] at J;cases J
   |some e=>
    rw[hpe] at Z G;split
    ·rename_i J
     rw[G] at J
     cases e with
     |norm=>exact absurd hpe a6
     |ret=>cases J
     |exit n=>cases J
    ·rename_i c J
     rw[G] at J
     cases e with
     |norm=>exact absurd hpe a6
     |ret=>cases J;exact wpIn_ret Z
     |exit n=>cases J;exact wpIn_exit Z
  ·rcases W with rfl|⟨d,rfl,hd,c3,R⟩
   ·trivial
   ·refine⟨w.heap.size,hd,dT _,?_,?_,trivial⟩
    ·have k1:=b.kept.size
     have k2:=i.kept.size
     have k3:=B.kept.size
     omega
    ·have b1:f.heap[w.heap.size]? =some (.deferred (some [])):=(b.kept.block _ om (λhf=>o.rel.not_def R hf.lb)).trans R
     have b2:w2.heap[w.heap.size]? =some (.deferred (some [])):=(i.kept.block _ (HF.1 b1).1 (λhf=>b.rel.not_def b1 hf.lb)).trans b1
     exact (B.kept.block _ (HF.1 b2).1 (λhf=>i.rel.not_def b2 hf.lb)).trans b2
end
end
end Go.Ay
