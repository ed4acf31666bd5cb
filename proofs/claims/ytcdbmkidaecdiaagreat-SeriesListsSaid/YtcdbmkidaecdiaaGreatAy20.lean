/- A round of a range over a function; the statements; all together. -/
import Derived.Test.YtcdbmkidaecdiaaGreatAy19
namespace Go.Ay
open Go
section
variable {m:M} {h:H} {w:World}
section
variable {P:Program} {p:Nat->Option Fn} {cl yl:dM} {N:Nat}
theorem Bo (j:HR P m h w)(f:Qx m h.next){id:Nat}{r r':dY}{q:Nat×Nat×Nat}{L L':Loop}(d:h.get id=some (.loop r))(e:m id=some q)(g:w.heap[q.1]? =some (.loop L))(a:EX P m r' L'):
  iC P m h w m (h.set id (some (.loop r'))) (w.putObj q.1 (.loop L')):=by
 have c:=(Wi.1 g).1
 exact iC.put j f.fresh d rfl rfl e ⟨L',World.putObj_heap_same c,a⟩ rfl rfl rfl (by simp) (λb i=>World.putObj_heap_other i)
theorem Gf (e:HR P m h w){id:Nat}{r:dY}{q:Nat×Nat×Nat}(b:h.get id=some (.loop r))(c:m id=some q): ∃L,w.heap[q.1]? =some (.loop L)/\EX P m r L:=by
 obtain⟨f,a,d⟩:=e.live id _ b;rw[c] at a;cases a;exact d
theorem Wh (hS:abM P cl yl N):Al P (vG cl yl N):=by
 intro id a8 h v h' c m w xs q hx hr B hq;simp only[vG] at c;split at c
 ·rename_i r Y
  split at c
  ·rename_i a9
   obtain⟨L,hL,F⟩:=Gf hr Y hq;obtain⟨⟨R,pv,hv,a5,Z,O⟩,iB,W,b1⟩:=F
   have z:xs.size=L.params.size:=by
    have h1:=(iO O).1;have h2:=gJ.length hx;simp at h1 h2;omega
   refine⟨_,_,_,_,run_yield hL z,roundIn_of_wpIn trivial ?_⟩;have y:=Zz _ _ _ _ _ _ O hx hv
   have a0:(L.params.zip xs).foldl (λg (x:Tmp×Value)=>g.setIfInBounds x.1 x.2) L.tmps=(L.params.toList.zip xs.toList).foldl (λg (x:Tmp×Value)=>g.setIfInBounds x.1 x.2) L.tmps:=by
    rw[←Array.foldl_toList,Array.toList_zip]
   split at c
   ·rename_i a2 a6 h2 G
    refine hS R pv _ _ a5 _ _ _ _ _ _ _ G m w ⟨_, []⟩ (some q.1) ?_ ⟨q,hq,rfl⟩ hr B _ ?_
    ·show jA m R pv _ ((L.params.zip xs).foldl (λg (x:Tmp×Value)=>g.setIfInBounds x.1 x.2) L.tmps)
     rw[a0];exact y
    ·intro a1 w1 m1 b2 b U _ _ _
     have o:=b.ext _ _ hq;split at c
     ·rename_i r2 t
      split at c
      ·rename_i K
       obtain⟨L2,J,f⟩:=Gf b.rel t o
       have u:EX P m1 {r2 with st:= .busy} {L2 with state:= .busy}:=⟨f.vars,rfl,f.pend,f.nn⟩
       have i:=Bo b.rel (b.low B) t o J u;have Q:L2.state= .ready:=by rw[f.st,K];rfl
       refine⟨_,run_beginRound J Q,?_⟩;split at c
       ·rename_i e a4 a7 h3 A
        refine hS R pv _ _ Z _ _ _ _ _ _ _ A m1 _ a1 (some q.1) U ⟨q,o,rfl⟩ i.rel (i.low (b.low B)) _ ?_;intro a3 w3 m3 b0 a _ _ _ _;have s:=a.ext _ _ o;have d:=(b.trans i).trans a;split at c
        ·rename_i r3 k
         obtain⟨L3,l,j⟩:=Gf a.rel k s
         cases e with
         |norm=>
          simp only at c;cases c;refine⟨_,_,run_endRound none l,_,m3,rfl,rfl,d.trans (Bo a.rel (d.low B) k s l ⟨j.vars,rfl,rfl,by simp⟩)⟩
         |ret=>
          simp only at c;cases c;refine⟨_,_,run_endRound (some .ret) l,_,m3,rfl,rfl,d.trans (Bo a.rel (d.low B) k s l ⟨j.vars,rfl,rfl,by simp⟩)⟩
         |exit n=>
          simp only at c;cases c;refine⟨_,_,run_endRound (some (.exit n)) l,_,m3,rfl,rfl,d.trans (Bo a.rel (d.low B) k s l ⟨j.vars,rfl,rfl,by simp⟩)⟩
        ·cases c
       ·cases c
      ·cases c
     ·cases c
   ·cases c
  ·cases c
 ·cases c
theorem Vg {n:Nat}(a:0<n):List.range n=List.range (n- 1)++ [n- 1]:=by
 obtain⟨k,rfl⟩: ∃k,n=k+1:=⟨n- 1,om⟩
 simp [List.range_succ]
theorem PT (hC:Cv P cl){rd rr:Option Nat}{h':H}{nt:Nat}{pv:List Nat}{vars:List V}{a:Act}{g:Nat}{fs cs:List V}{v:V}{pars:List Nat}{as bd:C}{x:X}{fo:Operand}{ps:Array Tmp}{z A:Code}
  (hv:jA m nt pv vars a.tmps) (a4:RdR m rd rr) (hr:HR P m h w) (hl:Qx m h.next) (hx:fL pv [] fo=some x) (b9:xv vars [] x= .fn g fs cs) (c2:cI (ps.toList.map λt=>idx t pv)=some pars)
  (c0:iZ P nt pv z=some as) (b4:iZ P nt pv A=some bd) (a1:LI rd h=true)
  (he:cl g (fs++ .yl h.next::cs) (h.new (.loop {vars,pars,assign:=as,body:=bd,st:= .ready,pend:=none}))=some (v,h')) {r:dY} (a6:h'.get h.next=some (.loop r)) (W:r.st≠ .busy)
  {Q:Exit->Act->World->Prop} (hQ:NT P m h w nt pv a (r.pend.getD .norm) vars [] (h'.set h.next (some (.loop {r with st:= .out}))) false Q):(Code.rangeFunc fo ps z A).wpIn (Wf rr) 0 P Q a w:=by
 refine wpIn_rangeFunc (λfn _=>?_)
 have a7:=aJ (s:=(⟨hv,xT.nil ..⟩:St m nt pv [] vars [] a)) hx
 rw[b9] at a7
 obtain⟨xs,ys,b7,h1,h2⟩:=a7
 have b8: ∃(l:Nat) (j:List Deferred) (f u:World) (dd:Nat),(Instr.enterLoop fn a.tmps ps z A rr).run P w= .ok (l,j) f/\iC P m h w m h u/\l=u.heap.size/\
   f=u.alloc (.loop {state:= .ready,pending:=none,fn,tmps:=a.tmps,params:=ps,assign:=z,body:=A,defers:=dd})/\
   (j= []∨ ∃d:Deferred,j= [d]/\d.target= .collected w.heap.size/\u.heap.size=w.heap.size+1/\u.heap[w.heap.size]? =some (.deferred (some []))):=by
  cases rd with
  |none=>
   cases rr with
   |none=>
    exact⟨_,_,_,w.alloc (.deferred (some [])),w.heap.size,run_enterLoop_outer fn a.tmps ps z A,iC.laid hr _,by simp,rfl,.inr ⟨_,rfl,rfl,by simp,heap_alloc_new w _⟩⟩
   |some l=>exact a4.elim
  |some id=>
   cases rr with
   |none=>exact a4.elim
   |some l=>
    obtain⟨q,Z,rfl⟩:=a4;simp only[LI] at a1;split at a1
    ·rename_i r0 a8
     obtain⟨L0,b6,_⟩:=Gf hr a8 Z;exact⟨_,_,_,w,L0.defers,Cr b6 fn a.tmps ps z A,iC.Ts hr,rfl,rfl,.inl rfl⟩
    ·cases a1
 obtain⟨l,j,f,u,dd,a5,o,b5,b3,a2⟩:=b8
 subst b5
 have F:=o.low hl
 have b:=iC.new o.rel F.fresh (.loop {vars,pars,assign:=as,body:=bd,st:= .ready,pend:=none})
  (.loop {state:= .ready,pending:=none,fn,tmps:=a.tmps,params:=ps,assign:=z,body:=A,defers:=dd}) (0,0)
  (λm' e _=>⟨_,heap_alloc_new u _,⟨⟨nt,pv,hv.mono e,c0,b4,c2⟩,rfl,rfl,by simp⟩⟩)
 rw[←b3] at b
 have a3:=b.low F
 have Y:gJ (m.set h.next (u.heap.size,0,0)) (fs++ .yl h.next::cs) (xs++ #[Value.func (.yield u.heap.size) #[] #[]]++ys).toList:=by
  have e1:=gJ.mono b.ext _ _ h1;have e2:=gJ.mono b.ext _ _ h2
  have e3:gJ (m.set h.next (u.heap.size,0,0)) (.yl h.next::cs) (.func (.yield u.heap.size) #[] #[]::ys.toList):=⟨⟨_,M.jH ..,rfl⟩,e2⟩
  have:=e1.append e3;simpa using this
 have a0:=(hC _ _ _ _ _ he).2 _ f _ Y b.rel a3
 refine⟨u.heap.size,j,f,{target:= .fn (.func g) ys,args:=xs++ #[Value.func (.yield u.heap.size) #[] #[]]},f,g,xs++ #[Value.func (.yield u.heap.size) #[] #[]]++ys,f,a5,?_,λ_ _=>trivial,?_,λhh=>by simp [Fence.wide] at hh,?_⟩
 ·have c1:a.eval (.const (.func (.yield u.heap.size) #[] #[]))= .func (.yield u.heap.size) #[] #[]:=rfl
  simp [resolve,rangeCall,b7,Deferred.ofValue,c1]
 ·simp only[Go.invoke];exact pL (hC _ _ _ _ _ he).1
 ·have K:CallsIn (Wf rr) 0 P g (xs++ #[Value.func (.yield u.heap.size) #[] #[]]++ys) f (Cx P _ _ f v h'):=a0
  refine CallsIn.mono K (λe w2 hh=>?_)
  obtain⟨y,m2,rfl,_,i⟩:=hh
  have b0:=i.ext _ _ (M.jH m h.next (u.heap.size,0,0))
  obtain⟨L,hL,k⟩:=Gf i.rel a6 b0
  have iB:L.state≠ .busy:=by
   rw[k.st];cases hs:r.st<;>simp [aiH];exact W hs
  have O:=(o.trans b).trans i
  have B:=Bo i.rel (O.low hl) a6 b0 hL (r':={r with st:= .out}) (L':={L with state:= .exhausted}) ⟨k.vars,rfl,k.pend,k.nn⟩
  refine⟨L.pending,_,run_endLoop hL iB,?_⟩
  have U:=O.trans B
  have Z:=hQ {a with defers:=j++a.defers} _ m2 j U (hv.mono U.ext) rfl ?_ (λh=>by cases h)
  ·have G:=k.pend
   have a9:=k.nn
   cases hpe:r.pend with
   |none=>
    rw[hpe] at Z G;split
    ·exact Z
    ·rename_i c J;rw[G] at J;cases J
   |some e=>
    rw[hpe] at Z G;split
    ·rename_i J
     rw[G] at J
     cases e with
     |norm=>exact absurd hpe a9
     |ret=>cases J
     |exit n=>cases J
    ·rename_i c J
     rw[G] at J
     cases e with
     |norm=>exact absurd hpe a9
     |ret=>cases J;exact wpIn_ret Z
     |exit n=>cases J;exact wpIn_exit Z
  ·rcases a2 with rfl|⟨d,rfl,hd,c3,R⟩
   ·rfl
   ·refine .inl ⟨w.heap.size,hd,eH _,?_,?_,rfl⟩
    ·have k1:=b.kept.size
     have k2:=i.kept.size
     have k3:=B.kept.size
     omega
    ·have b1:f.heap[w.heap.size]? =some (.deferred (some [])):=(b.kept.block _ om (λhf=>o.rel.not_def R hf.lb)).trans R
     have b2:w2.heap[w.heap.size]? =some (.deferred (some [])):=(i.kept.block _ (Wi.1 b1).1 (λhf=>b.rel.not_def b1 hf.lb)).trans b1
     exact (B.kept.block _ (Wi.1 b2).1 (λhf=>i.rel.not_def b2 hf.lb)).trans b2
end
end
end Go.Ay
