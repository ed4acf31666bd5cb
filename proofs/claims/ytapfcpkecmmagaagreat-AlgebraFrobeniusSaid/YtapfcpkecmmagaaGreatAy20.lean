/- A round of a range over a function; the statements; all together. -/
import Derived.Test.YtapfcpkecmmagaaGreatAy19
namespace Go.Ay
open Go
section
variable {m:M} {h:H} {w:World}
section
variable {P:Program} {p:Nat->Option Fn} {cl yl:dD} {N:Nat}
theorem pJ (hr:HR P m h w)(hl:xS m h.next){id:Nat}{r r':eH}{q:Nat×Nat×Nat}{L L':Loop}(hid:h.get id=some (.loop r))(hq:m id=some q)(hL:w.heap[q.1]? =some (.loop L))(hrel:Fk P m r' L'):
  eS P m h w m (h.set id (some (.loop r'))) (w.putObj q.1 (.loop L')):=by
 have hlt:=(Array.getElem?_eq_some_iff.1 hL).1
 exact eS.put hr hl.fresh hid rfl rfl hq ⟨L',World.putObj_heap_same hlt,hrel⟩ rfl rfl rfl (by simp) (λb hb=>World.putObj_heap_other hb)
theorem sK (hr:HR P m h w){id:Nat}{r:eH}{q:Nat×Nat×Nat}(hid:h.get id=some (.loop r))(hq:m id=some q): ∃L,w.heap[q.1]? =some (.loop L)/\Fk P m r L:=by
 obtain⟨q',hq',ho⟩:=hr.live id _ hid;rw[hq] at hq';cases hq';exact ho
theorem Ah (hS:Sv P cl yl N):oW P (mI cl yl N):=by
 intro id args h v h' he m w xs q hx hr hl hq;simp only[mI] at he;split at he
 ·rename_i r hid
  split at he
  ·rename_i hlen
   obtain⟨L,hL,hrel⟩:=sK hr hid hq;obtain⟨⟨nt,pv,hv,hca,hcb,hps⟩,fG,hpend,hnn⟩:=hrel
   have hlen2:xs.size=L.params.size:=by
    have h1:=(fE hps).1;have h2:=eG.length hx;simp at h1 h2;omega
   refine⟨_,_,_,_,run_yield hL hlen2,roundIn_of_wpIn trivial ?_⟩;have hvars:=Cj _ _ _ _ _ _ hps hx hv
   have htm:(L.params.zip xs).foldl (λtmps (x:Tmp×Value)=>tmps.setIfInBounds x.1 x.2) L.tmps=(L.params.toList.zip xs.toList).foldl (λtmps (x:Tmp×Value)=>tmps.setIfInBounds x.1 x.2) L.tmps:=by
    rw[←Array.foldl_toList,Array.toList_zip]
   split at he
   ·rename_i vars2 dfs2 h2 hrun
    refine hS nt pv _ _ hca _ _ _ _ _ _ _ hrun m w ⟨_, []⟩ (some q.1) ?_ ⟨q,hq,rfl⟩ hr hl _ ?_
    ·show fL m nt pv _ ((L.params.zip xs).foldl (λtmps (x:Tmp×Value)=>tmps.setIfInBounds x.1 x.2) L.tmps)
     rw[htm];exact hvars
    ·intro a1 w1 m1 ds1 hadv1 hv1 _ _ _
     have hq1:=hadv1.ext _ _ hq;split at he
     ·rename_i r2 hid2
      split at he
      ·rename_i hrdy
       obtain⟨L2,hL2,hrel2⟩:=sK hadv1.rel hid2 hq1
       have hbusy:Fk P m1 {r2 with st:= .busy} {L2 with state:= .busy}:=⟨hrel2.vars,rfl,hrel2.pend,hrel2.nn⟩
       have hadv2:=pJ hadv1.rel (hadv1.low hl) hid2 hq1 hL2 hbusy;have hst2:L2.state= .ready:=by rw[hrel2.st,hrdy];rfl
       refine⟨_,run_beginRound hL2 hst2,?_⟩;split at he
       ·rename_i e vars3 dfs3 h3 hrun2
        refine hS nt pv _ _ hcb _ _ _ _ _ _ _ hrun2 m1 _ a1 (some q.1) hv1 ⟨q,hq1,rfl⟩ hadv2.rel (hadv2.low (hadv1.low hl)) _ ?_;intro a3 w3 m3 ds3 hadv3 _ _ _ _;have hq3:=hadv3.ext _ _ hq1;have hall:=(hadv1.trans hadv2).trans hadv3;split at he
        ·rename_i r3 hid3
         obtain⟨L3,hL3,hrel3⟩:=sK hadv3.rel hid3 hq3
         cases e with
         |norm=>
          simp only at he;cases he;refine⟨_,_,run_endRound none hL3,_,m3,rfl,rfl,hall.trans (pJ hadv3.rel (hall.low hl) hid3 hq3 hL3 ⟨hrel3.vars,rfl,rfl,by simp⟩)⟩
         |ret=>
          simp only at he;cases he;refine⟨_,_,run_endRound (some .ret) hL3,_,m3,rfl,rfl,hall.trans (pJ hadv3.rel (hall.low hl) hid3 hq3 hL3 ⟨hrel3.vars,rfl,rfl,by simp⟩)⟩
         |exit n=>
          simp only at he;cases he;refine⟨_,_,run_endRound (some (.exit n)) hL3,_,m3,rfl,rfl,hall.trans (pJ hadv3.rel (hall.low hl) hid3 hq3 hL3 ⟨hrel3.vars,rfl,rfl,by simp⟩)⟩
        ·cases he
       ·cases he
      ·cases he
     ·cases he
   ·cases he
  ·cases he
 ·cases he
theorem Av {n:Nat}(hn:0<n):List.range n=List.range (n- 1)++ [n- 1]:=by
 obtain⟨k,rfl⟩: ∃k,n=k+1:=⟨n- 1,by omega⟩
 simp [List.range_succ]
theorem Pn (hC:qI P cl){rd rr:Option Nat}{h':H}{nt:Nat}{pv:List Nat}{vars:List V}{a:Act}{g:Nat}{fs cs:List V}{v:V}{pars:List Nat}{as bd:C}{x:X}{fo:Operand}{ps:Array Tmp}{asc bdc:Code}
  (hv:fL m nt pv vars a.tmps) (hrd:Vk m rd rr) (hr:HR P m h w) (hl:xS m h.next) (hx:dW pv [] fo=some x) (hfn:xv vars [] x= .fn g fs cs) (hps:bY (ps.toList.map λt=>idx t pv)=some pars)
  (hca:fM P nt pv asc=some as) (hcb:fM P nt pv bdc=some bd) (hin:Jj rd h=true)
  (he:cl g (fs++ .yl h.next::cs) (h.new (.loop {vars,pars,assign:=as,body:=bd,st:= .ready,pend:=none}))=some (v,h')) {r:eH} (hid:h'.get h.next=some (.loop r)) (hbusy:r.st≠ .busy)
  {Q:Exit->Act->World->Prop} (hQ:Jv P m h w nt pv a (r.pend.getD .norm) vars [] (h'.set h.next (some (.loop {r with st:= .out}))) false Q):(Code.rangeFunc fo ps asc bdc).wpIn (Wf rr) 0 P Q a w:=by
 refine wpIn_rangeFunc (λfn _=>?_)
 have hxv:=aG (s:=(⟨hv,nW.nil ..⟩:St m nt pv [] vars [] a)) hx
 rw[hfn] at hxv
 obtain⟨xs,ys,hxe,h1,h2⟩:=hxv
 have lay: ∃(l:Nat) (mark:List Deferred) (w₁ wm:World) (dd:Nat),(Instr.enterLoop fn a.tmps ps asc bdc rr).run P w= .ok (l,mark) w₁/\eS P m h w m h wm/\l=wm.heap.size/\
   w₁=wm.alloc (.loop {state:= .ready,pending:=none,fn,tmps:=a.tmps,params:=ps,assign:=asc,body:=bdc,defers:=dd})/\
   (mark= []∨ ∃d:Deferred,mark= [d]/\d.target= .collected w.heap.size/\wm.heap.size=w.heap.size+1/\wm.heap[w.heap.size]? =some (.deferred (some []))):=by
  cases rd with
  |none=>
   cases rr with
   |none=>
    exact⟨_,_,_,w.alloc (.deferred (some [])),w.heap.size,run_enterLoop_outer fn a.tmps ps asc bdc,eS.laid hr _,by simp,rfl,.inr ⟨_,rfl,rfl,by simp,heap_alloc_new w _⟩⟩
   |some l=>exact hrd.elim
  |some id=>
   cases rr with
   |none=>exact hrd.elim
   |some l=>
    obtain⟨q,hq,rfl⟩:=hrd;simp only[Jj] at hin;split at hin
    ·rename_i r0 hid0
     obtain⟨L0,hL0,_⟩:=sK hr hid0 hq;exact⟨_,_,_,w,L0.defers,qE hL0 fn a.tmps ps asc bdc,eS.yI hr,rfl,rfl,.inl rfl⟩
    ·cases hin
 obtain⟨l,mark,w₁,wm,dd,hent,hadv0,hl0,hw1,hmark⟩:=lay
 subst hl0
 have hlow0:=hadv0.low hl
 have hadv1:=eS.new hadv0.rel hlow0.fresh (.loop {vars,pars,assign:=as,body:=bd,st:= .ready,pend:=none})
  (.loop {state:= .ready,pending:=none,fn,tmps:=a.tmps,params:=ps,assign:=asc,body:=bdc,defers:=dd}) (0,0)
  (λm' e _=>⟨_,heap_alloc_new wm _,⟨⟨nt,pv,hv.mono e,hca,hcb,hps⟩,rfl,rfl,by simp⟩⟩)
 rw[←hw1] at hadv1
 have hlow1:=hadv1.low hlow0
 have hargs:eG (m.set h.next (wm.heap.size,0,0)) (fs++ .yl h.next::cs) (xs++ #[Value.func (.yield wm.heap.size) #[] #[]]++ys).toList:=by
  have e1:=eG.mono hadv1.ext _ _ h1;have e2:=eG.mono hadv1.ext _ _ h2
  have e3:eG (m.set h.next (wm.heap.size,0,0)) (.yl h.next::cs) (.func (.yield wm.heap.size) #[] #[]::ys.toList):=⟨⟨_,M.fS ..,rfl⟩,e2⟩
  have:=e1.append e3;simpa using this
 have hcall:=(hC _ _ _ _ _ he).2 _ w₁ _ hargs hadv1.rel hlow1
 refine⟨wm.heap.size,mark,w₁,{target:= .fn (.func g) ys,args:=xs++ #[Value.func (.yield wm.heap.size) #[] #[]]},w₁,g,xs++ #[Value.func (.yield wm.heap.size) #[] #[]]++ys,w₁,hent,?_,λ_ _=>trivial,?_,λhh=>by simp [Fence.wide] at hh,?_⟩
 ·have hev:a.eval (.const (.func (.yield wm.heap.size) #[] #[]))= .func (.yield wm.heap.size) #[] #[]:=rfl
  simp [resolve,rangeCall,hxe,Deferred.ofValue,hev]
 ·simp only[Go.invoke];exact jK (hC _ _ _ _ _ he).1
 ·have hcall2:CallsIn (Wf rr) 0 P g (xs++ #[Value.func (.yield wm.heap.size) #[] #[]]++ys) w₁ (qL P _ _ w₁ v h'):=hcall
  refine CallsIn.mono hcall2 (λe w2 hh=>?_)
  obtain⟨y,m2,rfl,_,hadv2⟩:=hh
  have hq2:=hadv2.ext _ _ (M.fS m h.next (wm.heap.size,0,0))
  obtain⟨L,hL,hrel⟩:=sK hadv2.rel hid hq2
  have fG:L.state≠ .busy:=by
   rw[hrel.st];cases hs:r.st<;>simp [Yc];exact hbusy hs
  have hall:=(hadv0.trans hadv1).trans hadv2
  have hadv3:=pJ hadv2.rel (hall.low hl) hid hq2 hL (r':={r with st:= .out}) (L':={L with state:= .exhausted}) ⟨hrel.vars,rfl,hrel.pend,hrel.nn⟩
  refine⟨L.pending,_,run_endLoop hL fG,?_⟩
  have hfin:=hall.trans hadv3
  have hq:=hQ {a with defers:=mark++a.defers} _ m2 mark hfin (hv.mono hfin.ext) rfl ?_ (λh=>by cases h)
  ·have hpn:=hrel.pend
   have hnn:=hrel.nn
   cases hpe:r.pend with
   |none=>
    rw[hpe] at hq hpn;split
    ·exact hq
    ·rename_i c hc;rw[hpn] at hc;cases hc
   |some e=>
    rw[hpe] at hq hpn;split
    ·rename_i hc
     rw[hpn] at hc
     cases e with
     |norm=>exact absurd hpe hnn
     |ret=>cases hc
     |exit n=>cases hc
    ·rename_i c hc
     rw[hpn] at hc
     cases e with
     |norm=>exact absurd hpe hnn
     |ret=>cases hc;exact wpIn_ret hq
     |exit n=>cases hc;exact wpIn_exit hq
  ·rcases hmark with rfl|⟨d,rfl,hd,hsz,hblk⟩
   ·rfl
   ·refine .inl ⟨w.heap.size,hd,eP _,?_,?_,rfl⟩
    ·have k1:=hadv1.kept.size
     have k2:=hadv2.kept.size
     have k3:=hadv3.kept.size
     omega
    ·have b1:w₁.heap[w.heap.size]? =some (.deferred (some [])):=(hadv1.kept.block _ (by omega) (λhf=>hadv0.rel.not_def hblk hf.lb)).trans hblk
     have b2:w2.heap[w.heap.size]? =some (.deferred (some [])):=(hadv2.kept.block _ (Array.getElem?_eq_some_iff.1 b1).1 (λhf=>hadv1.rel.not_def b1 hf.lb)).trans b1
     exact (hadv3.kept.block _ (Array.getElem?_eq_some_iff.1 b2).1 (λhf=>hadv2.rel.not_def b2 hf.lb)).trans b2
end
end
end Go.Ay
