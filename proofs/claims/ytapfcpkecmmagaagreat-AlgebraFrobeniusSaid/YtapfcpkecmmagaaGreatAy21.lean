/- The statements, and all together: a call that the abstract machine answers, the machine answers. -/
import Derived.Test.YtapfcpkecmmagaaGreatAy20
namespace Go.Ay
open Go
section
variable {m:M} {w:World}
section
variable {P:Program} {p:Nat->Option Fn} {cl yl:dD} {N:Nat}
theorem wE {lo hi:Nat}:jE m w lo hi [] []:=rfl
theorem Jv.still {h:H}{nt:Nat}{pv:List Nat}{a:Act}{e:E}{vars:List V}{Be:Bool}{Q:Exit->Act->World->Prop}(hq:Jv P m h w nt pv a e vars [] h Be Q)
  (hr:HR P m h w) (hv:fL m nt pv vars a.tmps):Q (Ep e) a w:=hq a w m [] (eS.yI hr) hv (by simp) wE (λ_=>rfl)
theorem Tu {nt:Nat}{pv:List Nat}{x:Code}{cx:C}{rd rr:Option Nat}
  (hx: ∀vars h e vars' dfs h',run cl yl N rd cx vars h=some (e,vars',dfs,h')-> ∀m w a,fL m nt pv vars a.tmps->Vk m rd rr->HR P m h w->xS m h.next-> ∀Q,Jv P m h w nt pv a e vars' dfs h' cx.Be Q->x.wpIn (Wf rr) 0 P Q a w):
  ∀n vars h e vars' dfs h',oV (run cl yl N rd cx) n vars h=some (e,vars',dfs,h')-> ∀m w a,fL m nt pv vars a.tmps->Vk m rd rr->HR P m h w->xS m h.next-> ∀Q,Jv P m h w nt pv a e vars' dfs h' cx.Be Q->
   uR (Wf rr) 0 P x Q a w:=by
 intro n
 induction n with
 |zero=>intro vars h e vars' dfs h' he;rw[xB] at he;cases he
 |succ n ih=>
  intro vars h e vars' dfs h' he m w a hv hrd hr hl Q hQ;rw[kZ] at he;refine uR.step ?_
  cases hra:run cl yl N rd cx vars h with
  |none=>simp [hra] at he
  |some q=>
   obtain⟨e1,vars1,dfs1,h1⟩:=q;simp only[hra] at he;refine hx _ _ _ _ _ _ hra m w a hv hrd hr hl _ ?_;intro a1 w1 m1 ds1 b1 b2 b3 b4 b5
   cases e1 with
   |norm=>
    simp only at he
    cases hrb:oV (run cl yl N rd cx) n vars1 h1 with
    |none=>simp [hrb] at he
    |some q=>
     obtain⟨e2,vars2,dfs2,h2⟩:=q;simp only[hrb] at he;cases he;refine ih _ _ _ _ _ _ hrb m1 w1 a1 b2 (hrd.mono b1.ext) b1.rel (b1.low hl) _ ?_;intro a2 w2 m2 ds2 c1 c2 c3 c4 c5;refine hQ a2 w2 m2 (ds2++ds1) (b1.trans c1) c2 (by rw[c3,b3,List.append_assoc]) (jE.append b1.kept.size ds2 ds1 _ _ _ c1.kept.size c4 (jE.Bl b1.rel c1 ds1 _ _ b4)) (λhn=>?_);rw[c5 hn,b5 hn];rfl
   |ret=>simp only at he;cases he;exact hQ a1 w1 m1 ds1 b1 b2 b3 b4 b5
   |exit n=>simp only at he;cases he;exact hQ a1 w1 m1 ds1 b1 b2 b3 b4 b5
theorem Vx (hm:P.follows .mixedOrders=true)(hSc:qI P cl)(hYc:oW P yl):Sv P cl yl N:=by
 intro nt pv code
 induction code with
 |skip=>
  intro c hc rd vars h e vars' dfs h' he m w a rr hv hrd hr hl Q hQ;simp only[fM] at hc;cases hc;rw[rP] at he;cases he;exact wpIn_skip (hQ.still hr hv)
 |label l=>
  intro c hc rd vars h e vars' dfs h' he m w a rr hv hrd hr hl Q hQ;simp only[fM] at hc;cases hc;rw[rP] at he;cases he;exact wpIn_label (hQ.still hr hv)
 |region id ops draw=>
  intro c hc rd vars h e vars' dfs h' he m w a rr hv hrd hr hl Q hQ;simp only[fM] at hc;split at hc
  ·rename_i hd
   subst hd;obtain⟨loc,xs,rfl,hloc,hP⟩:=Au hc;rw[zU] at he;split at he
   ·rename_i vs h2 hev
    cases he;exact Vt hm hSc hYc hloc hP hev hv hr hl (λa' w' m' e1 e2 e3=>hQ a' w' m' [] e3 e1 (by simpa using e2) wE (λ_=>rfl))
   ·cases he
  ·rename_i hd
   have hd:draw=false:=by simpa using hd
   subst hd;split at hc
   ·--a deferred call at the end
    rename_i dcl ty ps af hback;obtain⟨callee,cargs,cats⟩:=dcl
    cases callee with
    |value x=>
     simp only[Option.bind_eq_bind,jU] at hc;obtain⟨its,hits,cx,hcx,args,hargs,hc⟩:=hc;cases hc;rw[Cg] at he;simp only[uJ] at he
     cases rd with
     |some i=>simp at he
     |none=>
      cases rr with
      |some i=>exact hrd.elim
      |none=>
       simp only[Option.isSome_none,Bool.false_eq_true,if_false] at he;split at he
       ·rename_i vars2 h2 hev
        split at he
        ·rename_i g fs cs hx
         cases he
         have hsz:0<ops.size:=by
          cases h9:ops.size with
          |zero=>
           have:ops= #[]:=Array.eq_empty_of_size_eq_zero h9;subst this;simp at hback
          |succ k=>omega
         refine wpIn_region ?_;rw[Av hsz];refine Qc hSc hYc _ _ [] its vars [] h vars' h' hits hev m w a ⟨hv,nW.nil ..⟩ hr hl (λa' w' m' e1 e2 e3=>?_);have hlast:ops[ops.size- 1]? =ops.back? :=by rw[Array.back?]
         simp only[wpOpsIn,hlast,hback,Region.wanted,if_true];have hvx:=aG (s:=(⟨e1,nW.nil ..⟩:St m' nt pv [] vars' [] a')) hcx;have hva:=eM (s:=(⟨e1,nW.nil ..⟩:St m' nt pv [] vars' [] a')) hargs;rw[hx] at hvx;obtain⟨us,ys,hxe,k1,k2⟩:=hvx;refine⟨λ_ _=>trivial,?_⟩
         have hsem:(Oper.semAt none a'.eval ({op:= .defer {callee:= .value x,args:=cargs,argTypes:=cats},guard:=none,dst:=none,type:=ty,pos:=ps,after:=af}:Oper)).run P w'=
           .ok (.defer {target:= .fn (.func g) ys,args:=us++cargs.map a'.eval}) w':=by
          rw[Oper.semAt_none]
          simp [execOp,resolve,Deferred.ofValue,hxe]
         show Oper.uponIn _ _ _ _ _ _ _ (Sem.run P (Oper.semAt none a'.eval _) w');rw[hsem,Oper.uponIn_defer];refine hQ _ w' m' [{target:= .fn (.func g) ys,args:=us++cargs.map a'.eval}] e3 e1 ?_ (.inr ⟨g,_, [],ys,rfl,rfl,?_,rfl⟩) (λh=>by simp [C.Be] at h)
         ·simp [Act.put,e2]
         ·have:=(k1.append hva).append k2
          simpa using this
        ·cases he
       ·cases he
    |_=>simp at hc
   ·simp only[gJ] at hc
    obtain⟨its,hits,rfl⟩:=hc;rw[zV] at he;split at he
    ·rename_i vars2 h2 hev
     cases he;refine wpIn_region ?_;have:=Qc (r:=rr) (Q:=Q) hSc hYc [] _ [] its vars [] h vars' h' hits hev m w a ⟨hv,nW.nil ..⟩ hr hl (λa' w' m' e1 e2 e3=>hQ a' w' m' [] e3 e1 (by simpa using e2) wE (λ_=>rfl));simpa using this
    ·cases he
 |seq x y ihx ihy=>
  intro c hc rd vars h e vars' dfs h' he m w a rr hv hrd hr hl Q hQ;simp only[fM,Option.bind_eq_bind,jU] at hc;obtain⟨cx,hcx,cy,hcy,hc⟩:=hc;cases hc;rw[run_seq] at he;refine wpIn_seq ?_
  cases hra:run cl yl N rd cx vars h with
  |none=>simp [hra] at he
  |some q=>
   obtain⟨e1,vars1,dfs1,h1⟩:=q;simp only[hra] at he;refine ihx cx hcx _ _ _ _ _ _ _ hra m w a rr hv hrd hr hl _ ?_;intro a1 w1 m1 ds1 b1 b2 b3 b4 b5
   cases e1 with
   |norm=>
    simp only at he
    cases hrb:run cl yl N rd cy vars1 h1 with
    |none=>simp [hrb] at he
    |some q=>
     obtain⟨e2,vars2,dfs2,h2⟩:=q;simp only[hrb] at he;cases he;refine ihy cy hcy _ _ _ _ _ _ _ hrb m1 w1 a1 rr b2 (hrd.mono b1.ext) b1.rel (b1.low hl) _ ?_;intro a2 w2 m2 ds2 c1 c2 c3 c4 c5;refine hQ a2 w2 m2 (ds2++ds1) (b1.trans c1) c2 (by rw[c3,b3,List.append_assoc]) (jE.append b1.kept.size ds2 ds1 _ _ _ c1.kept.size c4 (jE.Bl b1.rel c1 ds1 _ _ b4)) (λhn=>?_);simp only[C.Be,Bool.and_eq_true] at hn;rw[c5 hn.2,b5 hn.1];rfl
   |ret=>
    simp only at he;cases he;exact hQ a1 w1 m1 ds1 b1 b2 b3 b4 (λhn=>b5 (by simp only[C.Be,Bool.and_eq_true] at hn;exact hn.1))
   |exit n=>
    simp only at he;cases he;exact hQ a1 w1 m1 ds1 b1 b2 b3 b4 (λhn=>b5 (by simp only[C.Be,Bool.and_eq_true] at hn;exact hn.1))
 |cond c x y ihx ihy=>
  intro c' hc rd vars h e vars' dfs h' he m w a rr hv hrd hr hl Q hQ;simp only[fM,Option.bind_eq_bind,jU] at hc;obtain⟨cc,hcc,cx,hcx,cy,hcy,hc⟩:=hc;cases hc;rw[run_ite] at he;have hvc:=aG (s:=(⟨hv,nW.nil ..⟩:St m nt pv [] vars [] a)) hcc;split at he
  ·rename_i hb
   rw[hb] at hvc;refine wpIn_cond_true hvc (ihx cx hcx _ _ _ _ _ _ _ he m w a rr hv hrd hr hl _ (λa' w' m' ds b1 b2 b3 b4 b5=>hQ a' w' m' ds b1 b2 b3 b4 (λhn=>b5 ?_)));simp only[C.Be,Bool.and_eq_true] at hn;exact hn.1
  ·rename_i hb
   rw[hb] at hvc;refine wpIn_cond_false hvc (ihy cy hcy _ _ _ _ _ _ _ he m w a rr hv hrd hr hl _ (λa' w' m' ds b1 b2 b3 b4 b5=>hQ a' w' m' ds b1 b2 b3 b4 (λhn=>b5 ?_)));simp only[C.Be,Bool.and_eq_true] at hn;exact hn.2
  ·cases he
 |block id x ihx=>
  intro c hc rd vars h e vars' dfs h' he m w a rr hv hrd hr hl Q hQ;simp only[fM,Option.bind_eq_bind,jU] at hc;obtain⟨cx,hcx,hc⟩:=hc;cases hc;rw[sZ] at he;refine wpIn_block ?_
  cases hra:run cl yl N rd cx vars h with
  |none=>simp [hra] at he
  |some q=>
   obtain⟨e1,vars1,dfs1,h1⟩:=q;simp only[hra] at he;refine ihx cx hcx _ _ _ _ _ _ _ hra m w a rr hv hrd hr hl _ ?_;intro a1 w1 m1 ds1 b1 b2 b3 b4 b5
   cases e1 with
   |norm=>simp only at he;cases he;exact hQ a1 w1 m1 ds1 b1 b2 b3 b4 b5
   |ret=>simp only at he;cases he;exact hQ a1 w1 m1 ds1 b1 b2 b3 b4 b5
   |exit n=>
    simp only at he;simp only[Ep,Exit.inBlock];split at he
    ·rename_i hn
     cases he;rw[if_pos hn];exact hQ a1 w1 m1 ds1 b1 b2 b3 b4 b5
    ·rename_i hn
     cases he;rw[if_neg hn];exact hQ a1 w1 m1 ds1 b1 b2 b3 b4 b5
 |loop x ihx=>
  intro c hc rd vars h e vars' dfs h' he m w a rr hv hrd hr hl Q hQ;simp only[fM,Option.bind_eq_bind,jU] at hc;obtain⟨cx,hcx,hc⟩:=hc;cases hc;rw[wZ] at he;exact (Tu (rr:=rr) (λvars h e vars' dfs h' he m w a hv hrd hr hl Q hQ=>ihx cx hcx rd vars h e vars' dfs h' he m w a rr hv hrd hr hl Q hQ) N _ _ _ _ _ _ he m w a hv hrd hr hl Q hQ).wp
 |exit n=>
  intro c hc rd vars h e vars' dfs h' he m w a rr hv hrd hr hl Q hQ;simp only[fM] at hc;cases hc;rw[uV] at he;cases he;exact wpIn_exit (hQ.still hr hv)
 |ret=>
  intro c hc rd vars h e vars' dfs h' he m w a rr hv hrd hr hl Q hQ;simp only[fM] at hc;cases hc;rw[Bd] at he;cases he;exact wpIn_ret (hQ.still hr hv)
 |scope x ihx=>
  intro c hc rd vars h e vars' dfs h' he m w a rr hv hrd hr hl Q hQ;simp only[fM,Option.bind_eq_bind,jU] at hc;obtain⟨cx,hcx,hc⟩:=hc;cases hc;rw[tH] at he;refine Em (ihx cx hcx _ _ _ _ _ _ _ he m w a rr hv hrd hr hl _ ?_);intro a' w' m' ds b1 b2 b3 b4 b5;refine⟨λl h=>?_,hQ a' w' m' ds b1 b2 b3 b4 b5⟩
  cases e with
  |norm=>cases h
  |ret=>cases h
  |exit n=>cases h
 |rangeFunc g ps x y ihx ihy=>
  intro c hc rd vars h e vars' dfs h' he m w a rr hv hrd hr hl Q hQ;simp only[fM,Option.bind_eq_bind,jU] at hc;obtain⟨cg,hcg,pars,hpars,cx,hcx,cy,hcy,hc⟩:=hc;cases hc;rw[tE] at he;simp only[pM] at he;split at he
  ·rename_i gf fs cs hfn
   generalize hin:Jj rd h=bin at he
   cases bin with
   |false=>simp at he
   |true=>
    simp only[if_true] at he
    cases hcall:cl gf (fs++ .yl h.next::cs) (h.new (.loop {vars,pars,assign:=cx,body:=cy,st:= .ready,pend:=none})) with
    |none=>simp [hcall] at he
    |some q=>
     obtain⟨v,hA⟩:=q;simp only[hcall] at he;split at he
     ·rename_i r hid
      by_cases hb:r.st= .busy
      ·simp [hb] at he
      ·simp only[hb,if_false] at he
       cases he;exact Pn hSc hv hrd hr hl hcg hfn hpars hcx hcy hin hcall hid hb hQ
     ·cases he
  ·cases he
 |_=>intro c hc;simp [fM] at hc
theorem sound (hm:P.follows .mixedOrders=true)(hp:Ln P p): ∀f,qI P (iC p N f).1/\oW P (iC p N f).2/\Te P p (iC p N f).1
 |0=>by
  rw[Bq];refine⟨λg args h v h' he=>?_,λid args h v h' he=>?_,λg fn args h v h' he=>?_⟩
  ·cases he
  ·cases he
  ·cases he
 |f+1=>by
  obtain⟨h1,h2,h3⟩:=sound hm hp f;have hR:=Vx (N:=N) hm h1 h2;rw[jZ];exact⟨Bk hp hR h3,Ah hR,Ef hp hR⟩
theorem tS (hm:P.follows .mixedOrders=true)(hp:Ln P p){f g:Nat}{args:List V}{h h':H}{v:V}(he:Ut p N f g args h=some (v,h')){xs:Array Value}(hx:eG m args xs.toList)(hr:HR P m h w)(hl:xS m h.next):
  Calls P g xs w (qL P m h w v h'):=
 callsIn_wide.1 (((sound hm hp f).1 g args h v h' he).2 m w xs hx hr hl)
end
end
end Go.Ay
#print axioms Go.Ay.tS
