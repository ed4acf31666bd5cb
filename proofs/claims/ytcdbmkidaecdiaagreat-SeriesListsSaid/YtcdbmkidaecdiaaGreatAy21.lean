/- The statements, and all together: a call that the abstract machine answers, the machine answers. -/
import Derived.Test.YtcdbmkidaecdiaaGreatAy20
namespace Go.Ay
open Go
section
variable {m:M} {w:World}
section
variable {P:Program} {p:Nat->Option Fn} {cl yl:dM} {N:Nat}
theorem Qf {a hi:Nat}:oU m w a hi [] []:=rfl
theorem NT.still {h:H}{nt:Nat}{pv:List Nat}{a:Act}{e:E}{b:List V}{Vm:Bool}{Q:Exit->Act->World->Prop}(c:NT P m h w nt pv a e b [] h Vm Q)
  (f:HR P m h w) (d:jA m nt pv b a.tmps):Q (FD e) a w:=c a w m [] (iC.Ts f) d (by simp) Qf (λ_=>rfl)
theorem adI {nt:Nat}{pv:List Nat}{x:Code}{g:C}{rd rr:Option Nat}
  (hx: ∀vars h e vars' dfs h',run cl yl N rd g vars h=some (e,vars',dfs,h')-> ∀m w a,jA m nt pv vars a.tmps->RdR m rd rr->HR P m h w->Qx m h.next-> ∀Q,NT P m h w nt pv a e vars' dfs h' g.Vm Q->x.wpIn (Wf rr) 0 P Q a w):
  ∀n vars h e vars' dfs h',Be (run cl yl N rd g) n vars h=some (e,vars',dfs,h')-> ∀m w a,jA m nt pv vars a.tmps->RdR m rd rr->HR P m h w->Qx m h.next-> ∀Q,NT P m h w nt pv a e vars' dfs h' g.Vm Q->
   Qe (Wf rr) 0 P x Q a w:=by
 intro n
 induction n with
 |zero=>intro vars h e vars' dfs h' b;rw[Pc] at b;cases b
 |succ n ih=>
  intro vars h e vars' dfs h' b m w a Y j hr F Q o;rw[uA] at b;refine Qe.step ?_
  cases hra:run cl yl N rd g vars h with
  |none=>simp [hra] at b
  |some q=>
   obtain⟨J,f,G,O⟩:=q;simp only[hra] at b;refine hx _ _ _ _ _ _ hra m w a Y j hr F _ ?_;intro u v z c d t s k r
   cases J with
   |norm=>
    simp only at b
    cases hrb:Be (run cl yl N rd g) n f O with
    |none=>simp [hrb] at b
    |some q=>
     obtain⟨e2,l,A,h2⟩:=q;simp only[hrb] at b;cases b;refine ih _ _ _ _ _ _ hrb z v u t (j.mono d.ext) d.rel (d.low F) _ ?_;intro U Z K i y L c3 W R;refine o U Z K (i++c) (d.trans y) L (by rw[c3,s,rS]) (oU.append d.kept.size i c _ _ _ y.kept.size W (oU.Xr d.rel y c _ _ k)) (λB=>?_);rw[R B,r B];rfl
   |ret=>simp only at b;cases b;exact o u v z c d t s k r
   |exit n=>simp only at b;cases b;exact o u v z c d t s k r
theorem afH (hm:P.follows .mixedOrders=true)(a8:Cv P cl)(b7:Al P yl):abM P cl yl N:=by
 intro nt pv c6
 induction c6 with
 |skip=>
  intro c f rd vars h e d A h' b m w a rr u j z B Q o;simp only[iZ] at f;cases f;rw[Hx] at b;cases b;exact wpIn_skip (o.still z u)
 |label l=>
  intro c f rd vars h e d A h' b m w a rr u j z B Q o;simp only[iZ] at f;cases f;rw[Hx] at b;cases b;exact wpIn_label (o.still z u)
 |region id ops draw=>
  intro c f rd vars h e d A h' b m w a rr u j z B Q o;simp only[iZ] at f;split at f
  ·rename_i hd
   subst hd;obtain⟨e6,xs,rfl,d1,hP⟩:=Up f;rw[Uk] at b;split at b
   ·rename_i vs h2 a7
    cases b;exact aiF hm a8 b7 d1 hP a7 u z B (λK R m' e1 e2 e3=>o K R m' [] e3 e1 (by simpa using e2) Qf (λ_=>rfl))
   ·cases b
  ·rename_i hd
   have hd:draw=false:=by simpa using hd
   subst hd;split at f
   ·--a deferred call at the end
    rename_i e0 ty ps af a5;obtain⟨callee,L,c8⟩:=e0
    cases callee with
    |value x=>
     simp only[vD,qL] at f;obtain⟨b9,a6,O,t,args,b0,f⟩:=f;cases f;rw[BJ] at b;simp only[Lx] at b
     cases rd with
     |some i=>simp at b
     |none=>
      cases rr with
      |some i=>exact j.elim
      |none=>
       simp only[Option.isSome_none,Bool.false_eq_true,if_false] at b;split at b
       ·rename_i a4 h2 a7
        split at b
        ·rename_i g fs cs hx
         cases b
         have d7:0<ops.size:=by
          cases h9:ops.size with
          |zero=>
           have:ops= #[]:=Array.eq_empty_of_size_eq_zero h9;subst this;simp at a5
          |succ k=>omega
         refine wpIn_region ?_;rw[Vg d7];refine TQ a8 b7 _ _ [] b9 vars [] h d h' a6 a7 m w a ⟨u,xT.nil ..⟩ z B (λK R m' e1 e2 e3=>?_);have b8:ops[ops.size- 1]? =ops.back? :=by rw[Array.back?]
         simp only[wpOpsIn,b8,a5,Region.wanted,if_true];have c9:=aJ (s:=(⟨e1,xT.nil ..⟩:St m' nt pv [] d [] K)) t;have d2:=gY (s:=(⟨e1,xT.nil ..⟩:St m' nt pv [] d [] K)) b0;rw[hx] at c9;obtain⟨us,ys,d8,k1,k2⟩:=c9;refine⟨λ_ _=>trivial,?_⟩
         have d0:(Oper.semAt none K.eval ({op:= .defer {callee:= .value x,args:=L,argTypes:=c8},guard:=none,dst:=none,type:=ty,pos:=ps,after:=af}:Oper)).run P R=
           .ok (.defer {target:= .fn (.func g) ys,args:=us++L.map K.eval}) R:=by
          rw[Oper.semAt_none]
          simp [execOp,resolve,Deferred.ofValue,d8]
         show Oper.uponIn _ _ _ _ _ _ _ (Sem.run P (Oper.semAt none K.eval _) R);rw[d0,Oper.uponIn_defer];refine o _ R m' [{target:= .fn (.func g) ys,args:=us++L.map K.eval}] e3 e1 ?_ (.inr ⟨g,_, [],ys,rfl,rfl,?_,rfl⟩) (λh=>by simp [C.Vm] at h)
         ·simp [Act.put,e2]
         ·have:=(k1.append d2).append k2
          simpa using this
        ·cases b
       ·cases b
    |_=>simp at f
   ·simp only[lT] at f
    obtain⟨b9,a6,rfl⟩:=f;rw[Ut] at b;split at b
    ·rename_i a4 h2 a7
     cases b;refine wpIn_region ?_;have:=TQ (r:=rr) (Q:=Q) a8 b7 [] _ [] b9 vars [] h d h' a6 a7 m w a ⟨u,xT.nil ..⟩ z B (λK R m' e1 e2 e3=>o K R m' [] e3 e1 (by simpa using e2) Qf (λ_=>rfl));simpa using this
    ·cases b
 |seq x y ihx ihy=>
  intro c f rd vars h e d A h' b m w a rr u j z B Q o;simp only[iZ,vD,qL] at f;obtain⟨O,t,cy,a0,f⟩:=f;cases f;rw[run_seq] at b;refine wpIn_seq ?_
  cases hra:run cl yl N rd O vars h with
  |none=>simp [hra] at b
  |some q=>
   obtain⟨e1,a3,c0,h1⟩:=q;simp only[hra] at b;refine ihx O t _ _ _ _ _ _ _ hra m w a rr u j z B _ ?_;intro a1 w1 m1 F G Z Y W U
   cases e1 with
   |norm=>
    simp only at b
    cases hrb:run cl yl N rd cy a3 h1 with
    |none=>simp [hrb] at b
    |some q=>
     obtain⟨e2,a4,e5,h2⟩:=q;simp only[hrb] at b;cases b;refine ihy cy a0 _ _ _ _ _ _ _ hrb m1 w1 a1 rr Z (j.mono G.ext) G.rel (G.low B) _ ?_;intro a2 w2 m2 c7 c1 c2 c3 c4 c5;refine o a2 w2 m2 (c7++F) (G.trans c1) c2 (by rw[c3,Y,rS]) (oU.append G.kept.size c7 F _ _ _ c1.kept.size c4 (oU.Xr G.rel c1 F _ _ W)) (λJ=>?_);simp only[C.Vm,vV] at J;rw[c5 J.2,U J.1];rfl
   |ret=>
    simp only at b;cases b;exact o a1 w1 m1 F G Z Y W (λJ=>U (by simp only[C.Vm,vV] at J;exact J.1))
   |exit n=>
    simp only at b;cases b;exact o a1 w1 m1 F G Z Y W (λJ=>U (by simp only[C.Vm,vV] at J;exact J.1))
 |cond c x y ihx ihy=>
  intro c' f rd vars h e d A h' b m w a rr u j z B Q o;simp only[iZ,vD,qL] at f;obtain⟨cc,d6,O,t,cy,a0,f⟩:=f;cases f;rw[run_ite] at b;have a9:=aJ (s:=(⟨u,xT.nil ..⟩:St m nt pv [] vars [] a)) d6;split at b
  ·rename_i hb
   rw[hb] at a9;refine wpIn_cond_true a9 (ihx O t _ _ _ _ _ _ _ b m w a rr u j z B _ (λK R m' ds G Z Y W U=>o K R m' ds G Z Y W (λJ=>U ?_)));simp only[C.Vm,vV] at J;exact J.1
  ·rename_i hb
   rw[hb] at a9;refine wpIn_cond_false a9 (ihy cy a0 _ _ _ _ _ _ _ b m w a rr u j z B _ (λK R m' ds G Z Y W U=>o K R m' ds G Z Y W (λJ=>U ?_)));simp only[C.Vm,vV] at J;exact J.2
  ·cases b
 |block id x ihx=>
  intro c f rd vars h e d A h' b m w a rr u j z B Q o;simp only[iZ,vD,qL] at f;obtain⟨O,t,f⟩:=f;cases f;rw[Jq] at b;refine wpIn_block ?_
  cases hra:run cl yl N rd O vars h with
  |none=>simp [hra] at b
  |some q=>
   obtain⟨e1,a3,c0,h1⟩:=q;simp only[hra] at b;refine ihx O t _ _ _ _ _ _ _ hra m w a rr u j z B _ ?_;intro a1 w1 m1 F G Z Y W U
   cases e1 with
   |norm=>simp only at b;cases b;exact o a1 w1 m1 F G Z Y W U
   |ret=>simp only at b;cases b;exact o a1 w1 m1 F G Z Y W U
   |exit n=>
    simp only at b;simp only[FD,Exit.inBlock];split at b
    ·rename_i J
     cases b;rw[bJ J];exact o a1 w1 m1 F G Z Y W U
    ·rename_i J
     cases b;rw[bL J];exact o a1 w1 m1 F G Z Y W U
 |loop x ihx=>
  intro c f rd vars h e d A h' b m w a rr u j z B Q o;simp only[iZ,vD,qL] at f;obtain⟨O,t,f⟩:=f;cases f;rw[Qj] at b;exact (adI (rr:=rr) (λvars h e d A h' b m w a u j z B Q o=>ihx O t rd vars h e d A h' b m w a rr u j z B Q o) N _ _ _ _ _ _ b m w a u j z B Q o).wp
 |exit n=>
  intro c f rd vars h e d A h' b m w a rr u j z B Q o;simp only[iZ] at f;cases f;rw[Mq] at b;cases b;exact wpIn_exit (o.still z u)
 |ret=>
  intro c f rd vars h e d A h' b m w a rr u j z B Q o;simp only[iZ] at f;cases f;rw[Vn] at b;cases b;exact wpIn_ret (o.still z u)
 |scope x ihx=>
  intro c f rd vars h e d A h' b m w a rr u j z B Q o;simp only[iZ,vD,qL] at f;obtain⟨O,t,f⟩:=f;cases f;rw[Kf] at b;refine CT (ihx O t _ _ _ _ _ _ _ b m w a rr u j z B _ ?_);intro K R m' ds G Z Y W U;refine⟨λl h=>?_,o K R m' ds G Z Y W U⟩
  cases e with
  |norm=>cases h
  |ret=>cases h
  |exit n=>cases h
 |rangeFunc g ps x y ihx ihy=>
  intro c f rd vars h e d A h' b m w a rr u j z B Q o;simp only[iZ,vD,qL] at f;obtain⟨cg,d5,pars,b6,O,t,cy,a0,f⟩:=f;cases f;rw[Jy] at b;simp only[Bd] at b;split at b
  ·rename_i gf fs cs e4
   generalize d9:LI rd h=d4 at b
   cases d4 with
   |false=>simp at b
   |true=>
    simp only[if_true] at b
    cases hcall:cl gf (fs++ .yl h.next::cs) (h.new (.loop {vars,pars,assign:=O,body:=cy,st:= .ready,pend:=none})) with
    |none=>simp [hcall] at b
    |some q=>
     obtain⟨v,hA⟩:=q;simp only[hcall] at b;split at b
     ·rename_i r d3
      by_cases hb:r.st= .busy
      ·simp [hb] at b
      ·simp only[hb,if_false] at b
       cases b;exact PT a8 u j z B d5 e4 b6 t a0 d9 hcall d3 hb o
     ·cases b
  ·cases b
 |_=>intro c f;simp [iZ] at f
theorem sound (e:P.follows .mixedOrders=true)(d:POk P p): ∀f,Cv P (jO p N f).1/\Al P (jO p N f).2/\ZS P p (jO p N f).1
 |0=>by
  rw[AF];refine⟨λg a h v i b=>?_,λid a h v i b=>?_,λg n a h v i b=>?_⟩
  ·cases b
  ·cases b
  ·cases b
 |f+1=>by
  obtain⟨j,k,l⟩:=sound e d f;have c:=afH (N:=N) e j k;rw[qS];exact⟨AM d c l,Wh c,FM d c⟩
theorem Kq (e:P.follows .mixedOrders=true)(d:POk P p){f g:Nat}{args:List V}{h h':H}{v:V}(b:aeX p N f g args h=some (v,h')){xs:Array Value}(a:gJ m args xs.toList)(i:HR P m h w)(c:Qx m h.next):
  Calls P g xs w (Cx P m h w v h'):=
 callsIn_wide.1 (((sound e d f).1 g args h v h' b).2 m w xs a i c)
end
end
end Go.Ay
#print axioms Go.Ay.Kq
