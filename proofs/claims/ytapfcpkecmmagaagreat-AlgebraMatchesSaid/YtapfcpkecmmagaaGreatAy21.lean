/- The statements, and all together: a call that the abstract machine answers, the machine answers. -/
import Derived.Test.YtapfcpkecmmagaaGreatAy20
namespace Go.Ay
open Go
section
variable {m:M} {w:World}
section
variable {P:Program} {p:Nat->Option Fn} {cl yl:dP} {N:Nat}
theorem zZ {a hi:Nat}:kZ m w a hi [] []:=rfl
theorem Rx.still {h:H}{nt:Nat}{pv:List Nat}{a:Act}{e:E}{b:List V}{Gz:Bool}{Q:Exit->Act->World->Prop}(c:Rx P m h w nt pv a e b [] h Gz Q)
  (f:HR P m h w) (d:iG m nt pv b a.tmps):Q (Nl e) a w:=c a w m [] (fY.Df f) d (by simp) zZ (λ_=>rfl)
theorem Zy {nt:Nat}{pv:List Nat}{x:Code}{g:C}{rd rr:Option Nat}
  (Z: ∀vars h e vars' dfs h',run cl yl N rd g vars h=some (e,vars',dfs,h')-> ∀m w a,iG m nt pv vars a.tmps->EL m rd rr->HR P m h w->Cx m h.next-> ∀Q,Rx P m h w nt pv a e vars' dfs h' g.Gz Q->x.wpIn (Wf rr) 0 P Q a w):
  ∀n vars h e vars' dfs h',rZ (run cl yl N rd g) n vars h=some (e,vars',dfs,h')-> ∀m w a,iG m nt pv vars a.tmps->EL m rd rr->HR P m h w->Cx m h.next-> ∀Q,Rx P m h w nt pv a e vars' dfs h' g.Gz Q->
   Bh (Wf rr) 0 P x Q a w:=by
 intro n
 induction n with
 |zero=>intro vars h e vars' dfs h' b;rw[An] at b;cases b
 |succ n ih=>
  intro vars h e vars' dfs h' b m w a L i hr B Q o;rw[jE] at b;refine Bh.step ?_
  cases hra:run cl yl N rd g vars h with
  |none=>simp [hra] at b
  |some q=>
   obtain⟨Y,f,A,h1⟩:=q;simp only[hra] at b;refine Z _ _ _ _ _ _ hra m w a L i hr B _ ?_;intro u k r c d z t l v
   cases Y with
   |norm=>
    simp only at b
    cases hrb:rZ (run cl yl N rd g) n f h1 with
    |none=>simp [hrb] at b
    |some q=>
     obtain⟨e2,y,G,h2⟩:=q;simp only[hrb] at b;cases b;refine ih _ _ _ _ _ _ hrb r k u z (i.mono d.ext) d.rel (d.low B) _ ?_;intro J K R j s U W O c5;refine o J K R (j++c) (d.trans s) U (by rw[W,t,oF]) (kZ.append d.kept.size j c _ _ _ s.kept.size O (kZ.Hz d.rel s c _ _ l)) (λF=>?_);rw[c5 F,v F];rfl
   |ret=>simp only at b;cases b;exact o u k r c d z t l v
   |exit n=>simp only at b;cases b;exact o u k r c d z t l v
theorem FZ (hm:P.follows .mixedOrders=true)(a8:tE P cl)(b6:rY P yl):Zu P cl yl N:=by
 intro nt pv c9
 induction c9 with
 |skip=>
  intro c f rd vars h e d A Y b m w a rr t j z B Q o;simp only[iF] at f;cases f;rw[uL] at b;cases b;exact wpIn_skip (o.still z t)
 |label l=>
  intro c f rd vars h e d A Y b m w a rr t j z B Q o;simp only[iF] at f;cases f;rw[uL] at b;cases b;exact wpIn_label (o.still z t)
 |region id ops draw=>
  intro c f rd vars h e d A Y b m w a rr t j z B Q o;simp only[iF] at f;split at f
  ·rename_i hd
   subst hd;obtain⟨e6,xs,rfl,c7,hP⟩:=Fz f;rw[Hk] at b;split at b
   ·rename_i vs h2 a5
    cases b;exact EF hm a8 b6 c7 hP a5 t z B (λK w' m' e1 e2 e3=>o K w' m' [] e3 e1 (by simpa using e2) zZ (λ_=>rfl))
   ·cases b
  ·rename_i hd
   have hd:draw=false:=by simpa using hd
   subst hd;split at f
   ·--a deferred call at the end
    rename_i e0 ty ps af a4;obtain⟨callee,L,d0⟩:=e0
    cases callee with
    |value x=>
     simp only[oS,lT] at f;obtain⟨b7,a0,O,u,args,b0,f⟩:=f;cases f;rw[Jl] at b;simp only[zH] at b
     cases rd with
     |some i=>simp at b
     |none=>
      cases rr with
      |some i=>exact j.elim
      |none=>
       simp only[Option.isSome_none,Bool.false_eq_true,if_false] at b;split at b
       ·rename_i a7 h2 a5
        split at b
        ·rename_i g fs cs hx
         cases b
         have e4:0<ops.size:=by
          cases h9:ops.size with
          |zero=>
           have:ops= #[]:=Array.eq_empty_of_size_eq_zero h9;subst this;simp at a4
          |succ k=>omega
         refine wpIn_region ?_;rw[Gi e4];refine Xq a8 b6 _ _ [] b7 vars [] h d Y a0 a5 m w a ⟨t,qS.nil ..⟩ z B (λK w' m' e1 e2 e3=>?_);have b8:ops[ops.size- 1]? =ops.back? :=by rw[Array.back?]
         simp only[wpOpsIn,b8,a4,Region.wanted,if_true];have d1:=aJ (s:=(⟨e1,qS.nil ..⟩:St m' nt pv [] d [] K)) u;have d5:=fR (s:=(⟨e1,qS.nil ..⟩:St m' nt pv [] d [] K)) b0;rw[hx] at d1;obtain⟨us,ys,d3,k1,k2⟩:=d1;refine⟨λ_ _=>trivial,?_⟩
         have c6:(Oper.semAt none K.eval ({op:= .defer {callee:= .value x,args:=L,argTypes:=d0},guard:=none,dst:=none,type:=ty,pos:=ps,after:=af}:Oper)).run P w'=
           .ok (.defer {target:= .fn (.func g) ys,args:=us++L.map K.eval}) w':=by
          rw[Oper.semAt_none]
          simp [execOp,resolve,Deferred.ofValue,d3]
         show Oper.uponIn _ _ _ _ _ _ _ (Sem.run P (Oper.semAt none K.eval _) w');rw[c6,Oper.uponIn_defer];refine o _ w' m' [{target:= .fn (.func g) ys,args:=us++L.map K.eval}] e3 e1 ?_ (.inr ⟨g,_, [],ys,rfl,rfl,?_,rfl⟩) (λh=>by simp [C.Gz] at h)
         ·simp [Act.put,e2]
         ·have:=(k1.append d5).append k2
          simpa using this
        ·cases b
       ·cases b
    |_=>simp at f
   ·simp only[jA] at f
    obtain⟨b7,a0,rfl⟩:=f;rw[Gf] at b;split at b
    ·rename_i a7 h2 a5
     cases b;refine wpIn_region ?_;have:=Xq (r:=rr) (Q:=Q) a8 b6 [] _ [] b7 vars [] h d Y a0 a5 m w a ⟨t,qS.nil ..⟩ z B (λK w' m' e1 e2 e3=>o K w' m' [] e3 e1 (by simpa using e2) zZ (λ_=>rfl));simpa using this
    ·cases b
 |seq x y ihx ihy=>
  intro c f rd vars h e d A Y b m w a rr t j z B Q o;simp only[iF,oS,lT] at f;obtain⟨O,u,cy,a6,f⟩:=f;cases f;rw[run_seq] at b;refine wpIn_seq ?_
  cases hra:run cl yl N rd O vars h with
  |none=>simp [hra] at b
  |some q=>
   obtain⟨e1,a3,c8,h1⟩:=q;simp only[hra] at b;refine ihx O u _ _ _ _ _ _ _ hra m w a rr t j z B _ ?_;intro a1 w1 m1 F G W R Z U
   cases e1 with
   |norm=>
    simp only at b
    cases hrb:run cl yl N rd cy a3 h1 with
    |none=>simp [hrb] at b
    |some q=>
     obtain⟨e2,a7,e5,h2⟩:=q;simp only[hrb] at b;cases b;refine ihy cy a6 _ _ _ _ _ _ _ hrb m1 w1 a1 rr W (j.mono G.ext) G.rel (G.low B) _ ?_;intro a2 w2 m2 c0 c1 c2 c3 c4 c5;refine o a2 w2 m2 (c0++F) (G.trans c1) c2 (by rw[c3,R,oF]) (kZ.append G.kept.size c0 F _ _ _ c1.kept.size c4 (kZ.Hz G.rel c1 F _ _ Z)) (λJ=>?_);simp only[C.Gz,pF] at J;rw[c5 J.2,U J.1];rfl
   |ret=>
    simp only at b;cases b;exact o a1 w1 m1 F G W R Z (λJ=>U (by simp only[C.Gz,pF] at J;exact J.1))
   |exit n=>
    simp only at b;cases b;exact o a1 w1 m1 F G W R Z (λJ=>U (by simp only[C.Gz,pF] at J;exact J.1))
 |cond c x y ihx ihy=>
  intro c' f rd vars h e d A Y b m w a rr t j z B Q o;simp only[iF,oS,lT] at f;obtain⟨cc,d7,O,u,cy,a6,f⟩:=f;cases f;rw[run_ite] at b;have a9:=aJ (s:=(⟨t,qS.nil ..⟩:St m nt pv [] vars [] a)) d7;split at b
  ·rename_i hb
   rw[hb] at a9;refine wpIn_cond_true a9 (ihx O u _ _ _ _ _ _ _ b m w a rr t j z B _ (λK w' m' ds G W R Z U=>o K w' m' ds G W R Z (λJ=>U ?_)));simp only[C.Gz,pF] at J;exact J.1
  ·rename_i hb
   rw[hb] at a9;refine wpIn_cond_false a9 (ihy cy a6 _ _ _ _ _ _ _ b m w a rr t j z B _ (λK w' m' ds G W R Z U=>o K w' m' ds G W R Z (λJ=>U ?_)));simp only[C.Gz,pF] at J;exact J.2
  ·cases b
 |block id x ihx=>
  intro c f rd vars h e d A Y b m w a rr t j z B Q o;simp only[iF,oS,lT] at f;obtain⟨O,u,f⟩:=f;cases f;rw[xN] at b;refine wpIn_block ?_
  cases hra:run cl yl N rd O vars h with
  |none=>simp [hra] at b
  |some q=>
   obtain⟨e1,a3,c8,h1⟩:=q;simp only[hra] at b;refine ihx O u _ _ _ _ _ _ _ hra m w a rr t j z B _ ?_;intro a1 w1 m1 F G W R Z U
   cases e1 with
   |norm=>simp only at b;cases b;exact o a1 w1 m1 F G W R Z U
   |ret=>simp only at b;cases b;exact o a1 w1 m1 F G W R Z U
   |exit n=>
    simp only at b;simp only[Nl,Exit.inBlock];split at b
    ·rename_i J
     cases b;rw[aV J];exact o a1 w1 m1 F G W R Z U
    ·rename_i J
     cases b;rw[aZ J];exact o a1 w1 m1 F G W R Z U
 |loop x ihx=>
  intro c f rd vars h e d A Y b m w a rr t j z B Q o;simp only[iF,oS,lT] at f;obtain⟨O,u,f⟩:=f;cases f;rw[nH] at b;exact (Zy (rr:=rr) (λvars h e d A Y b m w a t j z B Q o=>ihx O u rd vars h e d A Y b m w a rr t j z B Q o) N _ _ _ _ _ _ b m w a t j z B Q o).wp
 |exit n=>
  intro c f rd vars h e d A Y b m w a rr t j z B Q o;simp only[iF] at f;cases f;rw[Cd] at b;cases b;exact wpIn_exit (o.still z t)
 |ret=>
  intro c f rd vars h e d A Y b m w a rr t j z B Q o;simp only[iF] at f;cases f;rw[Fv] at b;cases b;exact wpIn_ret (o.still z t)
 |scope x ihx=>
  intro c f rd vars h e d A Y b m w a rr t j z B Q o;simp only[iF,oS,lT] at f;obtain⟨O,u,f⟩:=f;cases f;rw[wV] at b;refine Lh (ihx O u _ _ _ _ _ _ _ b m w a rr t j z B _ ?_);intro K w' m' ds G W R Z U;refine⟨λl h=>?_,o K w' m' ds G W R Z U⟩
  cases e with
  |norm=>cases h
  |ret=>cases h
  |exit n=>cases h
 |rangeFunc g ps x y ihx ihy=>
  intro c f rd vars h e d A Y b m w a rr t j z B Q o;simp only[iF,oS,lT] at f;obtain⟨cg,d4,pars,b9,O,u,cy,a6,f⟩:=f;cases f;rw[wG] at b;simp only[rQ] at b;split at b
  ·rename_i gf fs cs d9
   generalize d8:Rs rd h=d6 at b
   cases d6 with
   |false=>simp at b
   |true=>
    simp only[if_true] at b
    cases hcall:cl gf (fs++ .yl h.next::cs) (h.new (.loop {vars,pars,assign:=O,body:=cy,st:= .ready,pend:=none})) with
    |none=>simp [hcall] at b
    |some q=>
     obtain⟨v,hA⟩:=q;simp only[hcall] at b;split at b
     ·rename_i r d2
      by_cases hb:r.st= .busy
      ·simp [hb] at b
      ·simp only[hb,if_false] at b
       cases b;exact Vo a8 t j z B d4 d9 b9 u a6 d8 hcall d2 hb o
     ·cases b
  ·cases b
 |_=>intro c f;simp [iF] at f
theorem sound (e:P.follows .mixedOrders=true)(c:Xr P p): ∀f,tE P (iO p N f).1/\rY P (iO p N f).2/\CM P p (iO p N f).1
 |0=>by
  rw[Hx];refine⟨λg a h v i b=>?_,λid a h v i b=>?_,λg n a h v i b=>?_⟩
  ·cases b
  ·cases b
  ·cases b
 |f+1=>by
  obtain⟨j,l,k⟩:=sound e c f;have d:=FZ (N:=N) e j l;rw[mD];exact⟨Jb c d k,Gx d,Nf c d⟩
theorem yP (a:P.follows .mixedOrders=true)(c:Xr P p){f g:Nat}{args:List V}{h h':H}{v:V}(e:DA p N f g args h=some (v,h')){xs:Array Value}(d:fP m args xs.toList)(i:HR P m h w)(b:Cx m h.next):
  Calls P g xs w (tF P m h w v h'):=
 callsIn_wide.1 (((sound a c f).1 g args h v h' e).2 m w xs d i b)
end
end
end Go.Ay
#print axioms Go.Ay.yP
