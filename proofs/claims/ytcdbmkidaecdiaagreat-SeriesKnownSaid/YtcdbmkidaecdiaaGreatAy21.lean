/- The statements, and all together: a call that the abstract machine answers, the machine answers. -/
import Derived.Test.YtcdbmkidaecdiaaGreatAy20
namespace Go.Ay
open Go
section
variable {m:M} {w:World}
section
variable {P:Program} {p:Nat->Option Fn} {cl yl:dP} {N:Nat}
theorem Ni {a hi:Nat}:pL m w a hi [] []:=rfl
theorem JZ.still {h:H}{nt:Nat}{pv:List Nat}{a:Act}{e:E}{b:List V}{Tj:Bool}{Q:Exit->Act->World->Prop}(d:JZ P m h w nt pv a e b [] h Tj Q)
  (f:HR P m h w) (c:jM m nt pv b a.tmps):Q (BY e) a w:=d a w m [] (iO.Rn f) c (by simp) Ni (λ_=>rfl)
theorem aaC {nt:Nat}{pv:List Nat}{x:Code}{g:C}{rd rr:Option Nat}
  (J: ∀vars h e vars' dfs h',run cl yl N rd g vars h=some (e,vars',dfs,h')-> ∀m w a,jM m nt pv vars a.tmps->RdR m rd rr->HR P m h w->Qk m h.next-> ∀Q,JZ P m h w nt pv a e vars' dfs h' g.Tj Q->x.wpIn (Wf rr) 0 P Q a w):
  ∀n vars h e vars' dfs h',Bg (run cl yl N rd g) n vars h=some (e,vars',dfs,h')-> ∀m w a,jM m nt pv vars a.tmps->RdR m rd rr->HR P m h w->Qk m h.next-> ∀Q,JZ P m h w nt pv a e vars' dfs h' g.Tj Q->
   Ps (Wf rr) 0 P x Q a w:=by
 intro n
 induction n with
 |zero=>intro vars h e vars' dfs h' b;rw[Nk] at b;cases b
 |succ n ih=>
  intro vars h e vars' dfs h' b m w a U i R G Q r;rw[tD] at b;refine Ps.step ?_
  cases hra:run cl yl N rd g vars h with
  |none=>simp [hra] at b
  |some q=>
   obtain⟨e1,f,B,h1⟩:=q;simp only[hra] at b;refine J _ _ _ _ _ _ hra m w a U i R G _ ?_;intro v l u c d o k t s
   cases e1 with
   |norm=>
    simp only at b
    cases hrb:Bg (run cl yl N rd g) n f h1 with
    |none=>simp [hrb] at b
    |some q=>
     obtain⟨e2,y,A,h2⟩:=q;simp only[hrb] at b;cases b;refine ih _ _ _ _ _ _ hrb u l v o (i.mono d.ext) d.rel (d.low G) _ ?_;intro K w2 Y j z L W Z O;refine r K w2 Y (j++c) (d.trans z) L (by rw[W,k,Ll]) (pL.append d.kept.size j c _ _ _ z.kept.size Z (pL.Yp d.rel z c _ _ t)) (λF=>?_);rw[O F,s F];rfl
   |ret=>simp only at b;cases b;exact r v l u c d o k t s
   |exit n=>simp only at b;cases b;exact r v l u c d o k t s
theorem agF (hm:P.follows .mixedOrders=true)(a9:Dd P cl)(b8:Ao P yl):acK P cl yl N:=by
 intro nt pv c6
 induction c6 with
 |skip=>
  intro c f rd vars h e d A R b m w a rr t j z B Q o;simp only[jL] at f;cases f;rw[Ez] at b;cases b;exact wpIn_skip (o.still z t)
 |label l=>
  intro c f rd vars h e d A R b m w a rr t j z B Q o;simp only[jL] at f;cases f;rw[Ez] at b;cases b;exact wpIn_label (o.still z t)
 |region id ops draw=>
  intro c f rd vars h e d A R b m w a rr t j z B Q o;simp only[jL] at f;split at f
  ·rename_i hd
   subst hd;obtain⟨e6,xs,rfl,c9,hP⟩:=Ty f;rw[Ur] at b;split at b
   ·rename_i vs h2 a4
    cases b;exact afL hm a9 b8 c9 hP a4 t z B (λK w' m' e1 e2 e3=>o K w' m' [] e3 e1 (by simpa using e2) Ni (λ_=>rfl))
   ·cases b
  ·rename_i hd
   have hd:draw=false:=by simpa using hd
   subst hd;split at f
   ·--a deferred call at the end
    rename_i e0 ty ps af a7;obtain⟨callee,L,c8⟩:=e0
    cases callee with
    |value x=>
     simp only[uV,qM] at f;obtain⟨b7,a0,Y,u,args,b6,f⟩:=f;cases f;rw[Xd] at b;simp only[Lc] at b
     cases rd with
     |some i=>simp at b
     |none=>
      cases rr with
      |some i=>exact j.elim
      |none=>
       simp only[Option.isSome_none,Bool.false_eq_true,if_false] at b;split at b
       ·rename_i a5 h2 a4
        split at b
        ·rename_i g fs cs hx
         cases b
         have e4:0<ops.size:=by
          cases h9:ops.size with
          |zero=>
           have:ops= #[]:=Array.eq_empty_of_size_eq_zero h9;subst this;simp at a7
          |succ k=>omega
         refine wpIn_region ?_;rw[Vr e4];refine RT a9 b8 _ _ [] b7 vars [] h d R a0 a4 m w a ⟨t,xZ.nil ..⟩ z B (λK w' m' e1 e2 e3=>?_);have b0:ops[ops.size- 1]? =ops.back? :=by rw[Array.back?]
         simp only[wpOpsIn,b0,a7,Region.wanted,if_true];have c0:=aJ (s:=(⟨e1,xZ.nil ..⟩:St m' nt pv [] d [] K)) u;have d8:=iM (s:=(⟨e1,xZ.nil ..⟩:St m' nt pv [] d [] K)) b6;rw[hx] at c0;obtain⟨us,ys,d6,k1,k2⟩:=c0;refine⟨λ_ _=>trivial,?_⟩
         have d1:(Oper.semAt none K.eval ({op:= .defer {callee:= .value x,args:=L,argTypes:=c8},guard:=none,dst:=none,type:=ty,pos:=ps,after:=af}:Oper)).run P w'=
           .ok (.defer {target:= .fn (.func g) ys,args:=us++L.map K.eval}) w':=by
          rw[Oper.semAt_none]
          simp [execOp,resolve,Deferred.ofValue,d6]
         show Oper.uponIn _ _ _ _ _ _ _ (Sem.run P (Oper.semAt none K.eval _) w');rw[d1,Oper.uponIn_defer];refine o _ w' m' [{target:= .fn (.func g) ys,args:=us++L.map K.eval}] e3 e1 ?_ (.inr ⟨g,_, [],ys,rfl,rfl,?_,rfl⟩) (λh=>by simp [C.Tj] at h)
         ·simp [Act.put,e2]
         ·have:=(k1.append d8).append k2
          simpa using this
        ·cases b
       ·cases b
    |_=>simp at f
   ·simp only[mJ] at f
    obtain⟨b7,a0,rfl⟩:=f;rw[Va] at b;split at b
    ·rename_i a5 h2 a4
     cases b;refine wpIn_region ?_;have:=RT (r:=rr) (Q:=Q) a9 b8 [] _ [] b7 vars [] h d R a0 a4 m w a ⟨t,xZ.nil ..⟩ z B (λK w' m' e1 e2 e3=>o K w' m' [] e3 e1 (by simpa using e2) Ni (λ_=>rfl));simpa using this
    ·cases b
 |seq x y ihx ihy=>
  intro c f rd vars h e d A R b m w a rr t j z B Q o;simp only[jL,uV,qM] at f;obtain⟨Y,u,cy,a6,f⟩:=f;cases f;rw[run_seq] at b;refine wpIn_seq ?_
  cases hra:run cl yl N rd Y vars h with
  |none=>simp [hra] at b
  |some q=>
   obtain⟨e1,a3,d0,h1⟩:=q;simp only[hra] at b;refine ihx Y u _ _ _ _ _ _ _ hra m w a rr t j z B _ ?_;intro a1 w1 m1 F J O W Z U
   cases e1 with
   |norm=>
    simp only at b
    cases hrb:run cl yl N rd cy a3 h1 with
    |none=>simp [hrb] at b
    |some q=>
     obtain⟨e2,a5,e5,h2⟩:=q;simp only[hrb] at b;cases b;refine ihy cy a6 _ _ _ _ _ _ _ hrb m1 w1 a1 rr O (j.mono J.ext) J.rel (J.low B) _ ?_;intro a2 w2 m2 c7 c1 c2 c3 c4 c5;refine o a2 w2 m2 (c7++F) (J.trans c1) c2 (by rw[c3,W,Ll]) (pL.append J.kept.size c7 F _ _ _ c1.kept.size c4 (pL.Yp J.rel c1 F _ _ Z)) (λG=>?_);simp only[C.Tj,vN] at G;rw[c5 G.2,U G.1];rfl
   |ret=>
    simp only at b;cases b;exact o a1 w1 m1 F J O W Z (λG=>U (by simp only[C.Tj,vN] at G;exact G.1))
   |exit n=>
    simp only at b;cases b;exact o a1 w1 m1 F J O W Z (λG=>U (by simp only[C.Tj,vN] at G;exact G.1))
 |cond c x y ihx ihy=>
  intro c' f rd vars h e d A R b m w a rr t j z B Q o;simp only[jL,uV,qM] at f;obtain⟨cc,d7,Y,u,cy,a6,f⟩:=f;cases f;rw[run_ite] at b;have a8:=aJ (s:=(⟨t,xZ.nil ..⟩:St m nt pv [] vars [] a)) d7;split at b
  ·rename_i hb
   rw[hb] at a8;refine wpIn_cond_true a8 (ihx Y u _ _ _ _ _ _ _ b m w a rr t j z B _ (λK w' m' ds J O W Z U=>o K w' m' ds J O W Z (λG=>U ?_)));simp only[C.Tj,vN] at G;exact G.1
  ·rename_i hb
   rw[hb] at a8;refine wpIn_cond_false a8 (ihy cy a6 _ _ _ _ _ _ _ b m w a rr t j z B _ (λK w' m' ds J O W Z U=>o K w' m' ds J O W Z (λG=>U ?_)));simp only[C.Tj,vN] at G;exact G.2
  ·cases b
 |block id x ihx=>
  intro c f rd vars h e d A R b m w a rr t j z B Q o;simp only[jL,uV,qM] at f;obtain⟨Y,u,f⟩:=f;cases f;rw[Iq] at b;refine wpIn_block ?_
  cases hra:run cl yl N rd Y vars h with
  |none=>simp [hra] at b
  |some q=>
   obtain⟨e1,a3,d0,h1⟩:=q;simp only[hra] at b;refine ihx Y u _ _ _ _ _ _ _ hra m w a rr t j z B _ ?_;intro a1 w1 m1 F J O W Z U
   cases e1 with
   |norm=>simp only at b;cases b;exact o a1 w1 m1 F J O W Z U
   |ret=>simp only at b;cases b;exact o a1 w1 m1 F J O W Z U
   |exit n=>
    simp only at b;simp only[BY,Exit.inBlock];split at b
    ·rename_i G
     cases b;rw[bF G];exact o a1 w1 m1 F J O W Z U
    ·rename_i G
     cases b;rw[bI G];exact o a1 w1 m1 F J O W Z U
 |loop x ihx=>
  intro c f rd vars h e d A R b m w a rr t j z B Q o;simp only[jL,uV,qM] at f;obtain⟨Y,u,f⟩:=f;cases f;rw[Nc] at b;exact (aaC (rr:=rr) (λvars h e d A R b m w a t j z B Q o=>ihx Y u rd vars h e d A R b m w a rr t j z B Q o) N _ _ _ _ _ _ b m w a t j z B Q o).wp
 |exit n=>
  intro c f rd vars h e d A R b m w a rr t j z B Q o;simp only[jL] at f;cases f;rw[Og] at b;cases b;exact wpIn_exit (o.still z t)
 |ret=>
  intro c f rd vars h e d A R b m w a rr t j z B Q o;simp only[jL] at f;cases f;rw[Vg] at b;cases b;exact wpIn_ret (o.still z t)
 |scope x ihx=>
  intro c f rd vars h e d A R b m w a rr t j z B Q o;simp only[jL,uV,qM] at f;obtain⟨Y,u,f⟩:=f;cases f;rw[Ja] at b;refine CY (ihx Y u _ _ _ _ _ _ _ b m w a rr t j z B _ ?_);intro K w' m' ds J O W Z U;refine⟨λl h=>?_,o K w' m' ds J O W Z U⟩
  cases e with
  |norm=>cases h
  |ret=>cases h
  |exit n=>cases h
 |rangeFunc g ps x y ihx ihy=>
  intro c f rd vars h e d A R b m w a rr t j z B Q o;simp only[jL,uV,qM] at f;obtain⟨cg,d5,pars,b9,Y,u,cy,a6,f⟩:=f;cases f;rw[Jd] at b;simp only[zS] at b;split at b
  ·rename_i gf fs cs d9
   generalize d3:LR rd h=d4 at b
   cases d4 with
   |false=>simp at b
   |true=>
    simp only[if_true] at b
    cases hcall:cl gf (fs++ .yl h.next::cs) (h.new (.loop {vars,pars,assign:=Y,body:=cy,st:= .ready,pend:=none})) with
    |none=>simp [hcall] at b
    |some q=>
     obtain⟨v,hA⟩:=q;simp only[hcall] at b;split at b
     ·rename_i r d2
      by_cases hb:r.st= .busy
      ·simp [hb] at b
      ·simp only[hb,if_false] at b
       cases b;exact RX a9 t j z B d5 d9 b9 u a6 d3 hcall d2 hb o
     ·cases b
  ·cases b
 |_=>intro c f;simp [jL] at f
theorem sound (i:P.follows .mixedOrders=true)(d:POk P p): ∀f,Dd P (jX p N f).1/\Ao P (jX p N f).2/\XI P p (jX p N f).1
 |0=>by
  rw[AA];refine⟨λg a h v e b=>?_,λid a h v e b=>?_,λg n a h v e b=>?_⟩
  ·cases b
  ·cases b
  ·cases b
 |f+1=>by
  obtain⟨l,k,j⟩:=sound i d f;have c:=agF (N:=N) i l k;rw[qU];exact⟨Xy d c j,Uh c,BJ d c⟩
theorem Kj (i:P.follows .mixedOrders=true)(c:POk P p){f g:Nat}{args:List V}{h h':H}{v:V}(d:agH p N f g args h=some (v,h')){xs:Array Value}(b:gZ m args xs.toList)(e:HR P m h w)(a:Qk m h.next):
  Calls P g xs w (Dm P m h w v h'):=
 callsIn_wide.1 (((sound i c f).1 g args h v h' d).2 m w xs b e a)
end
end
end Go.Ay
#print axioms Go.Ay.Kj
