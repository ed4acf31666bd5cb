/- The statements, and all together: a call that the abstract machine answers, the machine answers. -/
import Derived.Test.YtcdbmkidaecdiaaGreatAy20
namespace Go.Ay
open Go
section
variable {m:M} {w:World}
section
variable {P:Program} {p:Nat->Option Fn} {cl yl:dP} {N:Nat}
theorem Ni {a hi:Nat}:pL m w a hi [] []:=rfl
theorem JZ.still {h:H}{nt:Nat}{pv:List Nat}{a:Act}{e:E}{b:List V}{Tj:Bool}{Q:Exit->Act->World->Prop}(d:JZ P m h w nt pv a e b [] h Tj Q)
  (c:HR P m h w) (f:jM m nt pv b a.tmps):Q (BY e) a w:=d a w m [] (iO.Rn c) f (by simp) Ni (λ_=>rfl)
theorem aaC {nt:Nat}{pv:List Nat}{x:Code}{i:C}{rd rr:Option Nat}
  (O: ∀vars h e vars' dfs h',run cl yl N rd i vars h=some (e,vars',dfs,h')-> ∀m w a,jM m nt pv vars a.tmps->RdR m rd rr->HR P m h w->Qk m h.next-> ∀Q,JZ P m h w nt pv a e vars' dfs h' i.Tj Q->x.wpIn (Wf rr) 0 P Q a w):
  ∀n vars h e vars' dfs h',Bg (run cl yl N rd i) n vars h=some (e,vars',dfs,h')-> ∀m w a,jM m nt pv vars a.tmps->RdR m rd rr->HR P m h w->Qk m h.next-> ∀Q,JZ P m h w nt pv a e vars' dfs h' i.Tj Q->
   Ps (Wf rr) 0 P x Q a w:=by
 intro n
 induction n with
 |zero=>intro vars h e vars' dfs h' b;rw[Nk] at b;cases b
 |succ n ih=>
  intro vars h e vars' dfs h' b m w a hv k L J Q u;rw[tD] at b;refine Ps.step ?_
  cases hra:run cl yl N rd i vars h with
  |none=>simp [hra] at b
  |some q=>
   obtain⟨e1,f,B,K⟩:=q;simp only[hra] at b;refine O _ _ _ _ _ _ hra m w a hv k L J _ ?_;intro v l y c d r A s o
   cases e1 with
   |norm=>
    simp only at b
    cases hrb:Bg (run cl yl N rd i) n f K with
    |none=>simp [hrb] at b
    |some q=>
     obtain⟨e2,t,G,h2⟩:=q;simp only[hrb] at b;cases b;refine ih _ _ _ _ _ _ hrb y l v r (k.mono d.ext) d.rel (d.low J) _ ?_;intro Z w2 W j z R U c4 Y;refine u Z w2 W (j++c) (d.trans z) R (by rw[U,A,Ll]) (pL.append d.kept.size j c _ _ _ z.kept.size c4 (pL.Yp d.rel z c _ _ s)) (λF=>?_);rw[Y F,o F];rfl
   |ret=>simp only at b;cases b;exact u v l y c d r A s o
   |exit n=>simp only at b;cases b;exact u v l y c d r A s o
theorem agF (hm:P.follows .mixedOrders=true)(a8:Dd P cl)(b0:Ao P yl):acK P cl yl N:=by
 intro nt pv d0
 induction d0 with
 |skip=>
  intro c f rd vars h e d A U b m w a rr u j z B Q o;simp only[jL] at f;cases f;rw[Ez] at b;cases b;exact wpIn_skip (o.still z u)
 |label l=>
  intro c f rd vars h e d A U b m w a rr u j z B Q o;simp only[jL] at f;cases f;rw[Ez] at b;cases b;exact wpIn_label (o.still z u)
 |region id ops draw=>
  intro c f rd vars h e d A U b m w a rr u j z B Q o;simp only[jL] at f;split at f
  ·rename_i hd
   subst hd;obtain⟨e6,xs,rfl,d1,hP⟩:=Ty f;rw[Ur] at b;split at b
   ·rename_i vs h2 a3
    cases b;exact afL hm a8 b0 d1 hP a3 u z B (λK w' m' e1 e2 e3=>o K w' m' [] e3 e1 (by simpa using e2) Ni (λ_=>rfl))
   ·cases b
  ·rename_i hd
   have hd:draw=false:=by simpa using hd
   subst hd;split at f
   ·--a deferred call at the end
    rename_i d4 ty ps af a6;obtain⟨callee,L,c8⟩:=d4
    cases callee with
    |value x=>
     simp only[uV,qM] at f;obtain⟨b7,a7,Z,t,args,b9,f⟩:=f;cases f;rw[Xd] at b;simp only[Lc] at b
     cases rd with
     |some i=>simp at b
     |none=>
      cases rr with
      |some i=>exact j.elim
      |none=>
       simp only[Option.isSome_none,Bool.false_eq_true,if_false] at b;split at b
       ·rename_i a4 h2 a3
        split at b
        ·rename_i g fs cs hx
         cases b
         have e4:0<ops.size:=by
          cases h9:ops.size with
          |zero=>
           have:ops= #[]:=Array.eq_empty_of_size_eq_zero h9;subst this;simp at a6
          |succ k=>omega
         refine wpIn_region ?_;rw[Vr e4];refine RT a8 b0 _ _ [] b7 vars [] h d U a7 a3 m w a ⟨u,xZ.nil ..⟩ z B (λK w' m' e1 e2 e3=>?_);have b8:ops[ops.size- 1]? =ops.back? :=by rw[Array.back?]
         simp only[wpOpsIn,b8,a6,Region.wanted,if_true];have c9:=aJ (s:=(⟨e1,xZ.nil ..⟩:St m' nt pv [] d [] K)) t;have d8:=iM (s:=(⟨e1,xZ.nil ..⟩:St m' nt pv [] d [] K)) b9;rw[hx] at c9;obtain⟨us,ys,e0,k1,k2⟩:=c9;refine⟨λ_ _=>trivial,?_⟩
         have c7:(Oper.semAt none K.eval ({op:= .defer {callee:= .value x,args:=L,argTypes:=c8},guard:=none,dst:=none,type:=ty,pos:=ps,after:=af}:Oper)).run P w'=
           .ok (.defer {target:= .fn (.func g) ys,args:=us++L.map K.eval}) w':=by
          rw[Oper.semAt_none]
          simp [execOp,resolve,Deferred.ofValue,e0]
         show Oper.uponIn _ _ _ _ _ _ _ (Sem.run P (Oper.semAt none K.eval _) w');rw[c7,Oper.uponIn_defer];refine o _ w' m' [{target:= .fn (.func g) ys,args:=us++L.map K.eval}] e3 e1 ?_ (.inr ⟨g,_, [],ys,rfl,rfl,?_,rfl⟩) (λh=>by simp [C.Tj] at h)
         ·simp [Act.put,e2]
         ·have:=(k1.append d8).append k2
          simpa using this
        ·cases b
       ·cases b
    |_=>simp at f
   ·simp only[mJ] at f
    obtain⟨b7,a7,rfl⟩:=f;rw[Va] at b;split at b
    ·rename_i a4 h2 a3
     cases b;refine wpIn_region ?_;have:=RT (r:=rr) (Q:=Q) a8 b0 [] _ [] b7 vars [] h d U a7 a3 m w a ⟨u,xZ.nil ..⟩ z B (λK w' m' e1 e2 e3=>o K w' m' [] e3 e1 (by simpa using e2) Ni (λ_=>rfl));simpa using this
    ·cases b
 |seq x y ihx ihy=>
  intro c f rd vars h e d A U b m w a rr u j z B Q o;simp only[jL,uV,qM] at f;obtain⟨Z,t,cy,a0,f⟩:=f;cases f;rw[run_seq] at b;refine wpIn_seq ?_
  cases hra:run cl yl N rd Z vars h with
  |none=>simp [hra] at b
  |some q=>
   obtain⟨e1,a5,c0,h1⟩:=q;simp only[hra] at b;refine ihx Z t _ _ _ _ _ _ _ hra m w a rr u j z B _ ?_;intro a1 w1 m1 F J O W R Y
   cases e1 with
   |norm=>
    simp only at b
    cases hrb:run cl yl N rd cy a5 h1 with
    |none=>simp [hrb] at b
    |some q=>
     obtain⟨e2,a4,e5,h2⟩:=q;simp only[hrb] at b;cases b;refine ihy cy a0 _ _ _ _ _ _ _ hrb m1 w1 a1 rr O (j.mono J.ext) J.rel (J.low B) _ ?_;intro a2 w2 m2 c6 c1 c2 c3 c4 c5;refine o a2 w2 m2 (c6++F) (J.trans c1) c2 (by rw[c3,W,Ll]) (pL.append J.kept.size c6 F _ _ _ c1.kept.size c4 (pL.Yp J.rel c1 F _ _ R)) (λG=>?_);simp only[C.Tj,vN] at G;rw[c5 G.2,Y G.1];rfl
   |ret=>
    simp only at b;cases b;exact o a1 w1 m1 F J O W R (λG=>Y (by simp only[C.Tj,vN] at G;exact G.1))
   |exit n=>
    simp only at b;cases b;exact o a1 w1 m1 F J O W R (λG=>Y (by simp only[C.Tj,vN] at G;exact G.1))
 |cond c x y ihx ihy=>
  intro c' f rd vars h e d A U b m w a rr u j z B Q o;simp only[jL,uV,qM] at f;obtain⟨cc,d5,Z,t,cy,a0,f⟩:=f;cases f;rw[run_ite] at b;have a9:=aJ (s:=(⟨u,xZ.nil ..⟩:St m nt pv [] vars [] a)) d5;split at b
  ·rename_i hb
   rw[hb] at a9;refine wpIn_cond_true a9 (ihx Z t _ _ _ _ _ _ _ b m w a rr u j z B _ (λK w' m' ds J O W R Y=>o K w' m' ds J O W R (λG=>Y ?_)));simp only[C.Tj,vN] at G;exact G.1
  ·rename_i hb
   rw[hb] at a9;refine wpIn_cond_false a9 (ihy cy a0 _ _ _ _ _ _ _ b m w a rr u j z B _ (λK w' m' ds J O W R Y=>o K w' m' ds J O W R (λG=>Y ?_)));simp only[C.Tj,vN] at G;exact G.2
  ·cases b
 |block id x ihx=>
  intro c f rd vars h e d A U b m w a rr u j z B Q o;simp only[jL,uV,qM] at f;obtain⟨Z,t,f⟩:=f;cases f;rw[Iq] at b;refine wpIn_block ?_
  cases hra:run cl yl N rd Z vars h with
  |none=>simp [hra] at b
  |some q=>
   obtain⟨e1,a5,c0,h1⟩:=q;simp only[hra] at b;refine ihx Z t _ _ _ _ _ _ _ hra m w a rr u j z B _ ?_;intro a1 w1 m1 F J O W R Y
   cases e1 with
   |norm=>simp only at b;cases b;exact o a1 w1 m1 F J O W R Y
   |ret=>simp only at b;cases b;exact o a1 w1 m1 F J O W R Y
   |exit n=>
    simp only at b;simp only[BY,Exit.inBlock];split at b
    ·rename_i G
     cases b;rw[bF G];exact o a1 w1 m1 F J O W R Y
    ·rename_i G
     cases b;rw[bI G];exact o a1 w1 m1 F J O W R Y
 |loop x ihx=>
  intro c f rd vars h e d A U b m w a rr u j z B Q o;simp only[jL,uV,qM] at f;obtain⟨Z,t,f⟩:=f;cases f;rw[Nc] at b;exact (aaC (rr:=rr) (λvars h e d A U b m w a u j z B Q o=>ihx Z t rd vars h e d A U b m w a rr u j z B Q o) N _ _ _ _ _ _ b m w a u j z B Q o).wp
 |exit n=>
  intro c f rd vars h e d A U b m w a rr u j z B Q o;simp only[jL] at f;cases f;rw[Og] at b;cases b;exact wpIn_exit (o.still z u)
 |ret=>
  intro c f rd vars h e d A U b m w a rr u j z B Q o;simp only[jL] at f;cases f;rw[Vg] at b;cases b;exact wpIn_ret (o.still z u)
 |scope x ihx=>
  intro c f rd vars h e d A U b m w a rr u j z B Q o;simp only[jL,uV,qM] at f;obtain⟨Z,t,f⟩:=f;cases f;rw[Ja] at b;refine CY (ihx Z t _ _ _ _ _ _ _ b m w a rr u j z B _ ?_);intro K w' m' ds J O W R Y;refine⟨λl h=>?_,o K w' m' ds J O W R Y⟩
  cases e with
  |norm=>cases h
  |ret=>cases h
  |exit n=>cases h
 |rangeFunc g ps x y ihx ihy=>
  intro c f rd vars h e d A U b m w a rr u j z B Q o;simp only[jL,uV,qM] at f;obtain⟨cg,d6,pars,b6,Z,t,cy,a0,f⟩:=f;cases f;rw[Jd] at b;simp only[zS] at b;split at b
  ·rename_i gf fs cs d7
   generalize d3:LR rd h=d2 at b
   cases d2 with
   |false=>simp at b
   |true=>
    simp only[if_true] at b
    cases hcall:cl gf (fs++ .yl h.next::cs) (h.new (.loop {vars,pars,assign:=Z,body:=cy,st:= .ready,pend:=none})) with
    |none=>simp [hcall] at b
    |some q=>
     obtain⟨v,hA⟩:=q;simp only[hcall] at b;split at b
     ·rename_i r d9
      by_cases hb:r.st= .busy
      ·simp [hb] at b
      ·simp only[hb,if_false] at b
       cases b;exact RX a8 u j z B d6 d7 b6 t a0 d3 hcall d9 hb o
     ·cases b
  ·cases b
 |_=>intro c f;simp [jL] at f
theorem sound (j:P.follows .mixedOrders=true)(c:POk P p): ∀f,Dd P (jX p N f).1/\Ao P (jX p N f).2/\XI P p (jX p N f).1
 |0=>by
  rw[AA];refine⟨λg a h v i b=>?_,λid a h v i b=>?_,λg o a h v i b=>?_⟩
  ·cases b
  ·cases b
  ·cases b
 |f+1=>by
  obtain⟨k,n,l⟩:=sound j c f;have d:=agF (N:=N) j k n;rw[qU];exact⟨Xy c d l,Uh d,BJ c d⟩
theorem aiV (j:P.follows .mixedOrders=true)(i:POk P p){f g:Nat}{args:List V}{h h':H}{v:V}(a:agH p N f g args h=some (v,h')){xs:Array Value}(b:gZ m args xs.toList)(c:HR P m h w)(d:Qk m h.next):
  Calls P g xs w (Dm P m h w v h'):=
 callsIn_wide.1 (((sound j i f).1 g args h v h' a).2 m w xs b c d)
end
end
end Go.Ay
#print axioms Go.Ay.aiV
