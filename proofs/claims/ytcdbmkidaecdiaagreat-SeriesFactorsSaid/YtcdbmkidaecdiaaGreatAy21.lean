/- The statements, and all together: a call that the abstract machine answers, the machine answers. -/
import Derived.Test.YtcdbmkidaecdiaaGreatAy20
namespace Go.Ay
open Go
section
variable {m:M} {w:World}
section
variable {P:Program} {p:Nat->Option Fn} {cl yl:dP} {N:Nat}
theorem Ni {a hi:Nat}:pL m w a hi [] []:=rfl
theorem JZ.still {h:H}{nt:Nat}{pv:List Nat}{a:Act}{e:E}{b:List V}{Tj:Bool}{Q:Exit->Act->World->Prop}(c:JZ P m h w nt pv a e b [] h Tj Q)
  (d:HR P m h w) (f:jM m nt pv b a.tmps):Q (BY e) a w:=c a w m [] (iO.Rn d) f (by simp) Ni (λ_=>rfl)
theorem aaC {nt:Nat}{pv:List Nat}{x:Code}{i:C}{rd rr:Option Nat}
  (hx: ∀vars h e vars' dfs h',run cl yl N rd i vars h=some (e,vars',dfs,h')-> ∀m w a,jM m nt pv vars a.tmps->RdR m rd rr->HR P m h w->Qk m h.next-> ∀Q,JZ P m h w nt pv a e vars' dfs h' i.Tj Q->x.wpIn (Wf rr) 0 P Q a w):
  ∀n vars h e vars' dfs h',Bg (run cl yl N rd i) n vars h=some (e,vars',dfs,h')-> ∀m w a,jM m nt pv vars a.tmps->RdR m rd rr->HR P m h w->Qk m h.next-> ∀Q,JZ P m h w nt pv a e vars' dfs h' i.Tj Q->
   Ps (Wf rr) 0 P x Q a w:=by
 intro n
 induction n with
 |zero=>intro vars h e vars' dfs h' b;rw[Nk] at b;cases b
 |succ n ih=>
  intro vars h e vars' dfs h' b m w a W k hr B Q z;rw[tD] at b;refine Ps.step ?_
  cases hra:run cl yl N rd i vars h with
  |none=>simp [hra] at b
  |some q=>
   obtain⟨R,f,G,U⟩:=q;simp only[hra] at b;refine hx _ _ _ _ _ _ hra m w a W k hr B _ ?_;intro o l A c d r y t u
   cases R with
   |norm=>
    simp only at b
    cases hrb:Bg (run cl yl N rd i) n f U with
    |none=>simp [hrb] at b
    |some q=>
     obtain⟨e2,s,J,h2⟩:=q;simp only[hrb] at b;cases b;refine ih _ _ _ _ _ _ hrb A l o r (k.mono d.ext) d.rel (d.low B) _ ?_;intro a2 K O j v L Y c4 Z;refine z a2 K O (j++c) (d.trans v) L (by rw[Y,y,Ll]) (pL.append d.kept.size j c _ _ _ v.kept.size c4 (pL.Yp d.rel v c _ _ t)) (λF=>?_);rw[Z F,u F];rfl
   |ret=>simp only at b;cases b;exact z o l A c d r y t u
   |exit n=>simp only at b;cases b;exact z o l A c d r y t u
theorem agF (hm:P.follows .mixedOrders=true)(a8:Dd P cl)(b7:Ao P yl):acK P cl yl N:=by
 intro nt pv c7
 induction c7 with
 |skip=>
  intro c f rd vars h e d A O b m w a rr u j z B Q o;simp only[jL] at f;cases f;rw[Ez] at b;cases b;exact wpIn_skip (o.still z u)
 |label l=>
  intro c f rd vars h e d A O b m w a rr u j z B Q o;simp only[jL] at f;cases f;rw[Ez] at b;cases b;exact wpIn_label (o.still z u)
 |region id ops draw=>
  intro c f rd vars h e d A O b m w a rr u j z B Q o;simp only[jL] at f;split at f
  ·rename_i hd
   subst hd;obtain⟨e6,xs,rfl,c6,hP⟩:=Ty f;rw[Ur] at b;split at b
   ·rename_i vs h2 a3
    cases b;exact afL hm a8 b7 c6 hP a3 u z B (λK W m' e1 e2 e3=>o K W m' [] e3 e1 (by simpa using e2) Ni (λ_=>rfl))
   ·cases b
  ·rename_i hd
   have hd:draw=false:=by simpa using hd
   subst hd;split at f
   ·--a deferred call at the end
    rename_i d9 ty ps af a7;obtain⟨callee,L,c8⟩:=d9
    cases callee with
    |value x=>
     simp only[uV,qM] at f;obtain⟨b0,a0,Y,t,args,b8,f⟩:=f;cases f;rw[Xd] at b;simp only[Lc] at b
     cases rd with
     |some i=>simp at b
     |none=>
      cases rr with
      |some i=>exact j.elim
      |none=>
       simp only[Option.isSome_none,Bool.false_eq_true,if_false] at b;split at b
       ·rename_i a5 h2 a3
        split at b
        ·rename_i g fs cs hx
         cases b
         have e4:0<ops.size:=by
          cases h9:ops.size with
          |zero=>
           have:ops= #[]:=Array.eq_empty_of_size_eq_zero h9;subst this;simp at a7
          |succ k=>omega
         refine wpIn_region ?_;rw[Vr e4];refine RT a8 b7 _ _ [] b0 vars [] h d O a0 a3 m w a ⟨u,xZ.nil ..⟩ z B (λK W m' e1 e2 e3=>?_);have b6:ops[ops.size- 1]? =ops.back? :=by rw[Array.back?]
         simp only[wpOpsIn,b6,a7,Region.wanted,if_true];have d0:=aJ (s:=(⟨e1,xZ.nil ..⟩:St m' nt pv [] d [] K)) t;have d4:=iM (s:=(⟨e1,xZ.nil ..⟩:St m' nt pv [] d [] K)) b8;rw[hx] at d0;obtain⟨us,ys,d6,k1,k2⟩:=d0;refine⟨λ_ _=>trivial,?_⟩
         have c0:(Oper.semAt none K.eval ({op:= .defer {callee:= .value x,args:=L,argTypes:=c8},guard:=none,dst:=none,type:=ty,pos:=ps,after:=af}:Oper)).run P W=
           .ok (.defer {target:= .fn (.func g) ys,args:=us++L.map K.eval}) W:=by
          rw[Oper.semAt_none]
          simp [execOp,resolve,Deferred.ofValue,d6]
         show Oper.uponIn _ _ _ _ _ _ _ (Sem.run P (Oper.semAt none K.eval _) W);rw[c0,Oper.uponIn_defer];refine o _ W m' [{target:= .fn (.func g) ys,args:=us++L.map K.eval}] e3 e1 ?_ (.inr ⟨g,_, [],ys,rfl,rfl,?_,rfl⟩) (λh=>by simp [C.Tj] at h)
         ·simp [Act.put,e2]
         ·have:=(k1.append d4).append k2
          simpa using this
        ·cases b
       ·cases b
    |_=>simp at f
   ·simp only[mJ] at f
    obtain⟨b0,a0,rfl⟩:=f;rw[Va] at b;split at b
    ·rename_i a5 h2 a3
     cases b;refine wpIn_region ?_;have:=RT (r:=rr) (Q:=Q) a8 b7 [] _ [] b0 vars [] h d O a0 a3 m w a ⟨u,xZ.nil ..⟩ z B (λK W m' e1 e2 e3=>o K W m' [] e3 e1 (by simpa using e2) Ni (λ_=>rfl));simpa using this
    ·cases b
 |seq x y ihx ihy=>
  intro c f rd vars h e d A O b m w a rr u j z B Q o;simp only[jL,uV,qM] at f;obtain⟨Y,t,cy,a6,f⟩:=f;cases f;rw[run_seq] at b;refine wpIn_seq ?_
  cases hra:run cl yl N rd Y vars h with
  |none=>simp [hra] at b
  |some q=>
   obtain⟨e1,a4,d1,h1⟩:=q;simp only[hra] at b;refine ihx Y t _ _ _ _ _ _ _ hra m w a rr u j z B _ ?_;intro a1 w1 m1 F G R b3 U Z
   cases e1 with
   |norm=>
    simp only at b
    cases hrb:run cl yl N rd cy a4 h1 with
    |none=>simp [hrb] at b
    |some q=>
     obtain⟨e2,a5,e5,h2⟩:=q;simp only[hrb] at b;cases b;refine ihy cy a6 _ _ _ _ _ _ _ hrb m1 w1 a1 rr R (j.mono G.ext) G.rel (G.low B) _ ?_;intro a2 w2 m2 c9 c1 c2 c3 c4 c5;refine o a2 w2 m2 (c9++F) (G.trans c1) c2 (by rw[c3,b3,Ll]) (pL.append G.kept.size c9 F _ _ _ c1.kept.size c4 (pL.Yp G.rel c1 F _ _ U)) (λJ=>?_);simp only[C.Tj,vN] at J;rw[c5 J.2,Z J.1];rfl
   |ret=>
    simp only at b;cases b;exact o a1 w1 m1 F G R b3 U (λJ=>Z (by simp only[C.Tj,vN] at J;exact J.1))
   |exit n=>
    simp only at b;cases b;exact o a1 w1 m1 F G R b3 U (λJ=>Z (by simp only[C.Tj,vN] at J;exact J.1))
 |cond c x y ihx ihy=>
  intro c' f rd vars h e d A O b m w a rr u j z B Q o;simp only[jL,uV,qM] at f;obtain⟨cc,e0,Y,t,cy,a6,f⟩:=f;cases f;rw[run_ite] at b;have a9:=aJ (s:=(⟨u,xZ.nil ..⟩:St m nt pv [] vars [] a)) e0;split at b
  ·rename_i hb
   rw[hb] at a9;refine wpIn_cond_true a9 (ihx Y t _ _ _ _ _ _ _ b m w a rr u j z B _ (λK W m' ds G R b3 U Z=>o K W m' ds G R b3 U (λJ=>Z ?_)));simp only[C.Tj,vN] at J;exact J.1
  ·rename_i hb
   rw[hb] at a9;refine wpIn_cond_false a9 (ihy cy a6 _ _ _ _ _ _ _ b m w a rr u j z B _ (λK W m' ds G R b3 U Z=>o K W m' ds G R b3 U (λJ=>Z ?_)));simp only[C.Tj,vN] at J;exact J.2
  ·cases b
 |block id x ihx=>
  intro c f rd vars h e d A O b m w a rr u j z B Q o;simp only[jL,uV,qM] at f;obtain⟨Y,t,f⟩:=f;cases f;rw[Iq] at b;refine wpIn_block ?_
  cases hra:run cl yl N rd Y vars h with
  |none=>simp [hra] at b
  |some q=>
   obtain⟨e1,a4,d1,h1⟩:=q;simp only[hra] at b;refine ihx Y t _ _ _ _ _ _ _ hra m w a rr u j z B _ ?_;intro a1 w1 m1 F G R b3 U Z
   cases e1 with
   |norm=>simp only at b;cases b;exact o a1 w1 m1 F G R b3 U Z
   |ret=>simp only at b;cases b;exact o a1 w1 m1 F G R b3 U Z
   |exit n=>
    simp only at b;simp only[BY,Exit.inBlock];split at b
    ·rename_i J
     cases b;rw[bF J];exact o a1 w1 m1 F G R b3 U Z
    ·rename_i J
     cases b;rw[bI J];exact o a1 w1 m1 F G R b3 U Z
 |loop x ihx=>
  intro c f rd vars h e d A O b m w a rr u j z B Q o;simp only[jL,uV,qM] at f;obtain⟨Y,t,f⟩:=f;cases f;rw[Nc] at b;exact (aaC (rr:=rr) (λvars h e d A O b m w a u j z B Q o=>ihx Y t rd vars h e d A O b m w a rr u j z B Q o) N _ _ _ _ _ _ b m w a u j z B Q o).wp
 |exit n=>
  intro c f rd vars h e d A O b m w a rr u j z B Q o;simp only[jL] at f;cases f;rw[Og] at b;cases b;exact wpIn_exit (o.still z u)
 |ret=>
  intro c f rd vars h e d A O b m w a rr u j z B Q o;simp only[jL] at f;cases f;rw[Vg] at b;cases b;exact wpIn_ret (o.still z u)
 |scope x ihx=>
  intro c f rd vars h e d A O b m w a rr u j z B Q o;simp only[jL,uV,qM] at f;obtain⟨Y,t,f⟩:=f;cases f;rw[Ja] at b;refine CY (ihx Y t _ _ _ _ _ _ _ b m w a rr u j z B _ ?_);intro K W m' ds G R b3 U Z;refine⟨λl h=>?_,o K W m' ds G R b3 U Z⟩
  cases e with
  |norm=>cases h
  |ret=>cases h
  |exit n=>cases h
 |rangeFunc g ps x y ihx ihy=>
  intro c f rd vars h e d A O b m w a rr u j z B Q o;simp only[jL,uV,qM] at f;obtain⟨cg,d8,pars,b9,Y,t,cy,a6,f⟩:=f;cases f;rw[Jd] at b;simp only[zS] at b;split at b
  ·rename_i gf fs cs d2
   generalize d5:LR rd h=d3 at b
   cases d3 with
   |false=>simp at b
   |true=>
    simp only[if_true] at b
    cases hcall:cl gf (fs++ .yl h.next::cs) (h.new (.loop {vars,pars,assign:=Y,body:=cy,st:= .ready,pend:=none})) with
    |none=>simp [hcall] at b
    |some q=>
     obtain⟨v,hA⟩:=q;simp only[hcall] at b;split at b
     ·rename_i r d7
      by_cases hb:r.st= .busy
      ·simp [hb] at b
      ·simp only[hb,if_false] at b
       cases b;exact RX a8 u j z B d8 d2 b9 t a6 d5 hcall d7 hb o
     ·cases b
  ·cases b
 |_=>intro c f;simp [jL] at f
theorem sound (j:P.follows .mixedOrders=true)(d:POk P p): ∀f,Dd P (jX p N f).1/\Ao P (jX p N f).2/\XI P p (jX p N f).1
 |0=>by
  rw[AA];refine⟨λg a h v i b=>?_,λid a h v i b=>?_,λg o a h v i b=>?_⟩
  ·cases b
  ·cases b
  ·cases b
 |f+1=>by
  obtain⟨n,k,l⟩:=sound j d f;have c:=agF (N:=N) j n k;rw[qU];exact⟨Xy d c l,Uh c,BJ d c⟩
theorem aiV (a:P.follows .mixedOrders=true)(c:POk P p){f g:Nat}{args:List V}{h h':H}{v:V}(d:agH p N f g args h=some (v,h')){xs:Array Value}(i:gZ m args xs.toList)(b:HR P m h w)(j:Qk m h.next):
  Calls P g xs w (Dm P m h w v h'):=
 callsIn_wide.1 (((sound a c f).1 g args h v h' d).2 m w xs i b j)
end
end
end Go.Ay
#print axioms Go.Ay.aiV
