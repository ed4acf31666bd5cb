/- The statements, and all together: a call that the abstract machine answers, the machine answers. -/
import Derived.Test.YtapfcpkecmmagaaGreatAy20
namespace Go.Ay
open Go
section
variable {m:M} {w:World}
section
variable {P:Program} {p:Nat->Option Fn} {cl yl:dP} {N:Nat}
theorem Bg {a hi:Nat}:kS m w a hi [] []:=rfl
theorem Qa.still {h:H}{nt:Nat}{pv:List Nat}{a:Act}{e:E}{b:List V}{Fz:Bool}{Q:Exit->Act->World->Prop}(f:Qa P m h w nt pv a e b [] h Fz Q)
  (d:HR P m h w) (c:iG m nt pv b a.tmps):Q (Lu e) a w:=f a w m [] (fU.Dz d) c (by simp) Bg (λ_=>rfl)
theorem Ze {nt:Nat}{pv:List Nat}{x:Code}{g:C}{rd rr:Option Nat}
  (hx: ∀vars h e vars' dfs h',run cl yl N rd g vars h=some (e,vars',dfs,h')-> ∀m w a,iG m nt pv vars a.tmps->CX m rd rr->HR P m h w->Cq m h.next-> ∀Q,Qa P m h w nt pv a e vars' dfs h' g.Fz Q->x.wpIn (Wf rr) 0 P Q a w):
  ∀n vars h e vars' dfs h',rD (run cl yl N rd g) n vars h=some (e,vars',dfs,h')-> ∀m w a,iG m nt pv vars a.tmps->CX m rd rr->HR P m h w->Cq m h.next-> ∀Q,Qa P m h w nt pv a e vars' dfs h' g.Fz Q->
   Ap (Wf rr) 0 P x Q a w:=by
 intro n
 induction n with
 |zero=>intro vars h e vars' dfs h' b;rw[zL] at b;cases b
 |succ n ih=>
  intro vars h e vars' dfs h' b m w a O j K A Q t;rw[mQ] at b;refine Ap.step ?_
  cases hra:run cl yl N rd g vars h with
  |none=>simp [hra] at b
  |some q=>
   obtain⟨R,f,F,W⟩:=q;simp only[hra] at b;refine hx _ _ _ _ _ _ hra m w a O j K A _ ?_;intro z k u c d r o s y
   cases R with
   |norm=>
    simp only at b
    cases hrb:rD (run cl yl N rd g) n f W with
    |none=>simp [hrb] at b
    |some q=>
     obtain⟨e2,v,G,h2⟩:=q;simp only[hrb] at b;cases b;refine ih _ _ _ _ _ _ hrb u k z r (j.mono d.ext) d.rel (d.low A) _ ?_;intro L Z Y i l U J c4 c5;refine t L Z Y (i++c) (d.trans l) U (by rw[J,o,oH]) (kS.append d.kept.size i c _ _ _ l.kept.size c4 (kS.Kq d.rel l c _ _ s)) (λB=>?_);rw[c5 B,y B];rfl
   |ret=>simp only at b;cases b;exact t z k u c d r o s y
   |exit n=>simp only at b;cases b;exact t z k u c d r o s y
theorem EU (hm:P.follows .mixedOrders=true)(a8:tN P cl)(b9:rX P yl):Zu P cl yl N:=by
 intro nt pv c6
 induction c6 with
 |skip=>
  intro c f rd vars h e d A Z b m w a rr t j z B Q o;simp only[iE] at f;cases f;rw[uP] at b;cases b;exact wpIn_skip (o.still z t)
 |label l=>
  intro c f rd vars h e d A Z b m w a rr t j z B Q o;simp only[iE] at f;cases f;rw[uP] at b;cases b;exact wpIn_label (o.still z t)
 |region id ops draw=>
  intro c f rd vars h e d A Z b m w a rr t j z B Q o;simp only[iE] at f;split at f
  ·rename_i hd
   subst hd;obtain⟨e6,xs,rfl,c0,hP⟩:=Gc f;rw[Gf] at b;split at b
   ·rename_i vs h2 a0
    cases b;exact DS hm a8 b9 c0 hP a0 t z B (λK w' m' e1 e2 e3=>o K w' m' [] e3 e1 (by simpa using e2) Bg (λ_=>rfl))
   ·cases b
  ·rename_i hd
   have hd:draw=false:=by simpa using hd
   subst hd;split at f
   ·--a deferred call at the end
    rename_i d5 ty ps af a7;obtain⟨callee,L,d1⟩:=d5
    cases callee with
    |value x=>
     simp only[oF,lJ] at f;obtain⟨b7,a5,R,u,args,b8,f⟩:=f;cases f;rw[Kf] at b;simp only[zB] at b
     cases rd with
     |some i=>simp at b
     |none=>
      cases rr with
      |some i=>exact j.elim
      |none=>
       simp only[Option.isSome_none,Bool.false_eq_true,if_false] at b;split at b
       ·rename_i a6 h2 a0
        split at b
        ·rename_i g fs cs hx
         cases b
         have d3:0<ops.size:=by
          cases h9:ops.size with
          |zero=>
           have:ops= #[]:=Array.eq_empty_of_size_eq_zero h9;subst this;simp at a7
          |succ k=>omega
         refine wpIn_region ?_;rw[Hl d3];refine Xy a8 b9 _ _ [] b7 vars [] h d Z a5 a0 m w a ⟨t,qK.nil ..⟩ z B (λK w' m' e1 e2 e3=>?_);have b0:ops[ops.size- 1]? =ops.back? :=by rw[Array.back?]
         simp only[wpOpsIn,b0,a7,Region.wanted,if_true];have d0:=aJ (s:=(⟨e1,qK.nil ..⟩:St m' nt pv [] d [] K)) u;have e4:=fP (s:=(⟨e1,qK.nil ..⟩:St m' nt pv [] d [] K)) b8;rw[hx] at d0;obtain⟨us,ys,d2,k1,k2⟩:=d0;refine⟨λ_ _=>trivial,?_⟩
         have c8:(Oper.semAt none K.eval ({op:= .defer {callee:= .value x,args:=L,argTypes:=d1},guard:=none,dst:=none,type:=ty,pos:=ps,after:=af}:Oper)).run P w'=
           .ok (.defer {target:= .fn (.func g) ys,args:=us++L.map K.eval}) w':=by
          rw[Oper.semAt_none]
          simp [execOp,resolve,Deferred.ofValue,d2]
         show Oper.uponIn _ _ _ _ _ _ _ (Sem.run P (Oper.semAt none K.eval _) w');rw[c8,Oper.uponIn_defer];refine o _ w' m' [{target:= .fn (.func g) ys,args:=us++L.map K.eval}] e3 e1 ?_ (.inr ⟨g,_, [],ys,rfl,rfl,?_,rfl⟩) (λh=>by simp [C.Fz] at h)
         ·simp [Act.put,e2]
         ·have:=(k1.append e4).append k2
          simpa using this
        ·cases b
       ·cases b
    |_=>simp at f
   ·simp only[jB] at f
    obtain⟨b7,a5,rfl⟩:=f;rw[Gk] at b;split at b
    ·rename_i a6 h2 a0
     cases b;refine wpIn_region ?_;have:=Xy (r:=rr) (Q:=Q) a8 b9 [] _ [] b7 vars [] h d Z a5 a0 m w a ⟨t,qK.nil ..⟩ z B (λK w' m' e1 e2 e3=>o K w' m' [] e3 e1 (by simpa using e2) Bg (λ_=>rfl));simpa using this
    ·cases b
 |seq x y ihx ihy=>
  intro c f rd vars h e d A Z b m w a rr t j z B Q o;simp only[iE,oF,lJ] at f;obtain⟨R,u,cy,a3,f⟩:=f;cases f;rw[run_seq] at b;refine wpIn_seq ?_
  cases hra:run cl yl N rd R vars h with
  |none=>simp [hra] at b
  |some q=>
   obtain⟨e1,a4,c9,h1⟩:=q;simp only[hra] at b;refine ihx R u _ _ _ _ _ _ _ hra m w a rr t j z B _ ?_;intro a1 w1 m1 F J W O Y U
   cases e1 with
   |norm=>
    simp only at b
    cases hrb:run cl yl N rd cy a4 h1 with
    |none=>simp [hrb] at b
    |some q=>
     obtain⟨e2,a6,e5,h2⟩:=q;simp only[hrb] at b;cases b;refine ihy cy a3 _ _ _ _ _ _ _ hrb m1 w1 a1 rr W (j.mono J.ext) J.rel (J.low B) _ ?_;intro a2 w2 m2 c7 c1 c2 c3 c4 c5;refine o a2 w2 m2 (c7++F) (J.trans c1) c2 (by rw[c3,O,oH]) (kS.append J.kept.size c7 F _ _ _ c1.kept.size c4 (kS.Kq J.rel c1 F _ _ Y)) (λG=>?_);simp only[C.Fz,pQ] at G;rw[c5 G.2,U G.1];rfl
   |ret=>
    simp only at b;cases b;exact o a1 w1 m1 F J W O Y (λG=>U (by simp only[C.Fz,pQ] at G;exact G.1))
   |exit n=>
    simp only at b;cases b;exact o a1 w1 m1 F J W O Y (λG=>U (by simp only[C.Fz,pQ] at G;exact G.1))
 |cond c x y ihx ihy=>
  intro c' f rd vars h e d A Z b m w a rr t j z B Q o;simp only[iE,oF,lJ] at f;obtain⟨cc,d9,R,u,cy,a3,f⟩:=f;cases f;rw[run_ite] at b;have a9:=aJ (s:=(⟨t,qK.nil ..⟩:St m nt pv [] vars [] a)) d9;split at b
  ·rename_i hb
   rw[hb] at a9;refine wpIn_cond_true a9 (ihx R u _ _ _ _ _ _ _ b m w a rr t j z B _ (λK w' m' ds J W O Y U=>o K w' m' ds J W O Y (λG=>U ?_)));simp only[C.Fz,pQ] at G;exact G.1
  ·rename_i hb
   rw[hb] at a9;refine wpIn_cond_false a9 (ihy cy a3 _ _ _ _ _ _ _ b m w a rr t j z B _ (λK w' m' ds J W O Y U=>o K w' m' ds J W O Y (λG=>U ?_)));simp only[C.Fz,pQ] at G;exact G.2
  ·cases b
 |block id x ihx=>
  intro c f rd vars h e d A Z b m w a rr t j z B Q o;simp only[iE,oF,lJ] at f;obtain⟨R,u,f⟩:=f;cases f;rw[xH] at b;refine wpIn_block ?_
  cases hra:run cl yl N rd R vars h with
  |none=>simp [hra] at b
  |some q=>
   obtain⟨e1,a4,c9,h1⟩:=q;simp only[hra] at b;refine ihx R u _ _ _ _ _ _ _ hra m w a rr t j z B _ ?_;intro a1 w1 m1 F J W O Y U
   cases e1 with
   |norm=>simp only at b;cases b;exact o a1 w1 m1 F J W O Y U
   |ret=>simp only at b;cases b;exact o a1 w1 m1 F J W O Y U
   |exit n=>
    simp only at b;simp only[Lu,Exit.inBlock];split at b
    ·rename_i G
     cases b;rw[aV G];exact o a1 w1 m1 F J W O Y U
    ·rename_i G
     cases b;rw[aZ G];exact o a1 w1 m1 F J W O Y U
 |loop x ihx=>
  intro c f rd vars h e d A Z b m w a rr t j z B Q o;simp only[iE,oF,lJ] at f;obtain⟨R,u,f⟩:=f;cases f;rw[Ai] at b;exact (Ze (rr:=rr) (λvars h e d A Z b m w a t j z B Q o=>ihx R u rd vars h e d A Z b m w a rr t j z B Q o) N _ _ _ _ _ _ b m w a t j z B Q o).wp
 |exit n=>
  intro c f rd vars h e d A Z b m w a rr t j z B Q o;simp only[iE] at f;cases f;rw[Ak] at b;cases b;exact wpIn_exit (o.still z t)
 |ret=>
  intro c f rd vars h e d A Z b m w a rr t j z B Q o;simp only[iE] at f;cases f;rw[Gw] at b;cases b;exact wpIn_ret (o.still z t)
 |scope x ihx=>
  intro c f rd vars h e d A Z b m w a rr t j z B Q o;simp only[iE,oF,lJ] at f;obtain⟨R,u,f⟩:=f;cases f;rw[xG] at b;refine Mq (ihx R u _ _ _ _ _ _ _ b m w a rr t j z B _ ?_);intro K w' m' ds J W O Y U;refine⟨λl h=>?_,o K w' m' ds J W O Y U⟩
  cases e with
  |norm=>cases h
  |ret=>cases h
  |exit n=>cases h
 |rangeFunc g ps x y ihx ihy=>
  intro c f rd vars h e d A Z b m w a rr t j z B Q o;simp only[iE,oF,lJ] at f;obtain⟨cg,d6,pars,b6,R,u,cy,a3,f⟩:=f;cases f;rw[wZ] at b;simp only[rN] at b;split at b
  ·rename_i gf fs cs d4
   generalize e0:Qm rd h=d8 at b
   cases d8 with
   |false=>simp at b
   |true=>
    simp only[if_true] at b
    cases hcall:cl gf (fs++ .yl h.next::cs) (h.new (.loop {vars,pars,assign:=R,body:=cy,st:= .ready,pend:=none})) with
    |none=>simp [hcall] at b
    |some q=>
     obtain⟨v,hA⟩:=q;simp only[hcall] at b;split at b
     ·rename_i r d7
      by_cases hb:r.st= .busy
      ·simp [hb] at b
      ·simp only[hb,if_false] at b
       cases b;exact Xr a8 t j z B d6 d4 b6 u a3 e0 hcall d7 hb o
     ·cases b
  ·cases b
 |_=>intro c f;simp [iE] at f
theorem sound (i:P.follows .mixedOrders=true)(c:Wk P p): ∀f,tN P (iL p N f).1/\rX P (iL p N f).2/\AM P p (iL p N f).1
 |0=>by
  rw[Jz];refine⟨λg a h v e b=>?_,λid a h v e b=>?_,λg n a h v e b=>?_⟩
  ·cases b
  ·cases b
  ·cases b
 |f+1=>by
  obtain⟨j,k,l⟩:=sound i c f;have d:=EU (N:=N) i j k;rw[lY];exact⟨Kh c d l,Gh d,Lj c d⟩
theorem yL (a:P.follows .mixedOrders=true)(d:Wk P p){f g:Nat}{args:List V}{h h':H}{v:V}(i:EN p N f g args h=some (v,h')){xs:Array Value}(e:fL m args xs.toList)(c:HR P m h w)(b:Cq m h.next):
  Calls P g xs w (tC P m h w v h'):=
 callsIn_wide.1 (((sound a d f).1 g args h v h' i).2 m w xs e c b)
end
end
end Go.Ay
#print axioms Go.Ay.yL
