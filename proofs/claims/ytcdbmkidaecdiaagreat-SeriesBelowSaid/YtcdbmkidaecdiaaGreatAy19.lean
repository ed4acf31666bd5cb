/- What the abstract machine runs, the machine runs. -/
import Derived.Test.YtcdbmkidaecdiaaGreatAy18
namespace Go.Ay
open Go
def BV:E->Exit
 | .norm=> .normal
 | .ret=> .ret
 | .exit n=> .exit n
def RdR (m:M)(rd rr:Option Nat):Prop:=
 match rd,rr with
 |none,none=>True
 |some id,some l=> ∃q,m id=some q/\q.1=l
 |_,_=>False
theorem RdR.mono {m a:M}(e:Ext m a){rd rr:Option Nat}(h:RdR m rd rr):RdR a rd rr:=by
 cases rd<;>cases rr<;>try exact h
 obtain⟨q,b,c⟩:=h;exact⟨q,e _ _ b,c⟩
def OI (P:Program)(m:M)(h:H)(w:World)(nt:Nat)(pv:List Nat)(a:Act)(e:E)(vars':List V)(h':H)(Q:Exit->Act->World->Prop):Prop:=
 ∀a' w' m' ds,jR P m h w m' h' w'->jW m' nt pv vars' a'.tmps->a'.defers=ds++a.defers->vN w' w.heap.size w'.heap.size ds->Q (BV e) a' w'
def agZ (P:Program)(cl yl:lQ)(N:Nat):Prop:= ∀nt pv code c,lC P nt pv code=some c-> ∀rd vars h e vars' h',run cl yl N rd c vars h=some (e,vars',h')->
 ∀m w a rr,jW m nt pv vars a.tmps->RdR m rd rr->HR P m h w->Vz m h.next-> ∀Q,OI P m h w nt pv a e vars' h' Q->code.wpIn (Wf rr) 0 P Q a w
section
variable {P:Program} {p:Nat->Option Fn} {cl yl:lQ} {N:Nat}
theorem HM {s k:Nat}: ∀{l:List Nat},idx s l=some k->l[k]? =some s
 | [],h=>by simp [idx] at h
 |a::l,h=>by
  simp only[idx] at h
  by_cases b:a=s
  ·simp [b] at h;subst h;simp [b]
  ·simp [b] at h
   obtain⟨d,c,rfl⟩:=h;simpa using HM c
theorem iR.getD {m:M}{vs:List V}{xs:List Value}(h:iR m vs xs){i:Nat}(hi:i<vs.length):VR m (vs.getD i .undef) (xs.getD i undef):=by
 obtain⟨x,a,b⟩:=h.get (dD hi);simp only[List.getD,a,dD hi,Option.getD_some];exact b
theorem leaves {b:Func}{tmps:Array Value}{c:M}{f h:H}{a:World}{R:Ending->World->Prop}: ∀(ds:List Deferred) (hi:Nat) (m:M) (w:World),vN w a.heap.size hi ds->jR P c f a m h w->
  (∀w',jR P c f a m h w'-> ∃v,(results b tmps).run P w'= .ok v w'/\R (.returned v) w')->LeavesInM (Wf none) 0 P b tmps R ds .returning w
 | [],hi,m,w,_,ha,hR=>hR w ha
 |d::ds,hi,m,w,⟨r,h1,h2,h3,h4,h5⟩,ha,hR=>by
  refine⟨by simp,.inl ⟨r,_,h1,run_takeDeferred h4,leaves ds r m _ ?_ (ha.dead (o:= .deferred none) (ha.rel.not_def h4) h2) hR⟩⟩
  have tU: ∀(ds:List Deferred) (hi:Nat),hi<=r->vN w a.heap.size hi ds->vN (w.putObj r (.deferred none)) a.heap.size hi ds:=by
   intro ds
   induction ds with
   |nil=>exact λ_ _ _=>trivial
   |cons d ds ih=>exact λhi j ⟨i,k1,k2,k3,k4,k5⟩=>⟨i,k1,k2,k3,by rw[World.putObj_heap_other om];exact k4,ih i om k5⟩
  exact tU ds r (fN _) h5
theorem Ym (hp:POk P p)(hS:agZ P cl yl N):Hz P (GO p cl yl N):=by
 intro g d h v h' a;simp only[GO] at a
 cases hg:p g with
 |none=>simp [hg] at a
 |some fn=>
  simp only[hg] at a;obtain⟨pv,F,hF,b,o⟩:=hp g fn hg;unfold CQ at b;split at b
  ·cases b
  ·rename_i c hb
   split at b
   ·rename_i body results f G
    split at b
    ·rename_i r
     cases b;simp only[sE,decide_eq_true_eq] at r;split at a
     ·rename_i l
      simp only at l;refine⟨o,λm w xs Y hr hl=>?_⟩
      have L:jW m F.ntmps pv (Hv {nargs:=F.params.size+F.nfree,init:=pv.map λt=>if t<F.params.size+F.nfree then some t else none,results,body} d) (xs++Array.replicate (F.ntmps-xs.size) undef):=by
       have O:=iR.length Y;simp only[Array.length_toList] at O;refine⟨by simp;omega,by simp [Hv],λs z=>by simpa using zP.1 r.1 s z,λs k hk=>?_⟩;have Q:=HM hk;simp only[Hv,List.map_map,List.getD,Qy,Q,Option.map_some,Option.getD_some,Function.comp]
       by_cases z:s<F.params.size+F.nfree
       ·simp only[z,if_true]
        have:=iR.getD Y (i:=s) om;simp only[OV];rw[Array.getElem?_append_left om];simpa [List.getD] using this
       ·simp only[z,if_false]
        simp only[OV];rw[Array.getElem?_append_right om,Array.getElem?_replicate];split<;>exact VR.undef m
      cases hrun:run cl yl N none body (Hv {nargs:=F.params.size+F.nfree,init:=pv.map λt=>if t<F.params.size+F.nfree then some t else none,results,body} d) h with
      |none=>simp [hrun] at a
      |some q=>
       obtain⟨e,U,Q⟩:=q;simp only[hrun] at a
       cases e with
       |exit n=>cases a
       |_=>
        simp only[oU] at a;obtain⟨vs,j,a⟩:=a;cases a;refine callsIn_of_wp_marks hF hb trivial (hS _ _ _ _ f _ _ _ _ _ _ hrun m w _ none L trivial hr hl _ λJ R Z W u hv A K=>?_);have B:J.defers=W:=by simpa using A
        show LeavesInM (Wf none) 0 P F J.tmps _ J.defers .returning R;rw[B];exact leaves W _ Z R K u λw2 x=>let ⟨y,k1,k2⟩:=Re x.rel hv G j;⟨y,k1,y,Z,rfl,k2,x⟩
     ·cases a
    ·cases b
   ·cases b
end
end Go.Ay
