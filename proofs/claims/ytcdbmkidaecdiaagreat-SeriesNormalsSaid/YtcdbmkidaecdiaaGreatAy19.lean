/- What the abstract machine runs, the machine runs. -/
import Derived.Test.YtcdbmkidaecdiaaGreatAy18
namespace Go.Ay
open Go
def BV:E->Exit
 | .norm=> .normal
 | .ret=> .ret
 | .exit n=> .exit n
def RdR (m:M)(rd rr:Option Nat):Prop:=
 match rd,rr with
 |none,none=>True
 |some id,some l=> ∃q,m id=some q/\q.1=l
 |_,_=>False
theorem RdR.mono {m a:M}(e:Ext m a){rd rr:Option Nat}(h:RdR m rd rr):RdR a rd rr:=by
 cases rd<;>cases rr<;>try exact h
 obtain⟨q,b,c⟩:=h;exact⟨q,e _ _ b,c⟩
def OI (P:Program)(m:M)(h:H)(w:World)(nt:Nat)(pv:List Nat)(a:Act)(e:E)(vars':List V)(h':H)(Q:Exit->Act->World->Prop):Prop:=
 ∀a' w' m' ds,jR P m h w m' h' w'->jW m' nt pv vars' a'.tmps->a'.defers=ds++a.defers->vN w' w.heap.size w'.heap.size ds->Q (BV e) a' w'
def agZ (P:Program)(cl yl:lQ)(N:Nat):Prop:= ∀nt pv code c,lC P nt pv code=some c-> ∀rd vars h e vars' h',run cl yl N rd c vars h=some (e,vars',h')->
 ∀m w a rr,jW m nt pv vars a.tmps->RdR m rd rr->HR P m h w->Vz m h.next-> ∀Q,OI P m h w nt pv a e vars' h' Q->code.wpIn (Wf rr) 0 P Q a w
section
variable {P:Program} {p:Nat->Option Fn} {cl yl:lQ} {N:Nat}
theorem HM {s k:Nat}: ∀{l:List Nat},idx s l=some k->l[k]? =some s
 | [],h=>by simp [idx] at h
 |a::l,h=>by
  simp only[idx] at h
  by_cases b:a=s
  ·simp [b] at h;subst h;simp [b]
  ·simp [b] at h
   obtain⟨d,c,rfl⟩:=h;simpa using HM c
theorem iR.getD {m:M}{vs:List V}{xs:List Value}(h:iR m vs xs){i:Nat}(hi:i<vs.length):VR m (vs.getD i .undef) (xs.getD i undef):=by
 obtain⟨x,a,b⟩:=h.get (dD hi);simp only[List.getD,a,dD hi,Option.getD_some];exact b
theorem leaves {c:Func}{tmps:Array Value}{b:M}{e h:H}{a:World}{R:Ending->World->Prop}: ∀(ds:List Deferred) (hi:Nat) (m:M) (w:World),vN w a.heap.size hi ds->jR P b e a m h w->
  (∀w',jR P b e a m h w'-> ∃v,(results c tmps).run P w'= .ok v w'/\R (.returned v) w')->LeavesInM (Wf none) 0 P c tmps R ds .returning w
 | [],hi,m,w,_,ha,hR=>hR w ha
 |d::ds,hi,m,w,⟨r,h1,h2,h3,h4,h5⟩,ha,hR=>by
  refine⟨by simp,.inl ⟨r,_,h1,run_takeDeferred h4,leaves ds r m _ ?_ (ha.dead (o:= .deferred none) (ha.rel.not_def h4) h2) hR⟩⟩
  have tU: ∀(ds:List Deferred) (hi:Nat),hi<=r->vN w a.heap.size hi ds->vN (w.putObj r (.deferred none)) a.heap.size hi ds:=by
   intro ds
   induction ds with
   |nil=>exact λ_ _ _=>trivial
   |cons d ds ih=>exact λhi g ⟨f,k1,k2,k3,k4,k5⟩=>⟨f,k1,k2,k3,by rw[World.putObj_heap_other om];exact k4,ih f om k5⟩
  exact tU ds r (dT _) h5
theorem Ym (hp:POk P p)(hS:agZ P cl yl N):Hz P (GO p cl yl N):=by
 intro g d h v h' a;simp only[GO] at a
 cases hg:p g with
 |none=>simp [hg] at a
 |some fn=>
  simp only[hg] at a;rcases hp g fn hg with ⟨j,ha⟩|⟨pv,F,hF,b,l⟩
  ·rw[j,bJ rfl] at a;exact ha _ _ _ _ a
  unfold CQ at b;split at b
  ·cases b
  ·rename_i c hb
   split at b
   ·rename_i body results f B
    split at b
    ·rename_i z
     cases b;simp only[sE,decide_eq_true_eq] at z;rw[bU (by simp)] at a;split at a
     ·rename_i u
      simp only at u;refine⟨l,λm w xs R hr hl=>?_⟩
      have A:jW m F.ntmps pv (Hv {nargs:=F.params.size+F.nfree,init:=pv.map λt=>if t<F.params.size+F.nfree then some t else none,results,body} d) (xs++Array.replicate (F.ntmps-xs.size) undef):=by
       have J:=iR.length R;simp only[Array.length_toList] at J;refine⟨by simp;omega,by simp [Hv],λs j=>by simpa using zP.1 z.1 s j,λs k hk=>?_⟩;have Q:=HM hk;simp only[Hv,List.map_map,List.getD,Qy,Q,Option.map_some,Option.getD_some,Function.comp]
       by_cases j:s<F.params.size+F.nfree
       ·simp only[j,if_true]
        have:=iR.getD R (i:=s) om;simp only[OV];rw[Array.getElem?_append_left om];simpa [List.getD] using this
       ·simp only[j,if_false]
        simp only[OV];rw[Array.getElem?_append_right om,Array.getElem?_replicate];split<;>exact VR.undef m
      cases hrun:run cl yl N none body (Hv {nargs:=F.params.size+F.nfree,init:=pv.map λt=>if t<F.params.size+F.nfree then some t else none,results,body} d) h with
      |none=>simp [hrun] at a
      |some q=>
       obtain⟨e,Y,Q⟩:=q;simp only[hrun] at a
       cases e with
       |exit n=>cases a
       |_=>
        simp only[oU] at a;obtain⟨vs,x,a⟩:=a;cases a;refine callsIn_of_wp_marks hF hb trivial (hS _ _ _ _ f _ _ _ _ _ _ hrun m w _ none A trivial hr hl _ λG U Z W o hv K L=>?_);have O:G.defers=W:=by simpa using K
        show LeavesInM (Wf none) 0 P F G.tmps _ G.defers .returning U;rw[O];exact leaves W _ Z U L o λw2 r=>let ⟨y,k1,k2⟩:=Re r.rel hv B x;⟨y,k1,y,Z,rfl,k2,r⟩
     ·cases a
    ·cases b
   ·cases b
end
end Go.Ay
