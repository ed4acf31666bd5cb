/- What the abstract machine runs, the machine runs. -/
import Derived.Test.YtapfcpkecmmagaaGreatAy18
namespace Go.Ay
open Go
def Nl:E->Exit
 | .norm=> .normal
 | .ret=> .ret
 | .exit n=> .exit n
def EL (m:M)(rd rr:Option Nat):Prop:=
 match rd,rr with
 |none,none=>True
 |some id,some l=> ∃q,m id=some q/\q.1=l
 |_,_=>False
theorem EL.mono {m a:M}(e:Ext m a){rd rr:Option Nat}(h:EL m rd rr):EL a rd rr:=by
 cases rd<;>cases rr<;>try exact h
 obtain⟨q,c,b⟩:=h;exact⟨q,e _ _ c,b⟩
def Rx (P:Program)(m:M)(h:H)(w:World)(nt:Nat)(pv:List Nat)(a:Act)(e:E)(vars':List V)(dfs:Tt)(h':H)(Gz:Bool)(Q:Exit->Act->World->Prop):Prop:=
 ∀a' w' m' ds,fY P m h w m' h' w'->iG m' nt pv vars' a'.tmps->a'.defers=ds++a.defers->kZ m' w' w.heap.size w'.heap.size ds dfs->(Gz=true->ds= [])->Q (Nl e) a' w'
def Zu (P:Program)(cl yl:dP)(N:Nat):Prop:= ∀nt pv code c,iF P nt pv code=some c-> ∀rd vars h e vars' dfs h',run cl yl N rd c vars h=some (e,vars',dfs,h')->
 ∀m w a rr,iG m nt pv vars a.tmps->EL m rd rr->HR P m h w->Cx m h.next-> ∀Q,Rx P m h w nt pv a e vars' dfs h' c.Gz Q->code.wpIn (Wf rr) 0 P Q a w
def CM (P:Program)(p:Nat->Option Fn)(cl:dP):Prop:= ∀g fn args h v h',cl g args h=some (v,h')->p g=some fn->fn.body.Gz=true-> ∀m w (xs:Array Value) u,fP m args xs.toList->HR P m h w->Cx m h.next->
 enters P g=true/\CallsDIn (Wf none) 0 P g xs u w λe u' w'=>u'=u/\tF P m h w v h' e w'
section
variable {P:Program} {p:Nat->Option Fn} {cl yl:dP} {N:Nat}
theorem Oh {s k:Nat}: ∀{l:List Nat},idx s l=some k->l[k]? =some s
 | [],h=>by simp [idx] at h
 |a::l,h=>by
  simp only[idx] at h
  by_cases b:a=s
  ·simp [b] at h;subst h;simp [b]
  ·simp [b] at h
   obtain⟨d,c,rfl⟩:=h;simpa using Oh c
theorem fP.getD {m:M}{vs:List V}{xs:List Value}(h:fP m vs xs){i:Nat}(hi:i<vs.length):VR m (vs.getD i .undef) (xs.getD i undef):=by
 obtain⟨x,a,b⟩:=h.get (eV hi);simp only[List.getD,a,eV hi,Option.getD_some];exact b
theorem uN (O:Xr P p){g:Nat}{args:List V}{h h':H}{v:V}(a:rN p cl yl N g args h=some (v,h')):
  ∃fn F pv c e vars dfs h1 vs,enters P g=true/\p g=some fn/\P.funcs[g]? =some F/\F.body=some c/\iF P F.ntmps pv c=some fn.body/\run cl yl N none fn.body (tM fn args) h=some (e,vars,dfs,h1)/\(e= .norm∨e= .ret)/\
   tP p cl dfs h1=some h'/\cV (fn.results.map (sY vars h'))=some vs/\v=xQ vs/\cV (F.results.toList.map (Dq P pv))=some fn.results/\
   (∀m (xs:Array Value),fP m args xs.toList->iG m F.ntmps pv (tM fn args) (xs++Array.replicate (F.ntmps-xs.size) undef)):=by
 simp only[rN] at a
 cases hg:p g with
 |none=>simp [hg] at a
 |some fn=>
  simp only[hg] at a;obtain⟨pv,F,B,f,d⟩:=O g fn hg;unfold Hq at f;split at f
  ·cases f
  ·rename_i c J
   split at f
   ·rename_i body results b j
    split at f
    ·rename_i l
     cases f;simp only[pF,decide_eq_true_eq] at l;split at a
     ·rename_i o
      simp only at o
      have r: ∀m (xs:Array Value),fP m args xs.toList->iG m F.ntmps pv (tM {nargs:=F.params.size+F.nfree,init:=pv.map λt=>if t<F.params.size+F.nfree then some t else none,results,body} args) (xs++Array.replicate (F.ntmps-xs.size) undef):=by
       intro m xs G;have x:=fP.length G;simp only[Array.length_toList] at x;refine⟨by simp;omega,by simp [tM],λs w=>by simpa using zE.1 l.1 s w,λs k L=>?_⟩;have h1:=Oh L;simp only[tM,List.map_map,List.getD,Lc,h1,Option.map_some,Option.getD_some,Function.comp]
       by_cases w:s<F.params.size+F.nfree
       ·simp only[w,if_true]
        have:=fP.getD G (i:=s) om;simp only[Tu];rw[Array.getElem?_append_left om];simpa [List.getD] using this
       ·simp only[w,if_false]
        simp only[Tu];rw[Array.getElem?_append_right om,Array.getElem?_replicate];split<;>exact VR.undef m
      cases hr:run cl yl N none body (tM {nargs:=F.params.size+F.nfree,init:=pv.map λt=>if t<F.params.size+F.nfree then some t else none,results,body} args) h with
      |none=>simp [hr] at a
      |some q=>
       obtain⟨e,vars,dfs,h1⟩:=q;simp only[hr] at a
       have u:(match tP p cl dfs h1 with|some h=>(cV (results.map (sY vars h))).map λvs=>(xQ vs,h)|none=>none)=some (v,h')-> ∃vs,tP p cl dfs h1=some h'/\cV (results.map (sY vars h'))=some vs/\v=xQ vs:=by
        intro a;split at a
        ·rename_i U K
         simp only[jA] at a;obtain⟨vs,Q,R⟩:=a;cases R;exact⟨vs,K,Q,rfl⟩
        ·cases a
       cases e with
       |norm=>
        obtain⟨vs,z,A,y⟩:=u a;exact⟨_,F,pv,c,.norm,vars,dfs,h1,vs,d,rfl,B,J,b,hr,.inl rfl,z,A,y,j,r⟩
       |ret=>
        obtain⟨vs,z,A,y⟩:=u a;exact⟨_,F,pv,c,.ret,vars,dfs,h1,vs,d,rfl,B,J,b,hr,.inr rfl,z,A,y,j,r⟩
       |exit n=>cases a
     ·cases a
    ·cases f
   ·cases f
theorem Nf (J:Xr P p)(Q:Zu P cl yl N):CM P p (rN p cl yl N):=by
 intro g c c h v c he G Z m w xs u R U W;obtain⟨c,F,pv,c,e,c,s,c,c,j,k,K,Y,O,i,o,d,l,rfl,r,f⟩:=uN J he;rw[G] at k;cases k;refine⟨j,callsDIn_of_wp K Y trivial (Q _ _ _ _ O _ _ _ _ _ _ _ i m w _ none (f m xs R) trivial U W _ ?_)⟩;intro B c x c a L q t n;obtain rfl:=n Z;have b:s= []:=t;subst b;rw[pH] at d;cases d;obtain⟨y,z,A⟩:=tJ a.rel L r l;have b:B.defers= []:=by simpa using q
 rcases o with rfl|rfl
 ·exact⟨b,y,z,y,x,rfl,A,a⟩
 ·exact⟨b,y,z,y,x,rfl,A,a⟩
theorem leaves (z:CM P p cl){Z:Func}{tmps:Array Value}{G:M}{B:H}{k:World}{R:Ending->World->Prop}: ∀(ds:List Deferred) (dfs:Tt) (hi:Nat) (m:M) (h:H) (w:World) (h':H),
  tP p cl dfs h=some h'->kZ m w k.heap.size hi ds dfs->fY P G B k m h w->Cx G B.next->
  (∀m' w',Ext m m'->fY P G B k m' h' w'-> ∃v,(results Z tmps).run P w'= .ok v w'/\R (.returned v) w')->LeavesInM (Wf none) 0 P Z tmps R ds .returning w
 | [],dfs,hi,m,h,w,h',he,j,ha,_,hR=>by
  have:dfs= []:=j;subst this;rw[pH] at he;cases he;exact hR m w (Ext.refl m) ha
 |d::ds,dfs,hi,m,h,w,h',he,j,ha,hl0,hR=>by
  refine⟨by simp,?_⟩;rcases j with ⟨r,h1,u,Y,t,h5⟩|⟨g,b,a,n,rfl,u,Y,t⟩
  ·refine .inl ⟨r,_,h1,run_takeDeferred t,?_⟩
   have y:=ha.rel.not_def t;have f:=ha.dead (o:= .deferred none) y u;refine leaves z ds dfs r m h _ h' he ?_ f hl0 hR
   have keep: ∀(ds:List Deferred) (hi:Nat) (dfs:Tt),hi<=r->kZ m w k.heap.size hi ds dfs->kZ m (w.putObj r (.deferred none)) k.heap.size hi ds dfs:=by
    intro ds
    induction ds with
    |nil=>exact λ_ _ _ h=>h
    |cons d ds ih=>
     intro hi dfs K j;rcases j with ⟨U,L,Q,F,J,k5⟩|⟨g,b,a,n,L,Q,F,J⟩
     ·exact .inl ⟨U,L,Q,F,by rw[World.putObj_heap_other om];exact J,ih U dfs om k5⟩
     ·exact .inr ⟨g,b,a,n,L,Q,F,ih hi a K J⟩
   exact keep ds r dfs (eS _) h5
  ·right
   rw[Ca] at he
   cases hg:p g with
   |none=>simp [hg] at he
   |some fn'=>
    simp only[hg] at he;split at he
    ·rename_i s
     cases hc:cl g b h with
     |none=>simp [hc] at he
     |some q=>
      obtain⟨v,W⟩:=q;simp only[hc] at he;obtain⟨l,i⟩:=z g fn' b h v W hc hg s m w (d.args++n) .returning Y ha.rel (ha.low hl0);refine⟨λO=>by simp [Fence.wide] at O,.func g,n,g,d.args++n,u,?_,λ_ _=>trivial,?_⟩
      ·rw[u];simp only[Go.invoke];exact lE l
      ·refine CallsDIn.mono i (λe u' w' O=>?_)
       obtain⟨rfl,x,m',rfl,_,c⟩:=O;exact leaves z ds a hi m' W w' h' he (kZ.Hz ha.rel c ds hi a t) (ha.trans c) hl0
        (λm2 w2 A f=>hR m2 w2 (c.ext.trans A) f)
    ·cases he
theorem Jb (A:Xr P p)(B:Zu P cl yl N)(x:CM P p cl):tE P (rN p cl yl N):=by
 intro g a h v s m;obtain⟨a,F,pv,c,e,a,r,G,y,i,a,t,J,z,d,q,n,l,rfl,e,a⟩:=uN A m;refine⟨i,λm w xs c g i=>?_⟩;refine callsIn_of_wp_marks t J trivial (B _ _ _ _ z _ _ _ _ _ _ _ d m w _ none (a m xs c) trivial g i _ ?_);intro b o t c a v d g _;have j:b.defers=c:=by simpa using d
 have f:LeavesInM (Wf none) 0 P F b.tmps (tF P m h w (xQ y) s) c .returning o:=by
  refine leaves x c r _ t G o s n g a i (λc a a k=>?_);obtain⟨y,d,u⟩:=tJ k.rel (v.mono a) e l;exact⟨y,d,y,c,rfl,u,k⟩
 rcases q with rfl|rfl
 ·show LeavesInM (Wf none) 0 P F b.tmps _ b.defers .returning o
  rw[j];exact f
 ·show LeavesInM (Wf none) 0 P F b.tmps _ b.defers .returning o
  rw[j];exact f
end
end Go.Ay
