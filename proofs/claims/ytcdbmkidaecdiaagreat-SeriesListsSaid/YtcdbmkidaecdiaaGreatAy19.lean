/- What the abstract machine runs, the machine runs. -/
import Derived.Test.YtcdbmkidaecdiaaGreatAy18
namespace Go.Ay
open Go
def FD:E->Exit
 | .norm=> .normal
 | .ret=> .ret
 | .exit n=> .exit n
def RdR (m:M)(rd rr:Option Nat):Prop:=
 match rd,rr with
 |none,none=>True
 |some id,some l=> ∃q,m id=some q/\q.1=l
 |_,_=>False
theorem RdR.mono {m a:M}(e:Ext m a){rd rr:Option Nat}(h:RdR m rd rr):RdR a rd rr:=by
 cases rd<;>cases rr<;>try exact h
 obtain⟨q,b,c⟩:=h;exact⟨q,e _ _ b,c⟩
def NT (P:Program)(m:M)(h:H)(w:World)(nt:Nat)(pv:List Nat)(a:Act)(e:E)(vars':List V)(dfs:OK)(h':H)(Vm:Bool)(Q:Exit->Act->World->Prop):Prop:=
 ∀a' w' m' ds,iC P m h w m' h' w'->jA m' nt pv vars' a'.tmps->a'.defers=ds++a.defers->oU m' w' w.heap.size w'.heap.size ds dfs->(Vm=true->ds= [])->Q (FD e) a' w'
def abM (P:Program)(cl yl:dM)(N:Nat):Prop:= ∀nt pv code c,iZ P nt pv code=some c-> ∀rd vars h e vars' dfs h',run cl yl N rd c vars h=some (e,vars',dfs,h')->
 ∀m w a rr,jA m nt pv vars a.tmps->RdR m rd rr->HR P m h w->Qx m h.next-> ∀Q,NT P m h w nt pv a e vars' dfs h' c.Vm Q->code.wpIn (Wf rr) 0 P Q a w
def ZS (P:Program)(p:Nat->Option Fn)(cl:dM):Prop:= ∀g fn args h v h',cl g args h=some (v,h')->p g=some fn->fn.body.Vm=true-> ∀m w (xs:Array Value) u,gJ m args xs.toList->HR P m h w->Qx m h.next->
 enters P g=true/\CallsDIn (Wf none) 0 P g xs u w λe u' w'=>u'=u/\Cx P m h w v h' e w'
section
variable {P:Program} {p:Nat->Option Fn} {cl yl:dM} {N:Nat}
theorem HO {s k:Nat}: ∀{l:List Nat},idx s l=some k->l[k]? =some s
 | [],h=>by simp [idx] at h
 |a::l,h=>by
  simp only[idx] at h
  by_cases b:a=s
  ·simp [b] at h;subst h;simp [b]
  ·simp [b] at h
   obtain⟨d,c,rfl⟩:=h;simpa using HO c
theorem gJ.getD {m:M}{vs:List V}{xs:List Value}(h:gJ m vs xs){i:Nat}(hi:i<vs.length):VR m (vs.getD i .undef) (xs.getD i undef):=by
 obtain⟨x,a,b⟩:=h.get (dF hi);simp only[List.getD,a,dF hi,Option.getD_some];exact b
theorem Ia (K:POk P p){g:Nat}{args:List V}{h h':H}{v:V}(a:Bf p cl yl N g args h=some (v,h')):
  ∃fn F pv c e vars dfs h1 vs,enters P g=true/\p g=some fn/\P.funcs[g]? =some F/\F.body=some c/\iZ P F.ntmps pv c=some fn.body/\run cl yl N none fn.body (Af fn args) h=some (e,vars,dfs,h1)/\(e= .norm∨e= .ret)/\
   Dp p cl dfs h1=some h'/\cI (fn.results.map (Ch vars h'))=some vs/\v=Js vs/\cI (F.results.toList.map (Tj P pv))=some fn.results/\
   (∀m (xs:Array Value),gJ m args xs.toList->jA m F.ntmps pv (Af fn args) (xs++Array.replicate (F.ntmps-xs.size) undef)):=by
 simp only[Bf] at a
 cases hg:p g with
 |none=>simp [hg] at a
 |some fn=>
  simp only[hg] at a;obtain⟨pv,F,G,d,f⟩:=K g fn hg;unfold EK at d;split at d
  ·cases d
  ·rename_i c B
   split at d
   ·rename_i body results b j
    split at d
    ·rename_i u
     cases d;simp only[vV,decide_eq_true_eq] at u;split at a
     ·rename_i l
      simp only at l
      have r: ∀m (xs:Array Value),gJ m args xs.toList->jA m F.ntmps pv (Af {nargs:=F.params.size+F.nfree,init:=pv.map λt=>if t<F.params.size+F.nfree then some t else none,results,body} args) (xs++Array.replicate (F.ntmps-xs.size) undef):=by
       intro m xs J;have A:=gJ.length J;simp only[Array.length_toList] at A;refine⟨by simp;omega,by simp [Af],λs w=>by simpa using Lw.1 u.1 s w,λs k Q=>?_⟩;have h1:=HO Q;simp only[Af,List.map_map,List.getD,Wy,h1,Option.map_some,Option.getD_some,Function.comp]
       by_cases w:s<F.params.size+F.nfree
       ·simp only[w,if_true]
        have:=gJ.getD J (i:=s) om;simp only[OQ];rw[Array.getElem?_append_left om];simpa [List.getD] using this
       ·simp only[w,if_false]
        simp only[OQ];rw[Array.getElem?_append_right om,Array.getElem?_replicate];split<;>exact VR.undef m
      cases hr:run cl yl N none body (Af {nargs:=F.params.size+F.nfree,init:=pv.map λt=>if t<F.params.size+F.nfree then some t else none,results,body} args) h with
      |none=>simp [hr] at a
      |some q=>
       obtain⟨e,vars,dfs,h1⟩:=q;simp only[hr] at a
       have o:(match Dp p cl dfs h1 with|some h=>(cI (results.map (Ch vars h))).map λvs=>(Js vs,h)|none=>none)=some (v,h')-> ∃vs,Dp p cl dfs h1=some h'/\cI (results.map (Ch vars h'))=some vs/\v=Js vs:=by
        intro a;split at a
        ·rename_i U O
         simp only[lT] at a;obtain⟨vs,R,L⟩:=a;cases L;exact⟨vs,O,R,rfl⟩
        ·cases a
       cases e with
       |norm=>
        obtain⟨vs,y,z,x⟩:=o a;exact⟨_,F,pv,c,.norm,vars,dfs,h1,vs,f,rfl,G,B,b,hr,.inl rfl,y,z,x,j,r⟩
       |ret=>
        obtain⟨vs,y,z,x⟩:=o a;exact⟨_,F,pv,c,.ret,vars,dfs,h1,vs,f,rfl,G,B,b,hr,.inr rfl,y,z,x,j,r⟩
       |exit n=>cases a
     ·cases a
    ·cases d
   ·cases d
theorem FM (L:POk P p)(Z:abM P cl yl N):ZS P p (Bf p cl yl N):=by
 intro g fn z h v h' Y hg R m w xs u hx hr U;obtain⟨O,F,pv,c,e,G,o,h1,vs,i,k,W,K,J,n,s,d,j,rfl,q,f⟩:=Ia L Y;rw[hg] at k;cases k;refine⟨i,callsDIn_of_wp W K trivial (Z _ _ _ _ J _ _ _ _ _ _ _ n m w _ none (f m xs hx) trivial hr U _ ?_)⟩;intro Q w' A ds a hv t r l;obtain rfl:=l R;have b:o= []:=r;subst b;rw[vX] at d;cases d;obtain⟨y,x,B⟩:=Ct a.rel hv q j;have b:Q.defers= []:=by simpa using t
 rcases s with rfl|rfl
 ·exact⟨b,y,x,y,A,rfl,B,a⟩
 ·exact⟨b,y,x,y,A,rfl,B,a⟩
theorem leaves (y:ZS P p cl){W:Func}{tmps:Array Value}{J:M}{K:H}{l:World}{R:Ending->World->Prop}: ∀(ds:List Deferred) (dfs:OK) (hi:Nat) (m:M) (h:H) (w:World) (h':H),
  Dp p cl dfs h=some h'->oU m w l.heap.size hi ds dfs->iC P J K l m h w->Qx J K.next->
  (∀m' w',Ext m m'->iC P J K l m' h' w'-> ∃v,(results W tmps).run P w'= .ok v w'/\R (.returned v) w')->LeavesInM (Wf none) 0 P W tmps R ds .returning w
 | [],dfs,hi,m,h,w,h',he,n,ha,_,hR=>by
  have:dfs= []:=n;subst this;rw[vX] at he;cases he;exact hR m w (Ext.refl m) ha
 |d::ds,dfs,hi,m,h,w,h',he,n,ha,hl0,hR=>by
  refine⟨by simp,?_⟩;rcases n with ⟨r,h1,u,U,t,h5⟩|⟨g,b,a,s,rfl,u,U,t⟩
  ·refine .inl ⟨r,_,h1,run_takeDeferred t,?_⟩
   have F:=ha.rel.not_def t;have i:=ha.dead (o:= .deferred none) F u;refine leaves y ds dfs r m h _ h' he ?_ i hl0 hR
   have zI: ∀(ds:List Deferred) (hi:Nat) (dfs:OK),hi<=r->oU m w l.heap.size hi ds dfs->oU m (w.putObj r (.deferred none)) l.heap.size hi ds dfs:=by
    intro ds
    induction ds with
    |nil=>exact λ_ _ _ h=>h
    |cons d ds ih=>
     intro hi dfs O n;rcases n with ⟨Z,A,B,z,G,k5⟩|⟨g,b,a,s,A,B,z,G⟩
     ·exact .inl ⟨Z,A,B,z,by rw[World.putObj_heap_other om];exact G,ih Z dfs om k5⟩
     ·exact .inr ⟨g,b,a,s,A,B,z,ih hi a O G⟩
   exact zI ds r dfs (eH _) h5
  ·right
   rw[Nq] at he
   cases hg:p g with
   |none=>simp [hg] at he
   |some fn'=>
    simp only[hg] at he;split at he
    ·rename_i k
     cases hc:cl g b h with
     |none=>simp [hc] at he
     |some q=>
      obtain⟨v,Y⟩:=q;simp only[hc] at he;obtain⟨j,f⟩:=y g fn' b h v Y hc hg k m w (d.args++s) .returning U ha.rel (ha.low hl0);refine⟨λQ=>by simp [Fence.wide] at Q,.func g,s,g,d.args++s,u,?_,λ_ _=>trivial,?_⟩
      ·rw[u];simp only[Go.invoke];exact pL j
      ·refine CallsDIn.mono f (λe u' w' Q=>?_)
       obtain⟨rfl,x,m',rfl,_,c⟩:=Q;exact leaves y ds a hi m' Y w' h' he (oU.Xr ha.rel c ds hi a t) (ha.trans c) hl0
        (λm2 w2 L i=>hR m2 w2 (c.ext.trans L) i)
    ·cases he
theorem AM (hp:POk P p)(hS:abM P cl yl N)(O:ZS P p cl):Cv P (Bf p cl yl N):=by
 intro g B h v J he;obtain⟨fn,F,pv,c,e,K,r,Z,U,d,hg,hF,Q,L,n,u,f,i,rfl,s,a⟩:=Ia hp he;refine⟨d,λm w xs hx hr G=>?_⟩;refine callsIn_of_wp_marks hF Q trivial (hS _ _ _ _ L _ _ _ _ _ _ _ n m w _ none (a m xs hx) trivial hr G _ ?_);intro b q Y A l hv x t _;have j:b.defers=A:=by simpa using x
 have k:LeavesInM (Wf none) 0 P F b.tmps (Cx P m h w (Js U) J) A .returning q:=by
  refine leaves O A r _ Y Z q J f t l G (λW w2 z o=>?_);obtain⟨y,R,k2⟩:=Ct o.rel (hv.mono z) s i;exact⟨y,R,y,W,rfl,k2,o⟩
 rcases u with rfl|rfl
 ·show LeavesInM (Wf none) 0 P F b.tmps _ b.defers .returning q
  rw[j];exact k
 ·show LeavesInM (Wf none) 0 P F b.tmps _ b.defers .returning q
  rw[j];exact k
end
end Go.Ay
