/- What the abstract machine runs, the machine runs. -/
import Derived.Test.YtcdbmkidaecdiaaGreatAy18
namespace Go.Ay
open Go
def BY:E->Exit
 | .norm=> .normal
 | .ret=> .ret
 | .exit n=> .exit n
def RdR (m:M)(rd rr:Option Nat):Prop:=
 match rd,rr with
 |none,none=>True
 |some id,some l=> ∃q,m id=some q/\q.1=l
 |_,_=>False
theorem RdR.mono {m a:M}(e:Ext m a){rd rr:Option Nat}(h:RdR m rd rr):RdR a rd rr:=by
 cases rd<;>cases rr<;>try exact h
 obtain⟨q,b,c⟩:=h;exact⟨q,e _ _ b,c⟩
def JZ (P:Program)(m:M)(h:H)(w:World)(nt:Nat)(pv:List Nat)(a:Act)(e:E)(vars':List V)(dfs:MZ)(h':H)(Tj:Bool)(Q:Exit->Act->World->Prop):Prop:=
 ∀a' w' m' ds,iO P m h w m' h' w'->jM m' nt pv vars' a'.tmps->a'.defers=ds++a.defers->pL m' w' w.heap.size w'.heap.size ds dfs->(Tj=true->ds= [])->Q (BY e) a' w'
def acK (P:Program)(cl yl:dP)(N:Nat):Prop:= ∀nt pv code c,jL P nt pv code=some c-> ∀rd vars h e vars' dfs h',run cl yl N rd c vars h=some (e,vars',dfs,h')->
 ∀m w a rr,jM m nt pv vars a.tmps->RdR m rd rr->HR P m h w->Qk m h.next-> ∀Q,JZ P m h w nt pv a e vars' dfs h' c.Tj Q->code.wpIn (Wf rr) 0 P Q a w
def XI (P:Program)(p:Nat->Option Fn)(cl:dP):Prop:= ∀g fn args h v h',cl g args h=some (v,h')->p g=some fn->fn.body.Tj=true-> ∀m w (xs:Array Value) u,gZ m args xs.toList->HR P m h w->Qk m h.next->
 enters P g=true/\CallsDIn (Wf none) 0 P g xs u w λe u' w'=>u'=u/\Dm P m h w v h' e w'
section
variable {P:Program} {p:Nat->Option Fn} {cl yl:dP} {N:Nat}
theorem HX {s k:Nat}: ∀{l:List Nat},idx s l=some k->l[k]? =some s
 | [],h=>by simp [idx] at h
 |a::l,h=>by
  simp only[idx] at h
  by_cases b:a=s
  ·simp [b] at h;subst h;simp [b]
  ·simp [b] at h
   obtain⟨d,c,rfl⟩:=h;simpa using HX c
theorem gZ.getD {m:M}{vs:List V}{xs:List Value}(h:gZ m vs xs){i:Nat}(hi:i<vs.length):VR m (vs.getD i .undef) (xs.getD i undef):=by
 obtain⟨x,a,b⟩:=h.get (dD hi);simp only[List.getD,a,dD hi,Option.getD_some];exact b
theorem Gg (O:POk P p){g:Nat}{args:List V}{h h':H}{v:V}(a:Af p cl yl N g args h=some (v,h')):
  ∃fn F pv c e vars dfs h1 vs,enters P g=true/\p g=some fn/\P.funcs[g]? =some F/\F.body=some c/\jL P F.ntmps pv c=some fn.body/\run cl yl N none fn.body (Al fn args) h=some (e,vars,dfs,h1)/\(e= .norm∨e= .ret)/\
   Dt p cl dfs h1=some h'/\cH (fn.results.map (Ct vars h'))=some vs/\v=Jm vs/\cH (F.results.toList.map (Te P pv))=some fn.results/\
   (∀m (xs:Array Value),gZ m args xs.toList->jM m F.ntmps pv (Al fn args) (xs++Array.replicate (F.ntmps-xs.size) undef)):=by
 simp only[Af] at a
 cases hg:p g with
 |none=>simp [hg] at a
 |some fn=>
  simp only[hg] at a;obtain⟨pv,F,G,j,d⟩:=O g fn hg;unfold CL at j;split at j
  ·cases j
  ·rename_i c J
   split at j
   ·rename_i body results b f
    split at j
    ·rename_i r
     cases j;simp only[vN,decide_eq_true_eq] at r;split at a
     ·rename_i u
      simp only at u
      have o: ∀m (xs:Array Value),gZ m args xs.toList->jM m F.ntmps pv (Al {nargs:=F.params.size+F.nfree,init:=pv.map λt=>if t<F.params.size+F.nfree then some t else none,results,body} args) (xs++Array.replicate (F.ntmps-xs.size) undef):=by
       intro m xs B;have y:=gZ.length B;simp only[Array.length_toList] at y;refine⟨by simp;omega,by simp [Al],λs w=>by simpa using Kv.1 r.1 s w,λs k Q=>?_⟩;have h1:=HX Q;simp only[Al,List.map_map,List.getD,Ol,h1,Option.map_some,Option.getD_some,Function.comp]
       by_cases w:s<F.params.size+F.nfree
       ·simp only[w,if_true]
        have:=gZ.getD B (i:=s) om;simp only[ND];rw[Array.getElem?_append_left om];simpa [List.getD] using this
       ·simp only[w,if_false]
        simp only[ND];rw[Array.getElem?_append_right om,Array.getElem?_replicate];split<;>exact VR.undef m
      cases hr:run cl yl N none body (Al {nargs:=F.params.size+F.nfree,init:=pv.map λt=>if t<F.params.size+F.nfree then some t else none,results,body} args) h with
      |none=>simp [hr] at a
      |some q=>
       obtain⟨e,vars,dfs,h1⟩:=q;simp only[hr] at a
       have l:(match Dt p cl dfs h1 with|some h=>(cH (results.map (Ct vars h))).map λvs=>(Jm vs,h)|none=>none)=some (v,h')-> ∃vs,Dt p cl dfs h1=some h'/\cH (results.map (Ct vars h'))=some vs/\v=Jm vs:=by
        intro a;split at a
        ·rename_i U R
         simp only[mJ] at a;obtain⟨vs,K,L⟩:=a;cases L;exact⟨vs,R,K,rfl⟩
        ·cases a
       cases e with
       |norm=>
        obtain⟨vs,z,x,A⟩:=l a;exact⟨_,F,pv,c,.norm,vars,dfs,h1,vs,d,rfl,G,J,b,hr,.inl rfl,z,x,A,f,o⟩
       |ret=>
        obtain⟨vs,z,x,A⟩:=l a;exact⟨_,F,pv,c,.ret,vars,dfs,h1,vs,d,rfl,G,J,b,hr,.inr rfl,z,x,A,f,o⟩
       |exit n=>cases a
     ·cases a
    ·cases j
   ·cases j
theorem BJ (O:POk P p)(Y:acK P cl yl N):XI P p (Af p cl yl N):=by
 intro g fn A h v h' J L hn m w xs u K Q hl;obtain⟨Z,F,pv,c,e,x,r,h1,vs,i,n,W,hb,hc,j,s,d,k,rfl,o,f⟩:=Gg O J;rw[L] at n;cases n;refine⟨i,callsDIn_of_wp W hb trivial (Y _ _ _ _ hc _ _ _ _ _ _ _ j m w _ none (f m xs K) trivial Q hl _ ?_)⟩;intro U w' G ds a R q t l;obtain rfl:=l hn;have b:r= []:=t;subst b;rw[xF] at d;cases d;obtain⟨y,B,z⟩:=Dk a.rel R o k;have b:U.defers= []:=by simpa using q
 rcases s with rfl|rfl
 ·exact⟨b,y,B,y,G,rfl,z,a⟩
 ·exact⟨b,y,B,y,G,rfl,z,a⟩
theorem leaves (J:XI P p cl){Y:Func}{tmps:Array Value}{A:M}{O:H}{k:World}{R:Ending->World->Prop}: ∀(ds:List Deferred) (dfs:MZ) (hi:Nat) (m:M) (h:H) (w:World) (h':H),
  Dt p cl dfs h=some h'->pL m w k.heap.size hi ds dfs->iO P A O k m h w->Qk A O.next->
  (∀m' w',Ext m m'->iO P A O k m' h' w'-> ∃v,(results Y tmps).run P w'= .ok v w'/\R (.returned v) w')->LeavesInM (Wf none) 0 P Y tmps R ds .returning w
 | [],dfs,hi,m,h,w,h',he,s,ha,_,hR=>by
  have:dfs= []:=s;subst this;rw[xF] at he;cases he;exact hR m w (Ext.refl m) ha
 |d::ds,dfs,hi,m,h,w,h',he,s,ha,hl0,hR=>by
  refine⟨by simp,?_⟩;rcases s with ⟨r,h1,t,W,u,h5⟩|⟨g,b,a,n,rfl,t,W,u⟩
  ·refine .inl ⟨r,_,h1,run_takeDeferred u,?_⟩
   have G:=ha.rel.not_def u;have i:=ha.dead (o:= .deferred none) G t;refine leaves J ds dfs r m h _ h' he ?_ i hl0 hR
   have zA: ∀(ds:List Deferred) (hi:Nat) (dfs:MZ),hi<=r->pL m w k.heap.size hi ds dfs->pL m (w.putObj r (.deferred none)) k.heap.size hi ds dfs:=by
    intro ds
    induction ds with
    |nil=>exact λ_ _ _ h=>h
    |cons d ds ih=>
     intro hi dfs y s;rcases s with ⟨Z,L,B,Q,K,k5⟩|⟨g,b,a,n,L,B,Q,K⟩
     ·exact .inl ⟨Z,L,B,Q,by rw[World.putObj_heap_other om];exact K,ih Z dfs om k5⟩
     ·exact .inr ⟨g,b,a,n,L,B,Q,ih hi a y K⟩
   exact zA ds r dfs (fM _) h5
  ·right
   rw[Pn] at he
   cases hg:p g with
   |none=>simp [hg] at he
   |some fn'=>
    simp only[hg] at he;split at he
    ·rename_i l
     cases hc:cl g b h with
     |none=>simp [hc] at he
     |some q=>
      obtain⟨v,U⟩:=q;simp only[hc] at he;obtain⟨j,f⟩:=J g fn' b h v U hc hg l m w (d.args++n) .returning W ha.rel (ha.low hl0);refine⟨λz=>by simp [Fence.wide] at z,.func g,n,g,d.args++n,t,?_,λ_ _=>trivial,?_⟩
      ·rw[t];simp only[Go.invoke];exact qC j
      ·refine CallsDIn.mono f (λe u' w' z=>?_)
       obtain⟨rfl,x,m',rfl,_,c⟩:=z;exact leaves J ds a hi m' U w' h' he (pL.Yp ha.rel c ds hi a u) (ha.trans c) hl0
        (λm2 w2 F i=>hR m2 w2 (c.ext.trans F) i)
    ·cases he
theorem Xy (Q:POk P p)(Z:acK P cl yl N)(hD:XI P p cl):Dd P (Af p cl yl N):=by
 intro g J h v G L;obtain⟨fn,F,pv,c,e,B,t,h1,vs,f,hg,Y,hb,hc,k,u,n,l,rfl,r,a⟩:=Gg Q L;refine⟨f,λm w xs O U K=>?_⟩;refine callsIn_of_wp_marks Y hb trivial (Z _ _ _ _ hc _ _ _ _ _ _ _ k m w _ none (a m xs O) trivial U K _ ?_);intro b q m' A i W s z _;have j:b.defers=A:=by simpa using s
 have d:LeavesInM (Wf none) 0 P F b.tmps (Dm P m h w (Jm vs) G) A .returning q:=by
  refine leaves hD A t _ m' h1 q G n z i K (λm2 w2 x o=>?_);obtain⟨y,k1,R⟩:=Dk o.rel (W.mono x) r l;exact⟨y,k1,y,m2,rfl,R,o⟩
 rcases u with rfl|rfl
 ·show LeavesInM (Wf none) 0 P F b.tmps _ b.defers .returning q
  rw[j];exact d
 ·show LeavesInM (Wf none) 0 P F b.tmps _ b.defers .returning q
  rw[j];exact d
end
end Go.Ay
