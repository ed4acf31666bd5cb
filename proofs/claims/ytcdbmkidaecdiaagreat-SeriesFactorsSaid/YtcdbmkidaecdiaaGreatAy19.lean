/- What the abstract machine runs, the machine runs. -/
import Derived.Test.YtcdbmkidaecdiaaGreatAy18
namespace Go.Ay
open Go
def BY:E->Exit
 | .norm=> .normal
 | .ret=> .ret
 | .exit n=> .exit n
def RdR (m:M)(rd rr:Option Nat):Prop:=
 match rd,rr with
 |none,none=>True
 |some id,some l=> ∃q,m id=some q/\q.1=l
 |_,_=>False
theorem RdR.mono {m a:M}(e:Ext m a){rd rr:Option Nat}(h:RdR m rd rr):RdR a rd rr:=by
 cases rd<;>cases rr<;>try exact h
 obtain⟨q,c,b⟩:=h;exact⟨q,e _ _ c,b⟩
def JZ (P:Program)(m:M)(h:H)(w:World)(nt:Nat)(pv:List Nat)(a:Act)(e:E)(vars':List V)(dfs:MZ)(h':H)(Tj:Bool)(Q:Exit->Act->World->Prop):Prop:=
 ∀a' w' m' ds,iO P m h w m' h' w'->jM m' nt pv vars' a'.tmps->a'.defers=ds++a.defers->pL m' w' w.heap.size w'.heap.size ds dfs->(Tj=true->ds= [])->Q (BY e) a' w'
def acK (P:Program)(cl yl:dP)(N:Nat):Prop:= ∀nt pv code c,jL P nt pv code=some c-> ∀rd vars h e vars' dfs h',run cl yl N rd c vars h=some (e,vars',dfs,h')->
 ∀m w a rr,jM m nt pv vars a.tmps->RdR m rd rr->HR P m h w->Qk m h.next-> ∀Q,JZ P m h w nt pv a e vars' dfs h' c.Tj Q->code.wpIn (Wf rr) 0 P Q a w
def XI (P:Program)(p:Nat->Option Fn)(cl:dP):Prop:= ∀g fn args h v h',cl g args h=some (v,h')->p g=some fn->fn.body.Tj=true-> ∀m w (xs:Array Value) u,gZ m args xs.toList->HR P m h w->Qk m h.next->
 enters P g=true/\CallsDIn (Wf none) 0 P g xs u w λe u' w'=>u'=u/\Dm P m h w v h' e w'
section
variable {P:Program} {p:Nat->Option Fn} {cl yl:dP} {N:Nat}
theorem HX {s k:Nat}: ∀{l:List Nat},idx s l=some k->l[k]? =some s
 | [],h=>by simp [idx] at h
 |a::l,h=>by
  simp only[idx] at h
  by_cases b:a=s
  ·simp [b] at h;subst h;simp [b]
  ·simp [b] at h
   obtain⟨d,c,rfl⟩:=h;simpa using HX c
theorem gZ.getD {m:M}{vs:List V}{xs:List Value}(h:gZ m vs xs){i:Nat}(hi:i<vs.length):VR m (vs.getD i .undef) (xs.getD i undef):=by
 obtain⟨x,b,a⟩:=h.get (dD hi);simp only[List.getD,b,dD hi,Option.getD_some];exact a
theorem RQ (Q:POk P p){g:Nat}{args:List V}{h h':H}{v:V}(a:Af p cl yl N g args h=some (v,h')):
  ∃fn F pv c e vars dfs h1 vs,enters P g=true/\p g=some fn/\P.funcs[g]? =some F/\F.body=some c/\jL P F.ntmps pv c=some fn.body/\run cl yl N none fn.body (Fk fn args) h=some (e,vars,dfs,h1)/\(e= .norm∨e= .ret)/\
   Dt p cl dfs h1=some h'/\cH (fn.results.map (Ct vars h'))=some vs/\v=Jm vs/\cH (F.results.toList.map (Te P pv))=some fn.results/\
   (∀m (xs:Array Value),gZ m args xs.toList->jM m F.ntmps pv (Fk fn args) (xs++Array.replicate (F.ntmps-xs.size) undef)):=by
 simp only[Af] at a
 cases hg:p g with
 |none=>simp [hg] at a
 |some fn=>
  simp only[hg] at a;obtain⟨pv,F,B,j,d⟩:=Q g fn hg;unfold CL at j;split at j
  ·cases j
  ·rename_i c G
   split at j
   ·rename_i body results b f
    split at j
    ·rename_i o
     cases j;simp only[vN,decide_eq_true_eq] at o;split at a
     ·rename_i l
      simp only at l
      have u: ∀m (xs:Array Value),gZ m args xs.toList->jM m F.ntmps pv (Fk {nargs:=F.params.size+F.nfree,init:=pv.map λt=>if t<F.params.size+F.nfree then some t else none,results,body} args) (xs++Array.replicate (F.ntmps-xs.size) undef):=by
       intro m xs J;have y:=gZ.length J;simp only[Array.length_toList] at y;refine⟨by simp;omega,by simp [Fk],λs w=>by simpa using Kv.1 o.1 s w,λs k K=>?_⟩;have h1:=HX K;simp only[Fk,List.map_map,List.getD,Ol,h1,Option.map_some,Option.getD_some,Function.comp]
       by_cases w:s<F.params.size+F.nfree
       ·simp only[w,if_true]
        have:=gZ.getD J (i:=s) om;simp only[ND];rw[Array.getElem?_append_left om];simpa [List.getD] using this
       ·simp only[w,if_false]
        simp only[ND];rw[Array.getElem?_append_right om,Array.getElem?_replicate];split<;>exact VR.undef m
      cases hr:run cl yl N none body (Fk {nargs:=F.params.size+F.nfree,init:=pv.map λt=>if t<F.params.size+F.nfree then some t else none,results,body} args) h with
      |none=>simp [hr] at a
      |some q=>
       obtain⟨e,vars,dfs,h1⟩:=q;simp only[hr] at a
       have r:(match Dt p cl dfs h1 with|some h=>(cH (results.map (Ct vars h))).map λvs=>(Jm vs,h)|none=>none)=some (v,h')-> ∃vs,Dt p cl dfs h1=some h'/\cH (results.map (Ct vars h'))=some vs/\v=Jm vs:=by
        intro a;split at a
        ·rename_i U R
         simp only[mJ] at a;obtain⟨vs,L,O⟩:=a;cases O;exact⟨vs,R,L,rfl⟩
        ·cases a
       cases e with
       |norm=>
        obtain⟨vs,A,x,z⟩:=r a;exact⟨_,F,pv,c,.norm,vars,dfs,h1,vs,d,rfl,B,G,b,hr,.inl rfl,A,x,z,f,u⟩
       |ret=>
        obtain⟨vs,A,x,z⟩:=r a;exact⟨_,F,pv,c,.ret,vars,dfs,h1,vs,d,rfl,B,G,b,hr,.inr rfl,A,x,z,f,u⟩
       |exit n=>cases a
     ·cases a
    ·cases j
   ·cases j
theorem BJ (Y:POk P p)(U:acK P cl yl N):XI P p (Af p cl yl N):=by
 intro g fn B h v h' K Z L m w xs u hx hr O;obtain⟨a0,F,pv,c,e,z,o,h1,vs,j,n,J,W,Q,k,s,d,l,rfl,t,f⟩:=RQ Y K;rw[Z] at n;cases n;refine⟨j,callsDIn_of_wp J W trivial (U _ _ _ _ Q _ _ _ _ _ _ _ k m w _ none (f m xs hx) trivial hr O _ ?_)⟩;intro a' w' G ds a R r q i;obtain rfl:=i L;have b:o= []:=q;subst b;rw[xF] at d;cases d;obtain⟨y,A,x⟩:=Dk a.rel R t l;have b:a'.defers= []:=by simpa using r
 rcases s with rfl|rfl
 ·exact⟨b,y,A,y,G,rfl,x,a⟩
 ·exact⟨b,y,A,y,G,rfl,x,a⟩
theorem leaves (O:XI P p cl){Y:Func}{tmps:Array Value}{z:M}{J:H}{l:World}{R:Ending->World->Prop}: ∀(ds:List Deferred) (dfs:MZ) (hi:Nat) (m:M) (h:H) (w:World) (h':H),
  Dt p cl dfs h=some h'->pL m w l.heap.size hi ds dfs->iO P z J l m h w->Qk z J.next->
  (∀m' w',Ext m m'->iO P z J l m' h' w'-> ∃v,(results Y tmps).run P w'= .ok v w'/\R (.returned v) w')->LeavesInM (Wf none) 0 P Y tmps R ds .returning w
 | [],dfs,hi,m,h,w,h',he,s,ha,_,hR=>by
  have:dfs= []:=s;subst this;rw[xF] at he;cases he;exact hR m w (Ext.refl m) ha
 |d::ds,dfs,hi,m,h,w,h',he,s,ha,hl0,hR=>by
  refine⟨by simp,?_⟩;rcases s with ⟨r,h1,t,W,u,h5⟩|⟨g,b,a,n,rfl,t,W,u⟩
  ·refine .inl ⟨r,_,h1,run_takeDeferred u,?_⟩
   have Q:=ha.rel.not_def u;have i:=ha.dead (o:= .deferred none) Q t;refine leaves O ds dfs r m h _ h' he ?_ i hl0 hR
   have zA: ∀(ds:List Deferred) (hi:Nat) (dfs:MZ),hi<=r->pL m w l.heap.size hi ds dfs->pL m (w.putObj r (.deferred none)) l.heap.size hi ds dfs:=by
    intro ds
    induction ds with
    |nil=>exact λ_ _ _ h=>h
    |cons d ds ih=>
     intro hi dfs L s;rcases s with ⟨U,G,y,B,A,k5⟩|⟨g,b,a,n,G,y,B,A⟩
     ·exact .inl ⟨U,G,y,B,by rw[World.putObj_heap_other om];exact A,ih U dfs om k5⟩
     ·exact .inr ⟨g,b,a,n,G,y,B,ih hi a L A⟩
   exact zA ds r dfs (fM _) h5
  ·right
   rw[Pn] at he
   cases hg:p g with
   |none=>simp [hg] at he
   |some fn'=>
    simp only[hg] at he;split at he
    ·rename_i j
     cases hc:cl g b h with
     |none=>simp [hc] at he
     |some q=>
      obtain⟨v,Z⟩:=q;simp only[hc] at he;obtain⟨k,f⟩:=O g fn' b h v Z hc hg j m w (d.args++n) .returning W ha.rel (ha.low hl0);refine⟨λF=>by simp [Fence.wide] at F,.func g,n,g,d.args++n,t,?_,λ_ _=>trivial,?_⟩
      ·rw[t];simp only[Go.invoke];exact qC k
      ·refine CallsDIn.mono f (λe u' w' F=>?_)
       obtain⟨rfl,x,m',rfl,_,c⟩:=F;exact leaves O ds a hi m' Z w' h' he (pL.Yp ha.rel c ds hi a u) (ha.trans c) hl0
        (λm2 w2 K i=>hR m2 w2 (c.ext.trans K) i)
    ·cases he
theorem Xy (hp:POk P p)(hS:acK P cl yl N)(hD:XI P p cl):Dd P (Af p cl yl N):=by
 intro g K h v B U;obtain⟨fn,F,pv,c,e,G,r,W,R,i,hg,Q,hb,Y,j,z,f,k,rfl,A,a⟩:=RQ hp U;refine⟨i,λm w xs hx hr J=>?_⟩;refine callsIn_of_wp_marks Q hb trivial (hS _ _ _ _ Y _ _ _ _ _ _ _ j m w _ none (a m xs hx) trivial hr J _ ?_);intro b q m' s d hv x t _;have l:b.defers=s:=by simpa using x
 have o:LeavesInM (Wf none) 0 P F b.tmps (Dm P m h w (Jm R) B) s .returning q:=by
  refine leaves hD s r _ m' W q B f t d J (λO w2 u n=>?_);obtain⟨y,Z,L⟩:=Dk n.rel (hv.mono u) A k;exact⟨y,Z,y,O,rfl,L,n⟩
 rcases z with rfl|rfl
 ·show LeavesInM (Wf none) 0 P F b.tmps _ b.defers .returning q
  rw[l];exact o
 ·show LeavesInM (Wf none) 0 P F b.tmps _ b.defers .returning q
  rw[l];exact o
end
end Go.Ay
