/- What the abstract machine runs, the machine runs. -/
import Derived.Test.YtcdbmkidaecdiaaGreatAy18
namespace Go.Ay
open Go
def BY:E->Exit
 | .norm=> .normal
 | .ret=> .ret
 | .exit n=> .exit n
def RdR (m:M)(rd rr:Option Nat):Prop:=
 match rd,rr with
 |none,none=>True
 |some id,some l=> ∃q,m id=some q/\q.1=l
 |_,_=>False
theorem RdR.mono {m a:M}(e:Ext m a){rd rr:Option Nat}(h:RdR m rd rr):RdR a rd rr:=by
 cases rd<;>cases rr<;>try exact h
 obtain⟨q,b,c⟩:=h;exact⟨q,e _ _ b,c⟩
def JZ (P:Program)(m:M)(h:H)(w:World)(nt:Nat)(pv:List Nat)(a:Act)(e:E)(vars':List V)(dfs:MZ)(h':H)(Tj:Bool)(Q:Exit->Act->World->Prop):Prop:=
 ∀a' w' m' ds,iO P m h w m' h' w'->jM m' nt pv vars' a'.tmps->a'.defers=ds++a.defers->pL m' w' w.heap.size w'.heap.size ds dfs->(Tj=true->ds= [])->Q (BY e) a' w'
def acK (P:Program)(cl yl:dP)(N:Nat):Prop:= ∀nt pv code c,jL P nt pv code=some c-> ∀rd vars h e vars' dfs h',run cl yl N rd c vars h=some (e,vars',dfs,h')->
 ∀m w a rr,jM m nt pv vars a.tmps->RdR m rd rr->HR P m h w->Qk m h.next-> ∀Q,JZ P m h w nt pv a e vars' dfs h' c.Tj Q->code.wpIn (Wf rr) 0 P Q a w
def XI (P:Program)(p:Nat->Option Fn)(cl:dP):Prop:= ∀g fn args h v h',cl g args h=some (v,h')->p g=some fn->fn.body.Tj=true-> ∀m w (xs:Array Value) u,gZ m args xs.toList->HR P m h w->Qk m h.next->
 enters P g=true/\CallsDIn (Wf none) 0 P g xs u w λe u' w'=>u'=u/\Dm P m h w v h' e w'
section
variable {P:Program} {p:Nat->Option Fn} {cl yl:dP} {N:Nat}
theorem HX {s k:Nat}: ∀{l:List Nat},idx s l=some k->l[k]? =some s
 | [],h=>by simp [idx] at h
 |a::l,h=>by
  simp only[idx] at h
  by_cases b:a=s
  ·simp [b] at h;subst h;simp [b]
  ·simp [b] at h
   obtain⟨d,c,rfl⟩:=h;simpa using HX c
theorem gZ.getD {m:M}{vs:List V}{xs:List Value}(h:gZ m vs xs){i:Nat}(hi:i<vs.length):VR m (vs.getD i .undef) (xs.getD i undef):=by
 obtain⟨x,b,a⟩:=h.get (dD hi);simp only[List.getD,b,dD hi,Option.getD_some];exact a
theorem RQ (L:POk P p){g:Nat}{args:List V}{h h':H}{v:V}(a:Af p cl yl N g args h=some (v,h')):
  ∃fn F pv c e vars dfs h1 vs,enters P g=true/\p g=some fn/\P.funcs[g]? =some F/\F.body=some c/\jL P F.ntmps pv c=some fn.body/\run cl yl N none fn.body (Fk fn args) h=some (e,vars,dfs,h1)/\(e= .norm∨e= .ret)/\
   Dt p cl dfs h1=some h'/\cH (fn.results.map (Ct vars h'))=some vs/\v=Jm vs/\cH (F.results.toList.map (Te P pv))=some fn.results/\
   (∀m (xs:Array Value),gZ m args xs.toList->jM m F.ntmps pv (Fk fn args) (xs++Array.replicate (F.ntmps-xs.size) undef)):=by
 simp only[Af] at a
 cases hg:p g with
 |none=>simp [hg] at a
 |some fn=>
  simp only[hg] at a;obtain⟨pv,F,G,j,f⟩:=L g fn hg;unfold CL at j;split at j
  ·cases j
  ·rename_i c J
   split at j
   ·rename_i body results b d
    split at j
    ·rename_i u
     cases j;simp only[vN,decide_eq_true_eq] at u;split at a
     ·rename_i r
      simp only at r
      have l: ∀m (xs:Array Value),gZ m args xs.toList->jM m F.ntmps pv (Fk {nargs:=F.params.size+F.nfree,init:=pv.map λt=>if t<F.params.size+F.nfree then some t else none,results,body} args) (xs++Array.replicate (F.ntmps-xs.size) undef):=by
       intro m xs B;have A:=gZ.length B;simp only[Array.length_toList] at A;refine⟨by simp;omega,by simp [Fk],λs w=>by simpa using Kv.1 u.1 s w,λs k Q=>?_⟩;have h1:=HX Q;simp only[Fk,List.map_map,List.getD,Ol,h1,Option.map_some,Option.getD_some,Function.comp]
       by_cases w:s<F.params.size+F.nfree
       ·simp only[w,if_true]
        have:=gZ.getD B (i:=s) om;simp only[ND];rw[Array.getElem?_append_left om];simpa [List.getD] using this
       ·simp only[w,if_false]
        simp only[ND];rw[Array.getElem?_append_right om,Array.getElem?_replicate];split<;>exact VR.undef m
      cases hr:run cl yl N none body (Fk {nargs:=F.params.size+F.nfree,init:=pv.map λt=>if t<F.params.size+F.nfree then some t else none,results,body} args) h with
      |none=>simp [hr] at a
      |some q=>
       obtain⟨e,vars,dfs,h1⟩:=q;simp only[hr] at a
       have o:(match Dt p cl dfs h1 with|some h=>(cH (results.map (Ct vars h))).map λvs=>(Jm vs,h)|none=>none)=some (v,h')-> ∃vs,Dt p cl dfs h1=some h'/\cH (results.map (Ct vars h'))=some vs/\v=Jm vs:=by
        intro a;split at a
        ·rename_i U O
         simp only[mJ] at a;obtain⟨vs,K,R⟩:=a;cases R;exact⟨vs,O,K,rfl⟩
        ·cases a
       cases e with
       |norm=>
        obtain⟨vs,y,z,x⟩:=o a;exact⟨_,F,pv,c,.norm,vars,dfs,h1,vs,f,rfl,G,J,b,hr,.inl rfl,y,z,x,d,l⟩
       |ret=>
        obtain⟨vs,y,z,x⟩:=o a;exact⟨_,F,pv,c,.ret,vars,dfs,h1,vs,f,rfl,G,J,b,hr,.inr rfl,y,z,x,d,l⟩
       |exit n=>cases a
     ·cases a
    ·cases j
   ·cases j
theorem BJ (L:POk P p)(hS:acK P cl yl N):XI P p (Af p cl yl N):=by
 intro g fn G h v h' Y O R m w xs u J K hl;obtain⟨Q,F,pv,c,e,x,t,h1,vs,k,n,W,Z,hc,i,r,d,j,rfl,s,f⟩:=RQ L Y;rw[O] at n;cases n;refine⟨k,callsDIn_of_wp W Z trivial (hS _ _ _ _ hc _ _ _ _ _ _ _ i m w _ none (f m xs J) trivial K hl _ ?_)⟩;intro a' w' A ds a U q o l;obtain rfl:=l R;have b:t= []:=o;subst b;rw[xF] at d;cases d;obtain⟨y,z,B⟩:=Dk a.rel U s j;have b:a'.defers= []:=by simpa using q
 rcases r with rfl|rfl
 ·exact⟨b,y,z,y,A,rfl,B,a⟩
 ·exact⟨b,y,z,y,A,rfl,B,a⟩
theorem leaves (A:XI P p cl){W:Func}{tmps:Array Value}{z:M}{B:H}{s:World}{R:Ending->World->Prop}: ∀(ds:List Deferred) (dfs:MZ) (hi:Nat) (m:M) (h:H) (w:World) (h':H),
  Dt p cl dfs h=some h'->pL m w s.heap.size hi ds dfs->iO P z B s m h w->Qk z B.next->
  (∀m' w',Ext m m'->iO P z B s m' h' w'-> ∃v,(results W tmps).run P w'= .ok v w'/\R (.returned v) w')->LeavesInM (Wf none) 0 P W tmps R ds .returning w
 | [],dfs,hi,m,h,w,h',he,n,ha,_,hR=>by
  have:dfs= []:=n;subst this;rw[xF] at he;cases he;exact hR m w (Ext.refl m) ha
 |d::ds,dfs,hi,m,h,w,h',he,n,ha,hl0,hR=>by
  refine⟨by simp,?_⟩;rcases n with ⟨r,h1,t,U,u,h5⟩|⟨g,b,a,j,rfl,t,U,u⟩
  ·refine .inl ⟨r,_,h1,run_takeDeferred u,?_⟩
   have K:=ha.rel.not_def u;have f:=ha.dead (o:= .deferred none) K t;refine leaves A ds dfs r m h _ h' he ?_ f hl0 hR
   have zA: ∀(ds:List Deferred) (hi:Nat) (dfs:MZ),hi<=r->pL m w s.heap.size hi ds dfs->pL m (w.putObj r (.deferred none)) s.heap.size hi ds dfs:=by
    intro ds
    induction ds with
    |nil=>exact λ_ _ _ h=>h
    |cons d ds ih=>
     intro hi dfs F n;rcases n with ⟨Z,J,L,y,O,k5⟩|⟨g,b,a,j,J,L,y,O⟩
     ·exact .inl ⟨Z,J,L,y,by rw[World.putObj_heap_other om];exact O,ih Z dfs om k5⟩
     ·exact .inr ⟨g,b,a,j,J,L,y,ih hi a F O⟩
   exact zA ds r dfs (fM _) h5
  ·right
   rw[Pn] at he
   cases hg:p g with
   |none=>simp [hg] at he
   |some fn'=>
    simp only[hg] at he;split at he
    ·rename_i l
     cases hc:cl g b h with
     |none=>simp [hc] at he
     |some q=>
      obtain⟨v,Y⟩:=q;simp only[hc] at he;obtain⟨k,i⟩:=A g fn' b h v Y hc hg l m w (d.args++j) .returning U ha.rel (ha.low hl0);refine⟨λG=>by simp [Fence.wide] at G,.func g,j,g,d.args++j,t,?_,λ_ _=>trivial,?_⟩
      ·rw[t];simp only[Go.invoke];exact qC k
      ·refine CallsDIn.mono i (λe u' w' G=>?_)
       obtain⟨rfl,x,m',rfl,_,c⟩:=G;exact leaves A ds a hi m' Y w' h' he (pL.Yp ha.rel c ds hi a u) (ha.trans c) hl0
        (λm2 w2 Q f=>hR m2 w2 (c.ext.trans Q) f)
    ·cases he
theorem Xy (R:POk P p)(hS:acK P cl yl N)(U:XI P p cl):Dd P (Af p cl yl N):=by
 intro g J h v K he;obtain⟨fn,F,pv,c,e,B,x,L,vs,l,hg,Z,hb,hc,j,t,i,k,rfl,u,a⟩:=RQ R he;refine⟨l,λm w xs O Q G=>?_⟩;refine callsIn_of_wp_marks Z hb trivial (hS _ _ _ _ hc _ _ _ _ _ _ _ j m w _ none (a m xs O) trivial Q G _ ?_);intro b q m' z n Y s r _;have f:b.defers=z:=by simpa using s
 have o:LeavesInM (Wf none) 0 P F b.tmps (Dm P m h w (Jm vs) K) z .returning q:=by
  refine leaves U z x _ m' L q K i r n G (λW w2 A d=>?_);obtain⟨y,k1,k2⟩:=Dk d.rel (Y.mono A) u k;exact⟨y,k1,y,W,rfl,k2,d⟩
 rcases t with rfl|rfl
 ·show LeavesInM (Wf none) 0 P F b.tmps _ b.defers .returning q
  rw[f];exact o
 ·show LeavesInM (Wf none) 0 P F b.tmps _ b.defers .returning q
  rw[f];exact o
end
end Go.Ay
