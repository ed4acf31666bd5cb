/- What the abstract machine runs, the machine runs. -/
import Derived.Test.YtapfcpkecmmagaaGreatAy18
namespace Go.Ay
open Go
def Lu:E->Exit
 | .norm=> .normal
 | .ret=> .ret
 | .exit n=> .exit n
def CX (m:M)(rd rr:Option Nat):Prop:=
 match rd,rr with
 |none,none=>True
 |some id,some l=> ∃q,m id=some q/\q.1=l
 |_,_=>False
theorem CX.mono {m a:M}(e:Ext m a){rd rr:Option Nat}(h:CX m rd rr):CX a rd rr:=by
 cases rd<;>cases rr<;>try exact h
 obtain⟨q,b,c⟩:=h;exact⟨q,e _ _ b,c⟩
def Qa (P:Program)(m:M)(h:H)(w:World)(nt:Nat)(pv:List Nat)(a:Act)(e:E)(vars':List V)(dfs:Sz)(h':H)(Fz:Bool)(Q:Exit->Act->World->Prop):Prop:=
 ∀a' w' m' ds,fU P m h w m' h' w'->iG m' nt pv vars' a'.tmps->a'.defers=ds++a.defers->kS m' w' w.heap.size w'.heap.size ds dfs->(Fz=true->ds= [])->Q (Lu e) a' w'
def Zu (P:Program)(cl yl:dP)(N:Nat):Prop:= ∀nt pv code c,iE P nt pv code=some c-> ∀rd vars h e vars' dfs h',run cl yl N rd c vars h=some (e,vars',dfs,h')->
 ∀m w a rr,iG m nt pv vars a.tmps->CX m rd rr->HR P m h w->Cq m h.next-> ∀Q,Qa P m h w nt pv a e vars' dfs h' c.Fz Q->code.wpIn (Wf rr) 0 P Q a w
def AM (P:Program)(p:Nat->Option Fn)(cl:dP):Prop:= ∀g fn args h v h',cl g args h=some (v,h')->p g=some fn->fn.body.Fz=true-> ∀m w (xs:Array Value) u,fL m args xs.toList->HR P m h w->Cq m h.next->
 enters P g=true/\CallsDIn (Wf none) 0 P g xs u w λe u' w'=>u'=u/\tC P m h w v h' e w'
section
variable {P:Program} {p:Nat->Option Fn} {cl yl:dP} {N:Nat}
theorem Nj {s k:Nat}: ∀{l:List Nat},idx s l=some k->l[k]? =some s
 | [],h=>by simp [idx] at h
 |a::l,h=>by
  simp only[idx] at h
  by_cases b:a=s
  ·simp [b] at h;subst h;simp [b]
  ·simp [b] at h
   obtain⟨d,c,rfl⟩:=h;simpa using Nj c
theorem fL.getD {m:M}{vs:List V}{xs:List Value}(h:fL m vs xs){i:Nat}(hi:i<vs.length):VR m (vs.getD i .undef) (xs.getD i undef):=by
 obtain⟨x,b,a⟩:=h.get (eX hi);simp only[List.getD,b,eX hi,Option.getD_some];exact a
theorem vF (O:Wk P p){g:Nat}{args:List V}{h h':H}{v:V}(a:qZ p cl yl N g args h=some (v,h')):
  ∃fn F pv c e vars dfs h1 vs,enters P g=true/\p g=some fn/\P.funcs[g]? =some F/\F.body=some c/\iE P F.ntmps pv c=some fn.body/\run cl yl N none fn.body (tK fn args) h=some (e,vars,dfs,h1)/\(e= .norm∨e= .ret)/\
   tA p cl dfs h1=some h'/\cU (fn.results.map (sY vars h'))=some vs/\v=wF vs/\cU (F.results.toList.map (Eo P pv))=some fn.results/\
   (∀m (xs:Array Value),fL m args xs.toList->iG m F.ntmps pv (tK fn args) (xs++Array.replicate (F.ntmps-xs.size) undef)):=by
 simp only[qZ] at a
 cases hg:p g with
 |none=>simp [hg] at a
 |some fn=>
  simp only[hg] at a;obtain⟨pv,F,G,f,j⟩:=O g fn hg;unfold Gl at f;split at f
  ·cases f
  ·rename_i c B
   split at f
   ·rename_i body results b d
    split at f
    ·rename_i r
     cases f;simp only[pQ,decide_eq_true_eq] at r;split at a
     ·rename_i o
      simp only at o
      have u: ∀m (xs:Array Value),fL m args xs.toList->iG m F.ntmps pv (tK {nargs:=F.params.size+F.nfree,init:=pv.map λt=>if t<F.params.size+F.nfree then some t else none,results,body} args) (xs++Array.replicate (F.ntmps-xs.size) undef):=by
       intro m xs J;have y:=fL.length J;simp only[Array.length_toList] at y;refine⟨by simp;omega,by simp [tK],λs w=>by simpa using yQ.1 r.1 s w,λs k Q=>?_⟩;have h1:=Nj Q;simp only[tK,List.map_map,List.getD,Kt,h1,Option.map_some,Option.getD_some,Function.comp]
       by_cases w:s<F.params.size+F.nfree
       ·simp only[w,if_true]
        have:=fL.getD J (i:=s) om;simp only[Ta];rw[Array.getElem?_append_left om];simpa [List.getD] using this
       ·simp only[w,if_false]
        simp only[Ta];rw[Array.getElem?_append_right om,Array.getElem?_replicate];split<;>exact VR.undef m
      cases hr:run cl yl N none body (tK {nargs:=F.params.size+F.nfree,init:=pv.map λt=>if t<F.params.size+F.nfree then some t else none,results,body} args) h with
      |none=>simp [hr] at a
      |some q=>
       obtain⟨e,vars,dfs,h1⟩:=q;simp only[hr] at a
       have l:(match tA p cl dfs h1 with|some h=>(cU (results.map (sY vars h))).map λvs=>(wF vs,h)|none=>none)=some (v,h')-> ∃vs,tA p cl dfs h1=some h'/\cU (results.map (sY vars h'))=some vs/\v=wF vs:=by
        intro a;split at a
        ·rename_i U K
         simp only[jB] at a;obtain⟨vs,R,L⟩:=a;cases L;exact⟨vs,K,R,rfl⟩
        ·cases a
       cases e with
       |norm=>
        obtain⟨vs,x,z,A⟩:=l a;exact⟨_,F,pv,c,.norm,vars,dfs,h1,vs,j,rfl,G,B,b,hr,.inl rfl,x,z,A,d,u⟩
       |ret=>
        obtain⟨vs,x,z,A⟩:=l a;exact⟨_,F,pv,c,.ret,vars,dfs,h1,vs,j,rfl,G,B,b,hr,.inr rfl,x,z,A,d,u⟩
       |exit n=>cases a
     ·cases a
    ·cases f
   ·cases f
theorem Lj (L:Wk P p)(U:Zu P cl yl N):AM P p (qZ p cl yl N):=by
 intro g c c h v c he R K m w xs u Z J G;obtain⟨c,F,pv,c,e,c,o,c,c,n,k,W,B,Y,j,s,d,i,rfl,t,f⟩:=vF L he;rw[R] at k;cases k;refine⟨n,callsDIn_of_wp W B trivial (U _ _ _ _ Y _ _ _ _ _ _ _ j m w _ none (f m xs Z) trivial J G _ ?_)⟩;intro Q c x c a O r q l;obtain rfl:=l K;have b:o= []:=q;subst b;rw[oX] at d;cases d;obtain⟨y,z,A⟩:=tM a.rel O t i;have b:Q.defers= []:=by simpa using r
 rcases s with rfl|rfl
 ·exact⟨b,y,z,y,x,rfl,A,a⟩
 ·exact⟨b,y,z,y,x,rfl,A,a⟩
theorem leaves (y:AM P p cl){U:Func}{tmps:Array Value}{Q:M}{A:H}{k:World}{R:Ending->World->Prop}: ∀(ds:List Deferred) (dfs:Sz) (hi:Nat) (m:M) (h:H) (w:World) (h':H),
  tA p cl dfs h=some h'->kS m w k.heap.size hi ds dfs->fU P Q A k m h w->Cq Q A.next->
  (∀m' w',Ext m m'->fU P Q A k m' h' w'-> ∃v,(results U tmps).run P w'= .ok v w'/\R (.returned v) w')->LeavesInM (Wf none) 0 P U tmps R ds .returning w
 | [],dfs,hi,m,h,w,h',he,j,ha,_,hR=>by
  have:dfs= []:=j;subst this;rw[oX] at he;cases he;exact hR m w (Ext.refl m) ha
 |d::ds,dfs,hi,m,h,w,h',he,j,ha,hl0,hR=>by
  refine⟨by simp,?_⟩;rcases j with ⟨r,h1,t,Z,u,h5⟩|⟨g,b,a,s,rfl,t,Z,u⟩
  ·refine .inl ⟨r,_,h1,run_takeDeferred u,?_⟩
   have z:=ha.rel.not_def u;have f:=ha.dead (o:= .deferred none) z t;refine leaves y ds dfs r m h _ h' he ?_ f hl0 hR
   have keep: ∀(ds:List Deferred) (hi:Nat) (dfs:Sz),hi<=r->kS m w k.heap.size hi ds dfs->kS m (w.putObj r (.deferred none)) k.heap.size hi ds dfs:=by
    intro ds
    induction ds with
    |nil=>exact λ_ _ _ h=>h
    |cons d ds ih=>
     intro hi dfs G j;rcases j with ⟨W,F,K,L,O,k5⟩|⟨g,b,a,s,F,K,L,O⟩
     ·exact .inl ⟨W,F,K,L,by rw[World.putObj_heap_other om];exact O,ih W dfs om k5⟩
     ·exact .inr ⟨g,b,a,s,F,K,L,ih hi a G O⟩
   exact keep ds r dfs (fH _) h5
  ·right
   rw[Bq] at he
   cases hg:p g with
   |none=>simp [hg] at he
   |some fn'=>
    simp only[hg] at he;split at he
    ·rename_i l
     cases hc:cl g b h with
     |none=>simp [hc] at he
     |some q=>
      obtain⟨v,Y⟩:=q;simp only[hc] at he;obtain⟨n,i⟩:=y g fn' b h v Y hc hg l m w (d.args++s) .returning Z ha.rel (ha.low hl0);refine⟨λJ=>by simp [Fence.wide] at J,.func g,s,g,d.args++s,t,?_,λ_ _=>trivial,?_⟩
      ·rw[t];simp only[Go.invoke];exact lF n
      ·refine CallsDIn.mono i (λe u' w' J=>?_)
       obtain⟨rfl,x,m',rfl,_,c⟩:=J;exact leaves y ds a hi m' Y w' h' he (kS.Kq ha.rel c ds hi a u) (ha.trans c) hl0
        (λm2 w2 B f=>hR m2 w2 (c.ext.trans B) f)
    ·cases he
theorem Kh (z:Wk P p)(B:Zu P cl yl N)(x:AM P p cl):tN P (qZ p cl yl N):=by
 intro g a h v t s;obtain⟨a,F,pv,c,e,a,o,A,y,m,a,J,u,K,i,q,d,f,rfl,r,a⟩:=vF z s;refine⟨m,λm w xs e c s=>?_⟩;refine callsIn_of_wp_marks J u trivial (B _ _ _ _ K _ _ _ _ _ _ _ i m w _ none (a m xs e) trivial c s _ ?_);intro b n u c a i g e _;have k:b.defers=c:=by simpa using g
 have l:LeavesInM (Wf none) 0 P F b.tmps (tC P m h w (wF y) t) c .returning n:=by
  refine leaves x c o _ u A n t d e a s (λd a a j=>?_);obtain⟨y,c,G⟩:=tM j.rel (i.mono a) r f;exact⟨y,c,y,d,rfl,G,j⟩
 rcases q with rfl|rfl
 ·show LeavesInM (Wf none) 0 P F b.tmps _ b.defers .returning n
  rw[k];exact l
 ·show LeavesInM (Wf none) 0 P F b.tmps _ b.defers .returning n
  rw[k];exact l
end
end Go.Ay
