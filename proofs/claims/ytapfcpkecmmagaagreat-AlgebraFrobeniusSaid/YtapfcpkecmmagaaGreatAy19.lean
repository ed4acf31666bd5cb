/- What the abstract machine runs, the machine runs. -/
import Derived.Test.YtapfcpkecmmagaaGreatAy18
namespace Go.Ay
open Go
def Ep:E->Exit
 | .norm=> .normal
 | .ret=> .ret
 | .exit n=> .exit n
def Vk (m:M)(rd rr:Option Nat):Prop:=
 match rd,rr with
 |none,none=>True
 |some id,some l=> ∃q,m id=some q/\q.1=l
 |_,_=>False
theorem Vk.mono {m m':M}(e:Ext m m'){rd rr:Option Nat}(h:Vk m rd rr):Vk m' rd rr:=by
 cases rd<;>cases rr<;>try exact h
 obtain⟨q,h1,h2⟩:=h;exact⟨q,e _ _ h1,h2⟩
def Jv (P:Program)(m:M)(h:H)(w:World)(nt:Nat)(pv:List Nat)(a:Act)(e:E)(vars':List V)(dfs:Lh)(h':H)(Be:Bool)(Q:Exit->Act->World->Prop):Prop:=
 ∀a' w' m' ds,eS P m h w m' h' w'->fL m' nt pv vars' a'.tmps->a'.defers=ds++a.defers->jE m' w' w.heap.size w'.heap.size ds dfs->(Be=true->ds= [])->Q (Ep e) a' w'
def Sv (P:Program)(cl yl:dD)(N:Nat):Prop:= ∀nt pv code c,fM P nt pv code=some c-> ∀rd vars h e vars' dfs h',run cl yl N rd c vars h=some (e,vars',dfs,h')->
 ∀m w a rr,fL m nt pv vars a.tmps->Vk m rd rr->HR P m h w->xS m h.next-> ∀Q,Jv P m h w nt pv a e vars' dfs h' c.Be Q->code.wpIn (Wf rr) 0 P Q a w
def Te (P:Program)(p:Nat->Option Fn)(cl:dD):Prop:= ∀g fn args h v h',cl g args h=some (v,h')->p g=some fn->fn.body.Be=true-> ∀m w (xs:Array Value) u,eG m args xs.toList->HR P m h w->xS m h.next->
 enters P g=true/\CallsDIn (Wf none) 0 P g xs u w λe u' w'=>u'=u/\qL P m h w v h' e w'
section
variable {P:Program} {p:Nat->Option Fn} {cl yl:dD} {N:Nat}
theorem He {s k:Nat}: ∀{l:List Nat},idx s l=some k->l[k]? =some s
 | [],h=>by simp [idx] at h
 |a::l,h=>by
  simp only[idx] at h
  by_cases h1:a=s
  ·simp [h1] at h;subst h;simp [h1]
  ·simp [h1] at h
   obtain⟨k',hk,rfl⟩:=h;simpa using He hk
theorem eG.getD {m:M}{vs:List V}{xs:List Value}(h:eG m vs xs){i:Nat}(hi:i<vs.length):VR m (vs.getD i .undef) (xs.getD i undef):=by
 obtain⟨x,h1,h2⟩:=h.get (eQ hi);simp only[List.getD,h1,eQ hi,Option.getD_some];exact h2
theorem rU (hp:Ln P p){g:Nat}{args:List V}{h h':H}{v:V}(he:pF p cl yl N g args h=some (v,h')):
  ∃fn F pv c e vars dfs h1 vs,enters P g=true/\p g=some fn/\P.funcs[g]? =some F/\F.body=some c/\fM P F.ntmps pv c=some fn.body/\run cl yl N none fn.body (qF fn args) h=some (e,vars,dfs,h1)/\(e= .norm∨e= .ret)/\
   qM p cl dfs h1=some h'/\bY (fn.results.map (qD vars h'))=some vs/\v=tJ vs/\bY (F.results.toList.map (zE P pv))=some fn.results/\
   (∀m (xs:Array Value),eG m args xs.toList->fL m F.ntmps pv (qF fn args) (xs++Array.replicate (F.ntmps-xs.size) undef)):=by
 simp only[pF] at he
 cases hg:p g with
 |none=>simp [hg] at he
 |some fn=>
  simp only[hg] at he;obtain⟨pv,F,hF,hc,hent⟩:=hp g fn hg;unfold Aj at hc;split at hc
  ·cases hc
  ·rename_i c hb
   split at hc
   ·rename_i body results hbody hres
    split at hc
    ·rename_i hok
     cases hc;simp only[Bool.and_eq_true,decide_eq_true_eq] at hok;split at he
     ·rename_i hlen
      simp only at hlen
      have key: ∀m (xs:Array Value),eG m args xs.toList->fL m F.ntmps pv (qF {nargs:=F.params.size+F.nfree,init:=pv.map λt=>if t<F.params.size+F.nfree then some t else none,results,body} args) (xs++Array.replicate (F.ntmps-xs.size) undef):=by
       intro m xs hx;have hxl:=eG.length hx;simp only[Array.length_toList] at hxl;refine⟨by simp;omega,by simp [qF],λs hs=>by simpa using List.all_eq_true.1 hok.1 s hs,λs k hk=>?_⟩;have h1:=He hk;simp only[qF,List.map_map,List.getD,List.getElem?_map,h1,Option.map_some,Option.getD_some,Function.comp]
       by_cases hs:s<F.params.size+F.nfree
       ·simp only[hs,if_true]
        have:=eG.getD hx (i:=s) (by omega);simp only[Array.getD_eq_getD_getElem?];rw[Array.getElem?_append_left (by omega)];simpa [List.getD] using this
       ·simp only[hs,if_false]
        simp only[Array.getD_eq_getD_getElem?];rw[Array.getElem?_append_right (by omega),Array.getElem?_replicate];split<;>exact VR.undef m
      cases hr:run cl yl N none body (qF {nargs:=F.params.size+F.nfree,init:=pv.map λt=>if t<F.params.size+F.nfree then some t else none,results,body} args) h with
      |none=>simp [hr] at he
      |some q=>
       obtain⟨e,vars,dfs,h1⟩:=q;simp only[hr] at he
       have fin:(match qM p cl dfs h1 with|some h=>(bY (results.map (qD vars h))).map λvs=>(tJ vs,h)|none=>none)=some (v,h')-> ∃vs,qM p cl dfs h1=some h'/\bY (results.map (qD vars h'))=some vs/\v=tJ vs:=by
        intro he;split at he
        ·rename_i h2 hd
         simp only[gJ] at he;obtain⟨vs,h3,h4⟩:=he;cases h4;exact⟨vs,hd,h3,rfl⟩
        ·cases he
       cases e with
       |norm=>
        obtain⟨vs,k1,k2,k3⟩:=fin he;exact⟨_,F,pv,c,.norm,vars,dfs,h1,vs,hent,rfl,hF,hb,hbody,hr,.inl rfl,k1,k2,k3,hres,key⟩
       |ret=>
        obtain⟨vs,k1,k2,k3⟩:=fin he;exact⟨_,F,pv,c,.ret,vars,dfs,h1,vs,hent,rfl,hF,hb,hbody,hr,.inr rfl,k1,k2,k3,hres,key⟩
       |exit n=>cases he
     ·cases he
    ·cases hc
   ·cases hc
theorem Ef (hp:Ln P p)(hS:Sv P cl yl N):Te P p (pF p cl yl N):=by
 intro g fn args h v h' he hg hn m w xs u hx hr hl;obtain⟨fn',F,pv,c,e,vars,dfs,h1,vs,hent,hg',hF,hb,hc,hrun,hee,hdfs,hres,rfl,hcr,hinit⟩:=rU hp he;rw[hg] at hg';cases hg';refine⟨hent,callsDIn_of_wp hF hb trivial (hS _ _ _ _ hc _ _ _ _ _ _ _ hrun m w _ none (hinit m xs hx) trivial hr hl _ ?_)⟩;intro a' w' m' ds hadv hv hds hdr hnor;obtain rfl:=hnor hn;have hd0:dfs= []:=hdr;subst hd0;rw[mY] at hdfs;cases hdfs;obtain⟨y,k1,k2⟩:=qJ hadv.rel hv hcr hres;have hd0:a'.defers= []:=by simpa using hds
 rcases hee with rfl|rfl
 ·exact⟨hd0,y,k1,y,m',rfl,k2,hadv⟩
 ·exact⟨hd0,y,k1,y,m',rfl,k2,hadv⟩
theorem leaves (hD:Te P p cl){fn:Func}{tmps:Array Value}{m0:M}{h0:H}{w0:World}{R:Ending->World->Prop}: ∀(ds:List Deferred) (dfs:Lh) (hi:Nat) (m:M) (h:H) (w:World) (h':H),
  qM p cl dfs h=some h'->jE m w w0.heap.size hi ds dfs->eS P m0 h0 w0 m h w->xS m0 h0.next->
  (∀m' w',Ext m m'->eS P m0 h0 w0 m' h' w'-> ∃v,(results fn tmps).run P w'= .ok v w'/\R (.returned v) w')->LeavesInM (Wf none) 0 P fn tmps R ds .returning w
 | [],dfs,hi,m,h,w,h',he,hd,ha,_,hR=>by
  have:dfs= []:=hd;subst this;rw[mY] at he;cases he;exact hR m w (Ext.refl m) ha
 |d::ds,dfs,hi,m,h,w,h',he,hd,ha,hl0,hR=>by
  refine⟨by simp,?_⟩;rcases hd with ⟨r,h1,h2,h3,h4,h5⟩|⟨g,args,rest,ys,rfl,h2,h3,h4⟩
  ·refine .inl ⟨r,_,h1,run_takeDeferred h4,?_⟩
   have hnl:=ha.rel.not_def h4;have ha2:=ha.dead (o:= .deferred none) hnl h2;refine leaves hD ds dfs r m h _ h' he ?_ ha2 hl0 hR
   have keep: ∀(ds:List Deferred) (hi:Nat) (dfs:Lh),hi<=r->jE m w w0.heap.size hi ds dfs->jE m (w.putObj r (.deferred none)) w0.heap.size hi ds dfs:=by
    intro ds
    induction ds with
    |nil=>exact λ_ _ _ h=>h
    |cons d ds ih=>
     intro hi dfs hle hd;rcases hd with ⟨r2,k1,k2,k3,k4,k5⟩|⟨g,args,rest,ys,k1,k2,k3,k4⟩
     ·exact .inl ⟨r2,k1,k2,k3,by rw[World.putObj_heap_other (by omega)];exact k4,ih r2 dfs (by omega) k5⟩
     ·exact .inr ⟨g,args,rest,ys,k1,k2,k3,ih hi rest hle k4⟩
   exact keep ds r dfs (eP _) h5
  ·right
   rw[xC] at he
   cases hg:p g with
   |none=>simp [hg] at he
   |some fn'=>
    simp only[hg] at he;split at he
    ·rename_i hnor
     cases hc:cl g args h with
     |none=>simp [hc] at he
     |some q=>
      obtain⟨v,hA⟩:=q;simp only[hc] at he;obtain⟨hent,hcall⟩:=hD g fn' args h v hA hc hg hnor m w (d.args++ys) .returning h3 ha.rel (ha.low hl0);refine⟨λhh=>by simp [Fence.wide] at hh,.func g,ys,g,d.args++ys,h2,?_,λ_ _=>trivial,?_⟩
      ·rw[h2];simp only[Go.invoke];exact jK hent
      ·refine CallsDIn.mono hcall (λe u' w' hh=>?_)
       obtain⟨rfl,x,m',rfl,_,hadv⟩:=hh;exact leaves hD ds rest hi m' hA w' h' he (jE.Bl ha.rel hadv ds hi rest h4) (ha.trans hadv) hl0
        (λm2 w2 he2 ha2=>hR m2 w2 (hadv.ext.trans he2) ha2)
    ·cases he
theorem Bk (hp:Ln P p)(hS:Sv P cl yl N)(hD:Te P p cl):qI P (pF p cl yl N):=by
 intro g args h v h' he;obtain⟨fn,F,pv,c,e,vars,dfs,h1,vs,hent,hg,hF,hb,hc,hrun,hee,hdfs,hres,rfl,hcr,hinit⟩:=rU hp he;refine⟨hent,λm w xs hx hr hl=>?_⟩;refine callsIn_of_wp_marks hF hb trivial (hS _ _ _ _ hc _ _ _ _ _ _ _ hrun m w _ none (hinit m xs hx) trivial hr hl _ ?_);intro a' w' m' ds hadv hv hds hdr _;have hd0:a'.defers=ds:=by simpa using hds
 have hlv:LeavesInM (Wf none) 0 P F a'.tmps (qL P m h w (tJ vs) h') ds .returning w':=by
  refine leaves hD ds dfs _ m' h1 w' h' hdfs hdr hadv hl (λm2 w2 he2 ha2=>?_);obtain⟨y,k1,k2⟩:=qJ ha2.rel (hv.mono he2) hcr hres;exact⟨y,k1,y,m2,rfl,k2,ha2⟩
 rcases hee with rfl|rfl
 ·show LeavesInM (Wf none) 0 P F a'.tmps _ a'.defers .returning w'
  rw[hd0];exact hlv
 ·show LeavesInM (Wf none) 0 P F a'.tmps _ a'.defers .returning w'
  rw[hd0];exact hlv
end
end Go.Ay
