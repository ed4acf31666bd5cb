/- What the abstract machine runs, the machine runs. -/
import Derived.Test.YtapfcpkecmmagaaGreatAy18
namespace Go.Ay
open Go
def Wy:E->Exit
 | .norm=> .normal
 | .ret=> .ret
 | .exit n=> .exit n
def UI (m:M)(rd rr:Option Nat):Prop:=
 match rd,rr with
 |none,none=>True
 |some id,some l=> ∃q,m id=some q/\q.1=l
 |_,_=>False
theorem UI.mono {m m':M}(e:Ext m m'){rd rr:Option Nat}(h:UI m rd rr):UI m' rd rr:=by
 cases rd<;>cases rr<;>try exact h
 obtain⟨q,h1,h2⟩:=h;exact⟨q,e _ _ h1,h2⟩
def BH (P:Program)(m:M)(h:H)(w:World)(nt:Nat)(pv:List Nat)(a:Act)(e:E)(vars':List V)(dfs:FC)(h':H)(Oh:Bool)(Q:Exit->Act->World->Prop):Prop:=
 ∀a' w' m' ds,iA P m h w m' h' w'->jB m' nt pv vars' a'.tmps->a'.defers=ds++a.defers->oE m' w' w.heap.size w'.heap.size ds dfs->(Oh=true->ds= [])->Q (Wy e) a' w'
def SX (P:Program)(cl yl:dP)(N:Nat):Prop:= ∀nt pv code c,jA P nt pv code=some c-> ∀rd vars h e vars' dfs h',run cl yl N rd c vars h=some (e,vars',dfs,h')->
 ∀m w a rr,jB m nt pv vars a.tmps->UI m rd rr->HR P m h w->Kc m h.next-> ∀Q,BH P m h w nt pv a e vars' dfs h' c.Oh Q->code.wpIn (Wf rr) 0 P Q a w
def QT (P:Program)(p:Nat->Option Fn)(cl:dP):Prop:= ∀g fn args h v h',cl g args h=some (v,h')->p g=some fn->fn.body.Oh=true-> ∀m w (xs:Array Value) u,fY m args xs.toList->HR P m h w->Kc m h.next->
 enters P g=true/\CallsDIn (Wf none) 0 P g xs u w λe u' w'=>u'=u/\zH P m h w v h' e w'
section
variable {P:Program} {p:Nat->Option Fn} {cl yl:dP} {N:Nat}
theorem Zr {s k:Nat}: ∀{l:List Nat},idx s l=some k->l[k]? =some s
 | [],h=>by simp [idx] at h
 |a::l,h=>by
  simp only[idx] at h
  by_cases h1:a=s
  ·simp [h1] at h;subst h;simp [h1]
  ·simp [h1] at h
   obtain⟨k',hk,rfl⟩:=h;simpa using Zr hk
theorem fY.getD {m:M}{vs:List V}{xs:List Value}(h:fY m vs xs){i:Nat}(hi:i<vs.length):VR m (vs.getD i .undef) (xs.getD i undef):=by
 obtain⟨x,h1,h2⟩:=h.get (iI hi);simp only[List.getD,h1,iI hi,Option.getD_some];exact h2
theorem Ao (hp:IN P p){g:Nat}{args:List V}{h h':H}{v:V}(he:xY p cl yl N g args h=some (v,h')):
  ∃fn F pv c e vars dfs h1 vs,enters P g=true/\p g=some fn/\P.funcs[g]? =some F/\F.body=some c/\jA P F.ntmps pv c=some fn.body/\run cl yl N none fn.body (zE fn args) h=some (e,vars,dfs,h1)/\(e= .norm∨e= .ret)/\
   yY p cl dfs h1=some h'/\bY (fn.results.map (yW vars h'))=some vs/\v=Dp vs/\bY (F.results.toList.map (Lf P pv))=some fn.results/\
   (∀m (xs:Array Value),fY m args xs.toList->jB m F.ntmps pv (zE fn args) (xs++Array.replicate (F.ntmps-xs.size) undef)):=by
 simp only[xY] at he
 cases hg:p g with
 |none=>simp [hg] at he
 |some fn=>
  simp only[hg] at he;obtain⟨pv,F,hF,hc,hent⟩:=hp g fn hg;unfold Oe at hc;split at hc
  ·cases hc
  ·rename_i c hb
   split at hc
   ·rename_i body results hbody hres
    split at hc
    ·rename_i hok
     cases hc;simp only[Bool.and_eq_true,decide_eq_true_eq] at hok;split at he
     ·rename_i hlen
      simp only at hlen
      have key: ∀m (xs:Array Value),fY m args xs.toList->jB m F.ntmps pv (zE {nargs:=F.params.size+F.nfree,init:=pv.map λt=>if t<F.params.size+F.nfree then some t else none,results,body} args) (xs++Array.replicate (F.ntmps-xs.size) undef):=by
       intro m xs hx;have hxl:=fY.length hx;simp only[Array.length_toList] at hxl;refine⟨by simp;omega,by simp [zE],λs hs=>by simpa using List.all_eq_true.1 hok.1 s hs,λs k hk=>?_⟩;have h1:=Zr hk;simp only[zE,List.map_map,List.getD,List.getElem?_map,h1,Option.map_some,Option.getD_some,Function.comp]
       by_cases hs:s<F.params.size+F.nfree
       ·simp only[hs,if_true]
        have:=fY.getD hx (i:=s) (by omega);simp only[Array.getD_eq_getD_getElem?];rw[Array.getElem?_append_left (by omega)];simpa [List.getD] using this
       ·simp only[hs,if_false]
        simp only[Array.getD_eq_getD_getElem?];rw[Array.getElem?_append_right (by omega),Array.getElem?_replicate];split<;>exact VR.undef m
      cases hr:run cl yl N none body (zE {nargs:=F.params.size+F.nfree,init:=pv.map λt=>if t<F.params.size+F.nfree then some t else none,results,body} args) h with
      |none=>simp [hr] at he
      |some q=>
       obtain⟨e,vars,dfs,h1⟩:=q;simp only[hr] at he
       have fin:(match yY p cl dfs h1 with|some h=>(bY (results.map (yW vars h))).map λvs=>(Dp vs,h)|none=>none)=some (v,h')-> ∃vs,yY p cl dfs h1=some h'/\bY (results.map (yW vars h'))=some vs/\v=Dp vs:=by
        intro he;split at he
        ·rename_i h2 hd
         simp only[kV] at he;obtain⟨vs,h3,h4⟩:=he;cases h4;exact⟨vs,hd,h3,rfl⟩
        ·cases he
       cases e with
       |norm=>
        obtain⟨vs,k1,k2,k3⟩:=fin he;exact⟨_,F,pv,c,.norm,vars,dfs,h1,vs,hent,rfl,hF,hb,hbody,hr,.inl rfl,k1,k2,k3,hres,key⟩
       |ret=>
        obtain⟨vs,k1,k2,k3⟩:=fin he;exact⟨_,F,pv,c,.ret,vars,dfs,h1,vs,hent,rfl,hF,hb,hbody,hr,.inr rfl,k1,k2,k3,hres,key⟩
       |exit n=>cases he
     ·cases he
    ·cases hc
   ·cases hc
theorem Vb (hp:IN P p)(hS:SX P cl yl N):QT P p (xY p cl yl N):=by
 intro g fn args h v h' he hg hn m w xs u hx hr hl;obtain⟨fn',F,pv,c,e,vars,dfs,h1,vs,hent,hg',hF,hb,hc,hrun,hee,hdfs,hres,rfl,hcr,hinit⟩:=Ao hp he;rw[hg] at hg';cases hg';refine⟨hent,callsDIn_of_wp hF hb trivial (hS _ _ _ _ hc _ _ _ _ _ _ _ hrun m w _ none (hinit m xs hx) trivial hr hl _ ?_)⟩;intro a' w' m' ds hadv hv hds hdr hnor;obtain rfl:=hnor hn;have hd0:dfs= []:=hdr;subst hd0;rw[uK] at hdfs;cases hdfs;obtain⟨y,k1,k2⟩:=zA hadv.rel hv hcr hres;have hd0:a'.defers= []:=by simpa using hds
 rcases hee with rfl|rfl
 ·exact⟨hd0,y,k1,y,m',rfl,k2,hadv⟩
 ·exact⟨hd0,y,k1,y,m',rfl,k2,hadv⟩
theorem leaves (hD:QT P p cl){fn:Func}{tmps:Array Value}{m0:M}{h0:H}{w0:World}{R:Ending->World->Prop}: ∀(ds:List Deferred) (dfs:FC) (hi:Nat) (m:M) (h:H) (w:World) (h':H),
  yY p cl dfs h=some h'->oE m w w0.heap.size hi ds dfs->iA P m0 h0 w0 m h w->Kc m0 h0.next->
  (∀m' w',Ext m m'->iA P m0 h0 w0 m' h' w'-> ∃v,(results fn tmps).run P w'= .ok v w'/\R (.returned v) w')->LeavesInM (Wf none) 0 P fn tmps R ds .returning w
 | [],dfs,hi,m,h,w,h',he,hd,ha,_,hR=>by
  have:dfs= []:=hd;subst this;rw[uK] at he;cases he;exact hR m w (Ext.refl m) ha
 |d::ds,dfs,hi,m,h,w,h',he,hd,ha,hl0,hR=>by
  refine⟨by simp,?_⟩;rcases hd with ⟨r,h1,h2,h3,h4,h5⟩|⟨g,args,rest,ys,rfl,h2,h3,h4⟩
  ·refine .inl ⟨r,_,h1,run_takeDeferred h4,?_⟩
   have hnl:=ha.rel.not_def h4;have ha2:=ha.dead (o:= .deferred none) hnl h2;refine leaves hD ds dfs r m h _ h' he ?_ ha2 hl0 hR
   have sN: ∀(ds:List Deferred) (hi:Nat) (dfs:FC),hi<=r->oE m w w0.heap.size hi ds dfs->oE m (w.putObj r (.deferred none)) w0.heap.size hi ds dfs:=by
    intro ds
    induction ds with
    |nil=>exact λ_ _ _ h=>h
    |cons d ds ih=>
     intro hi dfs hle hd;rcases hd with ⟨r2,k1,k2,k3,k4,k5⟩|⟨g,args,rest,ys,k1,k2,k3,k4⟩
     ·exact .inl ⟨r2,k1,k2,k3,by rw[World.putObj_heap_other (by omega)];exact k4,ih r2 dfs (by omega) k5⟩
     ·exact .inr ⟨g,args,rest,ys,k1,k2,k3,ih hi rest hle k4⟩
   exact sN ds r dfs (iL _) h5
  ·right
   rw[Jl] at he
   cases hg:p g with
   |none=>simp [hg] at he
   |some fn'=>
    simp only[hg] at he;split at he
    ·rename_i hnor
     cases hc:cl g args h with
     |none=>simp [hc] at he
     |some q=>
      obtain⟨v,hA⟩:=q;simp only[hc] at he;obtain⟨hent,hcall⟩:=hD g fn' args h v hA hc hg hnor m w (d.args++ys) .returning h3 ha.rel (ha.low hl0);refine⟨λhh=>by simp [Fence.wide] at hh,.func g,ys,g,d.args++ys,h2,?_,λ_ _=>trivial,?_⟩
      ·rw[h2];simp only[Go.invoke];exact oN hent
      ·refine CallsDIn.mono hcall (λe u' w' hh=>?_)
       obtain⟨rfl,x,m',rfl,_,hadv⟩:=hh;exact leaves hD ds rest hi m' hA w' h' he (oE.Se ha.rel hadv ds hi rest h4) (ha.trans hadv) hl0
        (λm2 w2 he2 ha2=>hR m2 w2 (hadv.ext.trans he2) ha2)
    ·cases he
theorem Tg (hp:IN P p)(hS:SX P cl yl N)(hD:QT P p cl):zG P (xY p cl yl N):=by
 intro g args h v h' he;obtain⟨fn,F,pv,c,e,vars,dfs,h1,vs,hent,hg,hF,hb,hc,hrun,hee,hdfs,hres,rfl,hcr,hinit⟩:=Ao hp he;refine⟨hent,λm w xs hx hr hl=>?_⟩;refine callsIn_of_wp_marks hF hb trivial (hS _ _ _ _ hc _ _ _ _ _ _ _ hrun m w _ none (hinit m xs hx) trivial hr hl _ ?_);intro a' w' m' ds hadv hv hds hdr _;have hd0:a'.defers=ds:=by simpa using hds
 have hlv:LeavesInM (Wf none) 0 P F a'.tmps (zH P m h w (Dp vs) h') ds .returning w':=by
  refine leaves hD ds dfs _ m' h1 w' h' hdfs hdr hadv hl (λm2 w2 he2 ha2=>?_);obtain⟨y,k1,k2⟩:=zA ha2.rel (hv.mono he2) hcr hres;exact⟨y,k1,y,m2,rfl,k2,ha2⟩
 rcases hee with rfl|rfl
 ·show LeavesInM (Wf none) 0 P F a'.tmps _ a'.defers .returning w'
  rw[hd0];exact hlv
 ·show LeavesInM (Wf none) 0 P F a'.tmps _ a'.defers .returning w'
  rw[hd0];exact hlv
end
end Go.Ay
