/- Texts of the claim. -/
import Derived.Test.YtcdbmkidaecdiaaGreatAy1toAy17
import Derived.ProofKit
import Derived.Carry
import Derived.Test.YtcdbmkidaecdiaaGreatChecked
import Derived.KernelRfl
import Derived.Sort.AssemblyPlain
set_option maxHeartbeats 32000000
set_option maxRecDepth 100000
namespace Go.Ay
open Go
section
variable {w:World} {lo nt:Nat} {m:M} {h:H} {pv:List Nat}
section
variable {P:Program} {p:Nat->Option Fn}
def tA (w:World)(lo:Nat):Nat->List Deferred->Prop
 |_, []=>True
 |hi,d::ds=> ∃r,d.target= .collected r/\lo<=r/\r<hi/\w.heap[r]? =some (.deferred (some []))/\tA w lo r ds
theorem tA.hi {w:World}{lo:Nat}:(ds:List Deferred)->(hi hi':Nat)->hi<=hi'->tA w lo hi ds->tA w lo hi' ds
 | [],_,_,_,_=>trivial
 |_::_,_,_,hle,⟨r,h1,h2,h3,h4⟩=>⟨r,h1,h2,om,h4⟩
theorem tA.append {a:Nat}(b:lo<=a):(ds ds':List Deferred)->(hi:Nat)->a<=hi->tA w a hi ds->tA w lo a ds'->tA w lo hi (ds++ds')
 | [],ds',hi,hle,_,h'=>tA.hi ds' a hi hle h'
 |_::ds,ds',_,_,⟨r,h1,h2,h3,h4,h5⟩,h'=>⟨r,h1,om,h3,h4,tA.append b ds ds' r h2 h5 h'⟩
theorem HR.not_def (i:HR P m h w){r:Nat}{x:Option (List Deferred)}(b:w.heap[r]? =some (.deferred x)): ¬LB m h r:=by
 rintro⟨id,o,q,h1,h2,rfl⟩;obtain⟨j,f,d⟩:=i.live id o h1;rw[h2] at f;cases f
 cases o with
 |cells ro vs=>have⟨c,el,fr,a,_⟩:=d;rw[b] at a;cases a
 |wmap sh es=>have⟨_,c,el,a,_⟩:=d;rw[b] at a;cases a
 |loop l=>have⟨c,a,_⟩:=d;rw[b] at a;cases a
theorem FP.lb {b:Nat}(a:FP m h b):LB m h b:=by
 have⟨i,o,q,c,_,d,f⟩:=a;exact⟨i,o,q,c,d,f⟩
theorem tA.Xx {d:M}{h':H}{w':World}(b:HR P m h w)(a:iZ P m h w d h' w'):(ds:List Deferred)->(hi:Nat)->tA w lo hi ds->tA w' lo hi ds
 | [],_,_=>trivial
 |_::ds,_,⟨r,h1,h2,h3,h4,h5⟩=>⟨r,h1,h2,h3,(a.kept.block r (Wq.1 h4).1 (λc=>b.not_def h4 c.lb)).trans h4,tA.Xx b a ds r h5⟩
theorem iZ.dead {j:M}{l:H}{f:World}(a:iZ P j l f m h w){r:Nat}{o:Obj}(u: ¬LB m h r)(s:f.heap.size<=r):iZ P j l f m h (w.putObj r o):=by
 have d: ∀b,b≠r->(w.putObj r o).heap[b]? =w.heap[b]? :=λb d=>World.putObj_heap_other d
 refine⟨a.ext,⟨λid k c=>?_,a.rel.inj⟩,a.fresh,⟨a.kept.os,a.kept.tape,a.kept.output,by simpa using a.kept.size,λb v t=>?_⟩,a.fp,a.next,a.lb,a.old⟩
 .obtain⟨q,i,n⟩:=a.rel.live id k c
  exact⟨q,i,OR.mono (Ext.refl m) (d q.1 (λe=>u ⟨id,k,q,c,i,e⟩)) n⟩
 .rw[d b om];exact a.kept.block b v t
theorem iZ.laid (d:HR P m h w)(o:Obj):iZ P m h w m h (w.alloc o):=by
 refine⟨Ext.refl m,⟨λid i a=>?_,d.inj⟩,λ_ _ h=> .inl h,⟨rfl,rfl,rfl,siM,λb j _=>heap_alloc_old w o _ j⟩,λ_ h=> .inl h,eU _,λ_ h=> .inl h,λ_ _ h=>h⟩;obtain⟨q,f,c⟩:=d.live id i a;exact⟨q,f,OR.mono (Ext.refl m) (heap_alloc_old w o _ c.lt) c⟩
def Jq (F:Fence)(n:Nat)(P:Program)(c:Code)(Q:Exit->Act->World->Prop)(a:Act)(w:World):Prop:=
 ∀(b:Frame) (k:List Item) (cs:List Frame),b.roundOf=F.round->F.fn b.fn->F.room (cs.length+1+n)->
  ∃e a' w',Q e a' w'/\ArrivesIn (Machine.fenced P F) P (lone (b.atR a (.code c:: .inLoop c::k)) cs w) b k cs e a' w'
theorem Jq.wp {F:Fence}{n:Nat}{c:Code}{Q:Exit->Act->World->Prop}{a:Act}(h:Jq F n P c Q a w):(Code.loop c).wpIn F n P Q a w:=by
 intro b k r f j i;obtain⟨e,q,o,l,d⟩:=h b k r f j i;exact⟨e,q,o,l,.of_steps (.one (fenced_calm j i rfl) stepR_loop) d⟩
theorem Jq.step {F:Fence}{n:Nat}{c:Code}{Q:Exit->Act->World->Prop}{a:Act}(h:c.wpIn F n P (Exit.then (Jq F n P c Q) Q) a w):Jq F n P c Q a w:=by
 intro b k z t y v;obtain⟨e,i,f,q,d⟩:=h b (.inLoop c::k) z t y v
 cases e with
 |normal=>
  obtain⟨r,s,u,o,j⟩:=q b k z t y v;exact⟨r,s,u,o,.of_steps (StepsIn.trans d (.one (fenced_calm y v rfl) stepR_inLoop)) j⟩
 |exit id=>exact⟨_,i,f,q,.pass (x:= .inLoop c) rfl (λ_ _=> .inl siM) d⟩
 |goto l=>exact⟨_,i,f,q,.pass (x:= .inLoop c) rfl (λ_ _=> .inl siM) d⟩
 |ret=>exact⟨_,i,f,q,.pass (x:= .inLoop c) rfl (λ_ _=> .inl siM) d⟩
 |panic ch=>exact⟨_,i,f,q,.pass (x:= .inLoop c) rfl (λ_ _=> .inl siM) d⟩
 |outgrown=>exact⟨_,i,f,q,.pass (x:= .inLoop c) rfl (λ_ _=> .inl siM) d⟩
def Qr (tmps:Array Value):ResultVar->Sem Value
 | .tmp t=>pure (tmps.getD t undef)
 | .cell a t=>do loadVar t (←asAddr (tmps.getD a undef))
theorem BN (a:Func)(tmps:Array Value):results a tmps=(do
  let vs ←a.results.mapM (Qr tmps)
  pure (if h:vs.size=1 then vs[0] else .tuple vs)):=rfl
theorem IE {a:List V}{tmps:Array Value}(v:HR P m h w)(o:jV m nt pv a tmps){j:ResultVar}{r:Rv}{u:V}(b:Wk P pv j=some r)(c:Er a h r=some u):
  ∃y,(Qr tmps j).run P w= .ok y w/\VR m u y:=by
 cases j with
 |tmp t=>
  simp only[Wk,oF] at b;obtain⟨k,i,rfl⟩:=b;simp only[Er] at c;cases c;exact⟨_,rfl,o.val t k i⟩
 |cell t ty=>
  simp only[Wk] at b;split at b
  .rename_i q x
   simp only[oF] at b;obtain⟨k,i,rfl⟩:=b;simp only[Er] at c;have f:=o.val t k i;obtain⟨A,s⟩:=BC (agg:=q.1) (n:=q.2) x;obtain⟨y,l,z⟩:=Td v A s f c
   cases hval:a.getD k V.undef with
   |ptr id off=>
    rw[hval] at f;have⟨B,_,d⟩:=f;refine⟨y,?_,z⟩;simp only[Qr];rw[d] at l |-;simpa [Instr.loadAt,Instr.sureAddr,asAddr] using l
   |_=>rw[hval] at c;simp [ldV] at c
  .cases b
theorem Jb {m:M}{w:World}{f:ResultVar->Sem Value}{g:Rv->Option V}{k:ResultVar->Option Rv}(i: ∀rv r u,k rv=some r->g r=some u-> ∃y,(f rv).run P w= .ok y w/\VR m u y):
  ∀(l:List ResultVar) (rs:List Rv) (us:List V),dP (l.map k)=some rs->dP (rs.map g)=some us-> ∃ys,(l.mapM f).run P w= .ok ys w/\iQ m us ys
 | [],rs,us,b,a=>by
  simp only[List.map_nil,dP] at b;cases b;simp only[List.map_nil,dP] at a;cases a;exact⟨[],rfl,trivial⟩
 |rv::l,rs,us,b,a=>by
  simp only[List.map_cons] at b
  cases hk:k rv with
  |none=>simp [hk,dP] at b
  |some r=>
   simp only[hk,dP,oF] at b;obtain⟨c,b,rfl⟩:=b;simp only[List.map_cons] at a
   cases hg:g r with
   |none=>simp [hg,dP] at a
   |some u=>
    simp only[hg,dP,oF] at a;obtain⟨d,a,rfl⟩:=a;obtain⟨y,j,q⟩:=i rv r u hk hg;obtain⟨ys,n,o⟩:=Jb i l c d b a;exact⟨y::ys,by simp [List.mapM_cons,j,n],q,o⟩
theorem Ls {a:List V}{tmps:Array Value}(l:HR P m h w)(j:jV m nt pv a tmps){d:Func}{rs:List Rv}{us:List V}
  (s:dP (d.results.toList.map (Wk P pv))=some rs) (k:dP (rs.map (Er a h))=some us): ∃y,(results d tmps).run P w= .ok y w/\VR m (Tx us) y:=by
 obtain⟨b,n,c⟩:=Jb (P:=P) (m:=m) (w:=w) (λt r u f q=>IE l j f q) d.results.toList rs us s k
 have i:=iQ.length c
 refine⟨if h:b.toArray.size=1 then b.toArray[0] else .tuple b.toArray,?_,?_⟩
 .rw[BN]
  have o:(d.results.mapM (Qr tmps)).run P w= .ok b.toArray w:=by
   rw[Array.mapM_eq_mapM_toList];simp [n]
  simp only[Sem.run_bind,o,Result.andThen,Sem.run_pure]
 .match us,b,c,i with
  | [], [],_,_=>exact⟨#[],rfl,trivial⟩
  | [u], [y],c,_=>exact c.1
  |u::u2::us,y::y2::b,c,_=>exact⟨_,rfl,c⟩
theorem zJ {l:Nat}{q:Loop}(h:w.heap[l]? =some (.loop q))(fn:FuncId)(tmps:Array Value)(ps:Array Tmp)(assign body:Code):
  (Instr.enterLoop fn tmps ps assign body (some l)).run P w=
   .ok (w.heap.size, []) (w.alloc (.loop {state:= .ready,pending:=none,fn,tmps,params:=ps,assign,body,defers:=q.defers})):=by
 unfold Instr.enterLoop
 simp only[Sem.run_bind,run_getLoop h,run_newObj_alloc,Result.andThen,Sem.run_pure]
theorem Ux {m:M}{nt:Nat}{pv:List Nat}:(ps:List Tmp)->(ks:List Nat)->(args:List V)->(xs:List Value)->(vars:List V)->(tmps:Array Value)->dP (ps.map λt=>idx t pv)=some ks->iQ m args xs->jV m nt pv vars tmps->
  jV m nt pv ((ks.zip args).foldl (λvs q=>vs.set q.1 q.2) vars) ((ps.zip xs).foldl (λtmps (t,a)=>tmps.setIfInBounds t a) tmps)
 | [],ks,args,xs,vars,tmps,h,_,hv=>by simp only[List.map_nil,dP] at h;cases h;simpa using hv
 |t::ps,ks,args,xs,vars,tmps,h,ha,hv=>by
  simp only[List.map_cons] at h
  cases hi:idx t pv with
  |none=>simp [hi,dP] at h
  |some k=>
   simp only[hi,dP,oF] at h;obtain⟨b,h,rfl⟩:=h
   match args,xs,ha with
   | [], [],_=>simpa using hv
   |u::args,x::xs,ha=>
    simp only[List.zip_cons_cons,List.foldl_cons]
    exact Ux ps b args xs _ _ h ha.2 (hv.set hi ha.1)
end
end
end Go.Ay
namespace Go.Ay
open Go
def Zv:E->Exit
 | .norm=> .normal
 | .ret=> .ret
 | .exit n=> .exit n
def RdR (m:M)(rd rr:Option Nat):Prop:=
 match rd,rr with
 |none,none=>True
 |some id,some l=> ∃q,m id=some q/\q.1=l
 |_,_=>False
theorem RdR.mono {m a:M}(e:Ext m a){rd rr:Option Nat}(h:RdR m rd rr):RdR a rd rr:=by
 cases rd<;>cases rr<;>try exact h
 have⟨q,b,c⟩:=h;exact⟨q,e _ _ b,c⟩
def HH (P:Program)(m:M)(h:H)(w:World)(nt:Nat)(pv:List Nat)(a:Act)(e:E)(vars':List V)(h':H)(Q:Exit->Act->World->Prop):Prop:=
 ∀a' w' m' ds,iZ P m h w m' h' w'->jV m' nt pv vars' a'.tmps->a'.defers=ds++a.defers->tA w' w.heap.size w'.heap.size ds->Q (Zv e) a' w'
def acP (P:Program)(cl yl:lJ)(N:Nat):Prop:= ∀nt pv code c,kU P nt pv code=some c-> ∀rd vars h e vars' h',run cl yl N rd c vars h=some (e,vars',h')->
 ∀m w a rr,jV m nt pv vars a.tmps->RdR m rd rr->HR P m h w->Lg m h.next-> ∀Q,HH P m h w nt pv a e vars' h' Q->code.wpIn (Wf rr) 0 P Q a w
section
variable {P:Program} {p:Nat->Option Fn} {cl yl:lJ} {N:Nat}
theorem DZ {s k:Nat}:{l:List Nat}->idx s l=some k->l[k]? =some s
 | [],h=>by simp [idx] at h
 |a::l,h=>by
  simp only[idx] at h
  by_cases b:a=s
  .simp [b] at h;subst h;simp [b]
  .simp [b] at h
   obtain⟨d,c,rfl⟩:=h;simpa using DZ c
theorem iQ.getD {m:M}{vs:List V}{xs:List Value}(h:iQ m vs xs){i:Nat}(hi:i<vs.length):VR m (vs.getD i .undef) (xs.getD i undef):=by
 obtain⟨x,a,b⟩:=h.get (dC hi);simp only[List.getD,a,dC hi,Option.getD_some];exact b
theorem leaves {f:Func}{tmps:Array Value}{c:M}{i h:H}{a:World}{R:Ending->World->Prop}:(ds:List Deferred)->(hi:Nat)->(m:M)->(w:World)->tA w a.heap.size hi ds->iZ P c i a m h w->
  (∀w',iZ P c i a m h w'-> ∃v,(results f tmps).run P w'= .ok v w'/\R (.returned v) w')->LeavesInM (Wf none) 0 P f tmps R ds .returning w
 | [],hi,m,w,_,ha,hR=>hR w ha
 |d::ds,hi,m,w,⟨r,h1,h2,h3,h4,h5⟩,ha,hR=>by
  refine⟨siM,.inl ⟨r,_,h1,run_takeDeferred h4,leaves ds r m _ ?_ (ha.dead (o:= .deferred none) (ha.rel.not_def h4) h2) hR⟩⟩
  have qX:(ds:List Deferred)->(hi:Nat)->hi<=r->tA w a.heap.size hi ds->tA (w.putObj r (.deferred none)) a.heap.size hi ds:=by
   intro ds
   induction ds with
   |nil=>exact λ_ _ _=>trivial
   |cons d ds ih=>exact λhi j ⟨b,k1,k2,k3,k4,k5⟩=>⟨b,k1,k2,k3,by rw[World.putObj_heap_other om];exact k4,ih b om k5⟩
  exact qX ds r (eU _) h5
theorem Ut (hp:POk P p)(hS:acP P cl yl N):Dt P (My p cl yl N):=by
 intro g b h v h' a;simp only[My] at a
 cases hg:p g with
 |none=>simp [hg] at a
 |some fn=>
  simp only[hg] at a;rcases hp g fn hg with ⟨j,ha⟩|⟨pv,F,hF,d,l⟩
  .rw[j,bL rfl] at a;exact ha _ _ _ _ a
  unfold AD at d;split at d
  .cases d
  .rename_i c hb
   split at d
   .rename_i body results f L
    split at d
    .rename_i z
     cases d;simp only[rG,decide_eq_true_eq] at z;rw[bV siM] at a;split at a
     .rename_i o
      simp only at o;refine⟨l,λm w xs Y hr hl=>?_⟩
      have J:jV m F.ntmps pv (qP {nargs:=F.params.size+F.nfree,init:=pv.map λt=>if t<F.params.size+F.nfree then some t else none,results,body} b) (xs++Array.replicate (F.ntmps-xs.size) undef):=by
       have A:=iQ.length Y;simp only[Array.length_toList] at A;refine⟨siO,by simp [qP],λs j=>by simpa using vE.1 z.1 s j,λs k hk=>?_⟩;have U:=DZ hk;simp only[qP,List.map_map,List.getD,Jj,U,Option.map_some,Option.getD_some,Function.comp]
       by_cases j:s<F.params.size+F.nfree
       .simp only[j,if_true]
        have:=iQ.getD Y (i:=s) om;simp only[KN];rw[Array.getElem?_append_left om];simpa [List.getD] using this
       .simp only[j,if_false]
        simp only[KN];rw[Array.getElem?_append_right om,Array.getElem?_replicate];split<;>exact VR.undef m
      cases hrun:run cl yl N none body (qP {nargs:=F.params.size+F.nfree,init:=pv.map λt=>if t<F.params.size+F.nfree then some t else none,results,body} b) h with
      |none=>simp [hrun] at a
      |some q=>
       have⟨e,R,U⟩:=q;simp only[hrun] at a
       cases e with
       |exit n=>cases a
       |_=>
        simp only[oF] at a;have⟨vs,u,a⟩:=a;cases a;refine callsIn_of_wp_marks hF hb trivial (hS _ _ _ _ f _ _ _ _ _ _ hrun m w _ none J trivial hr hl _ λG Q Z W r hv B K=>?_);have O:G.defers=W:=by simpa using B
        show LeavesInM (Wf none) 0 P F G.tmps _ G.defers .returning Q;rw[O];exact leaves W _ Z Q K r λw2 x=>let ⟨y,k1,k2⟩:=Ls x.rel hv L u;⟨y,k1,y,Z,rfl,k2,x⟩
     .cases a
    .cases d
   .cases d
end
end Go.Ay
namespace Go.Ay
open Go
section
variable {m:M} {h:H} {w:World}
section
variable {P:Program} {p:Nat->Option Fn} {cl yl:lJ} {N:Nat}
theorem yC (j:HR P m h w)(i:Lg m h.next){id:Nat}{r r':fR}{q:Nat×Nat×Nat}{L L':Loop}(d:h.get id=some (.loop r))(f:m id=some q)(l:w.heap[q.1]? =some (.loop L))(a:Yt P m r' L'):
  iZ P m h w m (h.set id (some (.loop r'))) (w.putObj q.1 (.loop L')):=by
 have c:=(Wq.1 l).1
 exact iZ.put j i.fresh d rfl rfl f ⟨L',World.putObj_heap_same c,a⟩ rfl rfl rfl siM (λb k=>World.putObj_heap_other k)
theorem Cz (f:HR P m h w){id:Nat}{r:fR}{q:Nat×Nat×Nat}(b:h.get id=some (.loop r))(c:m id=some q): ∃L,w.heap[q.1]? =some (.loop L)/\Yt P m r L:=by
 obtain⟨i,a,d⟩:=f.live id _ b;rw[c] at a;cases a;exact d
theorem Rf (hS:acP P cl yl N):yT P (Jr cl yl N):=by
 intro id a8 h v h' f m w xs q hx hr F hq;simp only[Jr] at f;split at f
 .rename_i r a0
  split at f
  .rename_i a7
   obtain⟨L,hL,K⟩:=Cz hr a0 hq;have⟨⟨nt,pv,hv,Z,a4,Q⟩,jE,W,b1⟩:=K
   have B:xs.size=L.params.size:=by
    have h1:=(jA Q).1;have h2:=iQ.length hx;simp at h1 h2;omega
   refine⟨_,_,_,_,run_yield hL B,roundIn_of_wpIn trivial ?_⟩;have A:=Ux _ _ _ _ _ _ Q hx hv
   have a2:(L.params.zip xs).foldl (λi (x:Tmp×Value)=>i.setIfInBounds x.1 x.2) L.tmps=(L.params.toList.zip xs.toList).foldl (λi (x:Tmp×Value)=>i.setIfInBounds x.1 x.2) L.tmps:=by
    rw[<-Array.foldl_toList,Array.toList_zip]
   split at f
   .rename_i U h2 G
    refine hS nt pv _ _ Z _ _ _ _ _ _ G m w ⟨_, []⟩ (some q.1) ?_ ⟨q,hq,rfl⟩ hr F _ ?_
    .show jV m nt pv _ ((L.params.zip xs).foldl (λi (x:Tmp×Value)=>i.setIfInBounds x.1 x.2) L.tmps)
     rw[a2];exact A
    .intro a1 w1 m1 a9 a a5 _ _
     have t:=a.ext _ _ hq;split at f
     .rename_i r2 u
      split at f
      .rename_i J
       obtain⟨L2,R,d⟩:=Cz a.rel u t
       have y:Yt P m1 {r2 with st:= .busy} {L2 with state:= .busy}:=⟨d.vars,rfl,d.pend,d.nn⟩
       have k:=yC a.rel (a.low F) u t R y;have O:L2.state= .ready:=by rw[d.st,J];rfl
       refine⟨_,run_beginRound R O,?_⟩;split at f
       .rename_i e a6 h3 z
        refine hS nt pv _ _ a4 _ _ _ _ _ _ z m1 _ a1 (some q.1) a5 ⟨q,t,rfl⟩ k.rel (k.low (a.low F)) _ ?_;intro a3 w3 Y b0 b _ _ _;have s:=b.ext _ _ t;have c:=(a.trans k).trans b;split at f
        .rename_i r3 l
         obtain⟨L3,o,j⟩:=Cz b.rel l s
         cases e with
         |norm=>
          cases f;exact⟨_,_,run_endRound none o,_,Y,rfl,rfl,c.trans (yC b.rel (c.low F) l s o ⟨j.vars,rfl,rfl,siM⟩)⟩
         |ret=>
          cases f;exact⟨_,_,run_endRound (some .ret) o,_,Y,rfl,rfl,c.trans (yC b.rel (c.low F) l s o ⟨j.vars,rfl,rfl,siM⟩)⟩
         |exit n=>
          cases f;exact⟨_,_,run_endRound (some (.exit n)) o,_,Y,rfl,rfl,c.trans (yC b.rel (c.low F) l s o ⟨j.vars,rfl,rfl,siM⟩)⟩
        .cases f
       .cases f
      .cases f
     .cases f
   .cases f
  .cases f
 .cases f
theorem PT (hC:Dt P cl){rd rr:Option Nat}{h':H}{nt:Nat}{pv:List Nat}{vars:List V}{a:Act}{g:Nat}{fs cs:List V}{v:V}{pars:List Nat}{aQ_ bd:C}{x:X}{fo:Operand}{ps:Array Tmp}{z A:Code}
  (hv:jV m nt pv vars a.tmps) (a0:RdR m rd rr) (hr:HR P m h w) (hl:Lg m h.next) (hx:iM pv [] fo=some x) (b5:xv vars [] x= .fn g fs cs) (c1:dP (ps.toList.map λt=>idx t pv)=some pars)
  (b3:kU P nt pv z=some aQ_) (b7:kU P nt pv A=some bd) (a2:IP rd h=true)
  (he:cl g (fs++ .yl h.next::cs) (h.new (.loop {vars,pars,assign:=aQ_,body:=bd,st:= .ready,pend:=none}))=some (v,h')) {r:fR} (a6:h'.get h.next=some (.loop r)) (W:r.st≠ .busy)
  {Q:Exit->Act->World->Prop} (hQ:HH P m h w nt pv a (r.pend.getD .norm) vars (h'.set h.next (some (.loop {r with st:= .out}))) Q):(Code.rangeFunc fo ps z A).wpIn (Wf rr) 0 P Q a w:=by
 refine wpIn_rangeFunc (λfn _=>?_)
 have a5:=aT (s:=(⟨hv,zU.nil ..⟩:St m nt pv [] vars [] a)) hx
 rw[b5] at a5
 have⟨xs,ys,b8,h1,h2⟩:=a5
 have c0: ∃(l:Nat) (j:List Deferred) (f u:World) (dd:Nat),(Instr.enterLoop fn a.tmps ps z A rr).run P w= .ok (l,j) f/\iZ P m h w m h u/\l=u.heap.size/\
   f=u.alloc (.loop {state:= .ready,pending:=none,fn,tmps:=a.tmps,params:=ps,assign:=z,body:=A,defers:=dd})/\
   (j= []\/ ∃d:Deferred,j= [d]/\d.target= .collected w.heap.size/\u.heap.size=w.heap.size+1/\u.heap[w.heap.size]? =some (.deferred (some []))):=by
  cases rd with
  |none=>
   cases rr with
   |none=>
    exact⟨_,_,_,w.alloc (.deferred (some [])),w.heap.size,run_enterLoop_outer fn a.tmps ps z A,iZ.laid hr _,siM,rfl,.inr ⟨_,rfl,rfl,siM,heap_alloc_new w _⟩⟩
   |some l=>exact a0.elim
  |some id=>
   cases rr with
   |none=>exact a0.elim
   |some l=>
    obtain⟨q,hq,rfl⟩:=a0;simp only[IP] at a2;split at a2
    .rename_i r0 a7
     obtain⟨L0,b6,_⟩:=Cz hr a7 hq;exact⟨_,_,_,w,L0.defers,zJ b6 fn a.tmps ps z A,iZ.Mo hr,rfl,rfl,.inl rfl⟩
    .cases a2
 have⟨l,j,f,u,dd,a4,o,b0,b4,Z⟩:=c0
 subst b0
 have F:=o.low hl
 have b:=iZ.new o.rel F.fresh (.loop {vars,pars,assign:=aQ_,body:=bd,st:= .ready,pend:=none})
  (.loop {state:= .ready,pending:=none,fn,tmps:=a.tmps,params:=ps,assign:=z,body:=A,defers:=dd}) (0,0)
  (λm' e _=>⟨_,heap_alloc_new u _,⟨⟨nt,pv,hv.mono e,b3,b7,c1⟩,rfl,rfl,siM⟩⟩)
 rw[<-b4] at b
 have a3:=b.low F
 have a1:iQ (m.set h.next (u.heap.size,0,0)) (fs++ .yl h.next::cs) (xs++ #[Value.func (.yield u.heap.size) #[] #[]]++ys).toList:=by
  have e1:=iQ.mono b.ext _ _ h1;have e2:=iQ.mono b.ext _ _ h2
  have e3:iQ (m.set h.next (u.heap.size,0,0)) (.yl h.next::cs) (.func (.yield u.heap.size) #[] #[]::ys.toList):=⟨⟨_,M.oY ..,rfl⟩,e2⟩
  have:=e1.append e3;simpa using this
 have Y:=(hC _ _ _ _ _ he).2 _ f _ a1 b.rel a3
 refine⟨u.heap.size,j,f,{target:= .fn (.func g) ys,args:=xs++ #[Value.func (.yield u.heap.size) #[] #[]]},f,g,xs++ #[Value.func (.yield u.heap.size) #[] #[]]++ys,f,a4,?_,λ_ _=>trivial,?_,λhh=>by simp [Fence.wide] at hh,?_⟩
 .have b9:a.eval (.const (.func (.yield u.heap.size) #[] #[]))= .func (.yield u.heap.size) #[] #[]:=rfl
  simp [resolve,rangeCall,b8,Deferred.ofValue,b9]
 .simp only[Go.invoke];exact Bc (hC _ _ _ _ _ he).1
 .have K:CallsIn (Wf rr) 0 P g (xs++ #[Value.func (.yield u.heap.size) #[] #[]]++ys) f (zV P _ _ f v h'):=Y
  refine CallsIn.mono K (λe w2 hh=>?_)
  obtain⟨y,m2,rfl,_,i⟩:=hh
  have a9:=i.ext _ _ (M.oY m h.next (u.heap.size,0,0))
  obtain⟨L,hL,k⟩:=Cz i.rel a6 a9
  have jE:L.state≠ .busy:=by
   rw[k.st];cases hs:r.st<;>simp [agK];exact W hs
  have R:=(o.trans b).trans i
  have B:=yC i.rel (R.low hl) a6 a9 hL (r':={r with st:= .out}) (L':={L with state:= .exhausted}) ⟨k.vars,rfl,k.pend,k.nn⟩
  refine⟨L.pending,_,run_endLoop hL jE,?_⟩
  have O:=R.trans B
  have hq:=hQ {a with defers:=j++a.defers} _ m2 j O (hv.mono O.ext) rfl ?_
  .have G:=k.pend
   have a8:=k.nn
   cases hpe:r.pend with
   |none=>
    rw[hpe] at hq G;split
    .exact hq
    .rename_i c J;rw[G] at J;cases J
   |some e=>
    rw[hpe] at hq G;split
    .rename_i J
     rw[G] at J
     cases e with
     |norm=>exact absurd hpe a8
     |ret=>cases J
     |exit n=>cases J
    .rename_i c J
     rw[G] at J
     cases e with
     |norm=>exact absurd hpe a8
     |ret=>cases J;exact wpIn_ret hq
     |exit n=>cases J;exact wpIn_exit hq
  .rcases Z with rfl|⟨d,rfl,hd,c2,U⟩
   .trivial
   .refine⟨w.heap.size,hd,eU _,?_,?_,trivial⟩
    .have k1:=b.kept.size
     have k2:=i.kept.size
     have k3:=B.kept.size
     omega
    .have b1:f.heap[w.heap.size]? =some (.deferred (some [])):=(b.kept.block _ om (λhf=>o.rel.not_def U hf.lb)).trans U
     have b2:w2.heap[w.heap.size]? =some (.deferred (some [])):=(i.kept.block _ (Wq.1 b1).1 (λhf=>b.rel.not_def b1 hf.lb)).trans b1
     exact (B.kept.block _ (Wq.1 b2).1 (λhf=>i.rel.not_def b2 hf.lb)).trans b2
end
end
end Go.Ay
namespace Go.Ay
open Go
section
variable {P:Program} {p:Nat->Option Fn} {cl yl:lJ} {N:Nat}
theorem HH.still {m:M}{h:H}{w:World}{nt:Nat}{pv:List Nat}{a:Act}{e:E}{b:List V}{Q:Exit->Act->World->Prop}(f:HH P m h w nt pv a e b h Q)
  (d:HR P m h w) (c:jV m nt pv b a.tmps):Q (Zv e) a w:=f a w m [] (iZ.Mo d) c siM trivial
theorem YZ {nt:Nat}{pv:List Nat}{x:Code}{k:C}{rd rr:Option Nat}
  (K: ∀vars h e vars' h',run cl yl N rd k vars h=some (e,vars',h')-> ∀m w a,jV m nt pv vars a.tmps->RdR m rd rr->HR P m h w->Lg m h.next-> ∀Q,HH P m h w nt pv a e vars' h' Q->x.wpIn (Wf rr) 0 P Q a w):
  ∀n vars h e vars' h',Jz (run cl yl N rd k) n vars h=some (e,vars',h')-> ∀m w a,jV m nt pv vars a.tmps->RdR m rd rr->HR P m h w->Lg m h.next-> ∀Q,HH P m h w nt pv a e vars' h' Q->
   Jq (Wf rr) 0 P x Q a w:=by
 intro n
 induction n with
 |zero=>intro vars h e vars' h' d;cases d
 |succ n ih=>
  intro vars h e vars' h' d m w a O f G t Q s;rw[Jz] at d;refine Jq.step ?_
  cases hra:run cl yl N rd k vars h with
  |none=>simp [hra] at d
  |some q=>
   have⟨L,j,W⟩:=q;simp only[hra] at d;refine K _ _ _ _ _ hra m w a O f G t _ λz o v b c u r y=>?_
   cases L with
   |norm=>
    exact ih _ _ _ _ _ d v o z u (f.mono c.ext) c.rel (c.low t) _ λR U A i l F J B=>
     s R U A (i++b) (c.trans l) F (by rw[J,r,pJ]) (tA.append c.kept.size i b _ l.kept.size B (tA.Xx c.rel l b _ y))
   |_=>cases d;exact s z o v b c u r y
theorem RC (hm:P.follows .mixedOrders=true)(O:Dt P cl)(a5:yT P yl):acP P cl yl N:=by
 intro nt pv a3
 induction a3 with
 |skip=>
  intro c f rd vars h e d A b m w a rr k i o t Q j;simp only[kU] at f;cases f;rw[run] at b;cases b;exact wpIn_skip (j.still o k)
 |label l=>
  intro c f rd vars h e d A b m w a rr k i o t Q j;simp only[kU] at f;cases f;rw[run] at b;cases b;exact wpIn_label (j.still o k)
 |region id ops draw=>
  intro c f rd vars h e d A b m w a rr k i o t Q j;simp only[kU] at f;split at f
  .rename_i hd
   subst hd;obtain⟨b9,xs,rfl,a6,hP⟩:=Pw f;rw[run] at b;split at b
   .rename_i vs h2 W
    cases b;exact adC hm O a5 a6 hP W k o t (λa' w' m' U e2 e3=>j a' w' m' [] e3 U (by simpa using e2) trivial)
   .cases b
  .rename_i hd
   have hd:draw=false:=by simpa using hd
   subst hd;simp only[oF] at f;obtain⟨b7,a0,rfl⟩:=f;rw[run] at b;split at b
   .rename_i a7 h2 W
    cases b;refine wpIn_region ?_;have:=acL (r:=rr) (Q:=Q) O a5 [] _ [] b7 vars [] h d A a0 W m w a ⟨k,zU.nil ..⟩ o t (λa' w' m' U e2 e3=>j a' w' m' [] e3 U (by simpa using e2) trivial);simpa using this
   .cases b
 |seq x y ihx ihy=>
  intro c f rd vars h e d A b m w a rr k i o t Q j;simp only[kU,zA,uW] at f;have⟨B,u,cy,G,f⟩:=f;cases f;rw[run] at b;refine wpIn_seq ?_
  cases hra:run cl yl N rd B vars h with
  |none=>simp [hra] at b
  |some q=>
   have⟨U,K,h1⟩:=q;simp only[hra] at b;refine ihx B u _ _ _ _ _ _ hra m w a rr k i o t _ λa1 w1 Z z F b2 Y b4=>?_
   cases U with
   |norm=>
    exact ihy cy G _ _ _ _ _ _ b Z w1 a1 rr b2 (i.mono F.ext) F.rel (F.low t) _ λa2 w2 m2 a4 c1 c2 c3 c4=>
     j a2 w2 m2 (a4++z) (F.trans c1) c2 (by rw[c3,Y,pJ]) (tA.append F.kept.size a4 z _ c1.kept.size c4 (tA.Xx F.rel c1 z _ b4))
   |_=>cases b;exact j a1 w1 Z z F b2 Y b4
 |cond c x y ihx ihy=>
  intro c' f rd vars h e d A b m w a rr k i o t Q j;simp only[kU,zA,uW] at f;have⟨cc,b6,B,u,cy,G,f⟩:=f;cases f;rw[run] at b;have J:=aT (s:=(⟨k,zU.nil ..⟩:St m nt pv [] vars [] a)) b6;split at b
  .rename_i L
   rw[L] at J;exact wpIn_cond_true J (ihx B u _ _ _ _ _ _ b m w a rr k i o t _ j)
  .rename_i L
   rw[L] at J;exact wpIn_cond_false J (ihy cy G _ _ _ _ _ _ b m w a rr k i o t _ j)
  .cases b
 |block id x ihx=>
  intro c f rd vars h e d A b m w a rr k i o t Q j;simp only[kU,zA,uW] at f;have⟨B,u,f⟩:=f;cases f;rw[run] at b;refine wpIn_block ?_
  cases hra:run cl yl N rd B vars h with
  |none=>simp [hra] at b
  |some q=>
   have⟨U,K,h1⟩:=q;simp only[hra] at b;refine ihx B u _ _ _ _ _ _ hra m w a rr k i o t _ λa1 w1 Z z F b2 Y b4=>?_
   cases U with
   |exit n=>
    simp only at b;simp only[Zv,Exit.inBlock];split at b
    .rename_i hn
     cases b;rw[bL hn];exact j a1 w1 Z z F b2 Y b4
    .rename_i hn
     cases b;rw[bV hn];exact j a1 w1 Z z F b2 Y b4
   |_=>cases b;exact j a1 w1 Z z F b2 Y b4
 |loop x ihx=>
  intro c f rd vars h e d A b m w a rr k i o t Q j;simp only[kU,zA,uW] at f;have⟨B,u,f⟩:=f;cases f;rw[run] at b;exact (YZ (rr:=rr) (λvars h e d A b m w a k i o t Q j=>ihx B u rd vars h e d A b m w a rr k i o t Q j) N _ _ _ _ _ b m w a k i o t Q j).wp
 |exit n=>
  intro c f rd vars h e d A b m w a rr k i o t Q j;simp only[kU] at f;cases f;rw[run] at b;cases b;exact wpIn_exit (j.still o k)
 |ret=>
  intro c f rd vars h e d A b m w a rr k i o t Q j;simp only[kU] at f;cases f;rw[run] at b;cases b;exact wpIn_ret (j.still o k)
 |rangeFunc g ps x y ihx ihy=>
  intro c f rd vars h e d A b m w a rr k i o t Q j;simp only[kU,zA,uW] at f;have⟨cg,a8,pars,R,B,u,cy,G,f⟩:=f;cases f;rw[run] at b;split at b
  .rename_i gf fs cs a9
   generalize b8:IP rd h=b5 at b
   cases b5 with
   |false=>simp at b
   |true=>
    simp only[if_true] at b
    cases hcall:cl gf (fs++ .yl h.next::cs) (h.new (.loop {vars,pars,assign:=B,body:=cy,st:= .ready,pend:=none})) with
    |none=>simp [hcall] at b
    |some q=>
     have⟨v,hA⟩:=q;simp only[hcall] at b;split at b
     .rename_i r b0
      by_cases L:r.st= .busy
      .simp [L] at b
      .simp only[L,if_false] at b
       cases b;exact PT O k i o t a8 a9 R u G b8 hcall b0 L j
     .cases b
  .cases b
 |_=>intro c f;simp [kU] at f
theorem sound (a:P.follows .mixedOrders=true)(c:POk P p): ∀f,Dt P (mV p f).1/\yT P (mV p f).2
 |0=>⟨λ_ _ _ _ _ b=>(nomatch b),λ_ _ _ _ _ b=>(nomatch b)⟩
 |f+1=>let ⟨h1,h2⟩:=sound a c f;⟨Ut c (RC a h1 h2),Rf (RC a h1 h2)⟩
theorem Sx (b:P.follows .mixedOrders=true)(a:POk P p){f g:Nat}{args:List V}{h h':H}{v:V}(c:(mV p f).1 g args h=some (v,h')){m:M}{w:World}{xs:Array Value}(i:iQ m args xs.toList)(j:HR P m h w)(d:Lg m h.next):
  Calls P g xs w (zV P m h w v h'):=
 callsIn_wide.1 (((sound b a f).1 g args h v h' c).2 m w xs i j d)
end
end Go.Ay
namespace Go.Ay
open Go Go.RowKit Go.WideShapes Go.ChangeShapes Go.ChangeAt
section
variable {P:Program}
def H.mX (os:List Ob):H:=os.foldl H.new ⟨lf,0⟩
theorem Fj:(os:List Ob)->(h:H)->(os.foldl H.new h).next=h.next+os.length/\ ∀k,(os.foldl H.new h).get k=if k<h.next then h.get k else if h.next+os.length<=k then h.get k else os[k-h.next]?
 | [],h=>⟨rfl,λk=>by
  simp only[List.foldl_nil,List.length_nil,Nat.add_zero]
  by_cases c:k<h.next
  .rw[bL c]
  .rw[bV c,bL om]⟩
 |o::os,h=>by
  obtain⟨f,i⟩:=Fj os (h.new o);refine⟨by rw[List.foldl_cons,f,H.aZ,List.length_cons];omega,λk=>?_⟩;rw[List.foldl_cons,i,H.aZ,H.kG]
  by_cases b:k<h.next
  .rw[bL om,bV om,bL b]
  .rw[bV b]
   by_cases a:k=h.next
   .subst a
    rw[bL om,bL rfl,bV siM];simp
   .rw[bV om]
    by_cases d:h.next+1+os.length<=k
    .rw[bL d,bV a,bL siO]
    .rw[bV d,bV siO]
     rw[show k-h.next=(k-(h.next+1))+1 by omega,List.getElem?_cons_succ]
theorem qC (a:List Ob):(H.mX a).next=a.length:=by
 rw[H.mX,(Fj a _).1];exact Nat.zero_add _
theorem pW (a:List Ob)(k:Nat):(H.mX a).get k=a[k]? :=by
 rw[H.mX,(Fj a _).2];rw[bV (Nat.not_lt_zero _)]
 by_cases h:a.length<=k
 .have:(H.get ⟨lf,0⟩ k)=none:=rfl
  rw[bL (show 0+a.length<=k by omega),this,List.getElem?_eq_none h]
 .rw[bV (show ¬0+a.length<=k by omega)];rfl
theorem LZ {w:World}{b:List Ob}{ps:List (Nat×Nat×Nat)}(k:b.length=ps.length)(h:(i:Nat)->(o:Ob)->(p:Nat×Nat×Nat)->b[i]? =some o->ps[i]? =some p->o.rw=false/\OR P (λ(id:Nat)=>ps[id]?) o p w):
  HR P (λ(id:Nat)=>ps[id]?) (H.mX b) w/\Lg (λ(id:Nat)=>ps[id]?) (H.mX b).next:=by
 refine⟨⟨λid o d=>?_,λi j m s n q l hi r a _ _=>?_⟩,λid f=>?_⟩
 .rw[pW] at d
  have c:=(rW.1 d).1
  exact⟨ps[id]'om,dC _,(h id o _ d (dC om)).2⟩
 .rw[pW] at hi
  have c:=(rW.1 hi).1
  rw[(h i m _ hi (dC om)).1] at a
  cases a
 .rw[qC] at f
  exact List.getElem?_eq_none om
theorem iZ.below {m f:M}{h h':H}{w w':World}(a:iZ P m h w f h' w')(c: ∀id o,h.get id=some o->o.rw=false):Below w.heap.size w w':=
 ⟨a.kept.os,a.kept.tape,a.kept.output,a.kept.size,λb d=>a.kept.block b d λ⟨id,o,p,ho,hrw,_⟩=>by rw[c id o ho] at hrw;cases hrw⟩
theorem PO {b:List Ob}(h: ∀o∈b,o.rw=false): ∀id o,(H.mX b).get id=some o->o.rw=false:=λid o a=>by
 rw[pW] at a;exact h o (Oc a)
variable {H:Type} {enc:TypeId×Value->H}
theorem Ae (b:laidOutB P=true){W W':World}(c:Below W.heap.size W W'){sp:Nat->Bool}:(ts:List TypeId)->(vs:List Value)->(ds:List (DataW H))->(ps:List MemPlace)->(∀t∈ts,P.readableRec t=true/\t<P.types.size)->(∀x∈ps,x.block<W.heap.size/\sp x.block=true)->
  DataW.TrodAll enc P W 0 (λ_=>true) true ts vs ds ps->DataW.TrodAll enc P W' 0 sp true ts vs ds ps
 | [], [], [],_,_,_,h=>h
 |t::ts,v::vs,d::ds,ps,ht,hlt,h=>by
  obtain⟨p,q,i,f,rfl⟩:=h
  exact⟨p,q,WideElems.Trod_stays b (ht t (sZ ..)).1 (ht t (sZ ..)).2 i (λx a=>c.same (hlt x (List.mem_append_left _ a)).1) (λx a=>(hlt x (List.mem_append_left _ a)).2),
   Ae b c ts vs ds q (λt h=>ht t (tX _ h)) (λx a=>hlt x (List.mem_append_right _ a)) f,rfl⟩
 | [], [],_::_,_,_,_,h=>h.elim
 | [],_::_,_,_,_,_,h=>h.elim
 |_::_, [],_,_,_,_,h=>h.elim
 |_::_,_::_, [],_,_,_,h=>h.elim
theorem Lk {f:Func}{s:ChangeSpec}{k fresh i o:Bool}{W W':World}{args:Array Value}{v:Value}{ds x:List (DataW H)}{a pa pv:List MemPlace}
  (z:DataW.Whole enc P f.params.toList s.vars k W args.toList ds x a)
  (m:(b:Nat)->(sp:Nat->Bool)->(hd:Bool)->DataW.TrodAll enc P W' b sp hd f.resultTypes.toList (v.resultList f.resultTypes.size) (s.fn H (ds++x)).results [])
  (c: ∀sp:Nat->Bool,(∀p∈a,sp p.block=true)->DataW.TrodAll enc P W' 0 sp true f.params.toList args.toList (s.fn H (ds++x)).args pa)
  (h: ∀sp:Nat->Bool,(∀p∈a,sp p.block=true)->DataW.TrodVars enc P W' sp s.vars (s.fn H (ds++x)).vars pv)
  (l:a=pa++pv) (A:Below W.heap.size W W')
  (y:(j:Nat)->(t:TypeId)->(r:Value)->f.resultTypes[j]? =some t->(v.resultList f.resultTypes.size)[j]? =some r->Value.okWide P W' .any 0 t r):
  s.post enc P f k fresh i o W args v W':=by
 have q: ∀p∈a,p.block<W.heap.size:=λp d=>z.lt p d
 have n: ∀p∈a,(λb=>decide (b<W.heap.size)) p.block=true:=λp d=>by simpa using q p d
 refine⟨ds,x,a, [],pa,pv,z,m _ _ _,c _ n,h _ n,World.keptBut_mono (λp d=>⟨d,?_⟩) (A.frame (· ∈a)),λ_=>?_⟩
 .rw[l,jO] at d
  exact Or.inr d
 .have⟨_,_,_,_,_,G,B⟩:=z
  refine⟨y,_,_,([]++pa)++pv,⟨[]++pa,pv,trodAll_append (c _ (λ_ _=>rfl)) (m _ _ _),h _ (λ_ _=>rfl),rfl,?_,?_⟩,?_⟩
  .intro b w d
   have u:MemPlace.cell b w∈a:=by rw[l];simpa using d
   rw[A.frozen (q _ u)]
   exact G b w u
  .intro F
   have:=B F
   rw[l] at this
   simpa using this
  .intro p d _
   rw[l]
   simpa using d
theorem RF {f:Func}{s:ChangeSpec}{h fresh d j:Bool}{W W':World}{args:Array Value}{ds y:List (DataW H)}{c:List MemPlace}{tb:TypeId}
  (A:laidOutB P=true) (i:s.vars= []) (l:f.params.toList.all (λt=>P.readableRec t&&decide (t<P.types.size))=true)
  (m:f.resultTypes= #[tb]) (o:P.underlying tb=some .bool)
  (w:DataW.Whole enc P f.params.toList s.vars h W args.toList ds y c)
  (a:(s.fn H (ds++y))={results:= [.lit (.bool true)],args:=ds})
  (u:Below W.heap.size W W'):s.post enc P f h fresh d j W args (.bool true) W':=by
 have n:=w
 have⟨p,q,J,z,k,G,F⟩:=w
 rw[i] at z
 obtain⟨rfl,rfl⟩:=trodVars_none z
 rw[qV] at k
 subst k
 rw[qV] at a
 refine Lk (pa:=c) (pv:= []) n (λb sp K=>?_) (λsp r=>?_) (λsp _=>?_) siM u ?_
 .rw[qV,a,m]
  exact trodAll_mk1 (shut_bool o true)
 .rw[qV,a]
  refine Ae A u _ _ _ _ (λt B=>?_) (λx v=>⟨?_,r x v⟩) J
  .have:=vE.1 l t B
   simpa using this
  .exact n.lt x v
 .rw[qV,a,i];rfl
 .exact ok_one m rfl (okWide_bool_mk o true)
end
end Go.Ay
namespace Go.Ay
open Go
def Nk (l:List Nat):Nat:=l.foldl (λm t=>m|||1<<<t) 0
def opM (ops:Array Oper)(o:Oper):Nat:=Nk ((o.op.operands.toList.filterMap fun| .tmp t=>some t|_=>none)++(match o.guard with|some (j,_)=>((ops[j]?).bind (·.dst)).toList|none=> []))
def xM:Operand->Nat
 | .tmp t=>1<<<t
 |_=>0
def Tj:Code->Nat×Nat×Nat->Nat×Nat×Nat
 | .region _ ops _,(s,m,u)=>
  let r:=ops.toList.foldl (λ(d,n,r) o=>
   let us:=opM ops o
   (d|||Nk o.dst.toList,n|||(match o.op with| .defer _=>us|_=>us^^^(us&&&d)),r|||us|||Nk o.dst.toList)) ((0:Nat),u,(0:Nat))
  (s|||r.2.2,m|||(s&&&r.2.2),r.2.1)
 | .seq a b,x=>Tj b (Tj a x)
 | .cond c a b,x=>let y:=Tj b (Tj a x);(y.1,y.2.1,y.2.2|||xM c)
 | .block _ c,x| .loop c,x| .scope c,x=>Tj c x
 | .rangeFunc f ps a b,x=>let y:=Tj b (Tj a x);(y.1,y.2.1,y.2.2|||xM f|||Nk ps.toList)
 |_,x=>x
def pvM (fn:Func):List Nat:=
 match fn.body with
 |none=> []
 |some c=>
  let x:=Tj c (0,0,0)
  let k:=x.2.1|||x.2.2|||Nk (fn.results.toList.map fun| .tmp t=>t| .cell t _=>t)|||(x.1&&&Nk (List.range (fn.params.size+fn.nfree)))
  (List.range fn.ntmps).filter λt=>Nat.testBit k t
def uZ (P:Program)(k:Nat):Option Fn:=match P.funcs[k]? with
 |some F=>if F.body.isSome&&F.name != "runtime.NumGoroutine" then AD P (pvM F) F else none
 |none=>none
end Go.Ay
namespace Go.Proofs.YtcdbmkidaecdiaaGreat
open Go Go.Ay
noncomputable def T:Nat->Option Ay.Fn:=λ k=>bif Nat.beq k 143 then some ⟨0, [], [],.fail,true⟩ else uZ Tryz.prog k
structure Zt (k:Nat) where
 fn:Ay.Fn
 ok:T k=some fn
noncomputable abbrev zZ (k:Nat) {c:Ay.Fn} (h:uZ Tryz.prog k=some c:=by conv=>lhs;reduce;simp only [Int.reduceOfNat,Int.reduceNegSucc]) (hk:Nat.beq k 143=false:=by rfl):Zt k:=⟨c,by unfold T;rw [hk];exact h⟩
@[go_sem] theorem aiQ {k:Nat} {c:Ay.Fn} {h:uZ Tryz.prog k=some c} {hk:Nat.beq k 143=false}:(@zZ k c h hk).fn=c:=rfl
theorem EvZ {k:Nat} (c:Zt k) {args:List V} {h:H} {Q:V->H->Prop} (hl:args.length=c.fn.nargs) (hw:Wp T none c.fn.body (qP c.fn args) h (Cr c.fn.results Q)) (hs:c.fn.Hm=false:=by rfl):Ev T k args h Q:=mG c.ok hl hw hs
theorem kV {k:Nat} {c:Ay.Fn} {args:List V} {h:H} {Q:V->H->Prop} (hw:Wp T none c.body (qP c args) h (Cr c.results Q)) (ok:uZ Tryz.prog k=some c:=by conv=>lhs;reduce;simp only [Int.reduceOfNat,Int.reduceNegSucc]) (hk:Nat.beq k 143=false:=by rfl) (hl:args.length=c.nargs:=by rfl) (hs:c.Hm=false:=by rfl):Ev T k args h Q:=mG (by unfold T;rw [hk];exact ok) hl hw hs
theorem nL {k:Nat} {c:Ay.Fn} {args:List V} {h:H} {Q:V->H->Prop} {q:Prop} (y:q) (ok:uZ Tryz.prog k=some c:=by conv=>lhs;reduce;simp only [Int.reduceOfNat,Int.reduceNegSucc]) (hw:Wp T none c.body (qP c args) h (Cr c.results Q)=q:=by conv=>lhs;simp (disch:=omega) only[go_sem,aI]) (hk:Nat.beq k 143=false:=by rfl) (hl:args.length=c.nargs:=by rfl) (hs:c.Hm=false:=by rfl):Ev T k args h Q:=kV ((hw).mpr y) ok hk hl hs
theorem yF {k:Nat} {c:Ay.Fn} {args:List V} {h:H} {Q:V->H->Prop} {q p0:Prop} (x0:p0) (y:q) (ok:uZ Tryz.prog k=some c:=by conv=>lhs;reduce;simp only [Int.reduceOfNat,Int.reduceNegSucc]) (hw:p0->Wp T none c.body (qP c args) h (Cr c.results Q)=q:=by intro x0;conv=>lhs;simp (disch:=omega) only[go_sem,aI,x0]) (hk:Nat.beq k 143=false:=by rfl) (hl:args.length=c.nargs:=by rfl) (hs:c.Hm=false:=by rfl):Ev T k args h Q:=kV ((hw x0).mpr y) ok hk hl hs
theorem Px {k:Nat} {c:Ay.Fn} {args:List V} {h:H} {Q:V->H->Prop} {q p0 p1:Prop} (x0:p0) (x1:p1) (y:q) (ok:uZ Tryz.prog k=some c:=by conv=>lhs;reduce;simp only [Int.reduceOfNat,Int.reduceNegSucc]) (hw:p0->p1->Wp T none c.body (qP c args) h (Cr c.results Q)=q:=by intro x0 x1;conv=>lhs;simp (disch:=omega) only[go_sem,aI,x0,x1]) (hk:Nat.beq k 143=false:=by rfl) (hl:args.length=c.nargs:=by rfl) (hs:c.Hm=false:=by rfl):Ev T k args h Q:=kV ((hw x0 x1).mpr y) ok hk hl hs
theorem Ku {k:Nat} {c:Ay.Fn} {args:List V} {h:H} {Q:V->H->Prop} {q p0 p1 p2:Prop} (x0:p0) (x1:p1) (x2:p2) (y:q) (ok:uZ Tryz.prog k=some c:=by conv=>lhs;reduce;simp only [Int.reduceOfNat,Int.reduceNegSucc]) (hw:p0->p1->p2->Wp T none c.body (qP c args) h (Cr c.results Q)=q:=by intro x0 x1 x2;conv=>lhs;simp (disch:=omega) only[go_sem,aI,x0,x1,x2]) (hk:Nat.beq k 143=false:=by rfl) (hl:args.length=c.nargs:=by rfl) (hs:c.Hm=false:=by rfl):Ev T k args h Q:=kV ((hw x0 x1 x2).mpr y) ok hk hl hs
theorem pY {k:Nat} {c:Ay.Fn} {args:List V} {h:H} {Q:V->H->Prop} {q p0 p1 p2 p3:Prop} (x0:p0) (x1:p1) (x2:p2) (x3:p3) (y:q) (ok:uZ Tryz.prog k=some c:=by conv=>lhs;reduce;simp only [Int.reduceOfNat,Int.reduceNegSucc]) (hw:p0->p1->p2->p3->Wp T none c.body (qP c args) h (Cr c.results Q)=q:=by intro x0 x1 x2 x3;conv=>lhs;simp (disch:=omega) only[go_sem,aI,x0,x1,x2,x3]) (hk:Nat.beq k 143=false:=by rfl) (hl:args.length=c.nargs:=by rfl) (hs:c.Hm=false:=by rfl):Ev T k args h Q:=kV ((hw x0 x1 x2 x3).mpr y) ok hk hl hs
theorem aeG {k:Nat} {c:Ay.Fn} {args:List V} {h:H} {Q:V->H->Prop} {q p0 p1 p2 p3 p4:Prop} (x0:p0) (x1:p1) (x2:p2) (x3:p3) (x4:p4) (y:q) (ok:uZ Tryz.prog k=some c:=by conv=>lhs;reduce;simp only [Int.reduceOfNat,Int.reduceNegSucc]) (hw:p0->p1->p2->p3->p4->Wp T none c.body (qP c args) h (Cr c.results Q)=q:=by intro x0 x1 x2 x3 x4;conv=>lhs;simp (disch:=omega) only[go_sem,aI,x0,x1,x2,x3,x4]) (hk:Nat.beq k 143=false:=by rfl) (hl:args.length=c.nargs:=by rfl) (hs:c.Hm=false:=by rfl):Ev T k args h Q:=kV ((hw x0 x1 x2 x3 x4).mpr y) ok hk hl hs
theorem GG {k:Nat} {c:Ay.Fn} {args:List V} {h:H} {Q:V->H->Prop} {q p0 p1 p2 p3 p4 p5:Prop} (x0:p0) (x1:p1) (x2:p2) (x3:p3) (x4:p4) (x5:p5) (y:q) (ok:uZ Tryz.prog k=some c:=by conv=>lhs;reduce;simp only [Int.reduceOfNat,Int.reduceNegSucc]) (hw:p0->p1->p2->p3->p4->p5->Wp T none c.body (qP c args) h (Cr c.results Q)=q:=by intro x0 x1 x2 x3 x4 x5;conv=>lhs;simp (disch:=omega) only[go_sem,aI,x0,x1,x2,x3,x4,x5]) (hk:Nat.beq k 143=false:=by rfl) (hl:args.length=c.nargs:=by rfl) (hs:c.Hm=false:=by rfl):Ev T k args h Q:=kV ((hw x0 x1 x2 x3 x4 x5).mpr y) ok hk hl hs
end Go.Proofs.YtcdbmkidaecdiaaGreat
namespace Go.Proofs.YtcdbmkidaecdiaaGreat
open Go Go.Ay
noncomputable abbrev jP:=zZ 83
noncomputable abbrev jR:=zZ 90
noncomputable abbrev vC:=zZ 160
noncomputable abbrev jX:=zZ 174
noncomputable abbrev vA:=zZ 184
noncomputable abbrev jT:=zZ 214
noncomputable abbrev iE:=zZ 217
noncomputable abbrev nE:=zZ 245
noncomputable abbrev fF:=zZ 248
noncomputable abbrev dK:=zZ 249
noncomputable abbrev dW:=zZ 253
noncomputable abbrev eS:=zZ 254
end Go.Proofs.YtcdbmkidaecdiaaGreat
namespace Go.Proofs.YtcdbmkidaecdiaaGreat
open Go Go.Ay
noncomputable abbrev mS:=zZ 127
noncomputable abbrev dH:=zZ 163
noncomputable abbrev lV:=zZ 175
noncomputable abbrev tB:=zZ 183
noncomputable abbrev mD:=zZ 211
noncomputable abbrev mZ:=zZ 215
noncomputable abbrev fT:=zZ 216
noncomputable abbrev gU:=zZ 219
noncomputable abbrev rM:=zZ 221
noncomputable abbrev tC:=zZ 228
noncomputable abbrev oG:=zZ 233
noncomputable abbrev cY:=zZ 250
end Go.Proofs.YtcdbmkidaecdiaaGreat
namespace Go.Proofs.YtcdbmkidaecdiaaGreat
open Go Go.Ay
noncomputable abbrev Hl:=zZ 41
noncomputable abbrev mK:=zZ 139
noncomputable abbrev jY:=zZ 168
noncomputable abbrev kW:=zZ 171
noncomputable abbrev kL:=zZ 172
noncomputable abbrev dV:=zZ 186
noncomputable abbrev Zu:=zZ 224
noncomputable abbrev fH:=zZ 227
noncomputable abbrev yM:=zZ 255
noncomputable abbrev fC:=zZ 260
noncomputable abbrev dY:=zZ 261
noncomputable abbrev fP:=zZ 262
end Go.Proofs.YtcdbmkidaecdiaaGreat
namespace Go.Proofs.YtcdbmkidaecdiaaGreat
open Go Go.Ay
noncomputable abbrev kE:=zZ 105
noncomputable abbrev BO:=zZ 137
noncomputable abbrev zW:=zZ 150
noncomputable abbrev pX:=zZ 159
noncomputable abbrev lZ:=zZ 169
noncomputable abbrev jZ:=zZ 170
noncomputable abbrev iS:=zZ 173
noncomputable abbrev Bi:=zZ 226
noncomputable abbrev dZ:=zZ 247
noncomputable abbrev eD:=zZ 251
noncomputable abbrev dO:=zZ 252
noncomputable abbrev fM:=zZ 264
end Go.Proofs.YtcdbmkidaecdiaaGreat

namespace Go.Proofs.YtcdbmkidaecdiaaGreat
open Go Go.Ay Go.Pm
theorem mJ (h:H)(n:Nat)(a:n<=100000):Ct h 1 8 [aC 0] (aC n) (aC n)=some (.sl h.next 0 n (.kn n),h.new (.cells false (rc n λ_=> aC 0))):=by
 rw[qT om (Int.le_refl _) om om,IF,qZ,Gr,show ints (List.replicate n 0)=rc n λ_=> aC 0 from (Gy (by simp [aN]) λi hi=>by simp [ints,hi]).symm]
theorem nU {g:Nat}(A:T g=some oG.fn)(u w:V)(a b:List Nat)(h:H)(hn:a.length<=1000)(Q:SI h u (zi a))(Z:SI h w (zi b))(hr: ∀i,i<a.length->a.getD i 0<b.length):
  Ev T g [u,w] h (λv h'=>Vf h h' v (aS a b)):=by
 refine mG A rfl ?_
 have P:=Q.lens
 rw[aL] at P
 obtain⟨id,off,K,x,U⟩:=Q.open
 rw[aL] at K x U
 obtain⟨B,o,q,d,p⟩:=Z.open
 rw[aL] at q d p
 simp(disch:=omega)only[go_sem,oG,aI,P,mJ h a.length om]
 have s:Fr h (h.new (.cells false (rc a.length λ_=> aC 0))):=(Fr.refl h).new _
 have m:(h.new (.cells false (rc a.length λ_=> aC 0))).get h.next=some (.cells false (rc a.length λ_=> aC 0)):=H.aQ ..
 have l:(h.new (.cells false (rc a.length λ_=> aC 0))).next=h.next+1:=H.aZ ..
 generalize h.new (.cells false (rc a.length λ_=> aC 0))=h1 at*
 obtain⟨S,t⟩:=exI h.next
 rw[t] at m l
 rw[t]
 refine aH (λO f G=> ∃(i:Nat),(∃j:Nat->V,f= [u,w,.aD,.sl S 0 a.length (.kn a.length),j 4,j 5,u,aC (a.length:Int),aC i,j 9])/\i<=a.length/\
   G.get S=some (.cells false (rc a.length λj=>if j<i then aC ((aS a b).getD j 0:Nat) else aC 0))/\G.next=S+1/\Fr h G/\O=a.length-i) a.length
  ⟨0,aB rfl,fE _,by rw[m];rfl,l,s,rfl⟩ ?_
 clear m s l
 rintro O f z ⟨i,⟨jk,rfl⟩,hi,J,N,F,rfl⟩
 refine aM ?_
 by_cases n:(i:Int)<(a.length:Int)
 .rw[cJ n]
  have c:i<a.length:=om
  have ci:z.cell id (off+i)=some (aC (a.getD i 0:Nat)):=by rw[F.cell (x om),U i c];congr 2;simp [zi,c]
  have r:=hr i c
  generalize W:a.getD i 0=k at ci r
  have Y:z.cell B (o+k)=some (aC (b.getD k 0:Nat)):=by rw[F.cell (d om),p k r];congr 2;simp [zi,r]
  have e1:decide ((i:Int)<0)=false:=bT om
  have y:decide ((a.length:Int)<=(i:Int))=false:=bT om
  have L:=cF (vs:=rc a.length λj=>if j<i then aC ((aS a b).getD j 0:Nat) else aC 0) (off:=i) (by rw[iK];exact c) z S (aC (b.getD k 0:Nat))
  rw[jL] at L
  refine qL @K.ixa @q.ixa ci Y e1 y J L ?_
  rw[eJ i]
  refine⟨a.length-(i+1),om,i+1,aB rfl,om,?_,N,F.set om _,rfl⟩
  congr 2
  refine cT λj R=>?_
  by_cases e:j=i
  .subst e
   rw[bL rfl,bL om,dI c,W]
  .rw[bV e]
   by_cases y:j<i
   .rw[bL y,bL om]
   .rw[bV y,bV om]
 rw[bT n]
 obtain rfl:i=a.length:=om
 refine aM ?_
 refine⟨by rw[fV,t],?_,by rw[t];exact N,F⟩
 rw[t,J]
 congr 2
 rw[<-Uh,fV]
 exact cT λj R=>by rw[bL R]
theorem zI {g:Nat}(w:T g=some yM.fn)(u:V)(n:Nat)(a:List Nat)(h:H)(Z:n<=1000)(A:aY n a)(N:SI h u (zi a)):
  Ev T g [u] h (λv h'=>Vf h h' v (cK a)):=by
 refine mG w rfl ?_
 have l:=A.len
 have L:=N.lens
 rw[aL,l] at L
 obtain⟨id,off,G,q,P⟩:=N.open
 rw[aL,l] at G q P
 simp(disch:=omega)only[go_sem,yM,aI,L,mJ h n om]
 have o:Fr h (h.new (.cells false (rc n λ_=> aC 0))):=(Fr.refl h).new _
 have f:(h.new (.cells false (rc n λ_=> aC 0))).get h.next=some (.cells false (rc n λ_=> aC 0)):=H.aQ ..
 have d:(h.new (.cells false (rc n λ_=> aC 0))).next=h.next+1:=H.aZ ..
 generalize h.new (.cells false (rc n λ_=> aC 0))=Y at*
 obtain⟨S,p⟩:=exI h.next
 rw[p] at f d
 rw[p]
 refine aH (λK c x=> ∃(i:Nat),(∃j:Nat->V,c= [u,.aD,.sl S 0 n (.kn n),j 3,j 4,u,aC n,aC i,j 8])/\i<=n/\
   x.get S=some (.cells false (rc n λj=>if a.idxOf j<i then aC (a.idxOf j:Nat) else aC 0))/\x.next=S+1/\Fr h x/\K=n-i) n
  ⟨0,aB rfl,fE _,by rw[f];rfl,d,o,rfl⟩ ?_
 clear f o d
 rintro K c y ⟨i,⟨jk,rfl⟩,hi,z,J,F,rfl⟩
 refine aM ?_
 by_cases m:(i:Int)<(n:Int)
 .rw[cJ m]
  have b:i<n:=om
  have ci:y.cell id (off+i)=some (aC (a.getD i 0:Nat)):=by rw[F.cell (q om),P i b];congr 2;simp [zi,l,b]
  have r:=A.fZ b
  have O:a.idxOf (a.getD i 0)=i:=A.inj (A.idx r).1 b (A.idx r).2
  generalize R:a.getD i 0=k at ci r O
  have U:decide ((k:Int)<0)=false:=bT om
  have s:decide ((n:Int)<=(k:Int))=false:=bT om
  have B:=cF (vs:=rc n λj=>if a.idxOf j<i then aC (a.idxOf j:Nat) else aC 0) (off:=k) (by rw[iK];exact r) y S (aC i)
  rw[jL] at B
  refine kA @G.ixa ci U s z B ?_
  rw[eJ i]
  refine⟨n-(i+1),om,i+1,aB rfl,om,?_,J,F.set om _,rfl⟩
  congr 2
  refine cT λj t=>?_
  by_cases e:j=k
  .rw[bL e,e,O,bL om]
  .rw[bV e]
   have Q:a.idxOf j≠i:=λW=>e (by rw[<-(A.idx t).2,W,R])
   by_cases s:a.idxOf j<i
   .rw[bL s,bL om]
   .rw[bV s,bV om]
 rw[bT m]
 obtain rfl:i=n:=om
 refine aM ?_
 refine⟨by rw[iI,l,p],?_,by rw[p];exact J,F⟩
 rw[p,z]
 congr 2
 rw[<-Uh,iI,l]
 exact cT λj t=>by rw[bL (A.idx t).1,vF (by rw[l];exact t)]
theorem Qa {g:Nat}(o:T g=some tC.fn)(n:Nat)(h:H)(y:n<=1000):
  Ev T g [aC n] h (λv h'=>Vf h h' v (bC n)):=by
 refine mG o rfl ?_
 simp(disch:=omega)only[go_sem,tC,aI,mJ h n om]
 have f:Fr h (h.new (.cells false (rc n λ_=> aC 0))):=(Fr.refl h).new _
 have c:(h.new (.cells false (rc n λ_=> aC 0))).get h.next=some (.cells false (rc n λ_=> aC 0)):=H.aQ ..
 have b:(h.new (.cells false (rc n λ_=> aC 0))).next=h.next+1:=H.aZ ..
 generalize h.new (.cells false (rc n λ_=> aC 0))=A at*
 obtain⟨S,k⟩:=exI h.next
 rw[k] at c b
 rw[k]
 refine aH (λu a m=> ∃(i:Nat),(∃j:Nat->V,a= [aC n,.aD,.sl S 0 n (.kn n),j 3,aC n,aC i,j 6])/\i<=n/\
   m.get S=some (.cells false (rc n λj=>if j<i then aC (j:Nat) else aC 0))/\m.next=S+1/\Fr h m/\u=n-i) n
  ⟨0,aB rfl,fE _,by rw[c];rfl,b,f,rfl⟩ ?_
 clear c f b
 rintro u a w ⟨i,⟨z,rfl⟩,hi,r,t,F,rfl⟩
 refine aM ?_
 by_cases d:(i:Int)<(n:Int)
 .rw[cJ d]
  have q:i<n:=om
  have x:decide ((i:Int)<0)=false:=bT om
  have l:decide ((n:Int)<=(i:Int))=false:=bT om
  have s:=cF (vs:=rc n λj=>if j<i then aC (j:Nat) else aC 0) (off:=i) (by rw[iK];exact q) w S (aC i)
  rw[jL] at s
  refine gX x l r s ?_
  rw[eJ i]
  refine⟨n-(i+1),om,i+1,aB rfl,om,?_,t,F.set om _,rfl⟩
  congr 2
  refine cT λj p=>?_
  by_cases e:j=i
  .rw[bL e,bL om,e]
  .rw[bV e]
   by_cases l:j<i
   .rw[bL l,bL om]
   .rw[bV l,bV om]
 rw[bT d]
 obtain rfl:i=n:=om
 refine aM ?_
 refine⟨by rw[jB,k],?_,by rw[k];exact t,F⟩
 rw[k,r]
 congr 2
 rw[<-Uh,jB]
 exact cT λj p=>by rw[bL p,fW p]
theorem Wh (u w:V)(a b:List Nat)(h:H)(f:a.length<=1000)(d:SI h u (zi a))(c:SI h w (zi b))(j: ∀i,i<a.length->a.getD i 0<b.length):
  Ev T 184 [u,w] h (λv h'=>Vf h h' v (aS a b)):=nU vA.ok u w a b h f d c j
end Go.Proofs.YtcdbmkidaecdiaaGreat
namespace Go.Ay
open Go
section
variable {v:V} {sz:Nat} {ws:List V} {l:List Nat}
structure Fx (W:Nat->Prop)(h h':H):Prop where
 next:h.next<=h'.next
 get: ∀id,id<h.next-> ¬W id->h'.get id=h.get id
def Gz (W:Nat->Prop):V->Prop
 | .sl id _ _ _=> ¬W id
 |_=>True
section
variable {W W':Nat->Prop} {a b c h h':H}
theorem Fx.refl (W:Nat->Prop)(h:H):Fx W h h:=⟨eU _,λ_ _ _=>rfl⟩
theorem Fx.of (f:Fr h h'):Fx W h h':=⟨f.next,λid d _=>f.get id d⟩
theorem Fx.trans (x:Fx W a b)(y:Fx W' b c)(i: ∀id,id<a.next->W' id->W id):Fx W a c:=
 ⟨kP x.next y.next,λid d f=>(y.get id (kQ d x.next) (λh=>f (i id d h))).trans (x.get id d f)⟩
theorem Fx.jK (x:Fx W a b)(f: ∀id,id<a.next->W id->W' id):Fx W' a b:=⟨x.next,λid d i=>x.get id d λh=>i (f id d h)⟩
theorem Fx.fr (x:Fx W a b)(f: ∀id,id<a.next-> ¬W id):Fr a b:=⟨x.next,λid d=>x.get id d (f id d)⟩
theorem Fx.set (h:H){id:Nat}(d:W id)(o:Option Ob):Fx W h (h.set id o):=⟨eU _,λk _ f=>H.aF h (λe:k=id=>f (by rw[e];exact d)) o⟩
theorem Fx.cell (x:Fx W a b){id:Nat}(d:id<a.next)(h2: ¬W id)(off:Nat):b.cell id off=a.cell id off:=by unfold H.cell;rw[x.get id d h2]
theorem SV.fx (s:SV h v sz ws)(o:Gz W v)(f:Fx W h h'):SV h' v sz ws:=by
 rcases s with s|⟨id,d,len,i,q,m,r,n,j,p,t,k⟩
 .exact .inl s
 .subst r
  exact .inr ⟨id,d,len,i,q,m,rfl,n,kQ j f.next,by rw[f.get id j o];exact p,t,k⟩
theorem SI.fx {l:List Int}(s:SI h v l)(o:Gz W v)(f:Fx W h h'):SI h' v l:=SV.fx s o f
theorem SV.in (s:SV h v sz ws): ∀id off len cap,v= .sl id off len cap->id<h.next:=by
 rcases s with ⟨s|⟨a,s⟩,_⟩|⟨id,off,len,cap,j,m,f,i,d,n,o,k⟩
 .intro _ _ _ _ e;rw[s] at e;cases e
 .intro _ _ _ _ e;rw[s] at e;cases e
 .intro _ _ _ _ e;rw[f] at e;cases e;exact d
theorem Gz.jK (o:Gz W v)(s:SV h v sz ws)(d: ∀id,id<h.next->W' id->W id):Gz W' v:=by
 cases v with
 |sl id off len cap=>exact λf=>o (d id (s.in _ _ _ _ rfl) f)
 |_=>trivial
structure PV (W:Nat->Prop)(h:H)(v:V)(l:List Nat):Prop where
 si:SI h v (zi l)
 off:Gz W v
theorem PV.fx (p:PV W h v l)(f:Fx W h h'):PV W h' v l:=⟨p.si.fx p.off f,p.off⟩
theorem PV.jK (p:PV W h v l)(d: ∀id,id<h.next->W' id->W id):PV W' h v l:=⟨p.si,p.off.jK p.si d⟩
theorem Vf.pv (n:Vf h h' v l)(f: ¬W h.next):PV W h' v l:=by
 obtain⟨rfl,d,i,_⟩:=n;exact⟨SV.all (by rw[aN,aL,qZ]) om d _,f⟩
end
end
end Go.Ay
namespace Go.Ay
open Go
section
variable {x v u w:V} {sz n m id:Nat} {ws us vs vars:List V} {l:List Nat} {ls:List (List Nat)} {p:Nat->Option Fn} {Q:V->H->Prop} {rd:Option Nat}
section
variable {W:Nat->Prop} {a b c h h':H}
structure tK (h:H)(x:V)(n m:Nat)(sz:Nat)(ws us:List V)(h':H):Prop where
 get:h'.get h.next=some (.cells false (ws++us))
 next:h'.next=h.next+1
 old: ∀k,k≠h.next->dS x k->h'.get k=h.get k
theorem cW.push {y:V}{bytes b:Nat}(o:cW h x sz ws b)(t:SV h y sz us)(A:ws.length=n*sz)(L:us.length=m*sz)(r:0<sz)(U:0<m)(f:(2*(n+m)+1000)*bytes<=2^48/\n+m<2^62):
  ∃h',rD h sz bytes x y=some (.sl h.next 0 (n+m) (.un sz),h')/\tK h x n m sz ws us h':=by
 have N:rD h sz bytes x y=Ay.zL h sz bytes x m us:=by
  simp only[rD,t.len L r,t.slice]
 rw[N]
 have z:=o.sv
 have i:=z.len A r
 have j:=z.slice
 unfold Ay.zL
 simp only[i,j]
 rw[bV om,bL f]
 have d: ∀g:H,g.next=h.next->(∀k,k≠h.next->dS x k->g.get k=h.get k)-> ∃h',some (V.sl h.next 0 (n+m) (.un sz),g.new (.cells false (ws++us)))=some (.sl h.next 0 (n+m) (.un sz),h')/\tK h x n m sz ws us h':=by
  intro g B J;refine⟨_,rfl,by rw[<-B,H.aQ],by rw[H.aZ,B],λk F q=>?_⟩;rw[H.bN g om];exact J k F q
 rcases o with ⟨rfl,rfl⟩|⟨id,s,P,G,rfl,O,K,Y,Z,R⟩
 .exact d h rfl (λ_ _ _=>rfl)
 .have:s=n:=Nat.eq_of_mul_eq_mul_right r (O.symm.trans A)
  subst this
  rcases K with rfl|⟨rfl,rfl⟩
  .simp only[R,if_true]
   exact d (h.set id none) rfl (λk F q=>H.aF h (q id 0 s _ rfl) none)
  .simp only
   rw[bV om]
   exact d h rfl (λ_ _ _=>rfl)
theorem tK.own (p:tK h x n m sz ws us h')(f:ws.length=n*sz)(d:us.length=m*sz){b:Nat}(i:b<=h.next):cW h' (.sl h.next 0 (n+m) (.un sz)) sz (ws++us) b:=
 .inr ⟨h.next,n+m,_, [],rfl,by rw[iB,f,d,Nat.add_mul],.inl rfl,i,by rw[p.next];omega,by rw[qV];exact p.get⟩
theorem tK.fx (p:tK h x n m sz ws us h')(d: ∀id off len cap,x= .sl id off len cap->W id):Fx W h h':=
 ⟨by rw[p.next];omega,λid k f=>p.old id om λi off n c e=>λj=>f (j▸d _ _ _ _ e)⟩
theorem cW.qX {b:Nat}(o:cW h v sz ws b)(i:h.next<=h'.next)(f: ∀id off n c,v= .sl id off n c->id<h.next->h'.get id=h.get id):cW h' v sz ws b:=
 o.mono i λid off n c e _ d=>f id off n c e d
theorem cW.in {b:Nat}(o:cW h v sz ws b): ∀id off len cap,v= .sl id off len cap->id<h.next/\b<=id/\off=0:=by
 rcases o with ⟨rfl,_⟩|⟨id,n,cap,d,rfl,_,_,i,f,_⟩
 .intro _ _ _ _ e;cases e
 .intro _ _ _ _ e;cases e;exact⟨f,i,rfl⟩
theorem PV.sl (p:PV W h v l)(f:l≠ []): ∃id off len cap,v= .sl id off len cap/\id<h.next/\ ¬W id:=by
 rcases p.si with ⟨_,i⟩|⟨id,off,len,cap,k,vs,d,_,j,_⟩
 .exfalso
  cases l with
  |nil=>exact f rfl
  |cons x l=>simp [zi,ints] at i
 .exact⟨id,off,len,cap,d,j,by have:=p.off;rw[d] at this;exact this⟩
theorem PV.mono (p:PV W h v l)(f:Fr h h'):PV W h' v l:=p.fx (Fx.of f)
theorem aY.ne (d:0<n)(L:Pm.aY n l):l≠ []:=λe=>by
 have:=L.len;rw[e] at this;simp at this;omega
theorem Ch (p:PV W h v l)(i:l≠ [])(neg:Bool):uJ neg v=some (.bool neg):=by
 obtain⟨id,f,len,d,rfl,_⟩:=p.sl i
 rfl
abbrev fG (W:Nat->Prop)(h:H)(vs:List V)(ls:List (List Nat)):Prop:=aJ (PV W h) vs ls
theorem fG.fx (p:fG W h vs ls)(f:Fx W h h'):fG W h' vs ls:=p.mono λ_ _ x=>x.fx f
theorem fG.jK {W':Nat->Prop}(p:fG W h vs ls)(d: ∀id,id<h.next->W' id->W id):fG W' h vs ls:=p.mono λ_ _ x=>x.jK d
theorem fG.at (p:fG W h vs ls){i:Nat}(hi:i<ls.length): ∃v,vs[i]? =some v/\PV W h v (ls.getD i []):=by
 have d:=aJ.length p;refine⟨vs[i]'om,dC om,?_⟩;have:=aJ.get p i om hi;simpa [List.getD,hi] using this
theorem fG.one (p:PV W h v l):fG W h [v] [l]:=⟨p,trivial⟩
end
theorem PV.eZ {W:Nat->Prop}{h:H}(p:PV W h v l):v.cells= [v]/\v.one=true:=⟨(SV.cM p.si).1,(SV.cM p.si).2.1⟩
theorem cQ (h:H){z:V}(d:v.cells= [v])(f:v.one=true):mC h 1 [z] 1 [(0,1,v)]=some (.sl h.next 0 1 (.kn 1),h.new (.cells false [v])):=by
 have i:putAt [z] 0 [v]=some [v]:=by simp [putAt]
 simp [mC,iH,dT,d,f,i]
theorem SV.one {h:H}{ro:Bool}(f:id<h.next)(i:h.get id=some (.cells ro [v]))(d:uF):SV h (.sl id 0 1 d) 1 [v]:=SV.all rfl f i d
theorem bW (h:H)(id off:Nat)(d:v.one=true)(i:u.one=true)(f:w.one=true):Ny h 3 (.ptr id off) (.agg [v,u,w])=eH (h.get id) h id off [v,u,w]:=vN h id off 3 _ rfl (by simp [d,i,f])
theorem bQ {y z:V}(h:H)(id:Nat):eH (some (.cells false [x,y,z])) h id 0 [v,u,w]=some (h.set id (some (.cells false [v,u,w]))):=by
 simp [eH,putAt]
theorem aE {h:H}{ro:Bool}(d:h.get id=some (.cells ro [v,u,w])):h.row id 0 3=some [v,u,w]:=by
 simp [H.row,d,sub]
theorem aU (h:H)(d:v.one=true)(i:u.one=true)(f:w.one=true):An h (.agg [v,u,w])=some (.ptr h.next 0,h.new (.cells false [v,u,w])):=sQ h _ (by simp [d,i,f])
theorem H.Ve (h:H)(n k off m:Nat):(H.mk h.tr n).row k off m=h.row k off m:=rfl
theorem dF {h:H}{ID:Nat}(d:h.next=ID)(c:List V): ∃x,h.new (.cells false c)=x/\x.next=ID+1/\x.get ID=some (.cells false c)/\(∀k,k≠ID->x.get k=h.get k)/\Fr h x:=
 ⟨_,rfl,by rw[H.aZ,d],by rw[<-d,H.aQ],λk f=>H.bN h om _,(Fr.refl h).new _⟩
theorem lU (h:H)(ID:Nat)(c:List V): ∃x,h.set ID (some (.cells false c))=x/\x.next=h.next/\x.get ID=some (.cells false c)/\ ∀k,k≠ID->x.get k=h.get k:=
 ⟨_,rfl,rfl,H.aW ..,λk d=>H.aF h d _⟩
def pL (r:fR):fR:={r with st:= .busy}
def sH (r:fR)(e:E):fR:={r with st:= .done,pend:=some e}
theorem sW {args:List V}{h:H}{r:fR}(d:h.get id=some (.loop r))(j:args.length=r.pars.length)(jE:r.st= .ready)
  (f: ∀h1,h1.get id=some (.loop (pL r))->h1.next=h.next->(∀k,k≠id->h1.get k=h.get k)->Wp p (some id) r.assign ((r.pars.zip args).foldl (λvs q=>vs.set q.1 q.2) r.vars) h (λe vars h'=>e= .norm/\h'=h/\Wp p (some id) r.body vars h1 (Eh id Q))):Ey p id args h Q:=by
 refine abS d j ((f _ (H.aW h id _) rfl λk i=>H.aF h i _).mono ?_)
 rintro e vars h' ⟨rfl,rfl,w⟩
 exact⟨rfl,r,d,jE,w⟩
theorem pD {h:H}{r:fR}(jE:r.st= .ready)(d:r.pend=none)(f:h.get id=some (.loop (pL r)))(q:Q (.bool true) (h.set id (some (.loop r)))):Eh id Q .norm vars h:=by
 refine⟨_,f,?_⟩
 have e:({pL r with st:= .ready,pend:=none}:fR)=r:=by
  cases r;simp only at jE d;subst jE d
  rfl
 show Q (.bool true) (h.set id (some (.loop {pL r with st:= .ready,pend:=none})));rw[e];exact q
theorem Mk {h:H}{r:fR}(d:h.get id=some (.loop (pL r)))(q:Q (.bool false) (h.set id (some (.loop (sH r .ret))))):Eh id Q .ret vars h:=⟨_,d,q⟩
theorem BE {h:H}{r:fR}(d:h.get id=some (.loop (pL r)))(q:Q (.bool false) (h.set id (some (.loop (sH r (.exit n)))))):Eh id Q (.exit n) vars h:=⟨_,d,q⟩
theorem tG {g:Nat}{args:List V}{h:H}{r:fR}(k: ∀r',r'=r->Ev p g args (h.new (.loop r')) Q):Ev p g args (h.new (.loop r)) Q:=k r rfl
theorem Rc {a c:C}{h:H}{Q:E->List V->H->Prop}(J:List V->H->Prop)(f:Wp p rd a vars h (λe v h'=>e= .norm/\J v h'\/e≠ .norm/\Q e v h'))(h2: ∀v h',J v h'->Wp p rd c v h' Q):Wp p rd (.seq a c) vars h Q:=by
 rw[TV];refine f.mono λe v h' x=>?_
 rcases x with ⟨rfl,x⟩|⟨d,x⟩
 .exact h2 v h' x
 .cases e
  .exact absurd rfl d
  .exact x
  .exact x
theorem bY {a c:C}{k:Nat}{h:H}{Q:E->List V->H->Prop}(J:List V->H->Prop)(d:Wp p rd (.loop a) vars h (λe v h'=>e= .exit k/\J v h'))(h2: ∀v h',J v h'->Wp p rd c v h' Q):Wp p rd (.loop a) vars h (uH k (Jy p rd c Q)):=
 d.mono λe v h' x=>by
  obtain⟨rfl,x⟩:=x;rw[yL,Jx];exact h2 v h' x
theorem rU {p:Nat->Option Ay.Fn}{a b c:C}{h:H}{Q:E->List V->H->Prop}(J:List V->H->Prop)(i:Lj p rd a b vars h (λe vs h'=>e= .norm/\J vs h'\/e≠ .norm/\Q e vs h') v)(h2: ∀vs h',J vs h'->Wp p rd c vs h' Q):Lj p rd a b vars h (Jy p rd c Q) v:=by
 have d: ∀e vs h',(e= .norm/\J vs h'\/e≠ .norm/\Q e vs h')->Jy p rd c Q e vs h':=λe vs h' q=>by
  rcases q with ⟨rfl,q⟩|⟨f,q⟩
  .exact h2 vs h' q
  .cases e
   .exact absurd rfl f
   .exact q
   .exact q
 cases v with
 |bool t=>
  cases t
  .exact Wp.mono (show Wp p rd b vars h _ from i) d
  .exact Wp.mono (show Wp p rd a vars h _ from i) d
 |_=>exact (show False from i).elim
end
end Go.Ay
namespace Go.Pm
section
variable {j p:Nat}
structure Lv where
 gens:wW
 orb:List Nat
 to:Nat->Option (List Nat)
 tr:Nat->Nat
abbrev pP:=Nat->Lv
def Fix (i:Nat)(x:List Nat):Prop:= ∀k,k<i->x.getD k 0=k
def InS (n:Nat)(τ:pP):Nat->Nat->List Nat->Prop
 |_,0,x=>x=bC n
 |i,d+1,x=> ∃p y h,(τ i).to p=some y/\InS n τ (i+1) d h/\x=aS h y
def S (n:Nat)(τ:pP)(i:Nat)(x:List Nat):Prop:=InS n τ i (n-i) x
section
variable {n:Nat} {τ τ':pP} {x y z:List Nat} {i:Nat}
theorem tE:S n τ n x↔x=bC n:=by unfold S;rw[Nat.sub_self];exact Iff.rfl
theorem pQ (hi:i<n):S n τ i x↔ ∃p y h,(τ i).to p=some y/\S n τ (i+1) h/\x=aS h y:=by
 unfold S;rw[show n-i=(n-(i+1))+1 from oq];exact Iff.rfl
theorem Ot:(d i:Nat)->(x:List Nat)->(∀j,i<=j->j<i+d->τ j=τ' j)->(InS n τ i d x↔InS n τ' i d x)
 |0,_,_,_=>Iff.rfl
 |d+1,i,x,h=>by
  simp only[InS];rw[h i (Nat.le_refl _) oq];have a:=λg=>Ot d (i+1) g (λj b c=>h j oq oq)
  simp only[a]
theorem FE (h: ∀j,i<=j->j<n->τ j=τ' j):S n τ i x↔S n τ' i x:=
 Ot _ _ _ λj a b=>h j a oq
structure RD (n j:Nat)(l:Lv):Prop where
 nd:l.orb.Nodup
 base:j∈l.orb
 one:l.to j=some (bC n)
 iff: ∀p,p∈l.orb↔(l.to p).isSome
 bM: ∀p y,l.to p=some y->aY n y
 fix: ∀p y,l.to p=some y->Fix j y
 maps: ∀p y,l.to p=some y->y.getD j 0=p
 gen: ∀p y,l.to p=some y->bX n (· ∈l.gens) y
 gP: ∀s∈l.gens,aY n s
 gF: ∀s∈l.gens,Fix j s
 gN:l.gens.Nodup
 le: ∀q,l.tr q<=l.gens.length
 zero: ∀q,q∉l.orb->l.tr q=0
theorem RD.lt {l:Lv}(L:RD n j l)(c:j<n)(b:p∈l.orb):p<n:=by
 obtain⟨y,a⟩:=Option.isSome_iff_exists.1 ((L.iff p).1 b);rw[<-L.maps p y a];exact (L.bM p y a).fZ c
theorem RD.to {l:Lv}(L:RD n j l)(a:p∈l.orb): ∃y,l.to p=some y:=Option.isSome_iff_exists.1 ((L.iff p).1 a)
theorem RD.mem {l:Lv}(L:RD n j l){y:List Nat}(h:l.to p=some y):p∈l.orb:=(L.iff p).2 (by rw[h];rfl)
def Cl (n j:Nat)(τ:pP):Prop:= ∀q y,(τ j).to q=some y-> ∀k s,k<(τ j).tr q->(τ j).gens[k]? =some s->
 ∃u,(τ j).to ((aS y s).getD j 0)=some u/\S n τ (j+1) (aS (aS y s) (cK u))
def Full (l:Lv):Prop:= ∀q∈l.orb,l.tr q=l.gens.length
def Dn (n j:Nat)(τ:pP):Prop:=j+1<n-> ∀s∈(τ (j+1)).gens,bX n (· ∈(τ j).gens) s
def pH (n i:Nat)(τ:pP):Prop:= ∀j,i<=j->j<n->RD n j (τ j)/\Cl n j τ/\Full (τ j)/\Dn n j τ
theorem pH.mono (t:pH n i τ){k:Nat}(h:i<=k):pH n k τ:=λj b a=>t j oq a
theorem pH.congr (t:pH n i τ)(h: ∀j,i<=j->j<n->τ j=τ' j):pH n i τ':=λj v l=>by
 obtain⟨a,b,c,d⟩:=t j v l;have e:=h j v l;refine⟨e▸a,λq y m k s o f=>?_,e▸c,λr s f=>?_⟩
 .rw[<-e] at m o f |-
  obtain⟨u,w,B⟩:=b q y m k s o f;exact⟨u,w,(FE λk F A=>h k oq A).1 B⟩
 .rw[<-h (j+1) oq r] at f
  rw[<-e];exact d r s f
theorem Fix.one (n i:Nat)(hi:i<=n):Fix i (bC n):=λk a=>fW oq
theorem Fix.mul (X:aY n x)(hi:i<=n)(a:Fix i x)(b:Fix i y):Fix i (aS x y):=λk c=>by
 rw[dI (by rw[X.len];omega),a k c,b k c]
theorem Fix.inv (X:aY n x)(hi:i<=n)(a:Fix i x):Fix i (cK x):=λk b=>by
 have:=rE X (show k<n by omega);rwa [a k b] at this
theorem Fix.mono (a:Fix j x)(h:i<=j):Fix i x:=λk b=>a k oq
theorem Fix.succ (a:Fix i x)(h:x.getD i 0=i):Fix (i+1) x:=λk b=>by
 by_cases e:k=i
 .rw[e];exact h
 .exact a k oq
theorem Fix.all (X:aY n x)(a:Fix n x):x=bC n:=by
 refine uD (by rw[X.len,jB]) λk b=>?_
 rw[X.len] at b;rw[a k b,fW b]
theorem bX.fix {L:List Nat->Prop}(a: ∀g,L g->aY n g)(hi:i<=n)(b: ∀g,L g->Fix i g)(h:bX n L x):Fix i x:=by
 induction h with
 |one=>exact Fix.one n i hi
 |mul hx hg ih=>exact Fix.mul (hx.bM a) hi ih (b _ hg)
theorem pH.EO:(d i:Nat)->i+d=n->pH n i τ-> ∀x,(S n τ i x->aY n x/\Fix i x)/\(i<n->(S n τ i x↔bX n (· ∈(τ i).gens) x))
 |0,i,h,_,x=>by
  obtain rfl:i=n:=oq
  refine⟨λa=>?_,λh=>oq⟩;rw[tE] at a;subst a;exact⟨aY.one i,Fix.one i i (Nat.le_refl _)⟩
 |d+1,i,h,t,x=>by
  have hi:i<n:=oq
  have m:=pH.EO d (i+1) oq (t.mono oq);obtain⟨L,C,F,D⟩:=t i (Nat.le_refl _) hi;have v: ∀g,g∈(τ i).gens->aY n g:=L.gP
  have O: ∀z,S n τ (i+1) z->bX n (· ∈(τ i).gens) z:=by
   intro z f
   by_cases c:i+1<n
   .exact ((m z).2 c|>.1 f).le (bX.cX v) (D c)
   .obtain rfl:i+1=n:=oq
    rw[tE] at f;subst f;exact .one
  have o: ∀u z,S n τ (i+1) u->S n τ (i+1) z->S n τ (i+1) (aS u z):=by
   intro u z l f
   by_cases c:i+1<n
   .obtain⟨P,_⟩:=t (i+1) oq c
    exact ((m _).2 c).2 ((((m u).2 c).1 l).app P.gP (((m z).2 c).1 f))
   .obtain rfl:i+1=n:=oq
    rw[tE] at l f |-;subst l f;exact bD (aY.one _)
  have w:S n τ (i+1) (bC n):=by
   by_cases c:i+1<n
   .exact ((m _).2 c).2 .one
   .obtain rfl:i+1=n:=oq
    exact tE.2 rfl
  have b:S n τ i x->bX n (· ∈(τ i).gens) x:=by
   intro a;obtain⟨p,y,g,r,B,rfl⟩:=(pQ hi).1 a;exact (O g B).app v (L.gen p y r)
  refine⟨λa=>⟨(b a).bM v,(b a).fix v oq L.gF⟩,λ_=>⟨b,λN=>?_⟩⟩;clear b
  induction N with
  |one=>exact (pQ hi).2 ⟨i,bC n,bC n,L.one,w,(bD (aY.one n)).symm⟩
  |mul hx a hind=>
   rename_i R s;obtain⟨q,y,g,r,B,e⟩:=(pQ hi).1 hind;obtain⟨k,K,J⟩:=List.mem_iff_getElem.1 a;obtain⟨u,l,Q⟩:=C q y r k s (by rw[F q (L.mem r)];exact K) (by rw[List.getElem?_eq_getElem K,J]);refine (pQ hi).2 ⟨_,u,aS g (aS (aS y s) (cK u)),l,o _ _ B Q,?_⟩;have G:=((m g).1 B).1;have Y:=L.bM q y r;have U:=L.bM _ u l;have A:=v s a;rw[e,aG G Y A,aG G ((Y.mul A).mul U.inv) U,aG (Y.mul A) U.inv U,dU U,bD (Y.mul A)]
theorem pH.gen (t:pH n i τ)(hi:i<n):S n τ i x↔bX n (· ∈(τ i).gens) x:=(pH.EO (n-i) i oq t x).2 hi
theorem pH.bM (t:pH n i τ)(hi:i<=n)(h:S n τ i x):aY n x:=((pH.EO (n-i) i oq t x).1 h).1
theorem pH.fix (t:pH n i τ)(hi:i<=n)(h:S n τ i x):Fix i x:=((pH.EO (n-i) i oq t x).1 h).2
theorem pH.cX (t:pH n i τ)(hi:i<=n):eM n (S n τ i):=by
 by_cases h:i<n
 .have g:=bX.cX (n:=n) (L:=(· ∈(τ i).gens)) (t i (Nat.le_refl _) h).1.gP
  exact⟨λa=>t.bM hi a,(t.gen h).2 g.one,λa b=>(t.gen h).2 (g.mul ((t.gen h).1 a) ((t.gen h).1 b)),λa=>(t.gen h).2 (g.inv ((t.gen h).1 a))⟩
 .obtain rfl:i=n:=oq
  refine⟨λa=>t.bM hi a,tE.2 rfl,λa b=>?_,λa=>?_⟩
  .rw[tE] at a b |-;subst a b;exact bD (aY.one _)
  .rw[tE] at a |-;subst a;exact oZ _
theorem pH.sift (t:pH n i τ)(hi:i<n)(h:S n τ i x): ∃y,(τ i).to (x.getD i 0)=some y/\S n τ (i+1) (aS x (cK y)):=by
 obtain⟨p,y,g,b,a,rfl⟩:=(pQ hi).1 h;have L:=(t i (Nat.le_refl _) hi).1;have c:=t.mono (Nat.le_succ i);have G:=c.bM hi a;have Y:=L.bM p y b
 have e:(aS g y).getD i 0=p:=by
  rw[dI (by rw[G.len];exact hi),c.fix hi a i oq,L.maps p y b]
 refine⟨y,by rw[e];exact b,?_⟩;rw[aG G Y Y.inv,dB Y,bD G];exact a
theorem pH.back (t:pH n i τ)(hi:i<n){y:List Nat}(b:aY n x)(a:(τ i).to (x.getD i 0)=some y)(h2:S n τ (i+1) (aS x (cK y))):S n τ i x:=by
 have Y:=(t i (Nat.le_refl _) hi).1.bM _ y a;refine (pQ hi).2 ⟨_,y,_,a,h2,?_⟩;rw[aG b Y.inv Y,dU Y,bD b]
theorem pH.aiK (t:pH n i τ)(hi:i<n):S n τ (i+1) x↔S n τ i x/\x.getD i 0=i:=by
 have L:=(t i (Nat.le_refl _) hi).1;have a:=t.mono (Nat.le_succ i);constructor
 .intro h
  have e:=a.fix hi h i oq;have X:=a.bM hi h;refine⟨t.back hi X (y:=bC n) (by rw[e];exact L.one) ?_,e⟩;rw[oZ,bD X];exact h
 .rintro⟨h,e⟩
  obtain⟨y,b,c⟩:=t.sift hi h;rw[e,L.one] at b;cases b;rwa [oZ,bD (t.bM oq h)] at c
theorem pH.Uk (t:pH n i τ):{k:Nat}->i<=k->k<=n->(S n τ k x↔S n τ i x/\Fix k x):=by
 intro k
 induction k with
 |zero=>
  intro h _;obtain rfl:i=0:=oq
  exact⟨λh=>⟨h,λ_ h=>oq⟩,λh=>h.1⟩
 |succ k ih=>
  intro l f
  by_cases e:i=k+1
  .subst e
   exact⟨λh=>⟨h,t.fix f h⟩,λh=>h.1⟩
  .have a:=ih oq oq
   rw[(t.mono oq).aiK (i:=k) f,a];constructor
   .rintro⟨⟨b,c⟩,d⟩;exact⟨b,c.succ d⟩
   .rintro⟨b,c⟩;exact⟨⟨b,c.mono oq⟩,c k oq⟩
end
end
end Go.Pm
namespace Go.Pm
section
variable {j k q:Nat}
def tZ (τ:pP)(i:Nat)(l:Lv):pP:=λj=>if j=i then l else τ j
theorem cZ (τ:pP)(i:Nat)(l:Lv):tZ τ i l i=l:=by simp [tZ]
theorem fQ (τ:pP){i:Nat}(l:Lv)(h:j≠i):tZ τ i l j=τ j:=by simp [tZ,h]
def Lv.tick (l:Lv)(q:Nat):Lv:={l with tr:=λr=>if r=q then l.tr q+1 else l.tr r}
def Lv.reach (l:Lv)(p:Nat)(y:List Nat):Lv:={l with orb:=l.orb++ [p],to:=λr=>if r=p then some y else l.to r}
def Lv.more (l:Lv)(r:List Nat):Lv:={l with gens:=l.gens++ [r]}
structure CI (n i:Nat)(τ:pP):Prop where
 mV:RD n i (τ i)
 cl:Cl n i τ
 dn:Dn n i τ
 up:pH n (i+1) τ
section
variable {n:Nat} {τ τ':pP} {x y z s u w:List Nat} {i:Nat}
theorem CI.full (c:CI n i τ)(a:Full (τ i)):pH n i τ:=λj d b=>by
 by_cases e:j=i
 .subst e;exact⟨c.mV,c.cl,a,c.dn⟩
 .exact c.up j oq b
theorem abT {l:Lv}(h:i<k):S n (tZ τ i l) k x↔S n τ k x:=FE λj a _=>fQ τ l oq
theorem pH.adK {l:Lv}(h:i<k)(t:pH n k τ):pH n k (tZ τ i l):=t.congr λj a _=>(fQ τ l oq).symm
theorem CI.Iu (c:CI n i τ)(hi:i<n)(d:(τ i).to q=some y)(f:s∈(τ i).gens)(a:(τ i).to ((aS y s).getD i 0)=some u):
  aY n (aS (aS y s) (cK u))/\Fix (i+1) (aS (aS y s) (cK u))/\bX n (· ∈(τ i).gens) (aS (aS y s) (cK u)):=by
 have L:=c.mV
 have Y:=L.bM q y d
 have U:=L.bM _ u a
 have l:=L.gP s f
 have h:=Y.mul l
 have b:bX n (· ∈(τ i).gens) (aS (aS y s) (cK u)):=((L.gen q y d).mul f).app L.gP ((L.gen _ u a).inv L.gP)
 refine⟨h.mul U.inv,Fix.succ (b.fix L.gP oq L.gF) ?_,b⟩
 rw[dI (by rw[h.len];exact hi)]
 have:=rE U hi
 rwa [L.maps _ u a] at this
theorem CI.tick (c:CI n i τ)(A:(τ i).to q=some y)(J:(τ i).tr q=k)(p:(τ i).gens[k]? =some s)(F:(τ i).to ((aS y s).getD i 0)=some u)
  (O:S n τ (i+1) (aS (aS y s) (cK u))):CI n i (tZ τ i ((τ i).tick q)):=by
 have L:=c.mV
 have f:k<(τ i).gens.length:=(List.getElem?_eq_some_iff.1 p).1
 refine⟨?_,?_,?_,c.up.adK oq⟩
 .rw[cZ]
  refine⟨L.nd,L.base,L.one,L.iff,L.bM,L.fix,L.maps,L.gen,L.gP,L.gF,L.gN,λr=>?_,λr m=>?_⟩
  .show (if r=q then (τ i).tr q+1 else (τ i).tr r)<=_
   split
   .rw[J];exact f
   .exact L.le r
  .show (if r=q then (τ i).tr q+1 else (τ i).tr r)=0
   have:r≠q:=λe=>m (by rw[e];exact L.mem A)
   rw[if_neg this];exact L.zero r m
 .intro r v l j t B h
  rw[cZ] at l B h |-
  simp only[abT (Nat.lt_succ_self i)]
  have b:j<(if r=q then (τ i).tr q+1 else (τ i).tr r):=B
  by_cases e:r=q/\j=k
  .obtain⟨rfl,rfl⟩:=e
   have d:(τ i).to r=some v:=l
   have a:(τ i).gens[j]? =some t:=h
   rw[A] at d;cases d
   rw[p] at a;cases a
   exact⟨u,F,O⟩
  .refine c.cl r v l j t ?_ h
   split at b
   .rename_i N;subst N
    have:j≠k:=λK=>e ⟨rfl,K⟩
    omega
   .exact b
 .intro G g o
  rw[fQ τ _ oq] at o
  rw[cZ]
  exact c.dn G g o
theorem CI.reach (c:CI n i τ)(hi:i<n){p:Nat}(B:(τ i).to p=none)(Y:aY n y)(F:Fix i y)(U:y.getD i 0=p)(Q:bX n (· ∈(τ i).gens) y):CI n i (tZ τ i ((τ i).reach p y)):=by
 have L:=c.mV;have l:p∉(τ i).orb:=λh=>by have:=(L.iff p).1 h;rw[B] at this;cases this
 have f: ∀r v,((τ i).reach p y).to r=some v->(r=p/\v=y)\/(r≠p/\(τ i).to r=some v):=by
  intro r v h;have o:(if r=p then some y else (τ i).to r)=some v:=h;split at o
  .rename_i e;cases o;exact .inl ⟨e,rfl⟩
  .rename_i e;exact .inr ⟨e,o⟩
 have d: ∀r v,(τ i).to r=some v->((τ i).reach p y).to r=some v:=by
  intro r v h;have:r≠p:=λe=>by rw[e,B] at h;cases h
  show (if r=p then some y else (τ i).to r)=some v;rw[if_neg this];exact h
 refine⟨?_,?_,?_,c.up.adK oq⟩
 .rw[cZ]
  refine⟨?_,List.mem_append_left _ L.base,d _ _ L.one,λr=>?_,λr v h=>?_,λr v h=>?_,λr v h=>?_,λr v h=>?_,L.gP,L.gF,L.gN,L.le,λr P=>?_⟩
  .show ((τ i).orb++ [p]).Nodup
   rw[List.nodup_append];exact⟨L.nd,by simp,λa W b J=>by simp at J;subst J;exact λe=>l (e▸W)⟩
  .show r∈(τ i).orb++ [p]↔(if r=p then some y else (τ i).to r).isSome
   by_cases e:r=p
   .subst e;simp
   .rw[if_neg e,<-L.iff r];simp [e]
  .rcases f r v h with ⟨_,rfl⟩|⟨_,h⟩
   .exact Y
   .exact L.bM r v h
  .rcases f r v h with ⟨_,rfl⟩|⟨_,h⟩
   .exact F
   .exact L.fix r v h
  .rcases f r v h with ⟨rfl,rfl⟩|⟨_,h⟩
   .exact U
   .exact L.maps r v h
  .rcases f r v h with ⟨_,rfl⟩|⟨_,h⟩
   .exact Q
   .exact L.gen r v h
  .exact L.zero r λh=>P (List.mem_append_left _ h)
 .intro r v K j t A G
  rw[cZ] at K A G |-;simp only[abT (Nat.lt_succ_self i)];rcases f r v K with ⟨rfl,rfl⟩|⟨_,h⟩
  .have hz:(τ i).tr r=0:=L.zero r l
   have N:j<(τ i).tr r:=A;omega
  .obtain⟨a,Z,O⟩:=c.cl r v h j t A G
   exact⟨a,d _ _ Z,O⟩
 .intro R g m
  rw[fQ τ _ oq] at m;rw[cZ];exact c.dn R g m
theorem CI.found (c:CI n i τ)(hi:i<n){p:Nat}(b:(τ i).to q=some y)(A:(τ i).tr q=k)(r:(τ i).gens[k]? =some s)(m:(aS y s).getD i 0=p)(o:(τ i).to p=none):
  CI n i (tZ τ i (((τ i).tick q).reach p (aS y s))):=by
 have L:=c.mV
 have a:s∈(τ i).gens:=List.mem_of_getElem? r
 have Y:=L.bM q y b
 have l:=L.gP s a
 have t:=c.reach hi o (Y.mul l) (Fix.mul Y oq (L.fix q y b) (L.gF s a)) m ((L.gen q y b).mul a)
 have f:q≠p:=λe=>by rw[e,o] at b;cases b
 have d:(tZ τ i ((τ i).reach p (aS y s)) i).to p=some (aS y s):=by
  rw[cZ];show (if p=p then some (aS y s) else (τ i).to p)=_;rw[if_pos rfl]
 have B:S n (tZ τ i ((τ i).reach p (aS y s))) (i+1) (aS (aS y s) (cK (aS y s))):=by
  rw[dB (Y.mul l)];exact (t.up.cX oq).one
 have v:=t.tick (q:=q) (k:=k) (y:=y) (s:=s) (u:=aS y s) (by
  rw[cZ];show (if q=p then some (aS y s) else (τ i).to q)=_
  rw[if_neg f];exact b) (by rw[cZ];exact A) (by rw[cZ];exact r) (by rw[m];exact d) B
 have e:tZ (tZ τ i ((τ i).reach p (aS y s))) i ((tZ τ i ((τ i).reach p (aS y s)) i).tick q)=tZ τ i (((τ i).tick q).reach p (aS y s)):=by
  funext j
  by_cases h:j=i
  .subst h;rw[cZ,cZ,cZ];rfl
  .rw[fQ _ _ h,fQ _ _ h,fQ _ _ h]
 rwa [e] at v
structure Ei (n i:Nat)(x:List Nat)(τ τ':pP):Prop where
 low: ∀j,j<i->τ' j=τ j
 tw:pH n i τ'
 old: ∀s∈(τ i).gens,s∈(τ' i).gens
 new: ∀s∈(τ' i).gens,bX n (λg=>g∈(τ i).gens\/g=x) s
 has:bX n (· ∈(τ' i).gens) x
theorem Ei.S (a:Ei n i x τ τ')(t:pH n i τ)(hi:i<n)(h:Go.Pm.S n τ i z):Go.Pm.S n τ' i z:=
 (a.tw.gen hi).2 (((t.gen hi).1 h).mono a.old)
theorem CI.added (c:CI n i τ)(d:i+1<n)(a:Ei n (i+1) z τ τ')(r:bX n (· ∈(τ i).gens) z):CI n i τ'/\Go.Pm.S n τ' (i+1) z:=by
 have e:=a.low i oq;refine⟨⟨e▸c.mV,λq y l k s f m=>?_,λh g b=>?_,a.tw⟩,(a.tw.gen d).2 a.has⟩
 .rw[e] at l f m |-
  obtain⟨u,p,o⟩:=c.cl q y l k s f m;exact⟨u,p,a.S c.up d o⟩
 .rw[e]
  refine (a.new g b).le (bX.cX c.mV.gP) λg b=>?_
  rcases b with b|rfl
  .exact c.dn d g b
  .exact r
def Tn (n:Nat)(τ:pP):Nat->Nat->List Nat->Nat×List Nat
 |0,i,x=>(i,x)
 |d+1,i,x=>match (τ i).to (x.getD i 0) with
  |none=>(i,x)
  |some y=>Tn n τ d (i+1) (if x.getD i 0=i then x else aS x (cK y))
structure SfP (n i:Nat)(τ:pP)(x:List Nat)(k:Nat)(r:List Nat):Prop where
 ge:i<=k
 le:k<=n
 bM:aY n r
 fix:Fix k r
 out:k<n->(τ k).to (r.getD k 0)=none
 rest:i<n-> ∃w,bX n (· ∈(τ i).gens) w/\x=aS r w
theorem MR:(d i:Nat)->(x:List Nat)->i+d=n->pH n i τ->aY n x->Fix i x->SfP n i τ x (Tn n τ d i x).1 (Tn n τ d i x).2
 |0,i,x,h,_,X,F=>⟨Nat.le_refl _,by show i<=n;omega,X,F,λa=>by have:i<n:=a;omega,λa=>oq⟩
 |d+1,i,x,h,t,X,F=>by
  have hi:i<n:=oq
  obtain⟨L,C,B,D⟩:=t i (Nat.le_refl _) hi;unfold Tn
  cases e:(τ i).to (x.getD i 0) with
  |none=>exact⟨Nat.le_refl _,by show i<=n;omega,X,F,λ_=>e,λ_=>⟨bC n,.one,(bD X).symm⟩⟩
  |some y=>
   simp only;have Y:=L.bM _ y e
   have m: ∀f,f=(if x.getD i 0=i then x else aS x (cK y))->aY n f/\Fix (i+1) f/\x=aS f y:=by
    intro f a
    by_cases l:x.getD i 0=i
    .rw[if_pos l] at a
     subst a;rw[l,L.one] at e;cases e;exact⟨X,F.succ l,(bD X).symm⟩
    .rw[if_neg l] at a
     subst a;refine⟨X.mul Y.inv,(Fix.mul X oq F (Fix.inv Y oq (L.fix _ y e))).succ ?_,by rw[aG X Y.inv Y,dU Y,bD X]⟩;rw[dI (by rw[X.len];exact hi)];have:=rE Y hi;rwa [L.maps _ y e] at this
   obtain⟨A,F2,ex⟩:=m _ rfl;have b:=MR d (i+1) _ oq (t.mono oq) A F2;refine⟨by have:=b.ge;omega,b.le,b.bM,b.fix,b.out,λ_=>?_⟩
   by_cases o:i+1<n
   .obtain⟨w,r,v⟩:=b.rest o
    have c:bX n (· ∈(τ i).gens) w:=r.le (bX.cX L.gP) (D o);refine⟨aS w y,c.app L.gP (L.gen _ y e),?_⟩;rw[<-aG b.bM (c.bM L.gP) Y,<-v];exact ex
   .have p:d=0:=oq
    subst p;exact⟨y,L.gen _ y e,ex⟩
theorem SfP.in (f:SfP n i τ x n w)(t:pH n i τ)(hi:i<n):S n τ i x:=by
 obtain⟨v,a,e⟩:=f.rest hi;have:=f.fix.all f.bM;rw[this,cV (a.bM (t i (Nat.le_refl _) hi).1.gP)] at e;subst e;exact (t.gen hi).2 a
theorem SfP.ahI (f:SfP n i τ x k w)(t:pH n i τ)(a:k<n)(c:i<=j)(h2:j<=k): ¬S n τ j w:=by
 intro h;have l:=t.mono c;have d:=(l.Uk h2 oq).2 ⟨h,f.fix⟩;obtain⟨y,b,_⟩:=(t.mono f.ge).sift a d;rw[f.out a] at b;cases b
def push (τ:pP)(i k:Nat)(r:List Nat):pP:=λj=>if i<=j/\j<=k then (τ j).more r else τ j
theorem CR (τ:pP){i:Nat}(r:List Nat)(a:i<=j)(h2:j<=k):push τ i k r j=(τ j).more r:=by simp [push,a,h2]
theorem Jo (τ:pP){i:Nat}(r:List Nat)(h:j<i\/k<j):push τ i k r j=τ j:=by
 unfold push;rw[if_neg oq]
structure Jl (n i k:Nat)(r:List Nat)(τ τ':pP)(j:Nat):Prop where
 low: ∀m,m<j->τ' m=push τ i k r m
 tw:pH n j τ'
 gens:j<=k->(τ' j).gens=(τ j).gens++ [r]
 same:k<j->τ' j=τ j
theorem Jl.start (f:SfP n i τ x k w)(t:pH n i τ)(_:k<n):Jl n i k w τ (push τ i k w) (k+1):=
 ⟨λ_ _=>rfl,(t.mono (by have:=f.ge;omega)).congr λj a _=>(Jo τ w (.inr oq)).symm,λh=>oq,λ_=>Jo τ w (.inr oq)⟩
theorem Jl.ci (f:SfP n i τ x k w)(t:pH n i τ)(W:k<n)(a:Jl n i k w τ τ' (j+1))(B:i<=j)(h2:j<=k):CI n j τ':=by
 have R:j<n:=oq
 obtain⟨L,C,Fu,D⟩:=t j B R;have e:τ' j=(τ j).more w:=(a.low j oq).trans (CR τ w B h2);have Y:=t.mono B;have F:w∉(τ j).gens:=λZ=>f.ahI t W B h2 ((Y.gen R).2 (bX.of L.gP Z))
 have K: ∀z,S n τ (j+1) z->S n τ' (j+1) z:=by
  intro z N
  by_cases A:j+1<n
  .have G:=t.mono (show i<=j+1 by omega)
   refine (a.tw.gen A).2 (((G.gen A).1 N).mono λg c=>?_)
   by_cases o:j+1<=k
   .rw[a.gens o];exact List.mem_append_left _ c
   .rw[a.same oq];exact c
  .obtain rfl:j+1=n:=oq
   rw[tE] at N |-;exact N
 have l: ∀g,g∈(τ j).gens->g∈(τ j).gens++ [w]:=λg c=>List.mem_append_left _ c
 have v: ∀g,g∈(τ j).gens++ [w]->aY n g:=λg c=>by
  rcases List.mem_append.1 c with c|c
  .exact L.gP g c
  .simp at c;subst c;exact f.bM
 refine⟨?_,λq y P m s Q d=>?_,λA s d=>?_,a.tw⟩
 .rw[e]
  refine⟨L.nd,L.base,L.one,L.iff,L.bM,L.fix,L.maps,λp y h=>(L.gen p y h).mono l,v,λg c=>?_,?_,λq=>?_,L.zero⟩
  .rcases List.mem_append.1 c with c|c
   .exact L.gF g c
   .simp at c;subst c;exact f.fix.mono h2
  .show ((τ j).gens++ [w]).Nodup
   rw[List.nodup_append];exact⟨L.gN,by simp,λa ha b O=>by simp at O;subst O;exact λe=>F (e▸ha)⟩
  .show (τ j).tr q<=((τ j).gens++ [w]).length
   have:=L.le q;simp;omega
 .rw[e] at P Q d |-
  have J:m<(τ j).tr q:=Q;have r:((τ j).gens++ [w])[m]? =some s:=d;rw[List.getElem?_append_left (by have:=L.le q;omega)] at r;obtain⟨u,g1,U⟩:=C q y P m s J r;exact⟨u,g1,K _ U⟩
 .rw[e]
  show bX n (· ∈(τ j).gens++ [w]) s
  by_cases o:j+1<=k
  .rw[a.gens o] at d
   rcases List.mem_append.1 d with d|d
   .exact (D A s d).mono l
   .simp at d;subst d
    exact bX.of v (List.mem_append_right _ (by simp))
  .rw[a.same oq] at d
   exact (D A s d).mono l
theorem Jl.next {b:pP}(a:Jl n i k w τ τ' (j+1))(c:i<=j)(h2:j<=k)(low: ∀m,m<j->b m=τ' m)(g:(b j).gens=(τ' j).gens)(t:pH n j b):Jl n i k w τ b j:=
 ⟨λm d=>(low m d).trans (a.low m oq),t,λ_=>by rw[g,a.low j oq,CR τ w c h2];rfl,λh=>oq⟩
theorem Jl.done (f:SfP n i τ x k w)(t:pH n i τ)(X:aY n x)(p:k<n)(a:Jl n i k w τ τ' i):Ei n i x τ τ':=by
 have hi:i<n:=by have:=f.ge;omega
 have L:=(t i (Nat.le_refl _) hi).1;have c:=a.gens f.ge;obtain⟨v,l,e⟩:=f.rest hi;have V:=l.bM L.gP;refine⟨λj m=>(a.low j m).trans (Jo τ w (.inl m)),a.tw,λs d=>?_,λs d=>?_,?_⟩
 .rw[c];exact List.mem_append_left _ d
 .have b: ∀g,(g∈(τ i).gens\/g=x)->aY n g:=λg c=>by
   rcases c with c|rfl
   .exact L.gP g c
   .exact X
  rw[c] at d;rcases List.mem_append.1 d with d|d
  .exact bX.of b (.inl d)
  .simp at d;subst d
   have o:s=aS x (cK v):=by rw[e,aG f.bM V V.inv,dB V,bD f.bM]
   rw[o];exact (bX.of b (.inr rfl)).app b ((l.mono λg c=>Or.inl c).inv b)
 .have b: ∀g,g∈(τ' i).gens->aY n g:=(a.tw i (Nat.le_refl _) hi).1.gP
  rw[e];exact (bX.of b (by rw[c];exact List.mem_append_right _ (by simp))).app b (l.mono λg h=>by rw[c];exact List.mem_append_left _ h)
theorem Ei.none (t:pH n i τ)(hi:i<n)(h:Go.Pm.S n τ i x):Ei n i x τ τ:=by
 have L:=(t i (Nat.le_refl _) hi).1
 have c: ∀g,(g∈(τ i).gens\/g=x)->aY n g:=λg b=>by
  rcases b with b|rfl
  .exact L.gP g b
  .exact t.bM oq h
 exact⟨λ_ _=>rfl,t,λ_ a=>a,λs a=>bX.of c (.inl a),(t.gen hi).1 h⟩
theorem RD.many {l:Lv}(L:RD n j l):l.gens.length<=n^n:=xV L.gN L.gP
def RS (n:Nat):pP:=λj=>⟨[], [j],λp=>if p=j then some (bC n) else none,λ_=>0⟩
theorem SC (n:Nat):pH n 0 (RS n):=λj _ f=>by
 refine⟨⟨by simp [RS],by simp [RS],by simp [RS],λp=>?_,λp y h=>?_,λp y h=>?_,λp y h=>?_,λp y h=>?_,λs b=>?_,λs b=>?_,by simp [RS],λq=>Nat.le_refl _,λ_ _=>rfl⟩,λq y l k s d=>?_,λq _=>rfl,λ_ s b=>?_⟩
 .show p∈ [j]↔(if p=j then some (bC n) else none).isSome
  by_cases e:p=j<;>simp [e]
 all_goals first
  |(have a:(if p=j then some (bC n) else none)=some y:=h
    split at a
    .rename_i e
     cases a
     first
      |exact aY.one n
      |exact Fix.one n j oq
      |(rw[e];exact fW f)
      |exact .one
    .cases a)
  |(cases b;done)
  |(have c:k<0:=d;omega)
end
end
end Go.Pm
namespace Go.Proofs.YtcdbmkidaecdiaaGreat
open Go Go.Ay Go.Pm
def Slot (W:Nat->Prop)(h:H)(v:V):Option (List Nat)->Prop
 |none=>v= .aD
 |some y=>PV W h v y
def sE (F:Nat->V)(s:Nat):V:=F (s/2*194+s%2)
def WT (n L:Nat)(F:Nat->V)(id:Nat):Prop:=id=L\/ ∃s,s<2*n/\ ∃off len c,sE F s= .sl id off len c
structure rF (h:H)(n tid L:Nat)(F:Nat->V)(τ:pP):Prop where
 t:h.get tid=some (.cells false [aC n,.sl L 0 n (.kn n)])
 l:h.get L=some (.cells false (rc (n*194) F))
 tn:tid<h.next
 ln:L<h.next
 tw: ¬WT n L F tid
 to: ∀j p,j<n->p<64->Slot (WT n L F) h (F (j*194+2+p)) ((τ j).to p)
 iv: ∀j p,j<n->p<64->Slot (WT n L F) h (F (j*194+66+p)) (((τ j).to p).map cK)
 tr: ∀j p,j<n->p<64->F (j*194+130+p)= aC ((τ j).tr p:Nat)
 gens: ∀j,j<n-> ∃vs,cW h (F (j*194)) 1 vs 0/\fG (WT n L F) h vs (τ j).gens
 orb: ∀j,j<n->cW h (F (j*194+1)) 1 (ints (zi (τ j).orb)) 0
 HG: ∀s s',s<2*n->s'<2*n->s≠s'->Dis (sE F s) (sE F s')
 ap: ∀s,s<2*n->dS (sE F s) L
section
variable {h h':H} {n tid L:Nat} {F:Nat->V} {τ:pP}
theorem Slot.fx {W:Nat->Prop}{v:V}{o:Option (List Nat)}(s:Slot W h v o)(f:Fx W h h'):Slot W h' v o:=by
 cases o with
 |none=>exact s
 |some y=>exact PV.fx s f
theorem Slot.jK {W W':Nat->Prop}{v:V}{o:Option (List Nat)}(s:Slot W h v o)(a: ∀id,id<h.next->W' id->W id):Slot W' h v o:=by
 cases o with
 |none=>exact s
 |some y=>exact PV.jK s a
theorem Cx (F:Nat->V)(j:Nat):sE F (2*j)=F (j*194):=by
 unfold sE;congr 1;omega
theorem He (F:Nat->V)(j:Nat):sE F (2*j+1)=F (j*194+1):=by
 unfold sE;congr 1;omega
theorem rF.own (R:rF h n tid L F τ){s:Nat}(c:s<2*n): ∃ws,cW h (sE F s) 1 ws 0:=by
 rcases Nat.mod_two_eq_zero_or_one s with e|e
 .obtain⟨b,a,_⟩:=R.gens (s/2) om
  exact⟨b,by unfold sE;rw[e];exact a⟩
 .exact⟨_,by unfold sE;rw[e];exact R.orb (s/2) om⟩
theorem rF.Iq (R:rF h n tid L F τ){id:Nat}(a:WT n L F id):id<h.next:=by
 rcases a with rfl|⟨s,d,b,len,c,e⟩
 .exact R.ln
 .obtain⟨f,o⟩:=R.own d
  exact (o.in _ _ _ _ e).1
theorem rF.mono (R:rF h n tid L F τ)(f:Fr h h'):rF h' n tid L F τ:=by
 refine⟨by rw[f.get _ R.tn];exact R.t,by rw[f.get _ R.ln];exact R.l,kQ R.tn f.next,kQ R.ln f.next,R.tw,
  λj p a b=>(R.to j p a b).fx (Fx.of f),λj p a b=>(R.iv j p a b).fx (Fx.of f),R.tr,λj c=>?_,λj c=>(R.orb j c).fr f,R.HG,R.ap⟩
 obtain⟨d,a,b⟩:=R.gens j c;exact⟨d,a.fr f,b.fx (Fx.of f)⟩
theorem rF.cell (R:rF h n tid L F τ){j c:Nat}(a:j<n)(b:c<194):h.cell L (j*194+c)=some (F (j*194+c)):=
 iJ R.l (by
         have:(j+1)*194<=n*194:=Nat.mul_le_mul_right _ a
         omega)
theorem rF.Nz (R:rF h n tid L F τ){j c p:Nat}(a:j<n)(b:c+p<194):h.cell L (j*194+c+p)=some (F (j*194+c+p)):=by
 rw[Nat.add_assoc];exact R.cell a b
end
theorem TJ {n:Nat}{τ:pP}{d i:Nat}{x:List Nat}(h:(τ i).to (x.getD i 0)=none):Tn n τ (d+1) i x=(i,x):=by
 rw[Tn,h]
theorem SG {n:Nat}{τ:pP}{d i:Nat}{x z:List Nat}(h:(τ i).to (x.getD i 0)=some z):Tn n τ (d+1) i x=Tn n τ d (i+1) (if x.getD i 0=i then x else aS x (cK z)):=by
 rw[Tn,h]
theorem XS (h:H)(n tid L:Nat)(F:Nat->V)(τ:pP)(Q:V)(x:List Nat)(a:Nat)(hn:n<=64)(h0:0<n)(R:rF h n tid L F τ)(hx:PV (WT n L F) h Q x)(X:aY n x)(a0:a<=n)(t:pH n a τ):
  Ev T 229 [.ptr tid 0,Q,aC a] h (λv h'=> ∃vr,v= .tup [aC (((Tn n τ (n-a) a x).1:Nat):Int),vr]/\PV (WT n L F) h' vr (Tn n τ (n-a) a x).2/\aY n (Tn n τ (n-a) a x).2/\Fr h h'):=by
 refine nL ?_
 refine aH (λk' o hh=> ∃(i:Nat) (y:List Nat) (s:V),(∃g:Nat->V,o= [.ptr tid 0,s,g 2,g 3,g 4,aC i,g 6,g 7,g 8,g 9])/\a<=i/\i<=n/\Tn n τ (n-i) i y=Tn n τ (n-a) a x/\
   PV (WT n L F) hh s y/\aY n y/\Fr h hh/\k'=n-i) (n-a)
  ⟨a,x,Q,aB rfl,eU _,a0,rfl,hx,X,Fr.refl h,rfl⟩ ?_
 rintro k' o d ⟨i,y,s,⟨g,rfl⟩,N,a5,l,A,Y,f,rfl⟩
 have K:=R.mono f
 have ct:d.cell tid 0=some (aC n):=by rw[H.cell_of K.t];rfl
 have cl:d.cell tid 1=some (.sl L 0 n (.kn n)):=by rw[H.cell_of K.t];rfl
 refine cU ct cl ?_
 by_cases u:(i:Int)<(n:Int)
 .have b:i<n:=om
  rw[cJ u]
  obtain⟨id,a2,J,a4,hc⟩:=A.si.open
  rw[aL,Y.len] at J a4 hc
  have ci:d.cell id (a2+i)=some (aC (y.getD i 0:Nat)):=by rw[hc i b];congr 2;simp [zi,Y.len,b]
  have r:=Y.fZ b
  have lv:=(t i N b).1
  generalize U:y.getD i 0=k at ci r
  have cb:=K.Nz (c:=66) (p:=k) b om
  have G:=K.iv i k b om
  refine iT ct cl @J.ixa ci cb ?_
  generalize F (i*194+66+k)=W at G cb
  have q:n-i=(n-(i+1))+1:=om
  rw[q] at l
  cases hto:(τ i).to k with
  |none=>
   rw[hto] at G;rw[TJ (by rw[U];exact hto)] at l;have m:W= .aD:=G;subst m;refine aM ?_;rw[<-l];exact⟨s,rfl,A.fx (Fx.of ((Fr.refl d).bU om)),Y,f.bU om⟩
  |some z=>
   rw[hto] at G;rw[SG (by rw[U];exact hto),U] at l;have Z:=lv.bM _ _ hto;have m:PV (WT n L F) d W (cK z):=G;have sn:=Ch m (aY.ne h0 Z.inv) false;have B:Fr d (H.mk d.tr (d.next+14)):=(Fr.refl d).bU om
   by_cases w:k=i
   .have O:decide ((k:Int)≠(i:Int))=false:=bT om
    rw[bL w] at l;refine gX sn @J.ixa ci O ?_;rw[eJ i];exact⟨n-(i+1),om,i+1,y,s,aB rfl,om,om,l,A.fx (Fx.of B),Y,f.trans B,rfl⟩
   .have O:decide ((k:Int)≠(i:Int))=true:=cJ om
    rw[bV w] at l;refine gX sn @J.ixa ci O ?_;have a3:=A.fx (Fx.of B);have a1:=m.fx (Fx.of B);have f':=f.trans B;generalize H.mk d.tr (d.next+14)=h3 at*;refine (nU oG.ok s W y (cK z) h3 (by rw[Y.len];omega) a3.si a1.si (λj hj=>by rw[iI,Z.len];exact Y.fZ (by rw[<-Y.len];exact hj))).mono ?_;rintro v h4 nw;have f4:=f'.trans nw.fr;refine aM ?_;rw[eJ i];refine⟨n-(i+1),om,i+1,_,v,aB rfl,om,om,l,nw.pv (λhw=>?_),Y.mul Z.inv,f4,rfl⟩;have:=R.Iq hw;have:=f'.next;omega
 .rw[bT u]
  obtain rfl:i=n:=om
  refine cU ct cl ?_
  rw[Nat.sub_self] at l
  have P:Tn i τ (i-a) a x=(i,y):=l.symm
  rw[P]
  exact⟨s,rfl,A,Y,f⟩
end Go.Proofs.YtcdbmkidaecdiaaGreat
namespace Go.Proofs.YtcdbmkidaecdiaaGreat
open Go Go.Ay Go.Pm
section
variable {h h' h2:H} {n tid L i:Nat} {F F':Nat->V} {τ τ':pP}
theorem TG (b: ∀s,s<2*n->sE F' s=sE F s)(id:Nat):WT n L F' id↔WT n L F id:=by
 unfold WT;constructor
 .rintro (e|⟨s,a,h2⟩)
  .exact .inl e
  .exact .inr ⟨s,a,by rw[<-b s a];exact h2⟩
 .rintro (e|⟨s,a,h2⟩)
  .exact .inl e
  .exact .inr ⟨s,a,by rw[b s a];exact h2⟩
theorem NO {j:Nat}(P: ∀s,s<2*n->sE F' s=sE F s)(a:j<n):F' (j*194)=F (j*194)/\F' (j*194+1)=F (j*194+1):=
 ⟨(Cx F' j).symm.trans ((P _ om).trans (Cx F j)),(He F' j).symm.trans ((P _ om).trans (He F j))⟩
theorem PV.go {W W':Nat->Prop}{v:V}{l:List Nat}(p:PV W h v l)(f:Fx W h h')(a: ∀id,id<h.next->W' id->W id):PV W' h' v l:=⟨p.si.fx p.off f,p.off.jK p.si a⟩
theorem Slot.go {W W':Nat->Prop}{v:V}{o:Option (List Nat)}(s:Slot W h v o)(f:Fx W h h')(a: ∀id,id<h.next->W' id->W id):Slot W' h' v o:=by
 cases o with
 |none=>exact s
 |some y=>exact PV.go s f a
theorem fG.go {W W':Nat->Prop}{vs:List V}{ls:LN}(s:fG W h vs ls)(f:Fx W h h')(a: ∀id,id<h.next->W' id->W id):fG W' h' vs ls:=s.mono λ_ _ x=>PV.go x f a
theorem rF.cells (R:rF h n tid L F τ)(o:h.next<=h'.next)(y: ∀id,id≠L->id<h.next->h'.get id=h.get id)(B:h'.get L=some (.cells false (rc (n*194) F')))
  (k: ∀s,s<2*n->sE F' s=sE F s) (z: ∀j,j<n->(τ' j).gens=(τ j).gens/\(τ' j).orb=(τ j).orb)
  (v: ∀j p,j<n->p<64->Slot (WT n L F) h' (F' (j*194+2+p)) ((τ' j).to p)) (u: ∀j p,j<n->p<64->Slot (WT n L F) h' (F' (j*194+66+p)) (((τ' j).to p).map cK))
  (r: ∀j p,j<n->p<64->F' (j*194+130+p)= aC ((τ' j).tr p:Nat)):rF h' n tid L F' τ'/\Fx (WT n L F) h h'/\ ∀id,WT n L F' id↔WT n L F id:=by
 have f:Fx (WT n L F) h h':=⟨o,λid b h2=>y id (λe=>h2 (.inl e)) b⟩
 have w:=TG (L:=L) k
 have q:WT n L F'=WT n L F:=funext λid=>propext (w id)
 have A: ∀s,s<2*n-> ∀id a len c,sE F s= .sl id a len c->id<h.next->h'.get id=h.get id:=λs b id a len c e h2=>y id (λJ=>(R.ap s b _ _ _ _ e) J.symm) h2
 refine⟨⟨?_,B,kQ R.tn o,kQ R.ln o,by rw[q];exact R.tw,by rw[q];exact v,by rw[q];exact u,r,λj d=>?_,λj d=>?_,λs x b h2 l=>by rw[k s b,k x h2];exact R.HG s x b h2 l,λs b=>by rw[k s b];exact R.ap s b⟩,f,w⟩
 .rw[f.get tid R.tn R.tw];exact R.t
 .obtain⟨G,b,h2⟩:=R.gens j d
  rw[(NO k d).1,q,(z j d).1]
  exact⟨G,b.qX o λid a m c e l=>A (2*j) om id a m c (by rw[Cx];exact e) l,h2.fx f⟩
 .rw[(NO k d).2,(z j d).2]
  exact (R.orb j d).qX o λid a m c e l=>A (2*j+1) om id a m c (by rw[He];exact e) l
structure aiC (h h':H)(n tid L:Nat)(F F':Nat->V)(s0:Nat):Prop where
 fx:Fx (WT n L F) h h'
 wt: ∀id,id<h.next->WT n L F' id->WT n L F id
 HG: ∀s s',s<2*n->s'<2*n->s≠s'->Dis (sE F' s) (sE F' s')
 ap: ∀s,s<2*n->dS (sE F' s) L
 own: ∀s,s<2*n->s≠s0->sE F' s=sE F s/\ ∀ws,cW h (sE F s) 1 ws 0->cW h' (sE F s) 1 ws 0
theorem rF.aiM (R:rF h n tid L F τ){s0 y m:Nat}(x:s0<2*n){ws us:List V}(p:tK h (sE F s0) y m 1 ws us h2)(j: ∀s,s<2*n->s≠s0->sE F' s=sE F s){P:uF}(f:sE F' s0= .sl h.next 0 (y+m) P)(o:Option Ob):
  aiC h (h2.set L o) n tid L F F' s0:=by
 have q: ∀s,s<2*n-> ∀id a len c,sE F s= .sl id a len c->id<h.next:=λs t id a len c e=>by
  obtain⟨ws,o⟩:=R.own t;exact (o.in _ _ _ _ e).1
 have K:Fx (WT n L F) h h2:=p.fx λid a len c e=> .inr ⟨s0,x,a,len,c,e⟩
 refine⟨K.trans (Fx.set h2 (.inl rfl:WT n L F L) o) (λ_ _ h=>h),λid d A=>?_,λs k d h2 r=>?_,λs d=>?_,λs d r=>⟨j s d r,λws G=>?_⟩⟩
 .rcases A with e|⟨s,t,a,len,c,e⟩
  .exact .inl e
  .by_cases b:s=s0
   .rw[b,f] at e;cases e;omega
   .exact .inr ⟨s,t,a,len,c,by rw[<-j s t b];exact e⟩
 .by_cases b:s=s0
  .rw[b,f,j k h2 om]
   intro i o n c e N J u w l
   cases e
   have:=q k h2 _ _ _ _ l
   omega
  .rw[j s d b]
   by_cases z:k=s0
   .rw[z,f]
    intro i o n c e N J u w l
    cases l
    have:=q s d _ _ _ _ e
    omega
   .rw[j k h2 z];exact R.HG s k d h2 r
 .by_cases b:s=s0
  .rw[b,f]
   exact dS.sl (by have:=R.ln;omega)
  .rw[j s d b];exact R.ap s d
 .refine G.qX (show h.next<=h2.next by rw[p.next];omega) λid a m c e O=>?_
  rw[H.aF h2 (λb:id=L=>(R.ap s d _ _ _ _ e) b.symm)]
  refine p.old id om λB v u w l b=>?_
  exact R.HG s s0 d x r _ _ _ _ e _ _ _ _ l b
def F1 (F:Nat->V)(k:Nat)(v:V):Nat->V:=λc=>if c=k then v else F c
theorem rF.slot (R:rF h n tid L F τ){e k m:Nat}(hi:i<n)(W:e<2){ws us:List V}(p:tK h (F (i*194+e)) k m 1 ws us h2){h3:H}{v:V}{q:uF}(u:q= .un 1\/q= .kn (k+m))(A:v= .sl h.next 0 (k+m) q)(o:h3=h2.set L (some (.cells false (rc (n*194) (F1 F (i*194+e) v)))))
  (a: ∀j,j<n->(τ' j).to=(τ j).to/\(τ' j).tr=(τ j).tr)
  (O:Fx (WT n L F) h h3->(∀id,id<h.next->WT n L (F1 F (i*194+e) v) id->WT n L F id)->(∀s,s<2*n->s≠2*i+e-> ∀ws,cW h (sE F s) 1 ws 0->cW h3 (sE F s) 1 ws 0)->cW h3 v 1 (ws++us) 0->ws.length=k*1/\us.length=m*1->
   (∀j,j<n-> ∃vs,cW h3 (F1 F (i*194+e) v (j*194)) 1 vs 0/\fG (WT n L (F1 F (i*194+e) v)) h3 vs (τ' j).gens)/\ ∀j,j<n->cW h3 (F1 F (i*194+e) v (j*194+1)) 1 (ints (zi (τ' j).orb)) 0)
  (x:ws.length=k*1/\us.length=m*1):
  rF h3 n tid L (F1 F (i*194+e) v) τ'/\Fx (WT n L F) h h3/\ ∀id,id<h.next->WT n L (F1 F (i*194+e) v) id->WT n L F id:=by
 have z: ∀s,s<2*n->s≠2*i+e->sE (F1 F (i*194+e) v) s=sE F s:=λs d h2=>by
  unfold sE F1;rw[bV om]
 have f:(2*i+e)/2*194+(2*i+e)%2=i*194+e:=om
 have y:sE F (2*i+e)=F (i*194+e):=by unfold sE;rw[f]
 have w:sE (F1 F (i*194+e) v) (2*i+e)= .sl h.next 0 (k+m) q:=by unfold sE F1;rw[f,bL rfl,A]
 have G:=R.aiM (F':=F1 F (i*194+e) v) (s0:=2*i+e) om (by rw[y];exact p) z w (some (.cells false (rc (n*194) (F1 F (i*194+e) v))))
 rw[<-o] at G
 obtain⟨J,P⟩:=O G.fx G.wt (λs d h2=>(G.own s d h2).2) (by
  rw[A,o];have N:cW h2 (.sl h.next 0 (k+m) q) 1 (ws++us) 0:= .inr ⟨h.next,k+m,q, [],rfl,by rw[iB,x.1,x.2];omega,by rcases u with e|e;exact .inl e;exact .inr ⟨e,rfl⟩,fE _,by rw[p.next];omega,by rw[qV];exact p.get⟩;refine N.qX (eU _) λid K m c e Q=>?_
  cases e
  exact H.aF h2 (by have:=R.ln;omega) _) x
 have U: ∀j c,2<=c->c<194->F1 F (i*194+e) v (j*194+c)=F (j*194+c):=λj c d h2=>by
  unfold F1;rw[bV om]
 have l: ∀j b c,2<=b->b+c<194->F1 F (i*194+e) v (j*194+b+c)=F (j*194+b+c):=λj b c d h2=>by
  rw[Nat.add_assoc];exact U j (b+c) om h2
 have r:=G.fx.next
 refine⟨⟨?_,by rw[o,H.aW],kQ R.tn r,kQ R.ln r,λB=>R.tw (G.wt _ R.tn B),λj p d h2=>?_,λj p d h2=>?_,λj p d h2=>?_,J,P,G.HG,G.ap⟩,G.fx,G.wt⟩
 .rw[G.fx.get tid R.tn R.tw];exact R.t
 .rw[l j 2 p om om,(a j d).1];exact (R.to j p d h2).go G.fx G.wt
 .rw[l j 66 p om om,(a j d).1];exact (R.iv j p d h2).go G.fx G.wt
 .rw[l j 130 p om om,(a j d).2];exact R.tr j p d h2
theorem rF.more (R:rF h n tid L F τ)(hi:i<n){vs:List V}{c:V}{r:List Nat}(pv:fG (WT n L F) h vs (τ i).gens)(q:PV (WT n L F) h c r)(p:tK h (F (i*194)) (τ i).gens.length 1 1 vs [c] h2){h3:H}{v:V}(o:v= .sl h.next 0 ((τ i).gens.length+1) (.un 1))(d:h3=h2.set L (some (.cells false (rc (n*194) (F1 F (i*194) v))))):
  rF h3 n tid L (F1 F (i*194) v) (tZ τ i ((τ i).more r))/\Fx (WT n L F) h h3/\ ∀id,id<h.next->WT n L (F1 F (i*194) v) id->WT n L F id:=by
 refine R.slot (e:=0) hi om p (.inl rfl) o d (λj a=>?_) (λf b k m t=>⟨λj a=>?_,λj a=>?_⟩) ⟨by have:=aJ.length pv;omega,rfl⟩
 .by_cases e:j=i
  .subst e;rw[cZ];exact⟨rfl,rfl⟩
  .rw[fQ _ _ e];exact⟨rfl,rfl⟩
 .by_cases e:j=i
  .subst e
   rw[cZ]
   refine⟨vs++ [c],?_,(fG.go pv f b).append (fG.one (PV.go q f b))⟩
   unfold F1;rw[bL (Nat.add_zero _).symm];exact m
  .rw[fQ _ _ e]
   obtain⟨l,s,h2⟩:=R.gens j a
   refine⟨l,?_,fG.go h2 f b⟩
   have:=k (2*j) om om l (by rw[Cx];exact s)
   rw[Cx] at this
   unfold F1;rw[bV om];exact this
 .have:=k (2*j+1) om om _ (by rw[He];exact R.orb j a)
  rw[He] at this
  unfold F1;rw[bV om]
  by_cases e:j=i
  .subst e;rw[cZ];exact this
  .rw[fQ _ _ e];exact this
theorem rF.RN (R:rF h n tid L F τ)(hi:i<n){q:Nat}(p:tK h (F (i*194+1)) (τ i).orb.length 1 1 (ints (zi (τ i).orb)) [aC q] h2){h3:H}{v:V}{c:uF}(b:c= .un 1\/c= .kn ((τ i).orb.length+1))(s:v= .sl h.next 0 ((τ i).orb.length+1) c)(d:h3=h2.set L (some (.cells false (rc (n*194) (F1 F (i*194+1) v))))):
  rF h3 n tid L (F1 F (i*194+1) v) (tZ τ i {τ i with orb:=(τ i).orb++ [q]})/\Fx (WT n L F) h h3/\ ∀id,id<h.next->WT n L (F1 F (i*194+1) v) id->WT n L F id:=by
 refine R.slot (e:=1) hi om p b s d (λj a=>?_) (λf k l o u=>⟨λj a=>?_,λj a=>?_⟩) ⟨by rw[aN,aL,qZ],rfl⟩
 .by_cases e:j=i
  .subst e;rw[cZ];exact⟨rfl,rfl⟩
  .rw[fQ _ _ e];exact⟨rfl,rfl⟩
 .obtain⟨m,t,h2⟩:=R.gens j a
  have:=l (2*j) om om m (by rw[Cx];exact t)
  rw[Cx] at this
  refine⟨m,?_,?_⟩
  .unfold F1;rw[bV om];exact this
  .by_cases e:j=i
   .subst e;rw[cZ];exact fG.go h2 f k
   .rw[fQ _ _ e];exact fG.go h2 f k
 .by_cases e:j=i
  .subst e
   rw[cZ]
   have r:ints (zi ((τ j).orb++ [q]))=ints (zi (τ j).orb)++ [aC q]:=by simp [zi,ints]
   show cW h3 _ 1 (ints (zi ((τ j).orb++ [q]))) 0
   rw[r]
   unfold F1;rw[bL rfl];exact o
  .rw[fQ _ _ e]
   have:=l (2*j+1) om om _ (by rw[He];exact R.orb j a)
   rw[He] at this
   unfold F1;rw[bV om];exact this
theorem rF.tick (R:rF h n tid L F τ)(hi:i<n){q:Nat}(l:q<64){z:Int}(k:z=((τ i).tr q:Nat)+1){h3:H}(c:h3=h.set L (some (.cells false (rc (n*194) (F1 F (i*194+130+q) (aC z)))))):
  rF h3 n tid L (F1 F (i*194+130+q) (aC z)) (tZ τ i ((τ i).tick q))/\Fx (WT n L F) h h3/\ ∀id,WT n L (F1 F (i*194+130+q) (aC z)) id↔WT n L F id:=by
 subst c
 have f:Fx (WT n L F) h (h.set L (some (.cells false (rc (n*194) (F1 F (i*194+130+q) (aC z)))))):=Fx.set h (.inl rfl) _
 have a: ∀j,(tZ τ i ((τ i).tick q) j).to=(τ j).to/\(tZ τ i ((τ i).tick q) j).gens=(τ j).gens/\(tZ τ i ((τ i).tick q) j).orb=(τ j).orb:=λj=>by
  by_cases e:j=i
  .subst e;rw[cZ];exact⟨rfl,rfl,rfl⟩
  .rw[fQ _ _ e];exact⟨rfl,rfl,rfl⟩
 refine R.cells (eU _) (λid b _=>H.aF h b _) (H.aW ..) (λs m=>?_) (λj _=>(a j).2) (λj p b h2=>?_) (λj p b h2=>?_) (λj p b h2=>?_)
 .unfold sE F1;rw[bV om]
 .rw[(a j).1]
  have:=(R.to j p b h2).fx f
  unfold F1;rw[bV om];exact this
 .rw[(a j).1]
  have:=(R.iv j p b h2).fx f
  unfold F1;rw[bV om];exact this
 .have:=R.tr j p b h2
  unfold F1
  by_cases e:j=i
  .subst e
   rw[cZ]
   show _=aC (if p=q then (τ j).tr q+1 else (τ j).tr p:Nat)
   by_cases d:p=q
   .subst d;rw[bL rfl,bL rfl,k];rfl
   .rw[bV om,bV d];exact this
  .rw[bV om,fQ _ _ e];exact this
theorem rF.way (R:rF h n tid L F τ)(hi:i<n){q:Nat}(w:q<64){k d:V}{y:List Nat}(t:PV (WT n L F) h k y)(u:PV (WT n L F) h d (cK y)){h3:H}(m:h.next<=h3.next)(l: ∀id,id≠L->id<h.next->h3.get id=h.get id)
  (o:h3.get L=some (.cells false (rc (n*194) (F1 (F1 F (i*194+2+q) k) (i*194+66+q) d)))):
  rF h3 n tid L (F1 (F1 F (i*194+2+q) k) (i*194+66+q) d) (tZ τ i {τ i with to:=λr=>if r=q then some y else (τ i).to r})/\Fx (WT n L F) h h3/\ ∀id,WT n L (F1 (F1 F (i*194+2+q) k) (i*194+66+q) d) id↔WT n L F id:=by
 have f:Fx (WT n L F) h h3:=⟨m,λid a h2=>l id (λe=>h2 (.inl e)) a⟩
 have b: ∀j,(tZ τ i {τ i with to:=λr=>if r=q then some y else (τ i).to r} j).tr=(τ j).tr/\(tZ τ i {τ i with to:=λr=>if r=q then some y else (τ i).to r} j).gens=(τ j).gens/\(tZ τ i {τ i with to:=λr=>if r=q then some y else (τ i).to r} j).orb=(τ j).orb:=λj=>by
  by_cases e:j=i
  .subst e;rw[cZ];exact⟨rfl,rfl,rfl⟩
  .rw[fQ _ _ e];exact⟨rfl,rfl,rfl⟩
 refine R.cells m l o (λs v=>?_) (λj _=>(b j).2) (λj p a h2=>?_) (λj p a h2=>?_) (λj p a h2=>?_)
 .unfold sE F1;rw[bV om,bV om]
 .have:=(R.to j p a h2).fx f
  unfold F1
  by_cases e:j=i
  .subst e
   rw[cZ]
   show Slot _ _ _ (if p=q then some y else (τ j).to p)
   by_cases c:p=q
   .subst c;rw[bV om,bL rfl,bL rfl];exact PV.fx t f
   .rw[bV om,bV om,bV c];exact this
  .rw[bV om,bV om,fQ _ _ e];exact this
 .have:=(R.iv j p a h2).fx f
  unfold F1
  by_cases e:j=i
  .subst e
   rw[cZ]
   show Slot _ _ _ ((if p=q then some y else (τ j).to p).map cK)
   by_cases c:p=q
   .subst c;rw[bL rfl,bL rfl];exact PV.fx u f
   .rw[bV om,bV om,bV c];exact this
  .rw[bV om,bV om,fQ _ _ e];exact this
 .rw[(b j).1]
  have:=R.tr j p a h2
  unfold F1;rw[bV om,bV om];exact this
end
end Go.Proofs.YtcdbmkidaecdiaaGreat
namespace Go.Proofs.YtcdbmkidaecdiaaGreat
open Go Go.Ay Go.Pm
theorem AO {l:List Nat}(nd:l.Nodup){k:Nat}(a:k<l.length):l.getD k 0∉l.take k:=by
 intro h;obtain⟨m,b,e⟩:=rV.1 h;have c:m<k:=by simp at b;omega
 rw[List.getElem_take,bJ a] at e;have d:=nd.idxOf_getElem m om;have f:=nd.idxOf_getElem k a;rw[e] at d;omega
theorem adX {n i:Nat}{O b:pP}{y s u z:List Nat}{q k:Nat}(c:CI n i O)(G:i+1<n)(B:(O i).to q=some y)(J:(O i).tr q=k)(l:(O i).gens[k]? =some s)(A:(O i).to ((aS y s).getD i 0)=some u)
  (F:z=aS (aS y s) (cK u)) (a:Ei n (i+1) z (tZ O i ((O i).tick q)) b):CI n i b/\b i=(O i).tick q/\ ∀j,j<i->b j=O j:=by
 have w:b i=(O i).tick q:=(a.low i om).trans (cZ ..)
 have f: ∀j,j<i->b j=O j:=λj r=>(a.low j om).trans (fQ _ _ om)
 have K:Ei n (i+1) z O (tZ b i (O i)):=by
  have x: ∀j,i<j->tZ O i ((O i).tick q) j=O j:=λj r=>fQ _ _ om
  have d: ∀j,i<j->tZ b i (O i) j=b j:=λj r=>fQ _ _ om
  refine⟨λj r=>?_,a.tw.congr λj N _=>(d j om).symm,λs l=>?_,λs l=>?_,?_⟩
  .by_cases e:j=i
   .subst e;exact cZ ..
   .rw[fQ _ _ e];exact f j om
  .rw[d _ om];exact a.old s (by rw[x _ om];exact l)
  .rw[d _ om] at l
   have:=a.new s l;rwa [x _ om] at this
  .rw[d _ om];exact a.has
 have m:s∈(O i).gens:=Oc l
 obtain⟨_,_,p⟩:=c.Iu om B m A
 obtain⟨L,t⟩:=c.added G K (by rw[F];exact p)
 have o:tZ b i (O i) i=O i:=cZ ..
 have v:=L.tick (q:=q) (k:=k) (y:=y) (s:=s) (u:=u) (by rw[o];exact B) (by rw[o];exact J) (by rw[o];exact l) (by rw[o];exact A) (by rw[<-F];exact t)
 have e:tZ (tZ b i (O i)) i ((tZ b i (O i) i).tick q)=b:=by
  funext j
  by_cases h:j=i
  .subst h;rw[cZ,cZ,w]
  .rw[fQ _ _ h,fQ _ _ h]
 rw[e] at v
 exact⟨v,w,f⟩
theorem cW.lens {h:H}{v:V}{ws:List V}{b n:Nat}(o:cW h v 1 ws b)(a:ws.length=n):bH v=some (aC n):=by
 unfold bH;rw[o.sv.len (n:=n) om om];rfl
theorem BX {F:Nat->V}{k c:Nat}{v:V}(h:c≠k):F1 F k v c=F c:=bV h
theorem Gi {N k:Nat}{F:Nat->V}(a:k<N)(hh:H)(L:Nat)(v:V):eH (some (.cells false (rc N F))) hh L k [v]=some (hh.set L (some (.cells false (rc N (F1 F k v))))):=by
 rw[cF (by rw[iK];exact a),jL];rfl
def ZW (h:H)(n tid L:Nat)(F:Nat->V)(τ:pP)(i:Nat)(x:List Nat):V->H->Prop:=λ_ h'=> ∃F' τ',rF h' n tid L F' τ'/\Ei n i x τ τ'/\Fx (WT n L F) h h'/\ ∀id,id<h.next->WT n L F' id->WT n L F id
def HP (h:H)(n tid L:Nat)(F:Nat->V)(τ:pP)(i:Nat):V->H->Prop:=λ_ h'=> ∃F' τ',rF h' n tid L F' τ'/\pH n i τ'/\(∀j,j<i->τ' j=τ j)/\(τ' i).gens=(τ i).gens/\Fx (WT n L F) h h'/\ ∀id,id<h.next->WT n L F' id->WT n L F id
def aaC (n i:Nat):Prop:= ∀(h:H) (tid L:Nat) (F:Nat->V) (a:pP) (vx:V) (x:List Nat),rF h n tid L F a->PV (WT n L F) h vx x->aY n x->Fix i x->pH n i a->Ev T 193 [.ptr tid 0,vx,aC i] h (ZW h n tid L F a i x)
def Qq (n i:Nat):Prop:= ∀(h:H) (tid L:Nat) (F:Nat->V) (a:pP),rF h n tid L F a->CI n i a->Ev T 230 [.ptr tid 0,aC i] h (HP h n tid L F a i)
structure ClS (h:H)(n tid L:Nat)(F:Nat->V)(τ:pP)(i:Nat)(h':H)(F':Nat->V)(τ':pP)(k:Nat):Prop where
 R:rF h' n tid L F' τ'
 c:CI n i τ'
 hk:k<=(τ' i).orb.length
 done: ∀r∈(τ' i).orb.take k,(τ' i).tr r=(τ' i).gens.length
 low: ∀j,j<i->τ' j=τ j
 gens:(τ' i).gens=(τ i).gens
 fx:Fx (WT n L F) h h'
 wt: ∀id,id<h.next->WT n L F' id->WT n L F id
theorem UL {n j:Nat}{l:Lv}(V:RD n j l)(a:j<n):l.orb.length<=n:=by
 have:=List.Nodup.length_le_of_subset V.nd (l₂:=List.range n) λx b=>wY.2 (V.lt a b)
 simpa using this
theorem Rx (n i:Nat)(hn:n<=7)(hi:i<n)(A:i+1<n->aaC n (i+1)):Qq n i:=by
 intro h a1 L F τ R c;have cl:h.cell a1 1=some (.sl L 0 n (.kn n)):=by rw[H.cell_of R.t];rfl
 refine yF cl ?_;refine aH (λm N hh=> ∃(k:Nat) (F':Nat->V) (a3:pP),(∃g:Nat->V,N= [.ptr a1 0,aC i,.ptr L (i*194),aC k,g 4,g 5,g 6,g 7,g 8,g 9,g 10,g 11])/\ClS h n a1 L F τ i hh F' a3 k/\m=n-k) n
  ⟨0,F,τ,aB rfl,⟨R,c,fE _,λr d=>by simp at d,λ_ _=>rfl,rfl,Fx.refl _ h,λ_ _ h=>h⟩,rfl⟩ ?_
 rintro m N J ⟨k,b0,o,⟨g,rfl⟩,S,rfl⟩;have co:J.cell L (i*194+1)=some (b0 (i*194+1)):=S.R.cell hi om;have oo:=S.R.orb i hi;have lo:=cW.lens oo (by rw[aN,aL]);have c4:=UL S.c.mV hi;refine cU co lo ?_
 by_cases Q:(k:Int)<((o i).orb.length:Int)
 case neg=>
  rw[bT Q];refine aM ?_;refine⟨b0,o,S.R,S.c.full λq hq=>S.done q ?_,S.low,S.gens,S.fx,S.wt⟩;rw[Bo om];exact hq
 rw[cJ Q];have b:k<(o i).orb.length:=om
 obtain⟨id,e0,sh,d3,hc⟩:=(show SI J (b0 (i*194+1)) (zi (o i).orb) from oo.sv).open;rw[aL] at sh d3 hc;obtain⟨q,hq⟩:=exI ((o i).orb.getD k 0);have ck:J.cell id (e0+k)=some (aC q):=by rw[hc k b];congr 2;simp [zi,b,<-hq]
 refine dQ co @sh.ixa ck ?_;have b1:q∈(o i).orb:=by rw[<-hq,bJ b];exact pN b
 have f0:q<n:=S.c.mV.lt hi b1;clear sh d3 hc ck co lo oo c4 b1
 refine aH (λm N hh=> ∃(F':Nat->V) (a3:pP),(∃g:Nat->V,N= [.ptr a1 0,aC i,.ptr L (i*194),aC k,aC q,g 5,g 6,g 7,g 8,g 9,g 10,g 11])/\ClS h n a1 L F τ i hh F' a3 k/\
   k<(a3 i).orb.length/\(a3 i).orb.getD k 0=q/\m=(a3 i).gens.length-(a3 i).tr q) ((o i).gens.length-(o i).tr q)
  ⟨b0,o,aB rfl,S,b,hq,rfl⟩ ?_
 clear Q b hq S o b0;rintro m N K ⟨F2,a,⟨g2,rfl⟩,S,b,hq,rfl⟩;have R2:=S.R;have mV:=S.c.mV;have b1:q∈(a i).orb:=by rw[<-hq,bJ b];exact pN b
 obtain⟨y,hy⟩:=mV.to b1;have Y:=mV.bM _ _ hy;have b2:K.cell L (i*194+130+q)=some (aC ((a i).tr q:Nat)):=by rw[R2.Nz hi om,R2.tr i q hi om]
 have cg:K.cell L (i*194)=some (F2 (i*194)):=by
  have:=R2.cell (c:=0) hi om;rwa [Nat.add_zero] at this
 obtain⟨vs,og,a7⟩:=R2.gens i hi;have lg:=cW.lens og (aJ.length a7);have c4:=UL mV hi;refine dQ b2 cg lg ?_
 by_cases Q:(((a i).tr q:Nat):Int)<((a i).gens.length:Int)
 case neg=>
  rw[bT Q];refine aM ?_;rw[eJ k];have fb:Fr K (H.mk K.tr (K.next+12)):=(Fr.refl K).bU om;have e9:=mV.le q;refine⟨n-(k+1),om,k+1,F2,a,aB rfl,⟨R2.mono fb,S.c,b,λr d=>?_,S.low,S.gens,⟨kP S.fx.next fb.next,S.fx.get⟩,S.wt⟩,rfl⟩;rw[List.take_add_one,dC b,<-bJ b,hq] at d;rcases jO.1 d with d|d
  .exact S.done r d
  .simp at d;subst d;omega
 rw[cJ Q];obtain⟨t,ht⟩:=exI ((a i).tr q);rw[ht] at Q b2;have e8:(a i).gens.length<=1000000:=kP mV.many (kP (Nat.pow_le_pow_left hn n) (kP (Nat.pow_le_pow_right om hn) deC));obtain⟨e7,d5,d1,c8,c5⟩:=og.sv.shape (a i).gens.length (by have:=aJ.length a7;omega) om;obtain⟨vS,d4,pS⟩:=a7.at (i:=t) om;obtain⟨s,hs⟩:=exI ((a i).gens.getD t []);rw[hs] at pS
 have a4:(a i).gens[t]? =some s:=by
  rw[<-hs,List.getD,dC om];rfl
 have Sp:=mV.gP s (Oc a4);have cS:K.cell e7 (d5+t)=some vS:=by rw[c5 t (by have:=aJ.length a7;omega)];exact d4
 have pT:PV (WT n L F2) K (F2 (i*194+2+q)) y:=by
  have:=R2.to i q hi om;rw[hy] at this;exact this
 have hN:i*194+194<=n*194:=om
 refine uG b2 cg lg @d1.ixa cS @R2.l @Gi @Be @BX ?_;have fb:Fr K (H.mk K.tr (K.next+12+13+11)):=(Fr.refl K).bU om
 obtain⟨h3,c1⟩: ∃h3,h3=(H.mk K.tr (K.next+12+13+11)).set L (some (.cells false (rc (n*194) (F1 F2 (i*194+130+q) (aC ((t:Int)+1)))))):=⟨_,rfl⟩
 rw[<-c1];obtain⟨R3,f3,w3⟩:=(R2.mono fb).tick hi (q:=q) om (z:=(t:Int)+1) (by rw[ht]) c1;have c3:=(Fx.of (W:=WT n L F2) fb).trans f3 (λ_ _ h=>h);have c0:=PV.go pT c3 (λid _ h=>(w3 id).1 h);have c7:=PV.go pS c3 (λid _ h=>(w3 id).1 h);generalize F2 (i*194+2+q)=vt at pT c0;clear c1 pT pS b2 cg lg d1 c8 c5 cS d4 a7 og
 obtain⟨G,e1⟩: ∃G,G=F1 F2 (i*194+130+q) (aC ((t:Int)+1)):=⟨_,rfl⟩
 rw[<-e1] at R3 w3 c0 c7
 obtain⟨x,w⟩: ∃x,x=tZ a i ((a i).tick q):=⟨_,rfl⟩
 rw[<-w] at R3;have e3:x i=(a i).tick q:=by rw[w];exact cZ ..
 refine (nU oG.ok vt vS y s h3 (by rw[Y.len];omega) c0.si c7.si (λj hj=>by rw[Sp.len];exact Y.fZ (by rw[<-Y.len];exact hj))).mono ?_;rintro v O nw;have P:=Y.mul Sp;obtain⟨p,hp⟩:=exI ((aS y s).getD i 0);have f1:p<n:=by rw[<-hp];exact P.fZ hi
 have R4:=R3.mono nw.fr;have pv:=nw.pv (W:=WT n L G) (λB=>by have:=R3.Iq B;omega)
 have cp:O.cell h3.next i=some (aC p):=by
  rw[H.cell_of nw.get,Fq (by rw[P.len];exact hi),hp]
 have e4:O.cell L (i*194+2+p)=some (G (i*194+2+p)):=R4.Nz hi om;have f:=R4.to i p hi om;have ev:=nw.val;rw[P.len] at ev;have f4:Fx (WT n L F2) K O:=c3.trans (Fx.of (W:=WT n L F2) nw.fr) (λ_ _ h=>h);refine dQ ev cp e4 ?_;rw[<-ev];have a0: ∀r∈(a i).orb.take k,r≠q:=λr d e=>AO mV.nd b (by rw[hq,<-e];exact d)
 cases hpo:(a i).to p with
 |none=>
  have a9:G (i*194+2+p)= .aD:=by
   rw[e3] at f;have f:Slot _ _ _ ((a i).to p):=f;rw[hpo] at f;exact f
  refine bE a9 ?_;refine (zI yM.ok v n (aS y s) (H.mk O.tr (O.next+15)) om P (pv.mono ((Fr.refl O).bU om)).si).mono ?_;rintro vu h5 nu;have f5:Fr O h5:=((Fr.refl O).bU om:Fr O (H.mk O.tr (O.next+15))).trans nu.fr;have R5:=R4.mono f5;have c2:=pv.mono f5;have b9:=nu.pv (W:=WT n L G) (λB=>by have:=R4.Iq B;simp at this;omega);refine kA @R5.l (kO c2.eZ.1 c2.eZ.2) (kO b9.eZ.1 b9.eZ.2) @Gi @Be @BX ?_
  obtain⟨F6,d2⟩: ∃F6,F6=F1 (F1 G (i*194+2+p) v) (i*194+66+p) vu:=⟨_,rfl⟩
  obtain⟨h6,b7⟩: ∃h6,h6=(h5.set L (some (Ob.cells false (rc (n*194) (F1 G (i*194+2+p) v))))).set L (some (Ob.cells false (rc (n*194) (F1 (F1 G (i*194+2+p) v) (i*194+66+p) vu)))):=⟨_,rfl⟩
  rw[<-b7];obtain⟨R6,f6,w6⟩:=R5.way hi (q:=p) om c2 b9 (h3:=h6) (by rw[b7];exact eU _) (λid J _=>by rw[b7,H.aF _ J,H.aF _ J]) (by rw[b7,H.aW]);have eO:G (i*194+1)=F6 (i*194+1):=by rw[d2,BX om,BX om]
  rw[<-d2] at R6 w6
  obtain⟨a2,a5⟩: ∃a2,a2=tZ x i {x i with to:=λr=>if r=p then some (aS y s) else (x i).to r}:=⟨_,rfl⟩
  rw[<-a5] at R6;have e6:a2 i={x i with to:=λr=>if r=p then some (aS y s) else (x i).to r}:=by rw[a5];exact cZ ..
  have b5:(a2 i).orb=(a i).orb:=by rw[e6,e3];rfl
  refine cU (cQ h6 (z:= aC 0) (v:= aC p) rfl rfl) eO ?_
  obtain⟨h7,b6⟩: ∃h7,h7=h6.new (.cells false [aC p]):=⟨_,rfl⟩
  have f7:Fr h6 h7:=by rw[b6];exact (Fr.refl h6).new _
  have n7:h7.next=h6.next+1:=by rw[b6];exact H.aZ ..
  have g7:h7.get h6.next=some (.cells false [aC p]):=by rw[b6];exact H.aQ ..
  rw[<-b6];have R7:=R6.mono f7;have o7:=R7.orb i hi;rw[b5] at o7;obtain⟨h8,a8,p8⟩:=o7.push (bytes:=8) (SV.one om g7 (.kn 1)) (n:=(a i).orb.length) (m:=1) (by rw[aN,aL,qZ]) rfl om om om
  have gL:h8.get L=some (.cells false (rc (n*194) F6)):=by
   rw[p8.old L (by have:=R7.ln;omega) (by have:=R7.ap (2*i+1) om;rw[He] at this;exact this)];exact R7.l
  refine dQ a8 gL @Gi ?_
  obtain⟨h9,d0⟩: ∃h9,h9=h8.set L (some (.cells false (rc (n*194) (F1 F6 (i*194+1) (.sl h7.next 0 ((a i).orb.length+1) (.un 1)))))):=⟨_,rfl⟩
  rw[<-d0];obtain⟨R9,f9,w9⟩:=R7.RN hi (q:=p) (by rw[b5];exact p8) (.inl rfl) (by rw[b5]) d0;rw[b5] at R9
  have eT:tZ a2 i {a2 i with orb:=(a i).orb++ [p]}=tZ a i (((a i).tick q).reach p (aS y s)):=by
   funext j
   by_cases e:j=i
   .subst e
    rw[cZ,cZ,e6,e3];rfl
   .rw[fQ _ _ e,fQ _ _ e,a5,fQ _ _ e,w,fQ _ _ e]
  rw[eT] at R9;have c9:=S.c.found hi hy ht a4 hp hpo;have ei:tZ a i (((a i).tick q).reach p (aS y s)) i=((a i).tick q).reach p (aS y s):=cZ ..
  have W9: ∀id,id<K.next->WT n L (F1 F6 (i*194+1) (.sl h7.next 0 ((a i).orb.length+1) (.un 1))) id->WT n L F2 id:=λid J B=>
   (w3 id).1 ((w6 id).1 (w9 id (by have:=f4.next;have:=f5.next;have:=f6.next;have:=f7.next;omega) B))
  have b4:WT n L G=WT n L F2:=funext λid=>propext (w3 id)
  have d8:WT n L F6=WT n L F2:=(funext λid=>propext (w6 id)).trans b4;rw[b4] at f6;rw[d8] at f9;have d6:Fx (WT n L F2) K h9:=f4.trans ((Fx.of f5).trans (f6.trans ((Fx.of f7).trans f9 (λ_ _ h=>h)) (λ_ _ h=>h)) (λ_ _ h=>h)) (λ_ _ h=>h);refine⟨(a i).gens.length-(t+1),om,_,_,aB rfl,⟨R9,c9,?_,?_,λj hj=>(fQ _ _ om).trans (S.low j hj),?_,S.fx.trans d6 λid J B=>S.wt id J B,λid J B=>S.wt id J (W9 id (by have:=S.fx.next;omega) B)⟩,?_,?_,?_⟩
  all_goals rw[ei]
  .show k<=((a i).orb++ [p]).length
   rw[iB];omega
  .intro r d
   have d:r∈((a i).orb++ [p]).take k:=d;rw[List.take_append_of_le_length om] at d;show (if r=q then (a i).tr q+1 else (a i).tr r)=(a i).gens.length;rw[bV (a0 r d)];exact S.done r d
  .exact S.gens
  .show k<((a i).orb++ [p]).length
   rw[iB];omega
  .show ((a i).orb++ [p]).getD k 0=q
   rw[<-hq,List.getD,List.getD,wU b]
  .show _=(a i).gens.length-(if q=q then (a i).tr q+1 else (a i).tr q)
   rw[bL rfl,ht]
 |some u=>
  have U:=mV.bM _ _ hpo
  have a9:PV (WT n L G) O (G (i*194+2+p)) u:=by
   rw[e3] at f;have f:Slot _ _ _ ((a i).to p):=f;rw[hpo] at f;exact f
  have sn:=Ch a9 (aY.ne om U) false;have ct:O.cell a1 0=some (aC n):=by rw[H.cell_of R4.t];rfl
  have e2:O.cell L (i*194+66+p)=some (G (i*194+66+p)):=R4.Nz hi om
  have d9:PV (WT n L G) O (G (i*194+66+p)) (cK u):=by
   have:=R4.iv i p hi om;rw[e3] at this;have this:Slot _ _ _ (((a i).to p).map cK):=this;rw[hpo] at this;exact this
  refine cU sn ct ?_
  by_cases b8:(i:Int)+1<(n:Int)
  .rw[cJ b8]
   refine bE e2 ?_;refine (nU oG.ok v _ (aS y s) (cK u) O (by rw[P.len];omega) pv.si d9.si (λj hj=>by rw[iI,U.len];exact P.fZ (by rw[<-P.len];exact hj))).mono ?_;rintro v2 h5 nu;have R5:=R4.mono nu.fr;have Z:=P.mul U.inv;have pz:=nu.pv (W:=WT n L G) (λB=>by have:=R4.Iq B;omega);obtain⟨_,b3,_⟩:=S.c.Iu hi hy (Oc a4) (by rw[hp];exact hpo);refine aM ?_;rw[eJ i];refine (A om h5 a1 L G x v2 _ R5 pz Z b3 ?_).mono ?_
   .rw[w];exact S.c.up.adK om
   rintro vv h6 ⟨F6,a2,R6,a6,f6,w6⟩;rw[w] at a6;obtain⟨c6,e6,l6⟩:=adX S.c om hy ht a4 (by rw[hp];exact hpo) rfl a6;have b4:WT n L G=WT n L F2:=funext λid=>propext (w3 id)
   rw[b4] at f6 w6;have d7:Fx (WT n L F2) K h6:=f4.trans ((Fx.of nu.fr).trans f6 (λ_ _ h=>h)) (λ_ _ h=>h);refine aM ?_;refine⟨(a i).gens.length-(t+1),om,_,_,aB rfl,⟨R6,c6,?_,?_,λj hj=>(l6 j hj).trans (S.low j hj),?_,S.fx.trans d7 λid J B=>S.wt id J B,λid J B=>S.wt id J (w6 id (by have:=S.fx.next;have:=f4.next;have:=nu.fr.next;omega) B)⟩,?_,?_,?_⟩
   all_goals rw[e6]
   .exact Nat.le_of_lt b
   .intro r d
    have d:r∈(a i).orb.take k:=d;show (if r=q then (a i).tr q+1 else (a i).tr r)=(a i).gens.length;rw[bV (a0 r d)];exact S.done r d
   .exact S.gens
   .exact b
   .exact hq
   .show _=(a i).gens.length-(if q=q then (a i).tr q+1 else (a i).tr q)
    rw[bL rfl,ht]
  .rw[bT b8]
   obtain⟨e5,b3,_⟩:=S.c.Iu hi hy (Oc a4) (by rw[hp];exact hpo);have en:i+1=n:=om
   have c6:=S.c.tick hy ht a4 (by rw[hp];exact hpo) (by
    rw[en];rw[en] at b3
    exact tE.2 (b3.all e5))
   refine aM ?_;rw[w] at R4;have e6:tZ a i ((a i).tick q) i=(a i).tick q:=cZ ..;refine⟨(a i).gens.length-(t+1),om,_,_,aB rfl,⟨R4,c6,?_,?_,λj hj=>(fQ _ _ om).trans (S.low j hj),?_,S.fx.trans f4 λid J B=>S.wt id J B,λid J B=>S.wt id J ((w3 id).1 B)⟩,?_,?_,?_⟩
   all_goals rw[e6]
   .exact Nat.le_of_lt b
   .intro r d
    have d:r∈(a i).orb.take k:=d;show (if r=q then (a i).tr q+1 else (a i).tr r)=(a i).gens.length;rw[bV (a0 r d)];exact S.done r d
   .exact S.gens
   .exact b
   .exact hq
   .show _=(a i).gens.length-(if q=q then (a i).tr q+1 else (a i).tr q)
    rw[bL rfl,ht]
end Go.Proofs.YtcdbmkidaecdiaaGreat
namespace Go.Proofs.YtcdbmkidaecdiaaGreat
open Go Go.Ay Go.Pm
def wG (a:pP)(i m:Nat)(r:List Nat):pP:=λj=>if i<=j/\j<m then (a j).more r else a j
theorem BH (a:pP)(i:Nat)(r:List Nat):wG a i i r=a:=by
 funext j;unfold wG;rw[bV om]
theorem Zb (b:pP){i m:Nat}(r:List Nat)(h:i<=m):tZ (wG b i m r) m ((wG b i m r m).more r)=wG b i (m+1) r:=by
 funext j
 by_cases e:j=m
 .subst e
  rw[cZ];unfold wG;rw[bV om,bL om]
 .rw[fQ _ _ e]
  unfold wG
  by_cases a:i<=j/\j<m
  .rw[bL a,bL om]
  .rw[bV a,bV om]
theorem Za (a:pP)(i k:Nat)(r:List Nat):wG a i (k+1) r=push a i k r:=by
 funext j;unfold wG push
 by_cases h:i<=j/\j<=k
 .rw[bL h,bL om]
 .rw[bV h,bV om]
theorem aeV (a b c:Nat)(d:uF):dM (.sl a b c d) (.sl a b c d)=true:=by simp [dM]
theorem Po (n b:Nat)(hn:n<=7)(hi:b<n)(C: ∀j,b<=j->j<n->Qq n j):aaC n b:=by
 intro h a L F τ vx x R hx X Fi t;refine nL ?_;refine (XS h n a L F τ vx x b om om R hx X om t).mono ?_;have B:=MR (n-b) b x om t X Fi;obtain⟨k,hk⟩:=exI ((Tn n τ (n-b) b x).1);obtain⟨r,hr⟩:=exI ((Tn n τ (n-b) b x).2);rw[hk,hr] at B |-;rintro _ u ⟨vr,rfl,G,Rr,f1⟩;have R1:=R.mono f1;have ct:u.cell a 0=some (aC n):=by rw[H.cell_of R1.t];rfl
 refine bE ct ?_
 by_cases Q:(k:Int)=(n:Int)
 .rw[cJ Q]
  have e:k=n:=om
  subst e;refine aM ?_;exact⟨F,τ,R1,Ei.none t hi (B.in t hi),Fx.of f1,λ_ _ h=>h⟩
 rw[bT Q];have o:k<n:=by have:=B.le;omega
 have b0:=B.ge;refine aM ?_
 refine aH (λy d P=> ∃(m:Nat) (O:Nat->V),(∃g:Nat->V,d= [.ptr a 0,g 1,aC b,aC k,vr,aC m,g 6,g 7,g 8,g 9])/\b<=m/\m<=k+1/\rF P n a L O (wG τ b m r)/\PV (WT n L O) P vr r/\
   Fx (WT n L F) h P/\(∀id,id<h.next->WT n L O id->WT n L F id)/\y=k+1-m) (k+1-b)
  ⟨b,F,aB rfl,eU _,om,by rw[BH];exact R1,G,Fx.of f1,λ_ _ h=>h,rfl⟩ ?_
 clear R1 ct G f1;rintro y d i ⟨m,F2,⟨g,rfl⟩,v,a1,z,G,f2,w2,rfl⟩;refine aM ?_
 by_cases f:(m:Int)<=(k:Int)
 .rw[cJ f]
  have w:m<n:=om
  have cl:i.cell a 1=some (.sl L 0 n (.kn n)):=by rw[H.cell_of z.t];rfl
  have cg:i.cell L (m*194)=some (F2 (m*194)):=by
   have:=z.cell (c:=0) w om;rwa [Nat.add_zero] at this
  have A:wG τ b m r m=τ m:=by unfold wG;rw[bV om]
  have ln:=z.ln;have tn:=z.tn;simp(disch:=omega)only[go_sem,cl,cg,cQ _ G.eZ.1 G.eZ.2]
  obtain⟨p,q⟩: ∃p:H,p=H.mk ((H.mk i.tr (i.next+14)).new (Ob.cells false [vr])).tr (i.next+19):=⟨_,rfl⟩
  rw[<-q];have g3:p.get (i.next+14)=bG [vr]:=by rw[q];exact H.aQ (H.mk i.tr (i.next+14)) _
  have n3:p.next=i.next+19:=by rw[q]
  have N:Fr i p:=⟨om,λid a8=>by rw[q];exact H.bN (H.mk i.tr (i.next+14)) siO _⟩
  have s:=z.mono N;have a0:=G.mono N;obtain⟨vs,o3,K⟩:=s.gens m w;rw[A] at K;have mV:=(t m v w).1;have a9:(τ m).gens.length<=1000000:=kP mV.many (kP (Nat.pow_le_pow_left hn n) (kP (Nat.pow_le_pow_right om hn) deC));obtain⟨U,a4,p4⟩:=o3.push (bytes:=24) (SV.one om g3 (.kn 1)) (n:=(τ m).gens.length) (m:=1) (by have:=aJ.length K;omega) rfl om om om;have gt:U.get a=p.get a:=p4.old a om (λid a6 nn c e e2=>s.tw (.inr ⟨2*m,om,a6,nn,c,by rw[Cx,e2];exact e⟩))
  have gL:U.get L=bG (rc (n*194) F2):=by
   rw[p4.old L om (by have:=s.ap (2*m) om;rw[Cx] at this;exact this)];exact s.l
  have a5:U.cell a 1=some (.sl L 0 n (.kn n)):=by unfold H.cell;rw[gt,s.t];rfl
  have hN:m*194+194<=n*194:=om
  refine iT a4 a5 @aeV gL @Gi ?_
  obtain⟨h5,Y⟩: ∃h5,h5=U.set L (bG (rc (n*194) (F1 F2 (m*194) (.sl p.next 0 ((τ m).gens.length+1) (.un 1))))):=⟨_,rfl⟩
  rw[<-Y];obtain⟨R5,f5,w5⟩:=s.more w (by rw[A];exact K) a0 (by rw[A];exact p4) (by rw[A]) Y;rw[Zb τ r v] at R5;rw[eJ m];refine⟨k+1-(m+1),om,m+1,_,aB rfl,om,om,R5,PV.go a0 f5 w5,f2.trans ((Fx.of (W:=WT n L F2) N).trans f5 (λ_ _ h=>h)) (λid u J=>w2 id u J),λid u J=>w2 id u (w5 id (by have:=f2.next;omega) J),rfl⟩
 rw[bT f];have A:m=k+1:=om
 subst A;rw[Za] at z;refine aM ?_;have a3:=Jl.start B t o
 refine aH (λy d P=> ∃(m:Nat) (O:Nat->V) (Z:pP),(∃g:Nat->V,d= [.ptr a 0,g 1,aC b,g 3,g 4,g 5,aC ((m:Int)- 1),g 7,g 8,g 9])/\b<=m/\m<=k+1/\rF P n a L O Z/\Jl n b k r τ Z m/\
   Fx (WT n L F) h P/\(∀id,id<h.next->WT n L O id->WT n L F id)/\y=m) (k+1)
  ⟨k+1,F2,_,aB (by rw[show ((k+1:Nat):Int)- 1=(k:Int) from om];rfl),om,om,z,a3,f2,w2,rfl⟩ ?_
 clear z a3 f2 w2 G f v a1;rintro y d p ⟨m,F3,a2,⟨g3,rfl⟩,v,a1,s,AI,N,w3,hm⟩;subst hm;refine aM ?_
 by_cases f:(b:Int)<=(y:Int)- 1
 .rw[cJ f]
  obtain⟨j,rfl⟩: ∃j,y=j+1:=⟨y- 1,om⟩
  have ci:=AI.ci B t o om om;refine aM ?_;rw[show ((j+1:Nat):Int)- 1=(j:Int) from om];refine (C j om om p a L F3 a2 s ci).mono ?_;rintro _ U ⟨F4,a7,R4,t4,l4,g4,f4,w4⟩;refine aM ?_;refine⟨j,om,j,F4,a7,aB rfl,om,om,R4,AI.next om om l4 g4 t4,N.trans f4 (λid u J=>w3 id u J),λid u J=>w3 id u (w4 id (by have:=N.next;omega) J),rfl⟩
 rw[bT f];have A:y=b:=om
 rw[A] at AI;refine aM ?_;exact⟨F3,a2,s,AI.done B t X o,N,w3⟩
theorem Rg (n:Nat)(b:n<=7): ∀d i,i+d=n->(i<n->aaC n i)/\(i<n->Qq n i)
 |0,i,h=>⟨λa=>om,λa=>om⟩
 |d+1,i,h=>by
  have k:=Rg n b d (i+1) om
  have c: ∀j,i<=j->j<n->Qq n j:=λj l a=>by
   by_cases e:j=i
   .subst e;exact Rx n j b a λf=>k.1 f
   .exact (Rg n b (n-j) j om).2 a
  exact⟨λa=>Po n i b a c,λa=>c i (eU _) a⟩
termination_by d=>d
theorem acG (n:Nat)(b:n<=7)(a:0<n):aaC n 0:=(Rg n b n 0 om).1 a
end Go.Proofs.YtcdbmkidaecdiaaGreat
namespace Go.Pm
section
variable {x y:List Nat} {R:RI}
def Lt (x y:List Nat):Prop:= ∃k,k<x.length/\(∀j,j<k->x.getD j 0=y.getD j 0)/\x.getD k 0<y.getD k 0
def Le (x y:List Nat):Prop:=x=y\/Lt x y
theorem Lt.asymm (a:Lt x y)(b:Lt y x):False:=by
 have⟨k,_,c,f⟩:=a;have⟨m,_,d,i⟩:=b;rcases Nat.lt_trichotomy k m with h|h|h
 .have:=d k h;omega
 .subst h;omega
 .have:=c m h;omega
theorem Le.antisymm (a:Le x y)(b:Le y x):x=y:=by
 rcases a with a|a
 .exact a
 .rcases b with b|b
  .exact b.symm
  .exact (a.asymm b).elim
def pG (x:List Nat):Nat->List Nat->Nat
 |b, []=>b
 |b,q::l=>pG x (if x.getD q 0<x.getD b 0 then q else b) l
theorem EE (x:List Nat):(l:List Nat)->(b:Nat)->pG x b l∈b::l/\ ∀q∈b::l,x.getD (pG x b l) 0<=x.getD q 0
 | [],b=>⟨by simp [pG],λq d=>by simp at d;subst d;exact Nat.le_refl _⟩
 |q::l,b=>by
  have c:=EE x l (if x.getD q 0<x.getD b 0 then q else b);unfold pG;refine⟨?_,λr a=>?_⟩
  .rcases List.mem_cons.1 c.1 with h|h
   .rw[h];split<;>simp
   .exact List.mem_cons_of_mem _ (List.mem_cons_of_mem _ h)
  .have f:=c.2 _ (List.mem_cons_self ..)
   rcases List.mem_cons.1 a with rfl|a
   .split at f<;>(split<;>omega)
   .rcases List.mem_cons.1 a with rfl|a
    .split at f<;>(split<;>omega)
    .exact c.2 r (List.mem_cons_of_mem _ a)
def Bq (τ:pP):Nat->Nat->List Nat->List Nat
 |0,_,x=>x
 |d+1,k,x=>Bq τ d (k+1) (if pG x k (τ k).orb=k then x else aS (((τ k).to (pG x k (τ k).orb)).getD []) x)
section
variable {n:Nat} {τ:pP} {G:List Nat->Prop}
theorem QO:(d k:Nat)->(x:List Nat)->k+d=n->pH n k τ->aY n x-> ∃h,S n τ k h/\Bq τ d k x=aS h x/\ ∀g,S n τ k g->Le (Bq τ d k x) (aS g x)
 |0,k,x,h,_,X=>by
  obtain rfl:k=n:=oq
  refine⟨bC k,tE.2 rfl,(cV X).symm,λg f=> .inl ?_⟩;rw[tE] at f;subst f;exact (cV X).symm
 |d+1,k,x,h,t,X=>by
  have a:k<n:=oq
  have L:=(t k (Nat.le_refl _) a).1;have l:=t.mono (Nat.le_succ k);obtain⟨F,K⟩:=EE x (τ k).orb k
  have A:pG x k (τ k).orb∈(τ k).orb:=by
   rcases List.mem_cons.1 F with h|h
   .rw[h];exact L.base
   .exact h
  obtain⟨y,b⟩:=L.to A;have Y:=L.bM _ y b
  have o:(if pG x k (τ k).orb=k then x else aS (((τ k).to (pG x k (τ k).orb)).getD []) x)=aS y x:=by
   split
   .rename_i e
    rw[e,L.one] at b;cases b;exact (cV X).symm
   .rw[b];rfl
  unfold Bq;rw[o];obtain⟨g,f,e,z⟩:=QO d (k+1) (aS y x) oq l (Y.mul X);have i:=l.bM a f;have s:S n τ k (aS g y):=(pQ a).2 ⟨_,y,g,b,f,rfl⟩;refine⟨aS g y,s,by rw[e,aG i Y X],λu w=>?_⟩;have U:=t.bM oq w;obtain⟨v,m,r⟩:=t.sift a w;have c:=L.mem m;have V:=L.bM _ v m;have J:(aS u x).getD k 0=x.getD (u.getD k 0) 0:=dI (by rw[U.len];exact a)
  have N:(aS g (aS y x)).getD k 0=x.getD (pG x k (τ k).orb) 0:=by
   rw[dI (by rw[i.len];exact a),l.fix a f k oq,dI (by rw[Y.len];exact a),L.maps _ y b]
  have O:=K _ (List.mem_cons_of_mem _ c)
  by_cases p:x.getD (pG x k (τ k).orb) 0<x.getD (u.getD k 0) 0
  .rw[e]
   refine .inr ⟨k,by rw[fV,i.len];exact a,λj B=>?_,by rw[J,N];exact p⟩;rw[dI (by rw[i.len];omega),l.fix a f j oq,dI (by rw[Y.len];omega),L.fix _ y b j B,dI (by rw[U.len];omega),t.fix oq w j B]
  .have q:pG x k (τ k).orb=u.getD k 0:=X.inj (L.lt a A) (L.lt a c) oq
   rw[<-q,b] at m;cases m;have:=z _ r;rwa [aG U Y.inv (Y.mul X),<-aG Y.inv Y X,dU Y,cV X] at this
structure Xf (n:Nat)(G:List Nat->Prop)(i p:Nat)(x:List Nat):Prop where
 mem:G x
 fix:Fix i x
 maps:x.getD i 0=p
 least: ∀y,G y->Fix i y->y.getD i 0=p->Le x y
theorem Xf.uniq {i p:Nat}(a:Xf n G i p x)(b:Xf n G i p y):x=y:=
 (a.least y b.mem b.fix b.maps).antisymm (b.least x a.mem a.fix a.maps)
structure bA (n:Nat)(G:List Nat->Prop)(O:wW)(R:RI):Prop where
 lo:O.length=n
 lr:R.length=n
 asc: ∀i,i<n->(O.getD i []).Pairwise (· < ·)
 mem: ∀i,i<n-> ∀p,p∈O.getD i []↔ ∃x,G x/\Fix i x/\x.getD i 0=p
 rl: ∀i,i<n->(R.getD i []).length=(O.getD i []).length
 rep: ∀i,i<n-> ∀k,k<(O.getD i []).length->Xf n G i ((O.getD i []).getD k 0) ((R.getD i []).getD k [])
theorem sX:{a b:List Nat}->a.Pairwise (· < ·)->b.Pairwise (· < ·)->(∀p,p∈a↔p∈b)->a=b
 | [], [],_,_,_=>rfl
 | [],y::b,_,_,h=>by have:=(h y).2 (by simp);simp at this
 |x::a, [],_,_,h=>by have:=(h x).1 (by simp);simp at this
 |x::a,y::b,ha,hb,h=>by
  obtain⟨k,l⟩:=List.pairwise_cons.1 ha;obtain⟨j,m⟩:=List.pairwise_cons.1 hb
  have e:x=y:=by
   have f:=(h x).1 (by simp);have d:=(h y).2 (by simp);rcases List.mem_cons.1 f with f|f
   .exact f
   .rcases List.mem_cons.1 d with d|d
    .exact d.symm
    .have:=j x f;have:=k y d;omega
  subst e;congr 1
  refine sX l m λp=>⟨λc=>?_,λc=>?_⟩
  .rcases List.mem_cons.1 ((h p).1 (List.mem_cons_of_mem _ c)) with e|i
   .subst e;have:=k p c;omega
   .exact i
  .rcases List.mem_cons.1 ((h p).2 (List.mem_cons_of_mem _ c)) with e|i
   .subst e;have:=j p c;omega
   .exact i
theorem Ce {α:Type}{d:α}{a b:List α}(f:a.length=b.length)(h: ∀i,i<a.length->a.getD i d=b.getD i d):a=b:=by
 refine List.ext_getElem f λi c j=>?_
 have:=h i c;simpa [List.getD,c,j] using this
theorem bA.uniq {O f:wW}{h:RI}(a:bA n G O R)(b:bA n G f h):O=f/\R=h:=by
 have e:O=f:=Ce (d:= []) (by rw[a.lo,b.lo]) λi hi=>by
  rw[a.lo] at hi;exact sX (a.asc i hi) (b.asc i hi) λp=>(a.mem i hi p).trans (b.mem i hi p).symm
 subst e;refine⟨rfl,Ce (d:= []) (by rw[a.lr,b.lr]) λi hi=>?_⟩;rw[a.lr] at hi;refine Ce (d:= []) (by rw[a.rl i hi,b.rl i hi]) λk c=>?_
 rw[a.rl i hi] at c;exact (a.rep i hi k c).uniq (b.rep i hi k c)
theorem bA.congr {H:List Nat->Prop}{O:wW}(a:bA n G O R)(h: ∀x,G x↔H x):bA n H O R:=by
 have:G=H:=funext λx=>propext (h x)
 exact this▸a
theorem pH.chain (t:pH n 0 τ){O:wW}(N:O.length=n)(K:R.length=n)
  (u: ∀i,i<n->(O.getD i []).Pairwise (· < ·)) (mem: ∀i,i<n-> ∀p,p∈O.getD i []↔p∈(τ i).orb) (F: ∀i,i<n->(R.getD i []).length=(O.getD i []).length)
  (m: ∀i,i<n-> ∀k,k<(O.getD i []).length-> ∀y,(τ i).to ((O.getD i []).getD k 0)=some y->(R.getD i []).getD k []=Bq τ (n-(i+1)) (i+1) y):bA n (S n τ 0) O R:=by
 refine⟨N,K,u,λi hi p=>?_,F,λi hi k s=>?_⟩
 .have L:=(t i (Nat.zero_le _) hi).1
  have c:=t.mono (Nat.zero_le i)
  rw[mem i hi p]
  constructor
  .intro j
   obtain⟨y,a⟩:=L.to j
   have J:S n τ i y:=(c.gen hi).2 (L.gen p y a)
   have:=(t.Uk (Nat.zero_le i) oq).1 J
   exact⟨y,this.1,this.2,L.maps p y a⟩
  .rintro⟨x,d,o,rfl⟩
   obtain⟨y,a,_⟩:=c.sift hi ((t.Uk (Nat.zero_le i) oq).2 ⟨d,o⟩)
   exact L.mem a
 .have L:=(t i (Nat.zero_le _) hi).1
  have c:=t.mono (Nat.zero_le i)
  have l:=t.mono (Nat.zero_le (i+1))
  have j:(O.getD i []).getD k 0∈O.getD i []:=by
   rw[bJ s];exact List.getElem_mem s
  obtain⟨y,a⟩:=L.to ((mem i hi _).1 j)
  rw[m i hi k s y a]
  generalize (O.getD i []).getD k 0=p at a
  have Y:=L.bM p y a
  obtain⟨h,q,e,b⟩:=QO (n-(i+1)) (i+1) y oq l Y
  have H:=l.bM hi q
  have f:S n τ i (aS h y):=(pQ hi).2 ⟨p,y,h,a,q,rfl⟩
  have w:=(t.Uk (Nat.zero_le i) oq).1 f
  rw[e] at b |-
  refine⟨w.1,w.2,?_,λz d o B=>?_⟩
  .rw[dI (by rw[H.len];exact hi),l.fix hi q i oq,L.maps p y a]
  .obtain⟨v,A,r⟩:=c.sift hi ((t.Uk (Nat.zero_le i) oq).2 ⟨d,o⟩)
   rw[B,a] at A
   cases A
   have Z:=t.bM (Nat.zero_le _) d
   have:=b _ r
   rwa [aG Z Y.inv Y,dU Y,bD Z] at this
theorem Ei.group {i:Nat}{c:pP}(a:Ei n i x τ c)(t:pH n i τ)(hi:i<n)(X:aY n x)(z:List Nat):Go.Pm.S n c i z↔bX n (λg=>Go.Pm.S n τ i g\/g=x) z:=by
 have L:=(t i (Nat.le_refl _) hi).1
 have f: ∀g,(Go.Pm.S n τ i g\/g=x)->aY n g:=λg b=>by
  rcases b with b|rfl
  .exact t.bM oq b
  .exact X
 rw[a.tw.gen hi];constructor
 .intro h
  refine h.le (bX.cX f) λg b=>(a.new g b).mono λu d=>?_
  rcases d with d|d
  .exact .inl ((t.gen hi).2 (bX.of L.gP d))
  .exact .inr d
 .intro h
  refine h.le (bX.cX (a.tw i (Nat.le_refl _) hi).1.gP) λg b=>?_
  rcases b with b|rfl
  .exact ((t.gen hi).1 b).mono a.old
  .exact a.has
end
end
end Go.Pm
namespace Go.Pm
section
variable {j:Nat} {y:List Nat}
abbrev qW:=Nat->Nat->Option (List Nat)
def ins (t:qW):Nat->Nat->List Nat->Option (Nat×List Nat)
 |0,_,_=>none
 |d+1,i,x=>if x.getD i 0=i then ins t d (i+1) x else
  match t i (x.getD i 0) with
  |none=>some (i,x)
  |some y=>ins t d (i+1) (aS x (cK y))
def dd:wW->wW
 | []=> []
 |a::l=>if a∈dd l then dd l else a::dd l
theorem Qw {a:List Nat}:{l:wW}->a∈dd l↔a∈l
 | []=>Iff.rfl
 |b::l=>by
  unfold dd;have c:=Qw (a:=a) (l:=l);split
  .rename_i h
   rw[c];constructor
   .exact List.mem_cons_of_mem _
   .intro d
    rcases List.mem_cons.1 d with rfl|d
    .exact c.1 h
    .exact d
  .simp [c]
theorem Ki: ∀l:wW,(dd l).Nodup
 | []=>List.nodup_nil
 |b::l=>by
  unfold dd;split
  .exact Ki l
  .rename_i h;exact List.nodup_cons.2 ⟨h,Ki l⟩
def fY (n:Nat)(t:qW)(j:Nat):wW:=(List.range n).flatMap λi=>if j<=i then (List.range n).filterMap λp=>t i p else []
theorem gJ {n:Nat}{t:qW}:y∈fY n t j↔ ∃i p,j<=i/\i<n/\p<n/\t i p=some y:=by
 simp only[fY,List.mem_flatMap,List.mem_range];constructor
 .rintro⟨i,hi,h⟩
  split at h
  .rename_i b
   obtain⟨p,a,e⟩:=List.mem_filterMap.1 h;exact⟨i,p,b,hi,List.mem_range.1 a,e⟩
  .simp at h
 .rintro⟨i,p,b,hi,a,e⟩
  refine⟨i,hi,?_⟩;rw[if_pos b];exact List.mem_filterMap.2 ⟨p,List.mem_range.2 a,e⟩
def lF (n:Nat)(t:qW):pP:=λj=>
 {gens:=dd (fY n t j)
  orb:=(List.range n).filter λp=>p==j||(t j p).isSome
  to:=λp=>if p=j then some (bC n) else t j p
  tr:=λq=>if q=j\/(t j q).isSome then (dd (fY n t j)).length else 0}
structure pF (n:Nat)(t:qW):Prop where
 lt: ∀i p y,t i p=some y->i<n/\p<n/\p≠i
 bM: ∀i p y,t i p=some y->aY n y
 fix: ∀i p y,t i p=some y->Fix i y
 maps: ∀i p y,t i p=some y->y.getD i 0=p
def Gq (n:Nat)(t:qW):Prop:= ∀a b,a∈fY n t 0->b∈fY n t 0->ins t n 0 (aS a b)=none
section
variable {n:Nat} {t:qW}
theorem tJ {p:Nat}(T:pF n t)(b:j<n)(h:(lF n t j).to p=some y):aY n y/\Fix j y/\y.getD j 0=p/\(p=j/\y=bC n\/t j p=some y):=by
 have a:(if p=j then some (bC n) else t j p)=some y:=h;split at a
 .rename_i e
  cases a;exact⟨aY.one n,Fix.one n j oq,by rw[e];exact fW b,.inl ⟨e,rfl⟩⟩
 .exact⟨T.bM _ _ _ a,T.fix _ _ _ a,T.maps _ _ _ a,.inr a⟩
theorem TK (T:pF n t):(d j:Nat)->(x:List Nat)->j+d=n->S n (lF n t) j x->aY n x/\Fix j x
 |0,j,x,h,hs=>by
  obtain rfl:j=n:=oq
  rw[tE] at hs;subst hs;exact⟨aY.one j,Fix.one j j (Nat.le_refl _)⟩
 |d+1,j,x,h,hs=>by
  obtain⟨p,y,g,b,a,rfl⟩:=(pQ oq).1 hs;obtain⟨G,F⟩:=TK T d (j+1) g oq a;obtain⟨Y,F2,_⟩:=tJ T oq b;exact⟨G.mul Y,Fix.mul G oq (F.mono oq) F2⟩
theorem Jm (j:Nat)(a:j<n){x:List Nat}(X:aY n x)(h:S n (lF n t) (j+1) x):S n (lF n t) j x:=
 (pQ a).2 ⟨j,bC n,x,by show (if j=j then some (bC n) else t j j)=_;rw[if_pos rfl],h,(bD X).symm⟩
theorem Vy:(d j:Nat)->j+d=n->S n (lF n t) j (bC n)
 |0,j,h=>by
         obtain rfl:j=n:=oq
         exact tE.2 rfl
 |d+1,j,h=>Jm j oq (aY.one n) (Vy d (j+1) oq)
theorem Im (T:pF n t):(d j:Nat)->(x:List Nat)->j+d=n->aY n x->Fix j x->ins t d j x=none->S n (lF n t) j x
 |0,j,x,h,X,F,_=>by
  obtain rfl:j=n:=oq
  exact tE.2 (F.all X)
 |d+1,j,x,h,X,F,hi=>by
  unfold ins at hi;split at hi
  .rename_i e
   exact Jm j oq X (Im T d (j+1) x oq X (F.succ e) hi)
  .rename_i e
   split at hi
   .cases hi
   .rename_i y a
    have Y:=T.bM _ _ _ a;have F2:=T.fix _ _ _ a;refine (pQ oq).2 ⟨x.getD j 0,y,aS x (cK y),?_,?_,by rw[aG X Y.inv Y,dU Y,bD X]⟩
    .show (if x.getD j 0=j then some (bC n) else t j (x.getD j 0))=_
     rw[if_neg e];exact a
    .refine Im T d (j+1) _ oq (X.mul Y.inv) ((Fix.mul X oq F (Fix.inv Y oq F2)).succ ?_) hi
     rw[dI (by rw[X.len];omega)];have:=rE Y (show j<n by omega);rwa [T.maps _ _ _ a] at this
theorem Ts:(k d j:Nat)->(x:List Nat)->Fix (j+k) x->ins t (d+k) j x=ins t d (j+k) x
 |0,_,_,_,_=>rfl
 |k+1,d,j,x,F=>by
  have e:ins t (d+k+1) j x=ins t (d+k) (j+1) x:=by
   show (if x.getD j 0=j then ins t (d+k) (j+1) x else _)=_;rw[if_pos (F j oq)]
  rw[show d+(k+1)=(d+k)+1 from rfl,e,Ts k d (j+1) x (by rw[show j+1+k=j+(k+1) from oq];exact F),show j+1+k=j+(k+1) from oq]
theorem TE (T:pF n t)(c:Gq n t){a b:List Nat}(d:j<=n)(l:a∈fY n t 0)(i:b∈fY n t 0)(A:aY n a)(B:aY n b)(f:Fix j a)(k:Fix j b):S n (lF n t) j (aS a b):=by
 have F:=Fix.mul A d f k;have h:=c a b l i;rw[show n=(n-j)+j from oq,Ts j (n-j) 0 _ (by rw[Nat.zero_add];exact F),Nat.zero_add] at h;exact Im T (n-j) j _ oq (A.mul B) F h
theorem ahM (T:pF n t)(h:y∈fY n t j):S n (lF n t) j y:=by
 obtain⟨i,p,d,b,f,e⟩:=gJ.1 h;have Y:=T.bM _ _ _ e
 have a:S n (lF n t) i y:=by
  refine (pQ b).2 ⟨p,y,bC n,?_,Vy (n-(i+1)) (i+1) oq,(cV Y).symm⟩;show (if p=i then some (bC n) else t i p)=_;rw[if_neg (T.lt _ _ _ e).2.2];exact e
 have: ∀k,k<=i->S n (lF n t) (i-k) y:=by
  intro k
  induction k with
  |zero=>intro _;exact a
  |succ k ih=>
   intro c;refine Jm (i-(k+1)) oq Y ?_;rw[show i-(k+1)+1=i-k from oq];exact ih oq
 have:=this (i-j) oq;rwa [show i-(i-j)=j from oq] at this
theorem DL (T:pF n t)(c:Gq n t):pH n 0 (lF n t):=λj _ f=>by
 have d: ∀p,p∈(lF n t j).orb↔((lF n t j).to p).isSome:=by
  intro p;show p∈(List.range n).filter (λp=>p==j||(t j p).isSome)↔(if p=j then some (bC n) else t j p).isSome;rw[List.mem_filter,List.mem_range]
  by_cases e:p=j
  .subst e;simp [f]
  .simp only[beq_iff_eq,e,if_neg,Bool.or_eq_true,false_or]
   constructor
   .exact λh=>h.2
   .intro h
    obtain⟨y,G⟩:=Option.isSome_iff_exists.1 h;exact⟨(T.lt _ _ _ G).2.1,h⟩
 have b: ∀s,s∈(lF n t j).gens↔s∈fY n t j:=λs=>Qw
 have a: ∀s,s∈fY n t j->aY n s/\Fix j s/\s∈fY n t 0:=λs l=>by
  obtain⟨i,p,w,o,r,e⟩:=gJ.1 l;exact⟨T.bM _ _ _ e,(T.fix _ _ _ e).mono w,gJ.2 ⟨i,p,Nat.zero_le _,o,r,e⟩⟩
 refine⟨⟨List.nodup_range.filter _,(d j).2 ?_,?_,d,λp y h=>(tJ T f h).1,λp y h=>(tJ T f h).2.1,λp y h=>(tJ T f h).2.2.1,λp y h=>?_,λs l=>(a s ((b s).1 l)).1,λs l=>(a s ((b s).1 l)).2.1,Ki _,λq=>?_,λq x=>?_⟩,λq y G k s Z l=>?_,λq x=>?_,λh s l=>?_⟩
 .show (if j=j then some (bC n) else t j j).isSome
  rw[if_pos rfl];rfl
 .show (if j=j then some (bC n) else t j j)=_
  rw[if_pos rfl]
 .rcases (tJ T f h).2.2.2 with ⟨_,rfl⟩|e
  .exact .one
  .refine bX.of (λg A=>(a g ((b g).1 A)).1) ((b y).2 (gJ.2 ⟨j,p,Nat.le_refl _,f,(T.lt _ _ _ e).2.1,e⟩))
 .show (if q=j\/(t j q).isSome then (dd (fY n t j)).length else 0)<=_
  split
  .exact Nat.le_refl _
  .exact Nat.zero_le _
 .show (if q=j\/(t j q).isSome then (dd (fY n t j)).length else 0)=0
  rw[if_neg];rintro (e|e)
  .exact x ((d q).2 (by show (if q=j then some (bC n) else t j q).isSome;rw[if_pos e];rfl))
  .refine x ((d q).2 ?_)
   show (if q=j then some (bC n) else t j q).isSome;split
   .rfl
   .exact e
 ·--closure
  have v:s∈fY n t j:=(b s).1 (List.mem_of_getElem? l);obtain⟨J,L,B⟩:=a s v;obtain⟨Y,R,W,m⟩:=tJ T f G
  have Q:S n (lF n t) j (aS y s):=by
   rcases m with ⟨_,rfl⟩|e
   .rw[cV J];exact ahM T v
   .exact TE T c oq (gJ.2 ⟨j,q,Nat.zero_le _,f,(T.lt _ _ _ e).2.1,e⟩) B Y J R L
  obtain⟨p,u,g,w,o,r⟩:=(pQ f).1 Q;obtain⟨U,fu,O,_⟩:=tJ T f w;obtain⟨F,N⟩:=TK T (n-(j+1)) (j+1) g oq o
  have P:(aS y s).getD j 0=p:=by
   rw[r,dI (by rw[F.len];exact f),N j oq,O]
  refine⟨u,by rw[P];exact w,?_⟩;rw[r,aG F U U.inv,dB U,bD F];exact o
 .show (if q=j\/(t j q).isSome then (dd (fY n t j)).length else 0)=(dd (fY n t j)).length
  rw[if_pos];have:=(d q).1 x;have K:(if q=j then some (bC n) else t j q).isSome:=this;split at K
  .rename_i e;exact .inl e
  .exact .inr K
 .have z:s∈fY n t (j+1):=Qw.1 l
  obtain⟨i,p,w,o,r,e⟩:=gJ.1 z;exact bX.of (λg A=>(a g ((b g).1 A)).1) ((b s).2 (gJ.2 ⟨i,p,oq,o,r,e⟩))
theorem BG (T:pF n t)(c:Gq n t)(a:0<n)(x:List Nat):S n (lF n t) 0 x↔bX n (· ∈fY n t 0) x:=by
 rw[(DL T c).gen a];have:(λg=>g∈(lF n t 0).gens)=λg=>g∈fY n t 0:=funext λg=>propext Qw
 rw[this]
def put (t:qW)(i p:Nat)(x:List Nat):qW:=λj q=>if j=i/\q=p then some x else t j q
def jI (t:qW)(n:Nat)(x:List Nat):qW:=match ins t n 0 x with
 |none=>t
 |some (i,r)=>put t i (r.getD i 0) r
theorem xT (T:pF n t):(d j:Nat)->(x:List Nat)->(i:Nat)->(r:List Nat)->j+d=n->aY n x->Fix j x->ins t d j x=some (i,r)->
  j<=i/\i<n/\aY n r/\Fix i r/\r.getD i 0≠i/\t i (r.getD i 0)=none/\ ∃w,bX n (· ∈fY n t 0) w/\x=aS r w
 |0,_,_,_,_,_,_,_,h=>by cases h
 |d+1,j,x,i,r,h,X,F,hi=>by
  unfold ins at hi;split at hi
  .rename_i e
   obtain⟨s,b⟩:=xT T d (j+1) x i r oq X (F.succ e) hi;exact⟨oq,b⟩
  .rename_i e
   split at hi
   .rename_i o
    cases hi;exact⟨Nat.le_refl _,oq,X,F,e,o,bC n,.one,(bD X).symm⟩
   .rename_i y a
    have Y:=T.bM _ _ _ a
    have l: ∀g,g∈fY n t 0->aY n g:=λg m=>by
     obtain⟨_,_,_,_,_,e⟩:=gJ.1 m;exact T.bM _ _ _ e
    obtain⟨s,b,k,q,u,p,w,f,v⟩:=xT T d (j+1) _ i r oq (X.mul Y.inv) ((Fix.mul X oq F (Fix.inv Y oq (T.fix _ _ _ a))).succ (by
     rw[dI (by rw[X.len];omega)];have:=rE Y (show j<n by omega)
     rwa [T.maps _ _ _ a] at this)) hi
    have c:y∈fY n t 0:=gJ.2 ⟨j,_,Nat.zero_le _,oq,(T.lt _ _ _ a).2.1,a⟩;refine⟨oq,b,k,q,u,p,aS w y,f.mul c,?_⟩;rw[<-aG k (f.bM l) Y,<-v,aG X Y.inv Y,dU Y,bD X]
theorem vX (T:pF n t):(d j:Nat)->(x:List Nat)->j+d=n->aY n x->Fix j x->ins t d j x=none->bX n (· ∈fY n t 0) x
 |0,j,x,h,X,F,_=>by
  obtain rfl:j=n:=oq
  rw[F.all X];exact .one
 |d+1,j,x,h,X,F,hi=>by
  unfold ins at hi;split at hi
  .rename_i e
   exact vX T d (j+1) x oq X (F.succ e) hi
  .rename_i e
   split at hi
   .cases hi
   .rename_i y a
    have Y:=T.bM _ _ _ a
    have b:=vX T d (j+1) _ oq (X.mul Y.inv) ((Fix.mul X oq F (Fix.inv Y oq (T.fix _ _ _ a))).succ (by
     rw[dI (by rw[X.len];omega)];have:=rE Y (show j<n by omega)
     rwa [T.maps _ _ _ a] at this)) hi
    have:=b.mul (gJ.2 ⟨j,_,Nat.zero_le _,oq,(T.lt _ _ _ a).2.1,a⟩);rwa [aG X Y.inv Y,dU Y,bD X] at this
def Sub (t t':qW):Prop:= ∀i p y,t i p=some y->t' i p=some y
theorem Db {a:qW}(s:Sub t a):(d j:Nat)->(x:List Nat)->ins t d j x=none->ins a d j x=none
 |0,_,_,_=>rfl
 |d+1,j,x,h=>by
  unfold ins at h |-;split at h
  .rename_i e;rw[if_pos e];exact Db s d _ _ h
  .rename_i e
   rw[if_neg e];split at h
   .cases h
   .rename_i y b
    rw[s _ _ _ b];exact Db s d _ _ h
theorem CK {i p:Nat}{x:List Nat}(h:t i p=none):Sub t (put t i p x):=λj q y a=>by
 unfold put;rw[if_neg (λe=>by rw[e.1,e.2,h] at a;cases a)];exact a
theorem Sb (T:pF n t):(d j:Nat)->(x:List Nat)->(i:Nat)->(r:List Nat)->j+d=n->aY n x->Fix j x->ins t d j x=some (i,r)->ins (put t i (r.getD i 0) r) d j x=none
 |0,_,_,_,_,_,_,_,h=>by cases h
 |d+1,j,x,i,r,h,X,F,hi=>by
  obtain⟨l,m,o,f,p,c,_⟩:=xT T (d+1) j x i r h X F hi;have sub:=CK (t:=t) (x:=r) c;unfold ins at hi |-;split at hi
  .rename_i e;rw[if_pos e];exact Sb T d (j+1) x i r oq X (F.succ e) hi
  .rename_i e
   rw[if_neg e];split at hi
   .cases hi
    have:put t j (x.getD j 0) x j (x.getD j 0)=some x:=by unfold put;rw[if_pos ⟨rfl,rfl⟩]
    rw[this];simp only;rw[dB X]
    have:(d j:Nat)->j+d=n-> ∀b:qW,ins b d j (bC n)=none:=by
     intro d
     induction d with
     |zero=>intro _ _ _;rfl
     |succ d ih=>intro j k b;unfold ins;rw[if_pos (fW oq)];exact ih (j+1) oq b
    exact this d (j+1) oq _
   .rename_i y a
    have Y:=T.bM _ _ _ a;rw[sub _ _ _ a]
    exact Sb T d (j+1) _ i r oq (X.mul Y.inv) ((Fix.mul X oq F (Fix.inv Y oq (T.fix _ _ _ a))).succ (by
     rw[dI (by rw[X.len];omega)];have:=rE Y (show j<n by omega)
     rwa [T.maps _ _ _ a] at this)) hi
end
end
end Go.Pm
namespace Go.Pm
section
variable {x:List Nat}
section
variable {n:Nat} {t:qW}
theorem pF.KD (T:pF n t){j:Nat}: ∀g,g∈fY n t j->aY n g:=λg a=>by
 obtain⟨_,_,_,_,_,e⟩:=gJ.1 a;exact T.bM _ _ _ e
theorem Sub.refl (t:qW):Sub t t:=λ_ _ _ h=>h
theorem Sub.trans {a b c:qW}(x:Sub a b)(y:Sub b c):Sub a c:=λi p z h=>y i p z (x i p z h)
theorem pF.empty (n:Nat):pF n (λ_ _=>none):=⟨λ_ _ _ h=>(by cases h),λ_ _ _ h=>(by cases h),λ_ _ _ h=>(by cases h),λ_ _ _ h=>(by cases h)⟩
theorem WH (T:pF n t)(X:aY n x):pF n (jI t n x)/\Sub t (jI t n x)/\ins (jI t n x) n 0 x=none/\ ∀g,g∈fY n (jI t n x) 0->bX n (λu=>u∈fY n t 0\/u=x) g:=by
 unfold jI
 cases h:ins t n 0 x with
 |none=>exact⟨T,Sub.refl t,h,λg l=>bX.of (λu c=>by rcases c with c|rfl;exact T.KD u c;exact X) (.inl l)⟩
 |some q=>
  have⟨i,r⟩:=q;have m:Fix 0 x:=λk K=>oq
  obtain⟨L,p,d,F,B,J,w,o,A⟩:=xT T n 0 x i r oq X m h
  have a: ∀j q y,put t i (r.getD i 0) r j q=some y->(j=i/\q=r.getD i 0/\y=r)\/t j q=some y:=λj q y b=>by
   unfold put at b;split at b
   .rename_i e;cases b;exact .inl ⟨e.1,e.2,rfl⟩
   .exact .inr b
  refine⟨⟨λj q y b=>?_,λj q y b=>?_,λj q y b=>?_,λj q y b=>?_⟩,CK J,Sb T n 0 x i r oq X m h,λg l=>?_⟩
  .rcases a j q y b with ⟨rfl,rfl,rfl⟩|h
   .exact⟨p,d.fZ p,B⟩
   .exact T.lt _ _ _ h
  .rcases a j q y b with ⟨rfl,rfl,rfl⟩|h
   .exact d
   .exact T.bM _ _ _ h
  .rcases a j q y b with ⟨rfl,rfl,rfl⟩|h
   .exact F
   .exact T.fix _ _ _ h
  .rcases a j q y b with ⟨rfl,rfl,rfl⟩|h
   .rfl
   .exact T.maps _ _ _ h
  .have f: ∀u,(u∈fY n t 0\/u=x)->aY n u:=λu c=>by
    rcases c with c|rfl
    .exact T.KD u c
    .exact X
   obtain⟨j,q,z,s,G,e⟩:=gJ.1 l;rcases a j q g e with ⟨_,_,rfl⟩|h
   .have W:=o.bM T.KD
    have v:g=aS x (cK w):=by rw[A,aG d W W.inv,dB W,bD d]
    rw[v];exact (bX.of f (.inr rfl)).app f ((o.mono λu c=>Or.inl c).inv f)
   .exact bX.of f (.inl (gJ.2 ⟨j,q,z,s,G,h⟩))
structure Jd (n:Nat)(L:List Nat->Prop)(t:qW):Prop where
 tab:pF n t
 gen: ∀g,g∈fY n t 0->bX n L g
variable {L:List Nat->Prop}
theorem Jd.ins (a:Jd n L t)(c: ∀g,L g->aY n g)(d:bX n L x):Jd n L (jI t n x)/\Sub t (jI t n x)/\Go.Pm.ins (jI t n x) n 0 x=none:=by
 obtain⟨i,f,j,h⟩:=WH a.tab (d.bM c);refine⟨⟨i,λg k=>(h g k).le (bX.cX c) λu b=>?_⟩,f,j⟩;rcases b with b|rfl
 .exact a.gen u b
 .exact d
theorem Jd.group (a:Jd n L t)(d: ∀g,L g->aY n g)(f:0<n)(c:Gq n t)(hi: ∀g,L g->Go.Pm.ins t n 0 g=none)(x:List Nat):S n (lF n t) 0 x↔bX n L x:=by
 rw[BG a.tab c f];constructor
 .exact λh=>h.le (bX.cX d) a.gen
 .exact λh=>h.le (bX.cX a.tab.KD) λg b=>vX a.tab n 0 g oq (d g b) (λk i=>oq) (hi g b)
structure QD (n:Nat)(L:List Nat->Prop)(τ:pP):Prop where
 tw:pH n 0 τ
 group: ∀x,S n τ 0 x↔bX n L x
theorem QD.start (a:0<n):QD n (λ_=>False) (RS n):=by
 refine⟨SC n,λx=>?_⟩;rw[(SC n).gen a];have:(λg=>g∈(RS n 0).gens)=λ_=>False:=funext λg=>propext ⟨λh=>(by cases h),λh=>h.elim⟩
 rw[this]
theorem QD.add {l d:pP}(a:QD n L l)(k:0<n)(i: ∀g,L g->aY n g)(X:aY n x)(b:Ei n 0 x l d):QD n (λg=>L g\/g=x) d:=by
 refine⟨b.tw,λz=>?_⟩
 have f: ∀g,(L g\/g=x)->aY n g:=λg c=>by
  rcases c with c|rfl
  .exact i g c
  .exact X
 rw[b.group a.tw k X z];constructor
 .intro h
  refine h.le (bX.cX f) λg c=>?_
  rcases c with c|rfl
  .exact ((a.group g).1 c).mono λu j=> .inl j
  .exact bX.of f (.inr rfl)
 .intro h
  refine h.mono λg c=>?_
  rcases c with c|rfl
  .exact .inl ((a.group g).2 (bX.of i c))
  .exact .inr rfl
theorem QD.congr {M:List Nat->Prop}{b:pP}(a:QD n L b)(h: ∀g,L g↔M g):QD n M b:=by
 have:L=M:=funext λg=>propext (h g)
 exact this▸a
end
def Xd (n:Nat)(R:RI):List Nat->Prop:=bX n λg=>g∈R.flatten
def Valid (n:Nat)(O:wW)(R:RI):Prop:=(∀g∈R.flatten,aY n g)/\bA n (Xd n R) O R
theorem Valid.iff {n:Nat}{O a:wW}{R b:RI}(d: ∀g∈R.flatten,aY n g)(c:bA n (Xd n R) a b):Valid n O R↔O=a/\R=b:=by
 constructor
 .rintro⟨_,h⟩;exact h.uniq c
 .rintro⟨rfl,rfl⟩;exact⟨d,c⟩
theorem Valid.cX {n:Nat}{O:wW}{R:RI}(v:Valid n O R):eM n (Xd n R):=bX.cX v.1
end
end Go.Pm
namespace Go.Proofs.YtcdbmkidaecdiaaGreat
open Go Go.Ay Go.Pm
def Ho (c:Nat):V:=if c<130 then .aD else aC 0
def lv0:Lv:=⟨[], [],λ_=>none,λ_=>0⟩
theorem WJ: [V.aD,V.aD,V.aD,V.aD,V.aD,V.aD,V.aD,V.aD,V.aD,V.aD,V.aD,V.aD,V.aD,V.aD,V.aD,V.aD,V.aD,V.aD,V.aD,V.aD,V.aD,V.aD,V.aD,V.aD,V.aD,V.aD,V.aD,V.aD,V.aD,V.aD,V.aD,V.aD,V.aD,V.aD,V.aD,V.aD,V.aD,V.aD,V.aD,V.aD,V.aD,V.aD,V.aD,V.aD,V.aD,V.aD,V.aD,V.aD,V.aD,V.aD,V.aD,V.aD,V.aD,V.aD,V.aD,V.aD,V.aD,V.aD,V.aD,V.aD,V.aD,V.aD,V.aD,V.aD,V.aD,V.aD,V.aD,V.aD,V.aD,V.aD,V.aD,V.aD,V.aD,V.aD,V.aD,V.aD,V.aD,V.aD,V.aD,V.aD,V.aD,V.aD,V.aD,V.aD,V.aD,V.aD,V.aD,V.aD,V.aD,V.aD,V.aD,V.aD,V.aD,V.aD,V.aD,V.aD,V.aD,V.aD,V.aD,V.aD,V.aD,V.aD,V.aD,V.aD,V.aD,V.aD,V.aD,V.aD,V.aD,V.aD,V.aD,V.aD,V.aD,V.aD,V.aD,V.aD,V.aD,V.aD,V.aD,V.aD,V.aD,V.aD,V.aD,V.aD,V.aD,V.aD,V.aD,V.aD,V.aD,V.aD,(aC 0),(aC 0),(aC 0),(aC 0),(aC 0),(aC 0),(aC 0),(aC 0),(aC 0),(aC 0),(aC 0),(aC 0),(aC 0),(aC 0),(aC 0),(aC 0),(aC 0),(aC 0),(aC 0),(aC 0),(aC 0),(aC 0),(aC 0),(aC 0),(aC 0),(aC 0),(aC 0),(aC 0),(aC 0),(aC 0),(aC 0),(aC 0),(aC 0),(aC 0),(aC 0),(aC 0),(aC 0),(aC 0),(aC 0),(aC 0),(aC 0),(aC 0),(aC 0),(aC 0),(aC 0),(aC 0),(aC 0),(aC 0),(aC 0),(aC 0),(aC 0),(aC 0),(aC 0),(aC 0),(aC 0),(aC 0),(aC 0),(aC 0),(aC 0),(aC 0),(aC 0),(aC 0),(aC 0),(aC 0)]=rc 194 Ho:=rfl
theorem JA (n:Nat):dT (rc 194 Ho) (n*194)=rc (n*194) λc=>Ho (c%194):=by
 refine List.ext_getElem (by simp [dT,iK]) λi a b=>?_
 simp [dT,rc];rw[List.getElem?_range (Nat.mod_lt _ om)];rfl
def SX (n i:Nat):pP:=λj=>if j<i then RS n j else lv0
theorem rF.congr {h:H}{n f L:Nat}{F:Nat->V}{i b:pP}(R:rF h n f L F i)(e: ∀j,j<n->i j=b j):rF h n f L F b:=
 ⟨R.t,R.l,R.tn,R.ln,R.tw,λj p a d=>by rw[<-e j a];exact R.to j p a d,λj p a d=>by rw[<-e j a];exact R.iv j p a d,λj p a d=>by rw[<-e j a];exact R.tr j p a d,
  λj c=>by rw[<-e j c];exact R.gens j c,λj c=>by rw[<-e j c];exact R.orb j c,R.HG,R.ap⟩
theorem Te (n:Nat)(h:H)(h0:0<n)(hn:n<=7):
  Ev T 192 [aC n] h (λv h'=> ∃tid L F,v= .ptr tid 0/\rF h' n tid L F (RS n)/\Fr h h'/\ ∀id,WT n L F id->h.next<=id):=by
 refine kV ?_
 have hm:Ct h 194 3632 (rc 194 Ho) (aC n) (aC n)=some (.sl h.next 0 n (.kn n),h.new (.cells false (rc (n*194) λc=>Ho (c%194)))):=by
  rw[qT om (Int.le_refl _) om om,IF,JA]
 obtain⟨w,K⟩: ∃w:Nat->V,w=λc=>Ho (c%194):=⟨_,rfl⟩
 obtain⟨L,P⟩:=exI h.next
 rw[P,<-K] at hm
 simp(disch:=omega)only[go_sem,aI,WJ,hm,NT (z1:= aC 0) (z2:= .aD) (v:= aC n) (u:= .sl L 0 n (.kn n)) rfl rfl rfl rfl,uK _ (v:= aC n) (u:= .sl L 0 n (.kn n)) rfl rfl,P]
 obtain⟨d,m⟩: ∃d,d=(h.new (.cells false (rc (n*194) w))).new (.cells false [aC n,.sl L 0 n (.kn n)]):=⟨_,rfl⟩
 rw[<-m]
 have g1:d.get L=some (.cells false (rc (n*194) w)):=by rw[m,H.bN _ (by rw[H.aZ];omega),<-P,H.aQ]
 have g2:d.get (L+1)=some (.cells false [aC n,.sl L 0 n (.kn n)]):=by
  rw[m];have:=H.aQ (h.new (.cells false (rc (n*194) w))) (.cells false [aC n,.sl L 0 n (.kn n)]);rwa [H.aZ,P] at this
 have n2:d.next=L+2:=by rw[m,H.aZ,H.aZ,P]
 have f2:Fr h d:=by rw[m];exact ((Fr.refl h).new _).new _
 clear m hm
 have s0: ∀s,s<2*n->sE w s= .aD:=λs _=>by
  unfold sE Ho at*;rw[K];simp only;rw[bL om]
 have w0: ∀id,WT n L w id->id=L:=λid y=>by
  rcases y with e|⟨s,hs,a4,len,c,e⟩
  .exact e
  .rw[s0 s hs] at e;cases e
 have z0: ∀j c,c<194->w (j*194+c)=Ho c:=λj c hc=>by
  rw[K];simp only;rw[Nat.mul_comm,Nat.mul_add_mod,Nat.mod_eq_of_lt hc]
 have z1: ∀j b c,b+c<194->w (j*194+b+c)=Ho (b+c):=λj b c hc=>by rw[Nat.add_assoc];exact z0 j (b+c) hc
 have R:rF d n (L+1) L w (SX n 0):=by
  refine⟨g2,g1,om,om,λy=>by have:=w0 _ y;omega,λj p a d=>?_,λj p a d=>?_,λj p a d=>?_,λj hj=>⟨[],?_,trivial⟩,λj hj=>?_,λs s' a d _=>?_,λs a=>?_⟩
  .rw[z1 j 2 p om];unfold Ho;rw[bL om];rfl
  .rw[z1 j 66 p om];unfold Ho;rw[bL om];rfl
  .rw[z1 j 130 p om];unfold Ho;rw[bV om];rfl
  .have:=z0 j 0 om
   rw[Nat.add_zero] at this;rw[this];exact cW.aD ..
  .rw[z0 j 1 om];exact cW.aD ..
  .rw[s0 s a];intro i o n c e;cases e
  .rw[s0 s a];exact dS.aD _
 have a3:d.cell (L+1) 1=some (.sl L 0 n (.kn n)):=by rw[H.cell_of g2];rfl
 refine bE a3 ?_
 refine aH (λk' J hh=> ∃(i:Nat) (F:Nat->V),(∃g:Nat->V,J= [aC n,g 1,.ptr (L+1) 0,g 3,g 4,aC n,aC i,g 7])/\i<=n/\rF hh n (L+1) L F (SX n i)/\Fr h hh/\(∀id,WT n L F id->h.next<=id)/\k'=n-i) n
  ⟨0,w,aB rfl,fE _,R,f2,λid y=>by rw[w0 id y];omega,rfl⟩ ?_
 clear R g1 g2 n2 f2 s0 w0 z0 z1
 rintro k' J h3 ⟨i,F,⟨g,rfl⟩,hi,R,f,y,rfl⟩
 refine aM ?_
 by_cases U:(i:Int)<(n:Int)
 .rw[cJ U]
  have O:i<n:=om
  have cl:h3.cell (L+1) 1=some (.sl L 0 n (.kn n)):=by rw[H.cell_of R.t];rfl
  have ln:=R.ln
  have hN:i*194+194<=n*194:=om
  have e0:SX n i i=lv0:=by unfold SX;rw[bV om]
  refine gX cl (cQ h3 (z:= aC 0) (v:= aC i) rfl rfl) @R.l @Gi ?_
  obtain⟨x,A⟩: ∃x,x=(h3.new (.cells false [aC i])).set L (some (.cells false (rc (n*194) (F1 F (i*194+1) (.sl h3.next 0 1 (.kn 1)))))):=⟨_,rfl⟩
  rw[<-A]
  have p4:tK h3 (F (i*194+1)) 0 1 1 [] [aC i] (h3.new (.cells false [aC i])):=⟨H.aQ ..,H.aZ ..,λk hk _=>H.bN h3 hk _⟩
  obtain⟨Y,f4,w4⟩:=R.RN O (q:=i) (v:= .sl h3.next 0 1 (.kn 1)) (by rw[e0];exact p4) (.inr rfl) (by rw[e0];rfl) A
  obtain⟨G,a0⟩: ∃G,G=F1 F (i*194+1) (.sl h3.next 0 1 (.kn 1)):=⟨_,rfl⟩
  rw[<-a0] at Y w4
  have n4:x.next=h3.next+1:=by rw[A,H.dE,H.aZ]
  have N: ∀id,WT n L G id->h.next<=id:=λid a=>by
   by_cases d:id<h3.next
   .exact y id (w4 id d a)
   .have:=f.next;omega
  have a2:Fr h x:=⟨kP f.next f4.next,λid a=>(f4.get id (kQ a f.next) λd=>by have:=y id d;omega).trans (f.get id a)⟩
  clear A
  generalize Q:tZ (SX n i) i {SX n i i with orb:=(SX n i i).orb++ [i]}=B at Y
  have e4:B i={lv0 with orb:= [i]}:=by rw[<-Q,cZ,e0];rfl
  refine (Qa tC.ok n (H.mk x.tr (h3.next+1+16)) om).mono ?_
  rintro va h5 na
  refine aM ?_
  refine (Qa tC.ok n h5 om).mono ?_
  rintro vb h6 Z
  have f5:Fr x h5:=((Fr.refl x).bU om:Fr x (H.mk x.tr (h3.next+1+16))).trans na.fr
  have R6:=Y.mono (f5.trans Z.fr)
  have pa:=(na.pv (W:=WT n L G) (λa=>by have:=Y.Iq a;simp at this;omega)).mono Z.fr
  have pb:=Z.pv (W:=WT n L G) (λa=>by have:=Y.Iq a;have:=f5.next;omega)
  have a1:PV (WT n L G) h6 vb (cK (bC n)):=by rw[oZ];exact pb
  refine gX @R6.l (kO pa.eZ.1 pa.eZ.2) (kO pb.eZ.1 pb.eZ.2) @Gi ?_
  obtain⟨R7,f7,w7⟩:=R6.way O (q:=i) om pa a1 (h3:=(h6.set L (some (Ob.cells false (rc (n*194) (F1 G (i*194+2+i) va))))).set L (some (Ob.cells false (rc (n*194) (F1 (F1 G (i*194+2+i) va) (i*194+66+i) vb))))) (eU _) (λid a _=>by rw[H.aF _ a,H.aF _ a]) (by rw[H.aW])
  have eT:tZ B i {B i with to:=λr=>if r=i then some (bC n) else (B i).to r}=SX n (i+1):=by
   funext j
   by_cases e:j=i
   .subst e
    rw[cZ,e4];unfold SX;rw[bL om]
    rfl
   .rw[fQ _ _ e,<-Q,fQ _ _ e]
    unfold SX
    by_cases e2:j<i
    .rw[bL e2,bL om]
    .rw[bV e2,bV om]
  rw[eT] at R7
  have f6:=a2.trans (f5.trans Z.fr)
  rw[eJ i]
  refine⟨n-(i+1),om,i+1,_,aB rfl,om,R7,⟨kP f6.next f7.next,λid a=>(f7.get id (kQ a f6.next) λd=>by have:=N id d;omega).trans (f6.get id a)⟩,λid a=>N id ((w7 id).1 a),rfl⟩
 rw[bT U]
 obtain rfl:i=n:=om
 refine aM ?_
 have eT:rF h3 i (L+1) L F (RS i):=R.congr λj hj=>by unfold SX;rw[bL hj]
 exact⟨L+1,L,F,rfl,eT,f,λid a=>by have:=y id a;omega⟩
abbrev SP (h:H)(v:V)(l:LN):Prop:=SR h v (l.map zi)
theorem wF {h:H}{ws:List V}{l:LN}(a:aJ (SI h) ws (l.map zi)){i:Nat}(hi:i<l.length):SI h (ws.getD i .undef) (zi (l.getD i [])):=by
 have:=Pt a (i:=i) (by simpa using hi);rwa [show (l.map zi).getD i []=zi (l.getD i []) by simp [List.getD,hi]] at this
theorem Qs {W:Nat->Prop}{h:H}{b:Nat}{v:V}{l:List Int}(s:SI h v l)(d:h.next<=b)(a: ∀id,W id->b<=id):Gz W v:=by
 cases v with
 |sl id off len cap=>exact λc=>by have:=s.in _ _ _ _ rfl;have:=a id c;omega
 |_=>trivial
theorem Ov {l:LN}{i:Nat}(hi:i<l.length)(g:List Nat):g∈l.take (i+1)↔g∈l.take i\/g=l.getD i []:=by
 rw[List.take_add_one,dC hi,jO];simp [List.getD,hi]
theorem Sw (n:Nat)(r:V)(l:LN)(h:H)(q:0<n)(J:n<=7)(hl:l.length<1000000)(K:SP h r l)(N: ∀g∈l,aY n g):
  Ev T 141 [aC n,r] h (λv h'=> ∃tid L F τ,v= .ptr tid 0/\rF h' n tid L F τ/\QD n (· ∈l) τ/\Fr h h'/\ ∀id,WT n L F id->h.next<=id):=by
 refine nL ?_
 refine (Te n h q J).mono ?_
 rintro _ j ⟨tid,L,F,rfl,R,f,c⟩
 have P:=K.lens
 rw[fL] at P
 obtain⟨id,w,A,y,o,s,Q,m⟩:=K.open
 rw[fL] at y o s Q
 refine bE P ?_
 refine aH (λB b G=> ∃(i:Nat) (F:Nat->V) (τ:pP),(∃g:Nat->V,b= [aC n,r,g 2,.ptr tid 0,g 4,r,aC (l.length:Int),aC i,g 8])/\i<=l.length/\rF G n tid L F τ/\QD n (· ∈l.take i) τ/\Fr h G/\(∀id,WT n L F id->h.next<=id)/\B=l.length-i) l.length
  ⟨0,F,RS n,aB rfl,fE _,R,(QD.start q).congr siM,f,c,rfl⟩ ?_
 clear R f c F
 rintro B b p ⟨i,F,τ,⟨g,rfl⟩,hi,R,t,f,c,rfl⟩
 refine aM ?_
 by_cases d:(i:Int)<(l.length:Int)
 .rw[cJ d]
  have a:i<l.length:=om
  have ci:p.cell id (w+i)=some (A.getD i .undef):=by rw[f.cell (o om),Q i a]
  have z:=wF m a
  have pv:PV (WT n L F) p (A.getD i .undef) (l.getD i []):=⟨z.mono f,Qs z (eU _) c⟩
  have X:aY n (l.getD i []):=N _ (by simp [List.getD,a])
  refine cU @y.ixa ci ?_
  refine (acG n J q p tid L F τ _ _ R pv X (λk hk=>om) t.tw).mono ?_
  rintro vv h3 ⟨F3,x,W,a3,O,Y⟩
  have U:=(t.add q (λg Z=>N g (List.mem_of_mem_take Z)) X a3).congr λg=>(Ov a g).symm
  refine aM ?_
  rw[eJ i]
  refine⟨l.length-(i+1),om,i+1,F3,x,aB rfl,om,W,U,⟨kP f.next O.next,λid j=>(O.get id (kQ j f.next) λu=>by have:=c id u;omega).trans (f.get id j)⟩,λid j=>?_,rfl⟩
  by_cases u:id<p.next
  .exact c id (Y id u j)
  .have:=f.next;omega
 rw[bT d]
 obtain rfl:i=l.length:=om
 refine aM ?_
 exact⟨tid,L,F,τ,rfl,R,t.congr λg=>by rw[List.take_length],f,c⟩
end Go.Proofs.YtcdbmkidaecdiaaGreat
namespace Go.Proofs.YtcdbmkidaecdiaaGreat
open Go Go.Ay Go.Pm
theorem Od (x:List Nat)(l:List Nat){i:Nat}(hi:i<l.length)(b:Nat):pG x b (l.drop i)=pG x (if x.getD (l.getD i 0) 0<x.getD b 0 then l.getD i 0 else b) (l.drop (i+1)):=by
 rw[Ij hi,bJ hi];rfl
theorem RE (h:H)(n i L:Nat)(F:Nat->V)(τ:pP)(vx:V)(x:List Nat)(l:Nat)(hn:n<=7)(R:rF h n i L F τ)(hx:PV (WT n L F) h vx x)(X:aY n x)(b2:l<n)(t:pH n (l+1) τ):
  Ev T 196 [.ptr i 0,vx,aC l] h (λv h'=>PV (WT n L F) h' v (Bq τ (n-(l+1)) (l+1) x)/\aY n (Bq τ (n-(l+1)) (l+1) x)/\Fr h h'):=by
 refine nL ?_
 rw[eJ l]
 refine aH (λk' d hh=> ∃(k:Nat) (y:List Nat) (P:V),(∃g:Nat->V,d= [.ptr i 0,P,g 2,g 3,aC k,g 5,g 6,g 7,g 8,g 9,g 10,g 11,g 12,g 13])/\l<k/\k<=n/\Bq τ (n-k) k y=Bq τ (n-(l+1)) (l+1) x/\
   PV (WT n L F) hh P y/\aY n y/\Fr h hh/\k'=n-k) (n-(l+1))
  ⟨l+1,x,vx,aB rfl,om,om,rfl,hx,X,Fr.refl h,rfl⟩ ?_
 rintro k' d G ⟨k,y,P,⟨g,rfl⟩,b3,b1,r,hy,Y,f,rfl⟩
 have Q:=R.mono f
 have ct:G.cell i 0=some (aC n):=by rw[H.cell_of Q.t];rfl
 have cl:G.cell i 1=some (.sl L 0 n (.kn n)):=by rw[H.cell_of Q.t];rfl
 refine cU ct cl ?_
 by_cases a0:(k:Int)<(n:Int)
 case neg=>
  rw[bT a0];obtain rfl:k=n:=om
  rw[Nat.sub_self] at r;refine aM ?_;rw[<-r];exact⟨hy,Y,f⟩
 have c:k<n:=om
 rw[cJ a0]
 have co:G.cell L (k*194+1)=some (F (k*194+1)):=Q.cell c om
 have oo:=Q.orb k c
 have lo:=cW.lens oo (by rw[aN,aL])
 have mV:=(t k om c).1
 have b0:=UL mV c
 refine dQ cl co lo ?_
 obtain⟨id,a8,sh,Z,hc⟩:=(show SI G (F (k*194+1)) (zi (τ k).orb) from oo.sv).open
 rw[aL] at sh Z hc
 obtain⟨W,z,a4,o,K⟩:=hy.si.open
 rw[aL,Y.len] at a4 o K
 refine aH (λm' d hh=> ∃(m b:Nat),(∃g:Nat->V,d= [.ptr i 0,P,g 2,g 3,aC k,aC b,g 6,g 7,F (k*194+1),aC ((τ k).orb.length:Int),aC m,g 11,g 12,g 13])/\m<=(τ k).orb.length/\b<n/\b∈k::(τ k).orb/\
   pG y b ((τ k).orb.drop m)=pG y k (τ k).orb/\Fr G hh/\m'=(τ k).orb.length-m) (τ k).orb.length
  ⟨0,k,aB rfl,fE _,c,sZ ..,rfl,Fr.refl G,rfl⟩ ?_
 rintro m' d s ⟨m,b,⟨g3,rfl⟩,hm,hb,a1,a,B,rfl⟩
 refine aM ?_
 by_cases A:(m:Int)<((τ k).orb.length:Int)
 .rw[cJ A]
  have p:m<(τ k).orb.length:=om
  rw[Od _ _ p] at a
  have cq:s.cell id (a8+m)=some (aC ((τ k).orb.getD m 0:Nat)):=by rw[B.cell (Z om),hc m p];congr 2;simp [zi,p]
  have J:(τ k).orb.getD m 0∈(τ k).orb:=by rw[bJ p];exact pN p
  have w:=mV.lt c J
  generalize (τ k).orb.getD m 0=q at cq J w a
  have c1:s.cell W (z+q)=some (aC (y.getD q 0:Nat)):=by rw[B.cell (o om),K q w];congr 2;simp [zi,Y.len,w]
  have c2:s.cell W (z+b)=some (aC (y.getD b 0:Nat)):=by rw[B.cell (o om),K b hb];congr 2;simp [zi,Y.len,hb]
  refine iT @sh.ixa cq @a4.ixa c1 c2 ?_
  have fb:Fr G (H.mk s.tr (s.next+9)):=B.bU om
  by_cases a3:((y.getD q 0:Nat):Int)<((y.getD b 0:Nat):Int)
  .rw[cJ a3]
   rw[bL om] at a
   refine aM ?_
   rw[eJ m]
   exact⟨(τ k).orb.length-(m+1),om,m+1,q,aB rfl,om,w,tX _ J,a,fb,rfl⟩
  .rw[bT a3]
   rw[bV om] at a
   refine aM ?_
   rw[eJ m]
   exact⟨(τ k).orb.length-(m+1),om,m+1,b,aB rfl,om,hb,a1,a,fb,rfl⟩
 rw[bT A]
 have em:m=(τ k).orb.length:=om
 rw[em,List.drop_length] at a
 have a:b=pG y k (τ k).orb:=a
 have N:n-k=(n-(k+1))+1:=om
 rw[N] at r
 have r:Bq τ (n-(k+1)) (k+1) (if pG y k (τ k).orb=k then y else aS (((τ k).to (pG y k (τ k).orb)).getD []) y)=Bq τ (n-(l+1)) (l+1) x:=r
 rw[<-a] at r
 have R3:=Q.mono B
 have a2:=hy.mono B
 refine aM ?_
 by_cases O:b=k
 .rw[bL O] at r
  have e0:decide ((b:Int)≠(k:Int))=false:=bT om
  refine bE e0 ?_
  rw[eJ k]
  exact⟨n-(k+1),om,k+1,y,P,aB rfl,om,om,r,a2,Y,f.trans B,rfl⟩
 rw[bV O] at r
 have e0:decide ((b:Int)≠(k:Int))=true:=cJ om
 have a9:s.cell i 1=some (.sl L 0 n (.kn n)):=by rw[H.cell_of R3.t];rfl
 have a7:b∈(τ k).orb:=by
  rcases uL.1 a1 with e|e
  .exact absurd e O
  .exact e
 obtain⟨u,hu⟩:=mV.to a7
 have U:=mV.bM _ _ hu
 have a6:s.cell L (k*194+2+b)=some (F (k*194+2+b)):=R3.Nz c om
 have a5:PV (WT n L F) s (F (k*194+2+b)) u:=by
  have:=R3.to k b c om;rw[hu] at this;exact this
 rw[hu] at r
 refine dQ e0 a9 a6 ?_
 refine (nU oG.ok _ P u y s (by rw[U.len];omega) a5.si a2.si (λj hj=>by rw[Y.len];exact U.fZ (by rw[<-U.len];exact hj))).mono ?_
 rintro v h4 nw
 refine aM ?_
 rw[eJ k]
 exact⟨n-(k+1),om,k+1,_,v,aB rfl,om,om,r,nw.pv (λhw=>by have:=R3.Iq hw;omega),U.mul Y,(f.trans B).trans nw.fr,rfl⟩
end Go.Proofs.YtcdbmkidaecdiaaGreat
namespace Go.Proofs.YtcdbmkidaecdiaaGreat
open Go Go.Ay Go.Sort
section
variable {h:H} {S N i j a:Nat} {d:Array Int} {lt:Int->Int->Bool}
structure iY (h:H)(S N:Nat)(d:Array Int):Prop where
 get:h.get S=bG (ints d.toList)
 size:d.size=N
 lt:S<h.next
theorem iY.rd (A:iY h S N d)(hi:i<N):h.cell S i=some (aC d[i]!):=by
 have b:i<d.size:=by rw[A.size];exact hi
 rw[H.cell_of A.get];simp [ints,b]
theorem iY.fr {h':H}(A:iY h S N d)(f:Fr h h'):iY h' S N d:=⟨by rw[f.get _ A.lt];exact A.get,A.size,kQ A.lt f.next⟩
theorem fK (hi:i<d.size)(hh:H)(S:Nat)(x:Int):eH (bG (ints d.toList)) hh S i [aC x]=some (hh.set S (bG (ints (d.setIfInBounds i x).toList))):=by
 rw[Ml (by simpa using hi),Array.toList_setIfInBounds]
theorem eX {y:Int}(hi:i<d.size)(hh:H)(S:Nat)(x:Int):eH (bG (ints (d.setIfInBounds j y).toList)) hh S i [aC x]=some (hh.set S (bG (ints ((d.setIfInBounds j y).setIfInBounds i x).toList))):=
 fK (by simpa using hi) hh S x
theorem iY.swap {h2:H}(A:iY h S N d){nx:Nat}(b:h.next<=nx)(e:h2=((H.mk h.tr nx).set S (bG (ints (d.setIfInBounds i d[j]!).toList))).set S (bG (ints ((d.setIfInBounds i d[j]!).setIfInBounds j d[i]!).toList))):iY h2 S N (swp d i j)/\Fx (· =S) h h2:=by
 subst e;refine⟨⟨?_,?_,kQ A.lt b⟩,⟨b,λid _ c=>?_⟩⟩
 .rw[H.aW];rfl
 .have:=A.size;simp [swp,this]
 .rw[H.aF _ c,H.aF _ c];rfl
theorem yU (a:Int)(h:H):Ev T 198 [aC a] h (λv h'=>v= .bool false/\h'=h):=by
 refine kV ?_;have e:decide (a≠a)=false:=bT om;exact agW @aI e
theorem Vp (a b:Int)(h:H):Ev T 144 [aC a,aC b] h (λv h'=>v= .bool (ltInt a b)/\Fr h h'):=by
 refine nL ?_;refine (yU a h).mono ?_;rintro _ c ⟨rfl,rfl⟩;refine aM ?_;exact⟨rfl,Fr.refl _⟩
theorem oL {a b c:H}(x:Fx (· =S) a b)(y:Fx (· =S) b c):Fx (· =S) a c:=x.trans y λ_ _ h=>h
theorem BI (b:a<j+1)(h2:lt d[j+1]! d[j]! =true):insInner lt a (j+1) d=insInner lt a j (swp d (j+1) j):=by
 rw[insInner,bL (by simp [b,h2])]
theorem BB (h2:lt d[j+1]! d[j]! =false):insInner lt a (j+1) d=d:=by
 rw[insInner,bV (by simp [h2])]
theorem AR (h:j<=a):insInner lt a j d=d:=by
 cases j with
 |zero=>rfl
 |succ j=>rw[insInner,bV siO]
theorem Di (h:H)(S N a b:Nat)(d:Array Int)(w:uF)(hN:N<1000000)(A:iY h S N d)(U:b<=N)(J:a<=b):
  Ev T 234 [.sl S 0 N w,aC a,aC b] h (λ_ h'=>iY h' S N (insertionSort ltInt d a b)/\Fx (· =S) h h'):=by
 refine nL ?_
 rw[eJ a]
 refine aH (λq c r=> ∃(i:Nat) (e:Array Int),(∃g:Nat->V,c= [.sl S 0 N w,aC a,aC b,aC i,g 4,g 5,g 6])/\a<i/\i<=b+1/\iY r S N e/\insOuter ltInt a b i e=insertionSort ltInt d a b/\Fx (· =S) h r/\q=b+1-i) (b+1-(a+1))
  ⟨a+1,d,aB rfl,om,om,A,rfl,Fx.refl _ h,rfl⟩ ?_
 clear A
 rintro q c h1 ⟨i,e,⟨g,rfl⟩,B,K,A,l,F,rfl⟩
 refine aM ?_
 by_cases p:(i:Int)<(b:Int)
 case neg=>
  rw[bT p];refine aM ?_;rw[insOuter,bV om] at l;rw[<-l];exact⟨A,F⟩
 rw[cJ p]
 rw[insOuter,bL om] at l
 refine aM ?_
 refine aH (λq c r=> ∃(j:Nat) (f:Array Int),(∃g:Nat->V,c= [.sl S 0 N w,aC a,aC b,aC i,aC j,g 5,g 6])/\a<=j/\j<=i/\iY r S N f/\insInner ltInt a j f=insInner ltInt a i e/\Fx (· =S) h r/\q=j) i
  ⟨i,e,aB rfl,om,om,A,rfl,F,rfl⟩ ?_
 clear A F
 rintro q c n ⟨j,f,⟨Y,rfl⟩,G,R,A,o,F,Z⟩
 have sz:=A.size
 by_cases s:(a:Int)<(j:Int)
 .obtain⟨m,rfl⟩: ∃m,j=m+1:=⟨j- 1,om⟩
  have L:=A.rd (i:=m+1) om
  have O:=A.rd (i:=m) om
  have v:=cJ s
  have x:((m+1:Nat):Int)- 1=(m:Int):=om
  refine gX v x L O ?_
  refine (Vp _ _ _).mono ?_
  rintro _ y ⟨rfl,u⟩
  have k:Fr n y:=Fr.trans ((Fr.refl n).bU om) u
  have t:=A.fr k
  have P:=t.rd (i:=m+1) om
  have Q:=t.rd (i:=m) om
  cases hl:ltInt f[m+1]! f[m]! with
  |false=>
   rw[BB hl] at o;refine bE hl ?_;rw[eJ i];rw[<-o] at l;exact⟨b+1-(i+1),om,i+1,f,aB rfl,om,om,t,l,oL F (Fx.of k),rfl⟩
  |true=>
   rw[BI om hl] at o;refine uA hl x P Q @t.get @fK @eX ?_;have W:=t.swap (i:=m+1) (j:=m) (nx:=y.next+18) om rfl;exact⟨m,om,m,_,aB rfl,om,om,W.1,o,oL (oL F (Fx.of k)) W.2,rfl⟩
 .have v:=bT s
  rw[AR om] at o
  refine bE v ?_
  rw[eJ i]
  rw[<-o] at l
  have z:Fr n (H.mk n.tr (n.next+15)):=(Fr.refl n).bU om
  exact⟨b+1-(i+1),om,i+1,f,aB rfl,om,om,A.fr z,l,oL F (Fx.of z),rfl⟩
end
end Go.Proofs.YtcdbmkidaecdiaaGreat
namespace Go.Proofs.YtcdbmkidaecdiaaGreat
open Go Go.Ay Go.Sort
def XZ (op:BinOp)(k:IntKind)(x y:V):Option V:=match x,y with
 | .int j a,.int _ b=>if j=k then Bn op k a b else none
 |_,_=>none
theorem Ck (ρ:X->V)(h:H)(op:BinOp)(k:IntKind)(x y:X):fJ ρ h (.shf op k x y)=(XZ op k (ρ x) (ρ y)).map (·,h):=by
 simp only[fJ,XZ];cases ρ x<;>cases ρ y<;>try rfl
 simp only;split<;>rfl
theorem xG (op:BinOp)(k j:IntKind)(a b:Int):XZ op k (.int k a) (.int j b)=Bn op k a b:=by simp [XZ]
theorem wrap_u64 (n:Int):0<=IntKind.u64.wrap n/\IntKind.u64.wrap n<18446744073709551616:=by
 unfold IntKind.wrap;simp only[IntKind.bits,IntKind.signed];have:=Int.emod_nonneg n (show (18446744073709551616:Int)≠0 by omega);have:=Int.emod_lt_of_pos n (show (0:Int)<18446744073709551616 by omega);simp;omega
theorem jC {n:Int}(a:0<=n)(h2:n<18446744073709551616):IntKind.u64.wrap n=n:=by
 unfold IntKind.wrap;simp only[IntKind.bits,IntKind.signed];have:n%18446744073709551616=n:=Int.emod_eq_of_lt a h2;simp;exact this
theorem wC {n:Int}(a:0<=n)(h2:n<256):IntKind.u8.wrap n=n:=by
 unfold IntKind.wrap;simp only[IntKind.bits,IntKind.signed];have:n%256=n:=Int.emod_eq_of_lt a h2;simp;exact this
theorem FG (a b:Int)(c:0<=b): ∃y,Bn .shl .u64 a b=some (.int .u64 y)/\0<=y/\y<18446744073709551616:=by
 unfold Bn;rw[bV om];exact⟨_,rfl,wrap_u64 _⟩
theorem WZ (a b:Int)(c:0<=b): ∃y,Bn .shr .u64 a b=some (.int .u64 y):=by
 unfold Bn;rw[bV om];exact⟨_,rfl⟩
theorem FO {x:Nat}:Bn .shr .u64 (x:Int) 8=some (.int .u64 ((x/256:Nat):Int)):=by
 unfold Bn;rw[bV om];simp only;congr 2;show Int.fdiv (x:Int) 256=_;rw[Int.fdiv_eq_ediv_of_nonneg _ om];rfl
theorem Se (a b:Int): ∃y,arith .xor .u64 a b=some (.int .u64 y)/\0<=y/\y<18446744073709551616:=⟨_,rfl,wrap_u64 _⟩
theorem XC (a:Int)(b:Nat)(c:b<18446744073709551616): ∃y:Nat,arith .and .u64 a (b:Int)=some (.int .u64 (y:Int))/\y<=b:=by
 refine⟨(BitVec.ofInt 64 a&&&BitVec.ofInt 64 (b:Int)).toNat,?_,?_⟩
 .rw[IK]
  congr 2;show IntKind.u64.wrap (((BitVec.ofInt 64 a&&&BitVec.ofInt 64 (b:Int)).toNat:Nat):Int)=_;have:=(BitVec.ofInt 64 a&&&BitVec.ofInt 64 (b:Int)).isLt;generalize (BitVec.ofInt 64 a&&&BitVec.ofInt 64 (b:Int)).toNat=w at*;exact jC om om
 .rw[BitVec.toNat_and]
  have:(BitVec.ofInt 64 (b:Int)).toNat=b:=by
   simp [BitVec.toNat_ofInt];omega
  rw[this];exact Nat.and_le_right
theorem QM: ∀z,z<256->([0,1,2,2,3,3,3,3,4,4,4,4,4,4,4,4,5,5,5,5,5,5,5,5,5,5,5,5,5,5,5,5,6,6,6,6,6,6,6,6,6,6,6,6,6,6,6,6,6,6,6,6,6,6,6,6,6,6,6,6,6,6,6,6,7,7,7,7,7,7,7,7,7,7,7,7,7,7,7,7,7,7,7,7,7,7,7,7,7,7,7,7,7,7,7,7,7,7,7,7,7,7,7,7,7,7,7,7,7,7,7,7,7,7,7,7,7,7,7,7,7,7,7,7,7,7,7,7,8,8,8,8,8,8,8,8,8,8,8,8,8,8,8,8,8,8,8,8,8,8,8,8,8,8,8,8,8,8,8,8,8,8,8,8,8,8,8,8,8,8,8,8,8,8,8,8,8,8,8,8,8,8,8,8,8,8,8,8,8,8,8,8,8,8,8,8,8,8,8,8,8,8,8,8,8,8,8,8,8,8,8,8,8,8,8,8,8,8,8,8,8,8,8,8,8,8,8,8,8,8,8,8,8,8,8,8,8,8,8,8,8,8,8,8,8,8,8,8,8,8,8,8,8,8,8,8][z]? :Option Nat)=some (bitsLen z):=by decide+kernel
theorem CO {z:Nat}(b:z<256):UN (.str [0,1,2,2,3,3,3,3,4,4,4,4,4,4,4,4,5,5,5,5,5,5,5,5,5,5,5,5,5,5,5,5,6,6,6,6,6,6,6,6,6,6,6,6,6,6,6,6,6,6,6,6,6,6,6,6,6,6,6,6,6,6,6,6,7,7,7,7,7,7,7,7,7,7,7,7,7,7,7,7,7,7,7,7,7,7,7,7,7,7,7,7,7,7,7,7,7,7,7,7,7,7,7,7,7,7,7,7,7,7,7,7,7,7,7,7,7,7,7,7,7,7,7,7,7,7,7,7,8,8,8,8,8,8,8,8,8,8,8,8,8,8,8,8,8,8,8,8,8,8,8,8,8,8,8,8,8,8,8,8,8,8,8,8,8,8,8,8,8,8,8,8,8,8,8,8,8,8,8,8,8,8,8,8,8,8,8,8,8,8,8,8,8,8,8,8,8,8,8,8,8,8,8,8,8,8,8,8,8,8,8,8,8,8,8,8,8,8,8,8,8,8,8,8,8,8,8,8,8,8,8,8,8,8,8,8,8,8,8,8,8,8,8,8,8,8,8,8,8,8,8,8,8,8,8,8]) (.int .u8 (z:Int))=some (.int .u8 ((bitsLen z:Nat):Int)):=by
 have c:bitsLen z<=8:=(bitsLen_le_iff z 8).2 om;have a:=QM z b;generalize ([0,1,2,2,3,3,3,3,4,4,4,4,4,4,4,4,5,5,5,5,5,5,5,5,5,5,5,5,5,5,5,5,6,6,6,6,6,6,6,6,6,6,6,6,6,6,6,6,6,6,6,6,6,6,6,6,6,6,6,6,6,6,6,6,7,7,7,7,7,7,7,7,7,7,7,7,7,7,7,7,7,7,7,7,7,7,7,7,7,7,7,7,7,7,7,7,7,7,7,7,7,7,7,7,7,7,7,7,7,7,7,7,7,7,7,7,7,7,7,7,7,7,7,7,7,7,7,7,8,8,8,8,8,8,8,8,8,8,8,8,8,8,8,8,8,8,8,8,8,8,8,8,8,8,8,8,8,8,8,8,8,8,8,8,8,8,8,8,8,8,8,8,8,8,8,8,8,8,8,8,8,8,8,8,8,8,8,8,8,8,8,8,8,8,8,8,8,8,8,8,8,8,8,8,8,8,8,8,8,8,8,8,8,8,8,8,8,8,8,8,8,8,8,8,8,8,8,8,8,8,8,8,8,8,8,8,8,8,8,8,8,8,8,8,8,8,8,8,8,8,8,8,8,8,8,8]:List Nat)=l at*;unfold UN;simp only;rw[bL om,IF,a];simp only[Option.map_some];rw[Nat.mod_eq_of_lt om]
theorem PR {x:Nat}(h:256<=x):bitsLen x=8+bitsLen (x/256):=by
 apply Nat.le_antisymm
 .rw[bitsLen_le_iff,Nat.pow_add]
  have:=lt_two_pow_bitsLen (x/256);omega
 .have a:=lt_two_pow_bitsLen x
  have d: ¬bitsLen x<=8:=λc=>by rw[bitsLen_le_iff] at c;omega
  obtain⟨k,b⟩: ∃k,bitsLen x=8+k:=⟨bitsLen x- 8,om⟩
  rw[b,Nat.pow_add] at a;have:bitsLen (x/256)<=k:=(bitsLen_le_iff _ _).2 om;omega
theorem OG (x:Nat)(h:H)(j:x<65536):Ev T 177 [.int .u64 (x:Int)] h (λv h'=>v= aC (bitsLen x:Nat)/\h'=h):=by
 refine kV ?_;have b:decide ((4294967296:Int)<=(x:Int))=false:=bT om;have c:decide ((65536:Int)<=(x:Int))=false:=bT om
 by_cases d:256<=x
 .have a:decide ((256:Int)<=(x:Int))=true:=cJ om
  have i:=PR d;have f:bitsLen (x/256)<=8:=(bitsLen_le_iff _ 8).2 om;simp(disch:=omega)only[go_sem,aI,b,c,a,Ck,xG,FO,DU,CO,wC];exact⟨by congr 1;omega,trivial⟩
 .have a:decide ((256:Int)<=(x:Int))=false:=bT om
  have f:bitsLen x<=8:=(bitsLen_le_iff _ 8).2 om;refine uA @aI b c a @DU @CO @wC ?_;exact⟨by congr 1;omega,trivial⟩
theorem NX (x:Nat)(h:H)(a:x<65536):Ev T 128 [.int .u64 (x:Int)] h (λv h'=>v= aC (bitsLen x:Nat)/\h'=h):=by
 refine nL ?_;refine (OG x h a).mono ?_;rintro _ _ ⟨rfl,rfl⟩;exact aiJ
theorem VN (n:Nat)(h:H)(f:n<65536):Ev T 212 [aC n] h (λv h'=>v= .int .u64 ((2^bitsLen n:Nat):Int)/\h'=h):=by
 refine kV ?_;have c:bitsLen n<=16:=(bitsLen_le_iff _ 16).2 om;have b:2^bitsLen n<=2^16:=Nat.pow_le_pow_right om c;obtain⟨m,a⟩:=exI (2^bitsLen n);rw[a] at b |-
 have d:Bn .shl .u64 1 ((bitsLen n:Nat):Int)=some (.int .u64 (m:Int)):=by
  unfold Bn;rw[bV om];simp only[IF,IntKind.bits];rw[Nat.min_eq_left om];have e:(1:Int)*2^bitsLen n=(m:Int):=by rw[Int.one_mul,<-a];push_cast;rfl
  rw[e,jC om om]
 simp(disch:=omega)only[go_sem,aI,jC (n:=(n:Int)) om om];refine (NX n h f).mono ?_;rintro _ _ ⟨rfl,rfl⟩;exact ahS @Ck @xG d
theorem abF (R:Nat)(x:Int)(h:H)(m:h.get R=some (.cells false [.int .u64 x]))(z:R<h.next):
  Ev T 213 [.ptr R 0] h (λv h'=> ∃y,v= .int .u64 y/\h'.get R=some (.cells false [.int .u64 y])/\Fx (· =R) h h'):=by
 refine kV ?_
 have s:h.cell R 0=some (.int .u64 x):=by rw[H.cell_of m];rfl
 obtain⟨q,b,_⟩:=FG x 13 om
 obtain⟨n,k,_⟩:=Se x q
 obtain⟨r,j⟩:=WZ n 7 om
 obtain⟨l,d,_⟩:=Se n r
 obtain⟨t,f,_⟩:=FG l 17 om
 obtain⟨o,c,_⟩:=Se l t
 have p:(u w:Int)->(a:H)->eH (some (.cells false [.int .u64 u])) a R 0 [.int .u64 w]=some (a.set R (some (.cells false [.int .u64 w]))):=λu w a=>cF siM a R _
 simp(disch:=omega)only[go_sem,aI,s,Ck,xG,b,k,j,d,f,c,m,p]
 exact⟨o,rfl,rfl,⟨by simp only[H.dE];omega,λid _ i=>by
  rw[H.aF _ i,H.uQ,H.aF _ i,H.uQ,H.aF _ i,H.uQ]⟩⟩
end Go.Proofs.YtcdbmkidaecdiaaGreat
namespace Go.Proofs.YtcdbmkidaecdiaaGreat
open Go Go.Ay Go.Sort
theorem abO:T 143=some ⟨0, [], [],.fail,true⟩:=rfl
theorem Ib (h:H)(S:Nat)(l:List Int)(p:uF)(s:l.length<60000)(i:h.get S=bG (ints l))(q:S<h.next):
  Ev T 143 [.sl S 0 l.length p] h (λ_ h'=> ∃l',h'.get S=bG (ints l')/\l'.Perm l/\l'.Pairwise (· <= ·)/\Fx (· =S) h h'):=by
 have j: ∀l:List Int,(ints l).map unI=l:=λl=>by
  rw[ints,List.map_map];exact List.map_id l
 have n:(ints l).all isI=true:=by
  rw[ints,List.all_map];exact vE.2 λ_ _=>rfl
 by_cases d:l.length=0
 .refine⟨1,.tup [],h,λm o=>?_,l,i,List.Perm.refl l,by rw[Yl d];exact .nil,Fx.of (Fr.refl h)⟩
  obtain⟨k,rfl⟩: ∃k,m=k+1:=⟨m- 1,om⟩
  simp only[mV,My,abO,if_true,Np,d]
 .refine⟨1,.tup [],_,λm o=>?_,l.mergeSort λx y=>decide (x<=y),H.aW ..,List.mergeSort_perm ..,?_,⟨Nat.le_of_eq (H.dE ..).symm,λid _ f=>H.aF _ f _⟩⟩
  .obtain⟨k,rfl⟩: ∃k,m=k+1:=⟨m- 1,om⟩
   simp only[mV,My,abO,if_true,Np,bV d,i]
   rw[bL ⟨aN l,n,om⟩,j]
   rfl
  .have:=List.pairwise_mergeSort (le:=λx y:Int=>decide (x<=y)) (λa b c r f=>by simp at*;omega) (λa b=>by simp;omega) l
   exact this.imp λh=>of_decide_eq_true h
theorem Tu {a b:List Int}(h:a.Perm b)(f:a.Pairwise (· <= ·))(d:b.Pairwise (· <= ·)):a=b:=
 h.eq_of_pairwise (λ_ _ _ _ c i=>Int.le_antisymm c i) f d
end Go.Proofs.YtcdbmkidaecdiaaGreat
namespace Go.Proofs.YtcdbmkidaecdiaaGreat
open Go Go.Ay Go.Pm
theorem BR (id b:Nat)(d:V)(l:List Int)(h:H)(G:l.length<1000000)(J:Nat->H->Prop)(D:H->Prop)(n:J 0 h)
  (o: ∀i hh,J i hh->hh.get b=bG [d]/\SI hh d l)
  (s: ∀i hh,i<l.length->J i hh->Ey T id [aC (l.getD i 0)] hh (λv h'=>v= .bool true/\J (i+1) h'\/v= .bool false/\D h')):
  Ev T 232 [.yl id,.ptr b 0] h (λ_ h'=>J l.length h'\/D h'):=by
 obtain⟨w,y⟩:=o 0 h n
 have q:h.cell b 0=some d:=by rw[H.cell_of w];rfl
 have x:=y.lens
 refine Px q x ?_
 refine aH (λp a hh=> ∃(i:Nat),(∃g:Nat->V,a= [.yl id,.ptr b 0,g 2,d,aC (l.length:Int),aC i,g 6,g 7])/\i<=l.length/\J i hh/\p=l.length-i) l.length
  ⟨0,aB rfl,fE _,n,rfl⟩ ?_
 rintro p a m ⟨i,⟨g,rfl⟩,hi,f,rfl⟩
 by_cases c:(i:Int)<(l.length:Int)
 .have j:=cJ c
  obtain⟨K,u⟩:=o i m f
  obtain⟨B,r,t,z,A⟩:=u.open
  have ci:=A i om
  refine dQ j @t.ixa ci ?_
  refine (s i m om f).mono ?_
  rintro v F (⟨rfl,k⟩|⟨rfl,k⟩)
  .refine aM ?_
   rw[eJ i]
   exact⟨l.length-(i+1),om,i+1,aB rfl,om,k,rfl⟩
  .refine aM ?_
   exact .inr k
 have j:=bT c
 obtain rfl:i=l.length:=om
 refine bE j ?_
 exact .inl f
theorem Zh (b:Nat)(N:V)(l:List Int)(h:H)(hn:l.length<100000)(hb:h.get b=bG [N])(Z:b<h.next)(P:SI h N l):
  Ev T 231 [.fn 232 [] [.ptr b 0]] h (λv h'=>cW h' v 1 (ints l) h.next/\(v= .aD\/ ∃id cap,v= .sl id 0 l.length cap/\h.next<=id/\id<h'.next/\h'.get id=bG (ints l))/\Fr h h'):=by
 refine nL ?_
 refine Ev.mono (Q:=λv h'=>cW h' v 1 (ints l) h.next/\(v= .aD\/ ∃id cap,v= .sl id 0 l.length cap/\h.next<=id/\id<h'.next/\h'.get id=bG (ints l))/\Fr h h') ?_ (λv h' P=>by simp(disch:=omega)only[go_sem];exact P)
 refine yF (mH (x:= .aD) rfl rfl) ?_
 obtain⟨B,hB⟩:=exI h.next
 obtain⟨w,q⟩: ∃w,w=h.new (.cells false [.aD]):=⟨_,rfl⟩
 have g1:w.get B=bG [.aD]:=by rw[q,<-hB,H.aQ]
 have n1:w.next=B+1:=by rw[q,H.aZ,hB]
 have f1:Fr h w:=by rw[q];exact (Fr.refl h).new _
 rw[<-q,hB]
 refine⟨rfl,?_⟩
 refine tG λr s=>?_
 refine (BR (B+1) b N l _ om (λi d=>d.get (B+1)=some (.loop r)/\B+1<d.next/\Fr h d/\ ∃o,d.get B=bG [o]/\cW d o 1 (ints (l.take i)) (B+2)/\(o= .aD\/ ∃id cap,o= .sl id 0 i cap/\B+2<=id/\id<d.next/\d.get id=bG (ints (l.take i)))) (λ_=>False) ?_ ?_ ?_).mono ?_
 .have e:=H.aQ w (.loop r)
  rw[n1] at e
  refine⟨e,by rw[H.aZ];omega,f1.new _,.aD,by rw[H.bN w om];exact g1,cW.aD _ _ _,.inl rfl⟩
 .rintro i d ⟨_,_,f,_⟩
  exact⟨by rw[f.get b Z];exact hb,P.mono f⟩
 .rintro i d hi ⟨O,nr,f,o,J,G,W⟩
  have jE:r.st= .ready:=by rw[s]
  have Y:r.pend=none:=by rw[s]
  refine sW O (by rw[s];rfl) jE λt g2 n2 o2=>?_
  rw[congrArg fR.assign s,congrArg fR.vars s,congrArg fR.pars s]
  simp(disch:=omega)only[go_sem,List.zip_cons_cons,List.zip_nil_left]
  rw[congrArg fR.body s]
  have U:t.cell B 0=some o:=by unfold H.cell;rw[o2 B om,J];rfl
  refine dQ U (cQ t (z:= aC 0) (v:= aC (l.getD i 0)) rfl rfl) n2 ?_
  obtain⟨a,p⟩: ∃a,a=t.new (.cells false [aC (l.getD i 0)]):=⟨_,rfl⟩
  have g3:a.get d.next=bG [aC (l.getD i 0)]:=by rw[p,<-n2,H.aQ]
  have n3:a.next=d.next+1:=by rw[p,H.aZ,n2]
  have L: ∀k,k<d.next->k≠B+1->a.get k=d.get k:=λk j y=>by rw[p,H.bN t om,o2 k y]
  have r3:a.get (B+1)=some (.loop (pL r)):=by rw[p,H.bN t om,g2]
  rw[<-p]
  have K:cW a o 1 (ints (l.take i)) (B+2):=G.mono om λid F n c e j y=>L id y om
  have R:(l.take i).length=i:=by rw[wH];omega
  obtain⟨j,a4,A⟩:=K.push (bytes:=8) (SV.one om g3 (.kn 1)) (n:=i) (m:=1) (by rw[aN,R,qZ]) rfl om om om
  have ap: ∀k,k<B+2->dS o k:=λk hk id F n c e e2=>by
   have:=(G.in _ _ _ _ e).2.1;omega
  have g4:j.get B=bG [o]:=by rw[A.old B om (ap B om),L B om om];exact J
  have r4:j.get (B+1)=some (.loop (pL r)):=by rw[A.old (B+1) om (ap (B+1) om)];exact r3
  have pt:eH (bG [o]) j B 0 [.sl a.next 0 (i+1) (.un 1)]=some (j.set B (bG [.sl a.next 0 (i+1) (.un 1)])):=cF siM j B _
  refine dQ a4 g4 pt ?_
  refine pD jE Y (by rw[H.aF j om];exact r4) (.inl ⟨rfl,?_⟩)
  have et:ints (l.take (i+1))=ints (l.take i)++ [aC (l.getD i 0)]:=by
   rw[<-List.take_append_getElem hi,oH];simp [ints,List.getD,hi]
  have n4:=A.next
  have g5:((j.set B (bG [.sl a.next 0 (i+1) (.un 1)])).set (B+1) (some (.loop r))).get a.next=bG (ints (l.take (i+1))):=by
   rw[H.aF _ om,H.aF _ om,A.get,et]
  refine⟨by rw[H.aW],by simp only[H.dE];omega,⟨by simp only[H.dE];have:=f.next;omega,λid u=>?_⟩,_,by rw[H.aF _ om,H.aW],?_,.inr ⟨a.next,_,rfl,om,by simp only[H.dE];omega,g5⟩⟩
  .rw[H.aF _ om,H.aF _ om,A.old id (by have:=f.next;omega) (ap id om),L id (by have:=f.next;omega) om]
   exact f.get id u
  .exact .inr ⟨a.next,i+1,_, [],rfl,by rw[aN,wH];omega,.inl rfl,om,by simp only[H.dE];omega,by rw[qV];exact g5⟩
 .rintro _ t (⟨O,nr,f,o,J,G,W⟩|h)
  case inr=>exact h.elim
  refine⟨r,O,by rw[s];simp,?_⟩
  have U:(t.set (B+1) (some (.loop {r with st:= .out}))).cell B 0=some o:=by unfold H.cell;rw[H.aF _ om,J];rfl
  have en:r.pend.getD .norm= .norm:=by rw[s];rfl
  rw[en]
  refine bE U ?_
  rw[List.take_length] at G W
  refine⟨?_,?_,⟨by simp only[H.dE];have:=f.next;omega,λid u=>by rw[H.aF _ om];exact f.get id u⟩⟩
  .refine (G.mono (by simp only[H.dE];omega) λid F n c e j y=>H.aF _ om _).le om
  .rcases W with rfl|⟨id,cap,rfl,a,j,y⟩
   .exact .inl rfl
   .exact .inr ⟨id,cap,rfl,om,j,by rw[H.aF _ om];exact y⟩
theorem HX (b:Nat)(c:V)(l:List Int)(h:H)(x:0<l.length)(y:l.length<50000)(o:h.get b=bG [c])(f:b<h.next)(s:SI h c l):
  Ev T 194 [.fn 232 [] [.ptr b 0]] h (λv h'=> ∃id cap l',v= .sl id 0 l.length cap/\h.next<=id/\id<h'.next/\h'.get id=bG (ints l')/\l'.Perm l/\l'.Pairwise (· <= ·)/\Fr h h'):=by
 refine nL ?_
 refine (Zh b c l h om o f s).mono ?_
 rintro v u ⟨p,q,d⟩
 rcases q with rfl|⟨id,cap,rfl,n,i,t⟩
 .exfalso
  rcases p with ⟨_,e⟩|⟨_,_,_,_,e,_⟩
  .have:=congrArg List.length e
   rw[aN,List.length_nil] at this
   omega
  .cases e
 refine aM ?_
 refine (Ib u id l cap om t i).mono ?_
 rintro _ z ⟨l',r,m,w,a⟩
 refine aM ?_
 exact⟨id,cap,l',rfl,n,kQ i a.next,r,m,w,kP d.next a.next,λk j=>(a.get k (kQ j d.next) (λe=>by have:k=id:=e;omega)).trans (d.get k j)⟩
end Go.Proofs.YtcdbmkidaecdiaaGreat
namespace Go.Proofs.YtcdbmkidaecdiaaGreat
open Go Go.Ay Go.Pm
section
variable {v vO vR:V} {b C D n:Nat} {r O:LN} {wsO wsR:List V}
structure wQ (h h':H)(v:V)(l:List Int):Prop where
 ex: ∃id cap,v= .sl id 0 l.length cap/\h.next<=id/\id<h'.next/\h'.get id=bG (ints l)/\(cap= .un 1\/cap= .kn l.length)
 fr:Fr h h'
theorem wQ.pv {h h':H}{l:List Nat}(f:wQ h h' v (zi l)){W:Nat->Prop}(a: ∀id,W id->id<h.next):PV W h' v l:=by
 obtain⟨id,d,rfl,k,c,i,_⟩:=f.ex;exact⟨SV.all (by rw[aN,qZ]) c i _,λj=>by have:=a id j;omega⟩
theorem wQ.si {h h':H}{l:List Int}(f:wQ h h' v l):SI h' v l:=by
 obtain⟨id,a,rfl,i,d,c,_⟩:=f.ex;exact SV.all (by rw[aN,qZ]) d c _
theorem wQ.own {h h':H}{l:List Int}(f:wQ h h' v l):cW h' v 1 (ints l) h.next:=by
 obtain⟨id,a,rfl,i,c,j,d⟩:=f.ex;exact .inr ⟨id,l.length,a, [],rfl,by rw[aN,qZ],by rcases d with e|e;exact .inl e;exact .inr ⟨e,rfl⟩,i,c,by rw[qV];exact j⟩
theorem Ky (u:V)(l:List Int)(h:H)(s:0<l.length)(B:l.length<1000000)(i:SI h u l):
  Ev T 138 [u] h (λv h'=>wQ h h' v l):=by
 have q:uJ false u=some (.bool false):=by
  rcases i with ⟨_,e⟩|⟨id,a,len,w,A,F,rfl,_⟩
  .have:=congrArg List.length e
   rw[aN,List.length_nil] at this;omega
  .rfl
 refine yF q ?_
 have k:Fr h (h.new (.cells false [])):=(Fr.refl h).new _
 have y:cW (h.new (.cells false [])) (.sl h.next 0 0 (.kn 0)) 1 [] 0:=cW.new h 1 0 0 [] rfl (fE _)
 obtain⟨z,o,d⟩:=y.push (bytes:=8) (i.mono k) (n:=0) (m:=l.length) rfl (by rw[aN,qZ]) om s om
 have p:(h.new (.cells false [])).next=h.next+1:=H.aZ ..
 rw[p] at o
 have x:=d.next
 have j:=d.get
 rw[p] at x j
 refine bE o ?_
 refine⟨⟨h.next+1,_,rfl,om,om,j,.inl rfl⟩,om,λid f=>?_⟩
 rw[d.old id om (λt a n c e G=>by cases e;omega)]
 exact k.get id f
def Wg (v:V):Prop:= ∀id off len cap,v= .sl id off len cap->cap= .un 1\/ ∃c,cap= .kn c/\len<=c
theorem cW.NK {h:H}{ws:List V}(o:cW h v 1 ws b):Wg v:=by
 rintro id a len d rfl;rcases o with ⟨e,_⟩|⟨_,_,_,_,e,_,c,_⟩
 .cases e
 .cases e
  rcases c with e|⟨e,_⟩
  .exact .inl e
  .exact .inr ⟨_,e,eU _⟩
def SRR (h:H)(v:V)(R:List (List (List Int))):Prop:= ∃ws,SV h v 1 ws/\aJ (SR h) ws R/\ ∀w∈ws,Wg w
theorem SRR.mono {h h':H}{R:List (List (List Int))}(s:SRR h v R)(f:Fr h h'):SRR h' v R:=by
 have⟨c,s,a,k⟩:=s;exact⟨c,s.mono f,a.mono λ_ _ x=>x.mono f,k⟩
def Hd (h:H)(v:V)(d:Int)(O:List (List Int))(R:List (List (List Int))):Prop:= ∃vO vR,v= .agg [aC d,vO,vR]/\SR h vO O/\SRR h vR R
theorem Hd.mono {h h':H}{d:Int}{O:List (List Int)}{R:List (List (List Int))}(s:Hd h v d O R)(f:Fr h h'):Hd h' v d O R:=by
 have⟨vO,vR,e,a,c⟩:=s;exact⟨vO,vR,e,a.mono f,c.mono f⟩
def PL (W:Nat->Prop)(h:H)(v:V)(r:LN):Prop:= ∃ws,SV h v 1 ws/\Gz W v/\fG W h ws r/\Wg v
section
variable {W W':Nat->Prop} {h h' hh:H}
theorem PL.go (p:PL W h v r)(f:Fx W h h')(c: ∀id,id<h.next->W' id->W id):PL W' h' v r:=by
 have⟨d,s,o,a,k⟩:=p;exact⟨d,s.fx o f,o.jK s c,fG.go a f c,k⟩
theorem PL.sp (p:PL W h v r):SP h v r:=by
 have⟨d,s,o,a,_⟩:=p;refine⟨d,s,?_⟩;have c:=aJ.length a
 exact aJ.jM (by simpa using c) λi hi f=>by
  have:=(aJ.get a i hi om).si;simpa using this
def Dp (W:Nat->Prop)(v:V):Prop:= ∀id off n c,v= .sl id off n c->W id
structure xZ (h hh:H)(C D:Nat)(W:Nat->Prop)(n:Nat)(O:LN)(R:iA)(vO vR:V)(wsO wsR:List V):Prop where
 get:hh.get C=bG [aC n,vO,vR]
 oO:cW hh vO 1 wsO h.next
 oR:cW hh vR 1 wsR h.next
 aO:fG W hh wsO O
 aR:aJ (PL W hh) wsR R
 bO:Dp W vO
 bR:Dp W vR
 pO:dS vO C
 pR:dS vR C
 qO:dS vO D
 qR:dS vR D
 d:W D
 cd:C≠D
 HG:Dis vO vR
 wb: ∀id,W id->id<hh.next
 low: ∀id,id<h.next->W id
 hC:h.next<=C
 hD:h.next<=D
 c:W C
 fr:Fr h hh
theorem xZ.start (i:h.next<=C)(a:C<hh.next)(k:h.next<=D)(c:D<hh.next)(d:C≠D)(f:Fr h hh)(j:hh.get C=bG [aC n,.aD,.aD]):xZ h hh C D (λid=>id=C\/id=D\/id<h.next) n [] [] .aD .aD [] []:=
 ⟨j,cW.aD _ _ _,cW.aD _ _ _,trivial,trivial,λ_ _ _ _ e=>(by cases e),λ_ _ _ _ e=>(by cases e),dS.aD _,dS.aD _,dS.aD _,dS.aD _,.inr (.inl rfl),d,λ_ _ _ _ e=>(by cases e),λid e=>by rcases e with rfl|rfl|e;exact a;exact c;exact kQ e f.next,λid e=> .inr (.inr e),i,k,.inl rfl,f⟩
theorem xZ.mono {R:iA}(A:xZ h hh C D W n O R vO vR wsO wsR){h2:H}(f:Fr hh h2):xZ h h2 C D W n O R vO vR wsO wsR:=
 ⟨by rw[f.get C (A.wb C A.c)];exact A.get,A.oO.fr f,A.oR.fr f,fG.go A.aO (Fx.of f) (λ_ _ h=>h),A.aR.mono λ_ _ x=>x.go (Fx.of f) (λ_ _ h=>h),A.bO,A.bR,A.pO,A.pR,A.qO,A.qR,A.d,A.cd,A.HG,λid h=>kQ (A.wb id h) f.next,A.low,A.hC,A.hD,A.c,A.fr.trans f⟩
theorem xZ.step {R:iA}(A:xZ h hh C D W n O R vO vR wsO wsR){v4 v5:V}{o:List Nat}(K:PV W hh v4 o)(L:PL W hh v5 r)
  {h6:H} {a k1 k2:Nat} (ha:hh.next<=a) (Z:hh.next<=b) (u:a≠b) (w:a<h6.next) (y:b<h6.next) (P:wsO.length+1=k1) (J:wsR.length+1=k2)
  (G:h6.get C=bG [aC n,.sl a 0 k1 (.un 1),.sl b 0 k2 (.un 1)]) (B:h6.get a=bG (wsO++ [v4])) (F:h6.get b=bG (wsR++ [v5]))
  (p: ∀k,k<hh.next->k≠C->dS vO k->dS vR k->h6.get k=hh.get k):
  xZ h h6 C D (λid=>W id\/id=a\/id=b) n (O++ [o]) (R++ [r]) (.sl a 0 k1 (.un 1)) (.sl b 0 k2 (.un 1)) (wsO++ [v4]) (wsR++ [v5]):=by
 have t:Fx W hh h6:=⟨om,λid j l=>p id j (λe=>l (e▸A.c)) (λm f n c e q=>l (q▸A.bO _ _ _ _ e)) (λm f n c e q=>l (q▸A.bR _ _ _ _ e))⟩
 have s: ∀id,id<hh.next->(W id\/id=a\/id=b)->W id:=λid j l=>by
  rcases l with l|l|l
  .exact l
  .omega
  .omega
 have cn:=A.wb C A.c
 have dn:=A.wb D A.d
 have fn:=A.fr.next
 refine⟨G,.inr ⟨a,k1,_, [],rfl,by rw[iB];simp;omega,.inl rfl,om,w,by rw[qV];exact B⟩,.inr ⟨b,k2,_, [],rfl,by rw[iB];simp;omega,.inl rfl,om,y,by rw[qV];exact F⟩,
  (fG.go A.aO t s).append (fG.one (PV.go K t s)),(A.aR.mono λ_ _ x=>x.go t s).append ⟨L.go t s,trivial⟩,λid f n c e=>by cases e;exact .inr (.inl rfl),λid f n c e=>by cases e;exact .inr (.inr rfl),
  dS.sl om,dS.sl om,dS.sl om,dS.sl om,.inl A.d,A.cd,λi o n c e i' o' Q Y N=>by cases e;cases N;exact u,λid j=>?_,λid j=> .inl (A.low id j),A.hC,A.hD,.inl A.c,⟨om,λid z=>?_⟩⟩
 .rcases j with j|j|j
  .have:=A.wb id j;omega
  .omega
  .omega
 .have U:=A.hC
  rw[p id om om (λm f n c e q=>by have:=(A.oO.in _ _ _ _ e).2.1;omega) (λm f n c e q=>by have:=(A.oR.in _ _ _ _ e).2.1;omega)]
  exact A.fr.get id z
theorem xZ.box {R:iA}(A:xZ h hh C D W n O R vO vR wsO wsR){h3:H}{o:Option Ob}(e:h3=hh.set D o):xZ h h3 C D W n O R vO vR wsO wsR:=by
 subst e;have f:Fx W hh (hh.set D o):=Fx.set hh A.d o;have j:=A.wb D A.d
 refine⟨by rw[H.aF hh A.cd];exact A.get,A.oO.mono (eU _) λid a m c e _ _=>H.aF hh (λi=>A.qO _ _ _ _ e i.symm) o,A.oR.mono (eU _) λid a m c e _ _=>H.aF hh (λi=>A.qR _ _ _ _ e i.symm) o,
  fG.go A.aO f (λ_ _ h=>h),A.aR.mono λ_ _ x=>x.go f (λ_ _ h=>h),A.bO,A.bR,A.pO,A.pR,A.qO,A.qR,A.d,A.cd,A.HG,A.wb,A.low,A.hC,A.hD,A.c,?_⟩
 exact A.fr.set A.hD o
end
def KU (W:Nat->Prop)(h:H)(v:V)(n:Nat)(O:LN)(R:iA):Prop:= ∃vO vR wsO wsR,v= .agg [aC n,vO,vR]/\SV h vO 1 wsO/\Gz W vO/\fG W h wsO O/\SV h vR 1 wsR/\Gz W vR/\aJ (PL W h) wsR R
section
variable {W W':Nat->Prop} {h h' hh:H}
theorem KU.go {R:iA}(c:KU W h v n O R)(f:Fx W h h')(a: ∀id,id<h.next->W' id->W id):KU W' h' v n O R:=by
 have⟨vO,vR,wsO,wsR,e,j,k,l,d,i,m⟩:=c;exact⟨vO,vR,wsO,wsR,e,j.fx k f,k.jK j a,fG.go l f a,d.fx i f,i.jK d a,m.mono λ_ _ x=>x.go f a⟩
theorem KU.mono {R:iA}(c:KU W h v n O R)(f:Fr h h'):KU W h' v n O R:=c.go (Fx.of f) λ_ _ h=>h
theorem KU.ch {R:iA}(c:KU W h v n O R):Hd h v (n:Int) (O.map zi) (R.map (List.map zi)):=by
 have⟨vO,vR,wsO,wsR,e,l,q,f,m,p,d⟩:=c;refine⟨vO,vR,e,⟨wsO,l,?_⟩,⟨wsR,m,?_,λw j=>?_⟩⟩
 .have a:=aJ.length f
  exact aJ.jM (by simpa using a) λi hi o=>by
   have:=(aJ.get f i hi om).si;simpa using this
 .have a:=aJ.length d
  exact aJ.jM (by simpa using a) λi hi o=>by
   have:=(aJ.get d i hi om).sp;simpa using this
 .obtain⟨i,hi,rfl⟩:=rV.1 j
  have a:=aJ.length d;obtain⟨_,_,_,_,k⟩:=aJ.get d i hi om;exact k
theorem Yn {sz:Nat}{ws:List V}(o:cW h v sz ws b):Gz (λid=>id<b) v:=by
 cases v with
 |sl id off m c=>exact λe=>by have:=(o.in _ _ _ _ rfl).2.1;omega
 |_=>trivial
theorem xZ.chw {R:iA}(A:xZ h hh C D W n O R vO vR wsO wsR):KU (λid=>id<h.next) hh (.agg [aC n,vO,vR]) n O R:=
 ⟨vO,vR,wsO,wsR,rfl,A.oO.sv,Yn A.oO,fG.jK A.aO λid _ h=>A.low id h,A.oR.sv,Yn A.oR,A.aR.mono λ_ _ x=>x.go (Fx.refl _ _) λid _ h=>A.low id h⟩
end
theorem EB {h:H}{O:List (List Int)}(s:SR h v O):v.one=true:=by
 have⟨_,t,_⟩:=s;exact t.cM.2.1
theorem Yb {h:H}{O:List (List (List Int))}(s:SRR h v O):v.one=true:=by
 have⟨_,t,_⟩:=s;exact t.cM.2.1
end
end Go.Proofs.YtcdbmkidaecdiaaGreat
namespace Go.Proofs.YtcdbmkidaecdiaaGreat
open Go Go.Ay Go.Pm
def ChL (a:pP)(n j:Nat)(o:List Nat)(r:LN):Prop:=o.Pairwise (· < ·)/\(∀p,p∈o↔p∈(a j).orb)/\r.length=o.length/\ ∀k,k<o.length-> ∀y,(a j).to (o.getD k 0)=some y->r.getD k []=Bq a (n-(j+1)) (j+1) y
theorem YB {l:List Int}{a:List Nat}(h:l.Perm (zi a)): ∃q,l=zi q/\q.Perm a:=by
 refine⟨l.map Int.toNat,?_,?_⟩
 .unfold zi
  rw[List.map_map];refine (List.map_id l).symm.trans (Sk λx b=>?_);have:=h.mem_iff.1 b;obtain⟨k,_,rfl⟩:=qU.1 this;simp
 .have:=h.map Int.toNat
  have e:(zi a).map Int.toNat=a:=by
   unfold zi;rw[List.map_map];exact (Sk λx _=>by simp).trans (List.map_id a)
  rwa [e] at this
theorem afB {q:List Nat}(h:(zi q).Pairwise (· <= ·))(nd:q.Nodup):q.Pairwise (· < ·):=by
 unfold zi at h;rw[List.pairwise_map] at h;rw[Xz] at nd;exact (h.and nd).imp λ⟨a,h2⟩=>om
theorem JP (u:V)(a:u.cells= [u])(b:u.one=true)(h:H):Ev T 195 [u] h (λv h'=>v= .fn 232 [] [.ptr h.next 0]/\h'.get h.next=bG [u]/\h'.next=h.next+1/\Fr h h'):=by
 refine yF (mH a b) ?_;exact (Fr.refl h).new _
theorem mU {α:Type}{a:List α}{x:α}{j:Nat}{d:α}(h:j<a.length):(a++ [x]).getD j d=a.getD j d:=by
 rw[List.getD,List.getD,wU h]
theorem kB {α:Type}{a:List α}{x d:α}:(a++ [x]).getD a.length d=x:=by
 rw[List.getD,zT (eU _),Nat.sub_self];rfl
theorem Mg (h:H)(n s L:Nat)(F:Nat->V)(τ:pP)(hn:n<=7)(R:rF h n s L F τ)(t:pH n 0 τ):
  Ev T 142 [.ptr s 0] h (λv h'=> ∃O R',KU (λid=>id<h.next) h' v n O R'/\bA n (S n τ 0) O R'/\Fr h h'):=by
 obtain⟨B,hB⟩:=exI h.next
 have tn:=R.tn
 have ln:=R.ln
 have ct:h.cell s 0=some (aC n):=by rw[H.cell_of R.t];rfl
 have bl:oN [aC 0,.aD,.aD] [(0,1,aC n)]=some (.agg [aC n,.aD,.aD]):=by
  have e1:putAt [aC 0,.aD,.aD] 0 [aC n]=some [aC n,.aD,.aD]:=by simp [putAt]
  simp [oN,iH,e1,V.cells,V.one]
 obtain⟨Z,a3⟩: ∃Z,Z=(h.new (.cells false [aC 0,.aD,.aD])).new (.cells false [aC 0,.aD,.aD]):=⟨_,rfl⟩
 have n1:Z.next=B+2:=by rw[a3,H.aZ,H.aZ,hB]
 have g1:Z.get (B+1)=bG [aC 0,.aD,.aD]:=by
  rw[a3];have:=H.aQ (h.new (.cells false [aC 0,.aD,.aD])) (.cells false [aC 0,.aD,.aD]);rwa [H.aZ,hB] at this
 have g0:Z.get B=bG [aC 0,.aD,.aD]:=by rw[a3,H.bN _ (by rw[H.aZ,hB];omega),<-hB,H.aQ]
 have f1:Fr h Z:=by rw[a3];exact ((Fr.refl h).new _).new _
 have e6:Z.cell s 0=some (aC n):=by rw[f1.cell tn];exact ct
 refine Ku hB ct bl ?_
 rw[<-a3]
 refine dQ (bW Z (B+1) 0 (v:= aC n) (u:= .aD) (w:= .aD) rfl rfl rfl) g1 @bQ ?_
 obtain⟨l,a4⟩: ∃l,l=Z.set (B+1) (bG [aC n,.aD,.aD]):=⟨_,rfl⟩
 have n2:l.next=B+2:=by rw[a4];exact n1
 have f2:Fr h l:=by rw[a4];exact f1.set om _
 have g2:l.get (B+1)=bG [aC n,.aD,.aD]:=by rw[a4,H.aW]
 have c7:l.get B=bG [aC 0,.aD,.aD]:=by rw[a4,H.aF _ om];exact g0
 have d8:Z.cell s 1=some (.sl L 0 n (.kn n)):=by rw[H.cell_of (R.mono f1).t];rfl
 rw[<-a4]
 refine bE d8 ?_
 clear a3 a4 f1 g0 g1 e6 d8 n1 Z
 refine aH (λk' a1 J=> ∃(i:Nat) (W:Nat->Prop) (O:LN) (R':iA) (vO N:V) (c4 b7:List V),(∃g:Nat->V,a1= [.ptr s 0,.ptr B 0,.ptr (B+1) 0,g 3,g 4,g 5,g 6,aC n,aC i,g 9,g 10,g 11,g 12,g 13])/\i<=n/\xZ h J (B+1) B W n O R' vO N c4 b7/\
   J.get B=bG [aC 0,.aD,.aD]/\O.length=i/\R'.length=i/\(∀j,j<i->ChL τ n j (O.getD j []) (R'.getD j []))/\k'=n-i) n
  ⟨0,_, [], [],_,_,_,_,aB rfl,fE _,xZ.start om om om om om f2 g2,c7,rfl,rfl,λj hj=>om,rfl⟩ ?_
 clear f2 g2 c7 n2 l
 rintro k' a1 l ⟨i,W,O,R',vO,N,c4,b7,⟨g,rfl⟩,hi,A,gB,lO,lR,hC,rfl⟩
 by_cases c6:(i:Int)<(n:Int)
 case neg=>
  have e1:=bT c6;obtain rfl:i=n:=om
  have hr:=aE A.get;have nB:=A.fr.next;refine iT e1 hr (bW l B 0 (v:= aC i) (u:=vO) (w:=N) rfl (SV.cM A.oO.sv).2.1 (SV.cM A.oR.sv).2.1) gB @bQ ?_;have e4:=aE (h:=l.set B (bG [aC i,vO,N])) (H.aW ..);have fB:Fx (· =B) l (l.set B (bG [aC i,vO,N])):=Fx.set l (W:=(· =B)) rfl _;refine bE e4 ?_
  obtain⟨h3,c5⟩: ∃h3,h3=l.set B (bG [aC i,vO,N]):=⟨_,rfl⟩
  rw[<-c5] at fB |-;have A3:=A.box c5;refine⟨O,R',by rw[<-hB];exact A3.chw,?_,A3.fr⟩;have X:=t.chain (O:=O) (R:=R') lO lR (λj hj=>(hC j hj).1) (λj hj=>(hC j hj).2.1) (λj hj=>(hC j hj).2.2.1) (λj hj=>(hC j hj).2.2.2);exact X
 have e1:=cJ c6
 have a0:i<n:=om
 have R2:=R.mono A.fr
 have cl:l.cell s 1=some (.sl L 0 n (.kn n)):=by rw[H.cell_of R2.t];rfl
 have co:l.cell L (i*194+1)=some (F (i*194+1)):=R2.cell a0 om
 have oo:=R2.orb i a0
 obtain⟨mV,_⟩:=t i (fE _) a0
 have i8:=UL mV a0
 have c8:0<(τ i).orb.length:=Ss mV.base
 refine dQ e1 cl co ?_
 refine (JP (F (i*194+1)) (SV.cM oo.sv).1 (SV.cM oo.sv).2.1 l).mono ?_
 rintro _ h3 ⟨rfl,g3,n3,f3⟩
 refine aM ?_
 have d0:SI h3 (F (i*194+1)) (zi (τ i).orb):=(show SI l _ _ from oo.sv).mono f3
 refine (HX l.next _ (zi (τ i).orb) h3 (by rw[aL];exact c8) (by rw[aL];omega) g3 om d0).mono ?_
 rintro _ h4 ⟨P,cp,l',rfl,j3,d9,gP,pm,d5,f4⟩
 obtain⟨q,rfl,b8⟩:=YB pm
 have d4:=afB d5 (b8.nodup_iff.2 mV.nd)
 have lq:q.length=(τ i).orb.length:=b8.length_eq
 have b4: ∀p,p∈q↔p∈(τ i).orb:=λp=>b8.mem_iff
 rw[aL,<-lq]
 have A4:=A.mono (f3.trans f4)
 have pq:PV W h4 (.sl P 0 q.length cp) q:=⟨SV.all (by rw[aN,aL,qZ]) d9 gP _,λhw=>by have:=A.wb P hw;omega⟩
 have i0:h4.get B=bG [aC 0,.aD,.aD]:=by rw[(f3.trans f4).get B (A.wb B A.d)];exact gB
 clear A gB g3 d0 oo co cl R2 pm d5
 refine aM ?_
 refine bY (λvs J=> ∃(U:V) (r:LN),(∃g:Nat->V,vs= [.ptr s 0,.ptr B 0,.ptr (B+1) 0,aC i,.sl P 0 q.length cp,U,g 6,aC n,aC i,g 9,g 10,g 11,g 12,g 13])/\PL W J U r/\ChL τ n i q r/\Fr h4 J) ?_ ?_
 .refine aH (λk' vs J=> ∃(k:Nat) (U:V) (ws:List V) (r:LN) (W':Nat->Prop),(∃g:Nat->V,vs= [.ptr s 0,.ptr B 0,.ptr (B+1) 0,aC i,.sl P 0 q.length cp,U,g 6,aC n,aC i,g 9,.sl P 0 q.length cp,aC (q.length:Int),aC k,g 13])/\k<=q.length/\cW J U 1 ws h4.next/\fG W' J ws r/\Dp W' U/\(∀id,W id->W' id)/\(∀id,W' id->id<J.next/\(W id\/h4.next<=id))/\r.length=k/\
    (∀j,j<k-> ∀y,(τ i).to (q.getD j 0)=some y->r.getD j []=Bq τ (n-(i+1)) (i+1) y)/\Fr h4 J/\k'=q.length-k) q.length
   ⟨0,.aD, [], [],W,aB rfl,fE _,cW.aD _ _ _,trivial,λ_ _ _ _ e=>(by cases e),λ_ h=>h,λid h=>⟨A4.wb id h,.inl h⟩,rfl,λj hj=>om,Fr.refl _,rfl⟩ ?_
  rintro k' a1 f ⟨k,U,ws,r,W',⟨g,rfl⟩,hk,ow,c0,g9,d2,d1,lr,hr,f5,rfl⟩
  by_cases b5:(k:Int)<(q.length:Int)
  case neg=>
   have e2:=bT b5;obtain rfl:k=q.length:=om
   refine bE e2 ?_;refine⟨U,r,aB rfl,⟨ws,ow.sv,?_,c0.jK (λid _ h=>d2 id h),cW.NK ow⟩,⟨d4,b4,lr,hr⟩,f5⟩
   cases U with
   |sl id b0 m c=>exact λh=>by have:=(ow.in _ _ _ _ rfl).2.1;have:=A4.wb id h;omega
   |_=>trivial
  have e2:=cJ b5
  have b6:k<q.length:=om
  obtain⟨p,hp⟩:=exI (q.getD k 0)
  have d6:=pq.mono f5
  have ck:f.cell P k=some (aC p):=by
   rw[H.cell_of (by rw[f5.get P d9];exact gP),Fq b6,hp]
  have c3:p∈(τ i).orb:=(b4 p).1 (by rw[<-hp,bJ b6];exact pN b6)
  have j5:=mV.lt a0 c3
  obtain⟨y,hy⟩:=mV.to c3
  have Y:=mV.bM _ _ hy
  have R5:=R.mono (A4.fr.trans f5)
  have cl:f.cell s 1=some (.sl L 0 n (.kn n)):=by rw[H.cell_of R5.t];rfl
  have i3:f.cell L (i*194+2+p)=some (F (i*194+2+p)):=R5.Nz a0 om
  have e3:PV (WT n L F) f (F (i*194+2+p)) y:=by
   have:=R5.to i p a0 om;rw[hy] at this;exact this
  refine gX e2 ck cl i3 ?_
  refine (RE f n s L F τ _ y i hn R5 e3 Y a0 (t.mono om)).mono ?_
  rintro v6 h6 ⟨p6,Q6,f6⟩
  refine aM ?_
  refine (Ky v6 _ h6 (by rw[aL,Q6.len];omega) (by rw[aL,Q6.len];omega) p6.si).mono ?_
  rintro v7 h7 c9
  have f7:=c9.fr
  have p7:PV W' h7 v7 (Bq τ (n-(i+1)) (i+1) y):=c9.pv λid h=>kQ (d1 id h).1 f6.next
  refine bE (cQ h7 (z:= .aD) p7.eZ.1 p7.eZ.2) ?_
  obtain⟨Q,K⟩: ∃Q,Q=h7.new (.cells false [v7]):=⟨_,rfl⟩
  have g8:Q.get h7.next=bG [v7]:=by rw[K,H.aQ]
  have n8:Q.next=h7.next+1:=by rw[K,H.aZ]
  have f8:Fr h7 Q:=by rw[K];exact (Fr.refl h7).new _
  rw[<-K]
  have b1:=(f6.trans f7).trans f8
  have i1:=ow.fr b1
  have j1:=aJ.length c0
  obtain⟨h9,a9,p9⟩:=i1.push (bytes:=24) (SV.one om g8 (.kn 1)) (n:=k) (m:=1) om rfl om om om
  refine bE a9 ?_
  rw[eJ k]
  have n9:=p9.next
  have f9:Fx W' Q h9:=p9.fx g9
  have g7:=b1.next
  have c2: ∀id,id<Q.next->(W' id\/id=Q.next)->W' id:=λid Z l=>by
   rcases l with l|l
   .exact l
   .omega
  refine⟨q.length-(k+1),om,k+1,_,_,r++ [Bq τ (n-(i+1)) (i+1) y],λid=>W' id\/id=Q.next,aB rfl,om,p9.own om rfl (by have:=f5.next;omega),?_,λid b0 m c e=>by cases e;exact .inr rfl,λid h=> .inl (d2 id h),λid h=>?_,by rw[iB,lr];rfl,λj hj z hz=>?_,?_,rfl⟩
  .exact (fG.go (fG.go c0 (Fx.of b1) (λ_ _ h=>h)) f9 c2).append (fG.one (PV.go (p7.mono f8) f9 c2))
  .rcases h with h|h
   .have:=d1 id h;exact⟨om,this.2⟩
   .have:=f5.next;exact⟨om,.inr om⟩
  .by_cases e:j=k
   .subst e
    rw[hp,hy] at hz
    cases hz
    rw[<-lr,kB]
   .rw[mU om]
    exact hr j om z hz
  .refine⟨by have:=f5.next;omega,λid b2=>?_⟩
   rw[p9.old id (by have:=f5.next;omega) (λg4 b0 m c e e2=>by have:=(ow.in _ _ _ _ e).2.1;omega),b1.get id (by have:=f5.next;omega)]
   exact f5.get id b2
 rintro a1 f ⟨U,r,⟨g,rfl⟩,pl,i5,f5⟩
 have G:=A4.mono f5
 have d6:=pq.mono f5
 have e8:f.get B=bG [aC 0,.aD,.aD]:=by rw[f5.get B (A4.wb B A4.d)];exact i0
 have cO:f.cell (B+1) 1=some vO:=by rw[H.cell_of G.get];rfl
 have cR:f.cell (B+1) 2=some N:=by rw[H.cell_of G.get];rfl
 obtain⟨ws,c1,e0,i4,e9⟩:=pl
 have pl:PL W f U r:=⟨ws,c1,e0,i4,e9⟩
 have i9:=G.fr.next
 have d7:=G.wb _ G.c
 simp(disch:=omega)only[go_sem,cO,cR,cQ _ (z:= .aD) (v:= .sl P 0 q.length cp) rfl rfl]
 obtain⟨h6,b3⟩: ∃h6:H,h6=H.mk ((H.mk f.tr (f.next+3)).new (Ob.cells false [.sl P 0 q.length cp])).tr (f.next+14):=⟨_,rfl⟩
 rw[<-b3]
 have g6:h6.get (f.next+3)=bG [.sl P 0 q.length cp]:=by rw[b3];exact H.aQ (H.mk f.tr (f.next+3)) _
 have n6:h6.next=f.next+14:=by rw[b3]
 have o6: ∀k,k≠f.next+3->h6.get k=f.get k:=λk hk=>by rw[b3];exact H.bN (H.mk f.tr (f.next+3)) (by simpa using hk) _
 have f6:Fr f h6:=⟨om,λid b2=>o6 id om⟩
 have j4:=aJ.length G.aO
 have j0:=aJ.length G.aR
 obtain⟨h7,a7,p7⟩:=(G.oO.fr f6).push (bytes:=24) (SV.one om g6 (.kn 1)) (n:=i) (m:=1) om rfl om om om
 have n7:=p7.next
 have a5: ∀k,k<f.next->dS vO k->h7.get k=f.get k:=λk Z l=>by rw[p7.old k om l,o6 k om]
 have e7:h7.cell (B+1) 2=some N:=by unfold H.cell;rw[a5 (B+1) d7 G.pO,G.get];rfl
 have eR:dM N N=true:=G.oR.sv.dM
 have d3:U.cells= [U]/\U.one=true:=⟨(SV.cM c1).1,(SV.cM c1).2.1⟩
 simp(disch:=omega)only[go_sem,a7,e7,eR,cQ _ (z:= .aD) d3.1 d3.2]
 obtain⟨Q,K⟩: ∃Q:H,Q=H.mk ((H.mk h7.tr (f.next+8)).new (Ob.cells false [U])).tr h7.next:=⟨_,rfl⟩
 rw[<-K]
 have g8:Q.get (f.next+8)=bG [U]:=by rw[K];exact H.aQ (H.mk h7.tr (f.next+8)) _
 have n8:Q.next=h7.next:=by rw[K]
 have o8: ∀k,k≠f.next+8->Q.get k=h7.get k:=λk hk=>by rw[K];exact H.bN (H.mk h7.tr (f.next+8)) (by simpa using hk) _
 have e5:cW Q N 1 b7 h.next:=G.oR.mono om λid b0 m c e _ b2=>by
  rw[o8 id om,a5 id b2 (λg4 i7 n' c' e' e2=>G.HG _ _ _ _ e' _ _ _ _ e e2.symm)]
 obtain⟨h9,a9,p9⟩:=e5.push (bytes:=24) (SV.one om g8 (.kn 1)) (n:=i) (m:=1) om rfl om om om
 have n9:=p9.next
 have i2: ∀k,f.next<=k->dS N k:=λk hk id b0 m c e e2=>by have:=(G.oR.in _ _ _ _ e).1;omega
 have a6: ∀k,k<f.next->dS vO k->dS N k->h9.get k=f.get k:=λk Z l h3=>by rw[p9.old k om h3,o8 k om,a5 k Z l]
 have f0:h9.get (B+1)=bG [aC n,vO,N]:=by rw[a6 _ d7 G.pO G.pR];exact G.get
 have i6:(J:H)->(x:V)->eH (bG [aC n,vO,N]) J (B+1) 1 [x]=some (J.set (B+1) (bG [aC n,x,N])):=λJ x=>cF siM J _ x
 have h0:(J:H)->(x y:V)->eH (bG [aC n,x,N]) J (B+1) 2 [y]=some (J.set (B+1) (bG [aC n,x,y])):=λJ x y=>cF siM J _ y
 refine gX a9 f0 i6 h0 ?_
 rw[eJ i]
 obtain⟨ha,hb⟩:h6.next=f.next+14/\Q.next=f.next+15:=⟨n6,om⟩
 rw[ha,hb]
 obtain⟨a8,a2⟩: ∃a8,a8=(h9.set (B+1) (bG [aC n,.sl (f.next+14) 0 (i+1) (.un 1),N])).set (B+1) (bG [aC n,.sl (f.next+14) 0 (i+1) (.un 1),.sl (f.next+15) 0 (i+1) (.un 1)]):=⟨_,rfl⟩
 rw[<-a2]
 have b9: ∀k,k≠B+1->a8.get k=h9.get k:=λk hk=>by rw[a2,H.aF _ hk,H.aF _ hk]
 have j2:a8.next=f.next+16:=by rw[a2];show h9.next=_;omega
 have g5:=G.step (v4:= .sl P 0 q.length cp) (v5:=U) (o:=q) (r:=r) (h6:=a8) (a:=f.next+14) (b:=f.next+15) (k1:=i+1) (k2:=i+1) d6 pl om om om om om om om (by rw[a2,H.aW])
  (by rw[b9 _ om,p9.old _ om (i2 _ om),o8 _ om,<-ha];exact p7.get) (by rw[b9 _ om,<-hb];exact p9.get) (λk Z l h3 h4=>by rw[b9 k l];exact a6 k Z h3 h4)
 refine⟨n-(i+1),om,i+1,_,_,_,_,_,_,_,aB rfl,om,g5,?_,by rw[iB,lO];rfl,by rw[iB,lR];rfl,λj hj=>?_,rfl⟩
 .rw[a6 B (G.wb B G.d) G.qO G.qR];exact e8
 .by_cases e:j=i
  .subst e
   have e1:(O++ [q]).getD j []=q:=by rw[<-lO];exact kB
   have e2:(R'++ [r]).getD j []=r:=by rw[<-lR];exact kB
   rw[e1,e2]
   exact i5
  .rw[mU om,mU om]
   exact hC j om
end Go.Proofs.YtcdbmkidaecdiaaGreat
namespace Go.Ay
def sm:Nat->(Nat->Int)->Int
 |0,_=>0
 |n+1,f=>sm n f+f n
def ab (x:Int):Int:=if x<0 then -x else x
end Go.Ay
namespace Go.Proofs.YtcdbmkidaecdiaaGreat
open Go Go.Ay
section
variable {h h' a:H} {l:List Int} {u:V} {b x:Nat}
def PJ (h:H)(l:List Int)(v:V)(h':H):Prop:=cW h' v 1 (ints l) h.next/\Fr h h'/\(0<l.length-> ∃id,v= .sl id 0 l.length (.un 1)/\h.next<=id/\id<h'.next/\h'.get id=bG (ints l))
theorem abG {v:V}(j:SI h v l)(k:l.length<1000000): ∃v' h',rD (h.new (.cells false [])) 1 8 (.sl h.next 0 0 (.kn 0)) v=some (v',h')/\PJ h l v' h':=by
 obtain⟨v',h',e,a⟩:=(cW.new h 1 0 h.next [] rfl (eU _)).app (bytes:=8) (n:=0) (by rw[H.aZ];omega) (SV.mono j ((Fr.refl h).new _)) (m:=l.length) rfl (by rw[aN,qZ]) om om;refine⟨v',h',e,a.own,a.fr h ((Fr.refl h).new _) (eU _),λo=>?_⟩;rcases a.cM with ⟨c,_⟩|⟨id,c,d,i,f⟩
 .omega
 .exact⟨id,by rw[c,Nat.zero_add],d,i,f⟩
theorem Rq (v:V)(l:List Int)(h:H)(d:SI h v l)(f:l.length<1000000):Ev T 150 [v] h (PJ h l):=by
 refine EvZ zW rfl ?_;simp only[zW,aI,go_sem];obtain⟨i,h',e,c⟩:=abG d f;simp only[e,go_sem];exact c
theorem Th (n d:Nat):(n:Int).tmod (d:Int)=((n%d:Nat):Int):=rfl
theorem Jw {a b:List Int}(d:a.length=b.length)(h: ∀j,j<a.length->a.getD j 0=b.getD j 0):a=b:=by
 apply List.ext_getElem d;intro i c f;have:=h i c;rw[Zo,dC c,Zo,dC f] at this;exact this
theorem Mv {g:Nat}(r:T g=some kE.fn)(y t:V)(a b:List Int)(h:H)(A:SI h y a)(J:SI h t b)(W:a.length<1000000)(a0:b.length<1000000):Ev T g [y,t] h (λv h'=>v= .bool (decide (a=b))/\Fr h h'):=by
 refine mG r rfl ?_;obtain⟨id,U,s,B,hc⟩:=A.open;obtain⟨R,L,p,n,z⟩:=J.open;simp (disch:=first|omega|(simp only[Qn];(try omega);done)|fail) only[go_sem,kE,aI,A.lens,J.lens];refine bI (λm=>?_) (λo=>?_)
 .simp (disch:=first|omega|(simp only[Qn];(try omega);done)|fail) only[go_sem]
  have:a≠b:=λe=>m (by rw[e])
  exact⟨by rw[bT this],Fr.refl h⟩
 have o:a.length=b.length:=om
 simp (disch:=first|omega|(simp only[Qn];(try omega);done)|fail) only[go_sem,A.lens];refine aH (λk d F=> ∃(i:Nat) (G K O:V),d= [y,t,.bool false,G,.bool (decide ((a.length:Int)≠(b.length:Int))),aC (a.length:Int),aC i,K,O]/\i<=a.length/\(∀j,j<i->a.getD j 0=b.getD j 0)/\Fr h F/\k=a.length-i) a.length
  ⟨0,_,_,_,rfl,fE _,λj N=>om,Fr.refl h,rfl⟩ ?_
 rintro k d F ⟨i,G,K,O,rfl,hi,f,c,rfl⟩;simp (disch:=first|omega|(simp only[Qn];(try omega);done)|fail) only[go_sem];refine bI (λQ=>?_) (λP=>?_)
 .have w:=Br c B hc
  have q:=Br c n z;simp (disch:=first|omega|(simp only[Qn];(try omega);done)|fail) only[go_sem,s.ixa,p.ixa,w,q,IF];refine bI (λm=>?_) (λZ=>?_)
  .simp (disch:=first|omega|(simp only[Qn];(try omega);done)|fail) only[go_sem]
   have:a≠b:=λe=>m (by rw[e])
   exact⟨by rw[bT this],c.bU om⟩
  .simp (disch:=first|omega|(simp only[Qn];(try omega);done)|fail) only[go_sem]
   rw[eJ i];refine⟨a.length-(i+1),om,i+1,_,_,_,rfl,om,λj N=>?_,c.bU om,rfl⟩
   by_cases Y:j=i
   .rw[Y];exact Decidable.byContradiction Z
   .exact f j om
 .simp (disch:=first|omega|(simp only[Qn];(try omega);done)|fail) only[go_sem]
  have:a=b:=Jw o λj N=>f j om
  exact⟨by rw[cJ this],c⟩
theorem Wc (i d:V)(a b:List Int)(h:H)(k:SI h i a)(j:SI h d b)(c:a.length<1000000)(f:b.length<1000000):Ev T 105 [i,d] h (λv h'=>v= .bool (decide (a=b))/\Fr h h'):=Mv kE.ok i d a b h k j c f
theorem Pu (y t:V)(a b:List Int)(h:H)(r:SI h y a)(F:SI h t b)(Q:a.length<1000000)(a0:b.length<1000000):Ev T 97 [y,t] h (λv h'=>v= .bool (decide (a=b))/\Fr h h'):=by
 refine kV ?_;obtain⟨id,P,s,A,Z⟩:=r.open;obtain⟨O,G,p,n,z⟩:=F.open;simp (disch:=first|omega|(simp only[Qn];(try omega);done)|fail) only[go_sem,aI,r.lens,F.lens];refine bI (λm=>?_) (λo=>?_)
 .simp (disch:=first|omega|(simp only[Qn];(try omega);done)|fail) only[go_sem]
  have:a≠b:=λe=>m (by rw[e])
  exact⟨by rw[bT this],Fr.refl h⟩
 have o:a.length=b.length:=om
 simp (disch:=first|omega|(simp only[Qn];(try omega);done)|fail) only[go_sem,r.lens];refine aH (λk d B=> ∃(i:Nat) (N U Y:V),d= [y,t,.bool false,aC i,N,U,Y]/\i<=a.length/\(∀j,j<i->a.getD j 0=b.getD j 0)/\Fr h B/\k=a.length-i) a.length
  ⟨0,_,_,_,rfl,fE _,λj J=>om,Fr.refl h,rfl⟩ ?_
 rintro k d B ⟨i,x3,x7,x8,rfl,hi,f,c,rfl⟩;simp (disch:=first|omega|(simp only[Qn];(try omega);done)|fail) only[go_sem,r.lens];refine bI (λL=>?_) (λK=>?_)
 .have w:=Br c A Z
  have q:=Br c n z;simp (disch:=first|omega|(simp only[Qn];(try omega);done)|fail) only[go_sem,s.ixa,p.ixa,w,q,IF];refine bI (λm=>?_) (λW=>?_)
  .simp (disch:=first|omega|(simp only[Qn];(try omega);done)|fail) only[go_sem]
   have:a≠b:=λe=>m (by rw[e])
   exact⟨by rw[bT this],c.bU om⟩
  .simp (disch:=first|omega|(simp only[Qn];(try omega);done)|fail) only[go_sem]
   rw[eJ i];refine⟨a.length-(i+1),om,i+1,_,_,_,rfl,om,λj J=>?_,c.bU om,rfl⟩
   by_cases R:j=i
   .rw[R];exact Decidable.byContradiction W
   .exact f j om
 .simp (disch:=first|omega|(simp only[Qn];(try omega);done)|fail) only[go_sem]
  have:a=b:=Jw o λj J=>f j om
  exact⟨by rw[cJ this],c⟩
def Frs (u:V)(b:Nat):Prop:= ∀id off n c,u= .sl id off n c->b<=id
theorem Frs.ne {id off n:Nat}{c:uF}(f:Frs u b)(h:id<b):u≠ .sl id off n c:=λe=>by have:=f _ _ _ _ e;omega
theorem Frs.le {i:Nat}(f:Frs u b)(h:i<=b):Frs u i:=λid d n c e=>kP h (f id d n c e)
theorem Frs.own {v:V}{sz:Nat}{ws:List V}(o:cW h v sz ws b):Frs v b:=λid f n c e=>by
 rcases o with ⟨d,_⟩|⟨j,_,_,_,d,_,_,i,_⟩
 .rw[d] at e;cases e
 .rw[d] at e;cases e;exact i
structure Yd (x:Nat)(h h':H):Prop where
 next:h.next<=h'.next
 get: ∀id,id<h.next->id≠x->h'.get id=h.get id
theorem Yd.refl (x:Nat)(h:H):Yd x h h:=⟨eU _,λ_ _ _=>rfl⟩
theorem Yd.of (f:Fr h h'):Yd x h h':=⟨f.next,λid c _=>f.get id c⟩
theorem Yd.trans {b c:H}(f:Yd x a b)(g:Yd x b c):Yd x a c:=⟨kP f.next g.next,λid d i=>(g.get id (kQ d f.next) i).trans (f.get id d i)⟩
theorem Yd.set {b:H}(f:Yd x a b)(o:Option Ob):Yd x a (b.set x o):=⟨f.next,λid c d=>(H.aF b d o).trans (f.get id c d)⟩
theorem Yd.fr {b c:H}(f:Fr a b)(i:a.next<=x)(g:Yd x b c):Fr a c:=⟨kP f.next g.next,λid d=>(g.get id (kQ d f.next) om).trans (f.get id d)⟩
theorem SI.fx {j:Nat}(s:SI h u l)(t:Frs u j)(v:x<j)(f:Yd x h h'):SI h' u l:=by
 rcases s with s|⟨id,c,len,d,p,m,rfl,n,i,o,r,k⟩
 .exact .inl s
 .have q:=t _ _ _ _ rfl
  exact .inr ⟨id,c,len,d,p,m,rfl,n,kQ i f.next,by rw[f.get id i om];exact o,r,k⟩
def Tk (h:H)(x:Nat)(l:List Int):Prop:= ∃vl,∃a:Nat,h.get x=bG [vl,aC a]/\SI h vl l/\(∀id off len c,vl= .sl id off len c->id<x)/\a<=l.length/\x<h.next
theorem Tk.mono (t:Tk h x l)(f:Fr h h'):Tk h' x l:=by
 have⟨i,a,d,k,j,m,c⟩:=t;exact⟨i,a,(f.get x c).trans d,k.mono f,j,m,kQ c f.next⟩
theorem Tk.low (t:Tk h x l)(j:h.next<=h'.next)(i: ∀id,id<=x->h'.get id=h.get id):Tk h' x l:=by
 have⟨o,a,v,m,f,s,w⟩:=t;refine⟨o,a,(i x (eU _)).trans v,?_,f,s,kQ w j⟩;rcases m with p|⟨id,c,len,d,n,q,e,z,y,k,A,r⟩
 .exact .inl p
 .have:=f _ _ _ _ e
  exact .inr ⟨id,c,len,d,n,q,e,z,kQ y j,(i id om).trans k,A,r⟩
theorem Tk.set {y:Nat}(t:Tk h x l)(c:h.next<=y)(o:Option Ob):Tk (h.set y o) x l:=t.mono ((Fr.refl h).set c o)
def agD (n:Nat):Nat->Nat->Nat
 |0,_=>n
 |f+1,d=>if d*d<=n then (if n%d=0 then d else agD n f (d+1)) else n
def aiN (n:Nat):Nat:=agD n 1000 2
def bM (n:Int):Bool:=decide (1<n)&&(decide (n<1000000)&&decide (aiN n.toNat=n.toNat))
end
end Go.Proofs.YtcdbmkidaecdiaaGreat
namespace Go.Proofs.YtcdbmkidaecdiaaGreat
open Go Go.Ay Go.Pm
theorem tS {g:Nat}(t:T g=some fT.fn)(f:Nat)(q r:V)(a b:List V)(e:Nat->Bool)(h:H)(L:SV h q 1 a)(B:SV h r 1 b)(U:a.length<1000000)(a0:b.length<1000000)
  (R:a.length=b.length-> ∀i,i<a.length-> ∀hh,Fr h hh->Ev T f [a.getD i .undef,b.getD i .undef] hh (λv h'=>v= .bool (e i)/\Fr hh h')):
  Ev T g [q,r,.fn f [] []] h (λv h'=>v= .bool (decide (a.length=b.length/\ ∀i,i<a.length->e i=true))/\Fr h h'):=by
 refine mG t rfl ?_
 have K:bH q=some (aC (a.length:Int)):=by unfold bH;rw[L.len (n:=a.length) om om];rfl
 have Y:bH r=some (aC (b.length:Int)):=by unfold bH;rw[B.len (n:=b.length) om om];rfl
 obtain⟨id,w,N,A,Z⟩:=L.shape a.length om om
 obtain⟨u,p,y,m,x⟩:=B.shape b.length om om
 simp(disch:=omega)only[go_sem,fT,aI,K,Y]
 refine bI (λs=>?_) (λk=>?_)
 .refine aM ?_
  exact⟨by rw[bT (λh=>s om)],Fr.refl h⟩
 have k:a.length=b.length:=om
 refine bE K ?_
 refine aH (λG d hh=> ∃(i:Nat),(∃g:Nat->V,d= [q,r,.fn f [] [],g 3,g 4,g 5,g 6,g 7,q,aC (a.length:Int),aC i,g 11,g 12])/\i<=a.length/\(∀j,j<i->e j=true)/\Fr h hh/\G=a.length-i) a.length
  ⟨0,aB rfl,fE _,λj W=>om,Fr.refl h,rfl⟩ ?_
 rintro G d hh ⟨i,⟨g,rfl⟩,hi,o,F,rfl⟩
 by_cases l:(i:Int)<(a.length:Int)
 .have z:=cJ l
  have c:i<a.length:=om
  have P:hh.cell id (w+i)=some (a.getD i .undef):=by rw[F.cell (A om),Z i c,List.getD,dC c];rfl
  have Q:hh.cell u (p+i)=some (b.getD i .undef):=by rw[F.cell (m om),x i om,List.getD,dC om];rfl
  refine iT z @N.ixa @y.ixa P Q ?_
  refine (R k i c hh F).mono ?_
  rintro _ h2 ⟨rfl,J⟩
  cases he:e i with
  |true=>
   refine aM ?_;rw[eJ i];refine⟨a.length-(i+1),om,i+1,aB rfl,om,λj W=>?_,F.trans J,rfl⟩
   by_cases O:j=i
   .rw[O];exact he
   .exact o j om
  |false=>
   refine aM ?_;exact⟨by rw[bT (λh=>by have:=h.2 i c;rw[he] at this;cases this)],F.trans J⟩
 have z:=bT l
 obtain rfl:i=a.length:=om
 refine bE z ?_
 exact⟨by rw[cJ ⟨k,o⟩],F⟩
theorem gH {α β:Type}{R:α->β->Prop}{c:List α}{b:List β}(a:aJ R c b){i:Nat}(hi:i<b.length)(d:α)(e:β):R (c.getD i d) (b.getD i e):=by
 have f:=a.length;rw[List.getD,dC om,List.getD,dC hi];exact a.get i om hi
theorem uB {α:Type}[DecidableEq α]{a b:List α}(d:α):decide (a=b)=decide (a.length=b.length/\ ∀i,i<a.length->decide (a.getD i d=b.getD i d)=true):=by
 congr 1;rw[eq_iff_iff];constructor
 .rintro rfl;exact⟨rfl,λi _=>by simp⟩
 .rintro⟨h1,h2⟩
  exact Ce (d:=d) h1 λi hi=>by simpa using h2 i hi
def qB (R:List (List (List Int))):Prop:=R.length<1000000/\ ∀i,i<R.length->(R.getD i []).length<1000000
def rP (R:List (List (List Int))):Prop:=R.length<1000000/\ ∀i,i<R.length->(R.getD i []).length<1000000/\ ∀k,k<(R.getD i []).length->((R.getD i []).getD k []).length<1000000
def mY (O:List (List Int)):Prop:=O.length<1000000/\ ∀i,i<O.length->(O.getD i []).length<1000000
theorem SD (va vb:V)(d o:Int)(O t:List (List Int))(R K:List (List (List Int)))(h:H)(ha:Hd h va d O R)(hb:Hd h vb o t K)(so:mY O)(B:mY t)(sr:rP R)(p:rP K):
  Ev T 178 [va,vb] h (λv h'=>v= .bool (decide (d=o/\O=t/\R=K))/\Fr h h'):=by
 obtain⟨s,x,rfl,sO,sR⟩:=ha
 obtain⟨c,j,rfl,a0,a3⟩:=hb
 have⟨wO,tO,aO⟩:=sO
 have⟨a1,J,G⟩:=a0
 have⟨wR,tR,aR,_⟩:=sR
 have⟨W,y,F,_⟩:=a3
 have lO:=aO.length
 have z:=G.length
 have lR:=aR.length
 have q:=F.length
 refine yF (aU h (v:= aC d) (u:=s) (w:=x) rfl tO.cM.2.1 tR.cM.2.1) ?_
 obtain⟨b,m⟩: ∃b,b=h.new (.cells false [aC d,s,x]):=⟨_,rfl⟩
 have g1:b.get h.next=some (.cells false [aC d,s,x]):=by rw[m,H.aQ]
 have n1:b.next=h.next+1:=by rw[m,H.aZ]
 have f1:Fr h b:=by rw[m];exact (Fr.refl h).new _
 rw[<-m]
 refine bE (aU b (v:= aC o) (u:=c) (w:=j) rfl J.cM.2.1 y.cM.2.1) ?_
 obtain⟨a,n⟩: ∃a,a=b.new (.cells false [aC o,c,j]):=⟨_,rfl⟩
 have g2:a.get b.next=some (.cells false [aC o,c,j]):=by rw[n,H.aQ]
 have n2:a.next=b.next+1:=by rw[n,H.aZ]
 have f2:Fr b a:=by rw[n];exact (Fr.refl b).new _
 rw[<-n]
 have ga: ∀l,Fr a l-> ∀i,l.cell h.next i= [aC d,s,x][i]? :=λl f i=>by rw[H.cell_of (by rw[f.get _ om,f2.get _ om];exact g1)]
 have gb: ∀l,Fr a l-> ∀i,l.cell b.next i= [aC o,c,j][i]? :=λl f i=>by rw[H.cell_of (by rw[f.get _ om];exact g2)]
 have F2:=f1.trans f2
 by_cases P:d=o
 case neg=>
  have e1:=bT P;simp(disch:=omega)only[go_sem,H.cell_of g1,ga a (Fr.refl _),gb a (Fr.refl _),e1];exact⟨by rw[bT (λh=>P h.1)],F2⟩
 have e1:=cJ P
 simp(disch:=omega)only[go_sem,H.cell_of g1,ga a (Fr.refl _),gb a (Fr.refl _),e1]
 refine (tS fT.ok 105 s c wO a1 (λi=>decide (O.getD i []=t.getD i [])) a (tO.mono F2) (J.mono F2) (by rw[lO];exact so.1) (by rw[z];exact B.1) (λhl i hi l f=>?_)).mono ?_
 .exact Wc _ _ _ _ l ((gH aO om _ _).mono (F2.trans f)) ((gH G om _ _).mono (F2.trans f)) (so.2 i om) (B.2 i om)
 rw[lO,z,<-uB]
 rintro _ Z ⟨rfl,Q⟩
 by_cases L:O=t
 case neg=>
  rw[bT L];refine aM ?_;exact⟨by rw[bT (λh=>L h.2.1)],F2.trans Q⟩
 rw[cJ L]
 refine cU (ga Z Q) (gb Z Q) ?_
 have A:=F2.trans Q
 refine (tS iE.ok 218 x j wR W (λi=>decide (R.getD i []=K.getD i [])) Z (tR.mono A) (y.mono A) (by rw[lR];exact sr.1) (by rw[q];exact p.1) (λhl i hi l f=>?_)).mono ?_
 .refine kV ?_
  refine bE @aI ?_
  obtain⟨ws,s1,s2⟩:=(gH aR (i:=i) om .undef []).mono (A.trans f)
  obtain⟨a2,U,r⟩:=(gH F (i:=i) om .undef []).mono (A.trans f)
  have k1:=s2.length
  have k2:=r.length
  refine (tS gU.ok 220 _ _ ws a2 (λk=>decide ((R.getD i []).getD k []=(K.getD i []).getD k [])) l s1 U (by rw[k1];exact (sr.2 i om).1) (by rw[k2];exact (p.2 i om).1) (λa4 k hk h4 N=>?_)).mono ?_
  .refine kV ?_
   refine bE @aI ?_
   refine (Mv rM.ok _ _ _ _ h4 ((gH s2 om _ _).mono N) ((gH r om _ _).mono N) ((sr.2 i om).2 k om) ((p.2 i om).2 k om)).mono ?_
   rintro _ h5 ⟨rfl,Y⟩
   refine aM ?_
   exact Y
  rw[k1,k2,<-uB]
  rintro _ h5 ⟨rfl,Y⟩
  refine aM ?_
  exact Y
 rw[lR,q,<-uB]
 rintro _ h4 ⟨rfl,N⟩
 refine aM ?_
 refine⟨?_,A.trans N⟩
 congr 2
 rw[eq_iff_iff]
 exact⟨λh=>⟨P,L,h⟩,λh=>h.2.2⟩
end Go.Proofs.YtcdbmkidaecdiaaGreat
namespace Go.Proofs.YtcdbmkidaecdiaaGreat
open Go Go.Ay Go.Pm
section
variable {i:Nat} {a:List Int}
def mW (a:List Int):Bool:=decide a.Nodup&&a.all λx=>decide (0<=x)&&decide (x<(a.length:Int))
def Ma (a:List Int):Int:=if a.length<1\/64<a.length then 2 else if mW a=true then 0 else 3
structure QP (a:List Int)(i:Nat):Prop where
 nd:(a.take i).Nodup
 rg: ∀x∈a.take i,0<=x/\x<(a.length:Int)
theorem Un {l:List Int}(hi:i<l.length):l.take (i+1)=l.take i++ [l.getD i 0]:=by
 rw[List.take_add_one,dC hi];simp [List.getD,hi]
theorem QP.zero (a:List Int):QP a 0:=⟨siM,λx b=>by simp at b⟩
theorem QP.succ (p:QP a i)(hi:i<a.length)(f:0<=a.getD i 0)(d:a.getD i 0<(a.length:Int))(h2:a.getD i 0∉a.take i):QP a (i+1):=by
 refine⟨?_,λx b=>?_⟩
 .rw[Un hi,List.nodup_append]
  exact⟨p.nd,siM,λx b y c=>by
   have e:y=a.getD i 0:=by simpa using c
   intro h;rw[h,e] at b
   exact h2 b⟩
 .rw[Un hi] at b
  rcases jO.1 b with b|b
  .exact p.rg x b
  .simp at b;subst b;exact⟨f,d⟩
theorem QP.all (p:QP a a.length):mW a=true:=by
 have e:a.take a.length=a:=List.take_length;unfold mW;simp only[rG,decide_eq_true_eq,vE];exact⟨e▸p.nd,λx b=>p.rg x (by rw[e];exact b)⟩
theorem zG (hi:i<a.length)(h:a.getD i 0<0\/(a.length:Int)<=a.getD i 0\/a.getD i 0∈a.take i):mW a=false:=by
 cases e:mW a with
 |false=>rfl
 |true=>
  exfalso;unfold mW at e;simp only[rG,decide_eq_true_eq,vE] at e;obtain⟨d,f⟩:=e
  have c:a.getD i 0∈a:=by
   have:a.getD i 0=a[i]:=by simp [List.getD,hi]
   rw[this];exact pN hi
  have:=f _ c;rcases h with h|h|h
  .omega
  .omega
  .have b:(a.take (i+1)).Nodup:=d.sublist (List.take_sublist _ _)
   rw[Un hi,List.nodup_append] at b;exact b.2.2 _ h _ siM rfl
theorem BV: [V.bool false,.bool false,.bool false,.bool false,.bool false,.bool false,.bool false,.bool false,.bool false,.bool false,.bool false,.bool false,.bool false,.bool false,.bool false,.bool false,
 .bool false,.bool false,.bool false,.bool false,.bool false,.bool false,.bool false,.bool false,.bool false,.bool false,.bool false,.bool false,.bool false,.bool false,.bool false,.bool false,
 .bool false,.bool false,.bool false,.bool false,.bool false,.bool false,.bool false,.bool false,.bool false,.bool false,.bool false,.bool false,.bool false,.bool false,.bool false,.bool false,
 .bool false,.bool false,.bool false,.bool false,.bool false,.bool false,.bool false,.bool false,.bool false,.bool false,.bool false,.bool false,.bool false,.bool false,.bool false,.bool false]=rc 64 (λ_=> .bool false):=rfl
theorem tW (u:V)(a:List Int)(h:H)(Z:a.length<1000000)(Q:SI h u a):
  Ev T 140 [u] h (λv h'=>v= aC (Ma a)/\Fr h h'):=by
 refine kV ?_
 have m:=Q.lens
 obtain⟨id,off,t,G,Y⟩:=Q.open
 by_cases N:a.length<1
 .have w:decide ((a.length:Int)<1)=true:=cJ om
  refine dQ @aI m w ?_
  exact⟨by unfold Ma;rw[bL (.inl N)],Fr.refl h⟩
 have w:decide ((a.length:Int)<1)=false:=bT om
 by_cases W:64<a.length
 .have A:decide ((64:Int)<(a.length:Int))=true:=cJ om
  refine gX @aI m w A ?_
  exact⟨by unfold Ma;rw[bL (.inr W)],Fr.refl h⟩
 have A:decide ((64:Int)<(a.length:Int))=false:=bT om
 have y:Ma a=if mW a=true then 0 else 3:=by unfold Ma;rw[bV om]
 refine iT @aI m w A @BV ?_
 have r:Fr h (h.new (.cells false (rc 64 λ_=>V.bool false))):=(Fr.refl h).new _
 have d:(h.new (.cells false (rc 64 λ_=>V.bool false))).get h.next=some (.cells false (rc 64 λ_=>V.bool false)):=H.aQ ..
 have p:(h.new (.cells false (rc 64 λ_=>V.bool false))).next=h.next+1:=H.aZ ..
 generalize h.new (.cells false (rc 64 λ_=>V.bool false))=N at*
 obtain⟨S,U⟩:=exI h.next
 rw[U] at d p
 rw[U]
 refine aH (λO c P=> ∃(i:Nat),(∃j:Nat->V,c= [u,aC 0,.ptr S 0,j 3,j 4,u,aC (a.length:Int),aC i,j 8,j 9])/\i<=a.length/\QP a i/\
   P.get S=some (.cells false (rc 64 λj=> .bool ((a.take i).contains (j:Int))))/\Fr h P/\O=a.length-i) a.length
  ⟨0,aB rfl,fE _,QP.zero a,by rw[d];rfl,r,rfl⟩ ?_
 clear d r p
 rintro O c R ⟨i,⟨jk,rfl⟩,hi,q,J,F,rfl⟩
 refine aM ?_
 by_cases o:(i:Int)<(a.length:Int)
 .rw[cJ o]
  have b:i<a.length:=om
  have ci:R.cell id (off+i)=some (aC (a.getD i 0)):=by rw[F.cell (G om),Y i b]
  generalize f:a.getD i 0=x at ci
  by_cases l:x<0
  .have n:=cJ l
   refine dQ @t.ixa ci n ?_
   refine⟨?_,F⟩
   rw[y,zG b (.inl (by rw[f];exact l))];rfl
  have n:=bT l
  by_cases B:(a.length:Int)<=x
  .have z:decide ((a.length:Int)<=x)=true:=cJ om
   refine iT @t.ixa ci n z m ?_
   refine⟨?_,F⟩
   rw[y,zG b (.inr (.inl (by rw[f];exact B)))];rfl
  have z:decide ((a.length:Int)<=x)=false:=bT om
  obtain⟨k,rfl⟩: ∃k:Nat,x=(k:Int):=⟨x.toNat,om⟩
  have L:k<64:=om
  have s:=iJ J L
  cases hm:(a.take i).contains (k:Int) with
  |true=>
   rw[hm] at s;refine kA @t.ixa ci n z m s ?_;refine⟨?_,F⟩;rw[y,zG b (.inr (.inr (by rw[f];simpa using hm)))];rfl
  |false=>
   rw[hm] at s;have K:=cF (vs:=rc 64 λj=> .bool ((a.take i).contains (j:Int))) (off:=k) (by rw[iK];exact L) R S (.bool true);rw[jL] at K;refine qL @t.ixa ci n z m s J K ?_;rw[eJ i];refine⟨a.length-(i+1),om,i+1,aB rfl,om,q.succ b (by rw[f];omega) (by rw[f];omega) (by rw[f];simpa using hm),?_,F.set om _,rfl⟩;congr 2;refine cT λj hj=>?_
   rw[Un b,f]
   by_cases e:j=k
   .subst e;rw[bL rfl];simp
   .rw[bV e]
    congr 1;rw[Lf];simp only[List.contains_iff_mem,jO,List.mem_singleton];constructor
    .exact .inl
    .rintro (h|h)
     .exact h
     .omega
 rw[bT o]
 obtain rfl:i=a.length:=om
 refine aM ?_
 refine⟨?_,F⟩
 rw[y,q.all];rfl
end
end Go.Proofs.YtcdbmkidaecdiaaGreat
namespace Go.Proofs.YtcdbmkidaecdiaaGreat
open Go Go.Ay Go.Pm
theorem Fe (hh:H)(c:Nat)(a:c<=100000):Ct hh 1 1 [.bool false] (aC c) (aC c)=some (.sl hh.next 0 c (.kn c),hh.new (.cells false (rc c λ_=> .bool false))):=by
 rw[qT om (Int.le_refl _) om om,IF,qZ];congr 4;refine List.ext_getElem (by simp [dT,rc]) λi _ _=>?_
 simp [dT,Nat.mod_one,rc]
theorem aaI (u:V)(a:List Int)(h:H)(R:a.length<=1000)(L:SI h u a):
  Ev T 129 [u,aC (a.length:Int)] h (λv h'=>v= .bool (mW a)/\Fr h h'):=by
 have t:=L.lens
 obtain⟨id,off,s,z,P⟩:=L.open
 refine yF t ?_
 rw[bT (show ¬((a.length:Int)≠(a.length:Int)) by omega)]
 simp(disch:=omega)only[go_sem,Fe _ a.length om]
 have q:Fr h (h.new (.cells false (rc a.length λ_=>V.bool false))):=(Fr.refl h).new _
 have d:(h.new (.cells false (rc a.length λ_=>V.bool false))).get h.next=some (.cells false (rc a.length λ_=>V.bool false)):=H.aQ ..
 have o:(h.new (.cells false (rc a.length λ_=>V.bool false))).next=h.next+1:=H.aZ ..
 generalize h.new (.cells false (rc a.length λ_=>V.bool false))=Q at*
 obtain⟨S,O⟩:=exI h.next
 rw[O] at d o
 rw[O]
 refine aH (λJ c K=> ∃(i:Nat),(∃j:Nat->V,c= [u,aC (a.length:Int),j 2,.sl S 0 a.length (.kn a.length),aC i,j 5,j 6,j 7])/\i<=a.length/\QP a i/\
   K.get S=some (.cells false (rc a.length λj=> .bool ((a.take i).contains (j:Int))))/\Fr h K/\J=a.length-i) a.length
  ⟨0,aB rfl,fE _,QP.zero a,by rw[d];rfl,q,rfl⟩ ?_
 clear d q o
 rintro J c N ⟨i,⟨U,rfl⟩,hi,p,A,F,rfl⟩
 refine aM ?_
 by_cases n:(i:Int)<(a.length:Int)
 .rw[cJ n]
  have b:i<a.length:=om
  have ci:N.cell id (off+i)=some (aC (a.getD i 0)):=by rw[F.cell (z om),P i b]
  generalize f:a.getD i 0=x at ci
  by_cases l:x<0
  .have m:=cJ l
   refine dQ @s.ixa ci m ?_
   refine⟨?_,F⟩
   rw[zG b (.inl (by rw[f];exact l))]
  have m:=bT l
  by_cases y:(a.length:Int)<=x
  .have w:decide ((a.length:Int)<=x)=true:=cJ om
   refine iT @s.ixa ci m w t ?_
   refine⟨?_,F⟩
   rw[zG b (.inr (.inl (by rw[f];exact y)))]
  have w:decide ((a.length:Int)<=x)=false:=bT om
  obtain⟨k,rfl⟩: ∃k:Nat,x=(k:Int):=⟨x.toNat,om⟩
  have G:k<a.length:=om
  have r:=iJ A G
  cases hm:(a.take i).contains (k:Int) with
  |true=>
   rw[hm] at r;refine kA @s.ixa ci m w t r ?_;refine⟨?_,F⟩;rw[zG b (.inr (.inr (by rw[f];simpa using hm)))]
  |false=>
   rw[hm] at r;have B:=cF (vs:=rc a.length λj=> .bool ((a.take i).contains (j:Int))) (off:=k) (by rw[iK];exact G) N S (.bool true);rw[jL] at B;refine qL @s.ixa ci m w t r A B ?_;rw[eJ i];refine⟨a.length-(i+1),om,i+1,aB rfl,om,p.succ b (by rw[f];omega) (by rw[f];omega) (by rw[f];simpa using hm),?_,F.set om _,rfl⟩;congr 2;refine cT λj W=>?_
   rw[Un b,f]
   by_cases e:j=k
   .subst e;rw[bL rfl];simp
   .rw[bV e]
    congr 1;rw[Lf];simp only[List.contains_iff_mem,jO,List.mem_singleton];constructor
    .exact .inl
    .rintro (h|h)
     .exact h
     .omega
 rw[bT n]
 obtain rfl:i=a.length:=om
 refine aM ?_
 refine⟨?_,F⟩
 rw[p.all]
theorem mM (u:V)(a:List Int)(h:H)(l:a.length<1000000)(j:SI h u a):
  Ev T 85 [u] h (λv h'=>v= aC (Ma a)/\Fr h h'):=by
 refine kV ?_
 have d:=j.lens
 by_cases k:a.length<1
 .have b:decide ((a.length:Int)<1)=true:=cJ om
  refine dQ @aI d b ?_
  exact⟨by unfold Ma;rw[bL (.inl k)],Fr.refl h⟩
 have b:decide ((a.length:Int)<1)=false:=bT om
 by_cases i:64<a.length
 .have c:decide ((64:Int)<(a.length:Int))=true:=cJ om
  refine gX @aI d b c ?_
  exact⟨by unfold Ma;rw[bL (.inr i)],Fr.refl h⟩
 have c:decide ((64:Int)<(a.length:Int))=false:=bT om
 have f:Ma a=if mW a=true then 0 else 3:=by unfold Ma;rw[bV om]
 refine gX @aI d b c ?_
 refine (aaI u a h om j).mono ?_
 rintro _ i ⟨rfl,F⟩
 cases e:mW a with
 |true=>
  refine aM ?_;exact⟨by rw[f,e];rfl,F⟩
 |false=>
  refine aM ?_;exact⟨by rw[f,e];rfl,F⟩
theorem Gn {a:List Int}(h:mW a=true):a=zi (a.map Int.toNat)/\aY a.length (a.map Int.toNat):=by
 unfold mW at h;simp only[rG,decide_eq_true_eq,vE] at h;obtain⟨f,c⟩:=h
 have e:a=zi (a.map Int.toNat):=by
  unfold zi;rw[List.map_map];refine (List.map_id a).symm.trans (Sk λx b=>?_);have:=(c x b).1
  show x=((x.toNat:Nat):Int)
  omega
 refine⟨e,siM,?_,λx b=>?_⟩
 .rw[Xz,List.pairwise_map]
  rw[Xz] at f;refine f.imp_of_mem λ{x y} b d i j=>?_
  have:=(c x b).1;have:=(c y d).1;omega
 .obtain⟨y,d,rfl⟩:=qU.1 b
  have:=c y d;omega
theorem Tr {n:Nat}{l:List Nat}(L:aY n l):mW (zi l)=true:=by
 unfold mW;simp only[rG,decide_eq_true_eq,vE];refine⟨?_,λx c=>?_⟩
 .unfold zi
  have:=L.nd;rw[Xz] at this |-;rw[List.pairwise_map];exact this.imp λa e=>a om
 .obtain⟨k,b,rfl⟩:=qU.1 c
  have:=L.lt k b;rw[aL,L.len];omega
end Go.Proofs.YtcdbmkidaecdiaaGreat
namespace Go.Proofs.YtcdbmkidaecdiaaGreat
open Go Go.Ay Go.Pm
def rI:List Nat->List Nat->Bool
 |x::a,y::b=>if x=y then rI a b else decide (x<y)
 |a,b=>decide (a.length<b.length)
theorem Kp:{a b:List Nat}->{i:Nat}->(∀j,j<i->a.getD j 0=b.getD j 0)->i<a.length->i<b.length->a.getD i 0≠b.getD i 0->rI a b=decide (a.getD i 0<b.getD i 0)
 | [],_,i,_,h,_,_=>by simp at h
 |_::_, [],i,_,_,h,_=>by simp at h
 |x::a,y::b,0,_,_,_,hne=>by
  have:x≠y:=by simpa using hne
  simp [rI,this]
 |x::a,y::b,i+1,h,h1,h2,hne=>by
  have e:x=y:=by simpa using h 0 om
  unfold rI;rw[bL e,Kp (a:=a) (b:=b) (i:=i) (λj c=>by simpa using h (j+1) om) (by simpa using h1) (by simpa using h2) (by simpa using hne)];simp
theorem vV: ∀a:List Nat,rI a a=false
 | []=>by simp [rI]
 |x::a=>by unfold rI;rw[bL rfl];exact vV a
theorem lC {a b:List Nat}(o:a.length=b.length):rI a b=true↔Lt a b:=by
 by_cases h: ∃i,i<a.length/\a.getD i 0≠b.getD i 0
 .have n: ∃i,(i<a.length/\a.getD i 0≠b.getD i 0)/\ ∀j,j<i-> ¬(j<a.length/\a.getD j 0≠b.getD j 0):=by
   have⟨i,hi⟩:=h
   induction i using Nat.strongRecOn with
   |_ i ih=>
    by_cases l: ∃j,j<i/\j<a.length/\a.getD j 0≠b.getD j 0
    .have⟨j,f,d⟩:=l;exact ih j f d
    .exact⟨i,hi,λj f d=>l ⟨j,f,d⟩⟩
  have⟨i,⟨f,d⟩,p⟩:=n;have c: ∀j,j<i->a.getD j 0=b.getD j 0:=λj l=>zQ λm=>p j l ⟨om,m⟩
  rw[Kp c f om d,decide_eq_true_eq];constructor
  .intro h;exact⟨i,f,c,h⟩
  .rintro⟨k,h4,h5,h6⟩
   rcases Nat.lt_trichotomy i k with h|h|h
   .exact absurd (h5 i h) d
   .subst h;exact h6
   .have:=c k h;omega
 .have e:a=b:=uD o λi hi=>zQ λm=>h ⟨i,hi,m⟩
  subst e;rw[vV];constructor
  .intro h;cases h
  .exact λh=>(h.asymm h).elim
theorem EV (u w:V)(n:Nat)(a b:List Nat)(h:H)(W:n<100000)(B:a.length=n)(lb:b.length=n)(N:SI h u (zi a))(K:SI h w (zi b)):
  Ev T 134 [u,w] h (λv h'=>v= .bool (rI a b)/\Fr h h'):=by
 have t:=N.lens
 rw[aL,B] at t
 have s:=K.lens
 rw[aL,lb] at s
 obtain⟨id,A,y,r,P⟩:=N.open
 rw[aL,B] at y r P
 obtain⟨z,p,m,f,q⟩:=K.open
 rw[aL,lb] at m f q
 refine nL ?_
 refine aH (λG k Q=> ∃(i:Nat),(∃j:Nat->V,k= [u,w,.bool false,aC i,j 4,j 5])/\i<=n/\(∀j,j<i->a.getD j 0=b.getD j 0)/\Fr h Q/\G=n-i) n
  ⟨0,aB rfl,fE _,λ_ h=>om,Fr.refl h,rfl⟩ ?_
 rintro G k L ⟨i,⟨Y,rfl⟩,hi,l,F,rfl⟩
 by_cases o:(i:Int)<(n:Int)
 .have d:=cJ o
  have c:i<n:=om
  have ci:L.cell id (A+i)=some (aC (a.getD i 0:Nat)):=by rw[F.cell (r om),P i c];congr 2;simp [zi,B,c]
  have J:L.cell z (p+i)=some (aC (b.getD i 0:Nat)):=by rw[F.cell (f om),q i c];congr 2;simp [zi,lb,c]
  by_cases O:a.getD i 0=b.getD i 0
  .have x:decide (((a.getD i 0:Nat):Int)≠((b.getD i 0:Nat):Int))=false:=bT om
   refine qL t s d @y.ixa @m.ixa ci J x ?_
   rw[eJ i]
   refine⟨n-(i+1),om,i+1,aB rfl,om,λj R=>?_,?_,rfl⟩
   .by_cases e:j=i
    .rw[e];exact O
    .exact l j om
   .first|exact F|exact F.bU om
  .have x:decide (((a.getD i 0:Nat):Int)≠((b.getD i 0:Nat):Int))=true:=cJ om
   refine qL t s d @y.ixa @m.ixa ci J x ?_
   refine⟨?_,?_⟩
   .rw[Kp l om om O]
    congr 1
    rw[Lf];simp
   .first|exact F|exact F.bU om|exact (F.bU om).bU siO
 have d:=bT o
 have U:decide ((n:Int)<(n:Int))=false:=bT om
 obtain rfl:i=n:=om
 refine dQ t s d ?_
 have e:a=b:=uD om λj R=>l j om
 refine⟨?_,F⟩
 rw[e,vV]
end Go.Proofs.YtcdbmkidaecdiaaGreat
namespace Go.Proofs.YtcdbmkidaecdiaaGreat
open Go Go.Ay Go.Pm
section
variable {n:Nat} {O:List (List Int)}
theorem FH (d:Int)(a b:V)(c:a.one=true)(f:b.one=true)(h:H):Ev T 146 [.agg [aC d,a,b]] h (λv h'=>v= .fn 199 [] [.ptr h.next 0]/\h'.get h.next=bG [aC d,a,b]/\h'.next=h.next+1/\Fr h h'):=by
 refine yF (aU h (v:= aC d) (u:=a) (w:=b) rfl c f) ?_;exact (Fr.refl h).new _
theorem Xu (id b:Nat)(d:Int)(y f:V)(ws:List V)(h:H)(L:ws.length<1000000)(J:Nat->H->Prop)(D:H->Prop)(q:J 0 h)
  (r: ∀i hh,J i hh->hh.get b=bG [aC d,y,f]/\SV hh f 1 ws)
  (u: ∀i hh,i<ws.length->J i hh->Ey T id [aC i,ws.getD i .undef] hh (λv h'=>v= .bool true/\J (i+1) h'\/v= .bool false/\D h')):
  Ev T 199 [.yl id,.ptr b 0] h (λ_ h'=>J ws.length h'\/D h'):=by
 obtain⟨z,B⟩:=r 0 h q
 have t:h.cell b 2=some f:=by rw[H.cell_of z];rfl
 have A:bH f=some (aC (ws.length:Int)):=by unfold bH;rw[B.len (n:=ws.length) om om];rfl
 refine Px t A ?_
 refine aH (λs a hh=> ∃(i:Nat),(∃g:Nat->V,a= [.yl id,.ptr b 0,g 2,g 3,f,aC (ws.length:Int),aC i,g 7,g 8])/\i<=ws.length/\J i hh/\s=ws.length-i) ws.length
  ⟨0,aB rfl,fE _,q,rfl⟩ ?_
 rintro s a k ⟨i,⟨g,rfl⟩,hi,l,rfl⟩
 by_cases c:(i:Int)<(ws.length:Int)
 .have m:=cJ c
  obtain⟨N,x⟩:=r i k l
  obtain⟨p,j,w,F,G⟩:=x.shape ws.length om om
  have ci:k.cell p (j+i)=some (ws.getD i .undef):=by rw[G i om,List.getD,dC om];rfl
  refine dQ m @w.ixa ci ?_
  refine (u i k om l).mono ?_
  rintro v K (⟨rfl,o⟩|⟨rfl,o⟩)
  .refine aM ?_
   rw[eJ i]
   exact⟨ws.length-(i+1),om,i+1,aB rfl,om,o,rfl⟩
  .refine aM ?_
   exact .inr o
 have m:=bT c
 obtain rfl:i=ws.length:=om
 refine bE m ?_
 exact .inl l
structure KS (n:Nat)(O:List (List Int))(R:List (List (List Int))):Prop where
 lo:O.length=n
 lr:R.length=n
 row: ∀i,i<n->(R.getD i []).length=(O.getD i []).length/\(R.getD i []).length<=n-i
 perm: ∀i,i<n-> ∀x∈R.getD i [],x.length=n/\mW x=true
def Zp (d:Int)(O:List (List Int))(R:List (List (List Int))):Prop:= ∃(n:Nat) (O':LN) (R':iA),d=(n:Int)/\1<=n/\n<=64/\O=O'.map zi/\R=R'.map (List.map zi)/\Valid n O' R'
open Classical in
noncomputable def lE (d:Int)(O:List (List Int))(R:List (List (List Int))):Int:=if d<1\/64<d then 2 else if Zp d O R then 0 else 3
theorem Qk {a b:List Nat}(h:zi a=zi b):a=b:=by
 have:=congrArg (List.map Int.toNat) h
 have e: ∀a:List Nat,(zi a).map Int.toNat=a:=λa=>by
  unfold zi;rw[List.map_map];exact (Sk λx _=>by simp).trans (List.map_id a)
 rwa [e,e] at this
theorem map_inj {α β:Type}{f:α->β}(c: ∀x y,f x=f y->x=y):{a b:List α}->a.map f=b.map f->a=b
 | [], [],_=>rfl
 | [],_::_,h=>by cases h
 |_::_, [],h=>by cases h
 |x::a,y::b,h=>by
  simp only[List.map_cons,List.cons.injEq] at h;rw[c x y h.1,map_inj c h.2]
theorem kC {i:Nat}{G:List Nat->Prop}(f: ∀x,G x->aY n x){o:List Nat}(hi:i<n)(a:o.Pairwise (· < ·))(mem: ∀p,p∈o↔ ∃x,G x/\Fix i x/\x.getD i 0=p):o.length<=n-i:=by
 have nd:o.Nodup:=by rw[Xz];exact a.imp λh e=>om
 have:=List.Nodup.length_le_of_subset nd (l₂:=(List.range (n-i)).map (· +i)) λp b=>by
  obtain⟨x,d,c,rfl⟩:=(mem p).1 b;have X:=f x d;have l:=X.fZ hi
  have k:i<=x.getD i 0:=zQ λm=>by
   have:=X.inj hi (j:=x.getD i 0) om (by rw[c (x.getD i 0) om]);omega
  exact qU.2 ⟨x.getD i 0-i,wY.2 om,om⟩
 simpa using this
theorem Zp.frm {R:List (List (List Int))}(c:Zp (n:Int) O R):KS n O R:=by
 obtain⟨m,f,b,e,s,p,rfl,rfl,h,v⟩:=c;obtain rfl:n=m:=om
 have j: ∀i,i<n->(b.map (List.map zi)).getD i []=(b.getD i []).map zi/\(f.map zi).getD i []=zi (f.getD i [])/\ ∀x∈b.getD i [],x∈b.flatten:=λi hi=>by
  have q:=v.lr;have r:=v.lo;refine⟨by simp [List.getD,show i<b.length by omega],by simp [List.getD,show i<f.length by omega],λx a=>?_⟩;rw[List.getD,dC om] at a;exact List.mem_flatten.2 ⟨_,pN om,a⟩
 refine⟨by rw[fL];exact v.lo,by rw[fL];exact v.lr,λi hi=>?_,λi hi x a=>?_⟩
 .obtain⟨d,o,_⟩:=j i hi
  rw[d,o,fL,aL,v.rl i hi];exact⟨rfl,kC (λx a=>bX.bM h a) hi (v.asc i hi) (v.mem i hi)⟩
 .obtain⟨d,_,l⟩:=j i hi
  rw[d] at a;obtain⟨y,k,rfl⟩:=qU.1 a;have Y:=h y (l y k);exact⟨by rw[aL];exact Y.len,Tr Y⟩
theorem KS.nat {R:List (List (List Int))}(f:KS n O R): ∃R':iA,R=R'.map (List.map zi)/\ ∀g∈R'.flatten,aY n g:=by
 have b: ∀x,(∃i,i<n/\x∈R.getD i [])->x=zi (x.map Int.toNat)/\aY n (x.map Int.toNat):=λx ⟨i,hi,a⟩=>by
  obtain⟨m,k⟩:=f.perm i hi x a;obtain⟨l,j⟩:=Gn k;rw[m] at j;exact⟨l,j⟩
 have mem: ∀r∈R,∀x∈r,∃i,i<n/\x∈R.getD i []:=λr c x a=>by
  obtain⟨i,hi,rfl⟩:=rV.1 c;have:=f.lr;exact⟨i,om,by rw[List.getD,dC hi];exact a⟩
 refine⟨R.map (List.map (List.map Int.toNat)),?_,λg h=>?_⟩
 .rw[List.map_map]
  refine (List.map_id R).symm.trans (Sk λr c=>?_);show r=(r.map (List.map Int.toNat)).map zi;rw[List.map_map];refine (List.map_id r).symm.trans (Sk λx a=>(b x (mem r c x a)).1)
 .obtain⟨o,d,h⟩:=List.mem_flatten.1 h
  obtain⟨r,c,rfl⟩:=qU.1 d;obtain⟨x,a,rfl⟩:=qU.1 h;exact (b x (mem r c x a)).2
theorem Zp.iff {d:iA}(o:1<=n)(h2:n<=64)(j: ∀g∈d.flatten,aY n g){f:LN}{i:iA}(c:bA n (Xd n d) f i):
  Zp (n:Int) O (d.map (List.map zi))↔O=f.map zi/\d.map (List.map zi)=i.map (List.map zi):=by
 have inj: ∀a b:LN,a.map zi=b.map zi->a=b:=λa b h=>map_inj (λ_ _=>Qk) h
 constructor
 .rintro⟨m,O3,R3,e,_,_,rfl,e3,v⟩
  obtain rfl:n=m:=om
  have:=map_inj inj e3
  subst this
  obtain⟨l,k⟩:=(Valid.iff j c).1 v
  subst l k
  exact⟨rfl,rfl⟩
 .rintro⟨rfl,e⟩
  have:=map_inj inj e
  subst this
  exact⟨n,f,d,rfl,o,h2,rfl,rfl,(Valid.iff j c).2 ⟨rfl,rfl⟩⟩
end
end Go.Proofs.YtcdbmkidaecdiaaGreat
namespace Go.Proofs.YtcdbmkidaecdiaaGreat
open Go Go.Ay Go.Pm
section
variable {n i:Nat} {O:List (List Int)} {R:List (List (List Int))}
def MP (n:Nat)(O:List (List Int))(R:List (List (List Int)))(j:Nat):Prop:=((R.getD j []).length=(O.getD j []).length/\(R.getD j []).length<=n-j)/\ ∀x∈R.getD j [],x.length=n/\mW x=true
theorem KS.of (a:O.length=n)(h2:R.length=n)(h: ∀j,j<n->MP n O R j):KS n O R:=⟨a,h2,λi hi=>(h i hi).1,λi hi=>(h i hi).2⟩
theorem uP (a:1<=n)(h2:n<=64)(h: ¬KS n O R):lE (n:Int) O R=3:=by
 unfold lE;rw[bV om,bV (λc=>h c.frm)]
theorem aV {α:Type}{l:List α}{k:Nat}{d:α}(h:k<l.length):l.getD k d∈l:=by
 rw[List.getD,dC h];exact pN h
theorem dJ {α:Type}{l:List α}{k:Nat}(d:α)(h:k<l.length):l.take (k+1)=l.take k++ [l.getD k d]:=by
 rw[<-List.take_append_getElem h,List.getD,dC h];rfl
theorem nH {R:List (List (List Int))}{m:Nat}:{i:Nat}->i<=R.length->(∀j,j<i->(R.getD j []).length<=m)->((R.take i).flatten).length<=i*m
 |0,_,_=>by simp
 |i+1,h,hr=>by
  rw[<-List.take_append_getElem (show i<R.length by omega),List.flatten_append,iB];have b:=nH (i:=i) om (λj c=>hr j om);have a:=hr i om;rw[List.getD,dC om] at a;have a:R[i].length<=m:=a;simp only[List.flatten_cons,List.flatten_nil,qV];rw[Nat.succ_mul];omega
theorem Gv {G:List Nat->Prop}(b: ∀x,G x->aY n x){O:LN}{R:iA}(f:n<=64)(c:bA n G O R):mY (O.map zi)/\rP (R.map (List.map zi)):=by
 have d: ∀i,i<n->(O.getD i []).length<=n:=λi hi=>kP (kC b hi (c.asc i hi) (c.mem i hi)) om
 refine⟨⟨by rw[fL,c.lo];omega,λi hi=>?_⟩,⟨by rw[fL,c.lr];omega,λi hi=>?_⟩⟩
 .rw[fL,c.lo] at hi
  have:(O.map zi).getD i []=zi (O.getD i []):=by simp [List.getD,show i<O.length by rw[c.lo];exact hi]
  rw[this,aL];have:=d i hi;omega
 .rw[fL,c.lr] at hi
  have e:(R.map (List.map zi)).getD i []=(R.getD i []).map zi:=by simp [List.getD,show i<R.length by rw[c.lr];exact hi]
  rw[e,fL,c.rl i hi];refine⟨by have:=d i hi;omega,λk a=>?_⟩
  have:((R.getD i []).map zi).getD k []=zi ((R.getD i []).getD k []):=by
   have:=c.rl i hi;simp [List.getD,show k<(R[i]?.getD []).length by simp [List.getD] at this a;omega]
  rw[this,aL,(b _ (c.rep i hi k a).mem).len];omega
theorem rP.out (s:rP R):qB R:=⟨s.1,λi hi=>(s.2 i hi).1⟩
theorem qB.inn (s:qB R)(f: ∀i,i<R.length-> ∀x∈R.getD i [],x.length=n)(b:n<=64):rP R:=⟨s.1,λi hi=>⟨s.2 i hi,λk a=>by rw[f i hi _ (aV a)];omega⟩⟩
theorem Oo {α:Type}{R:List (List α)}(hi:i<R.length):(R.take (i+1)).flatten=(R.take i).flatten++R.getD i []:=by
 rw[<-List.take_append_getElem hi,List.flatten_append];simp [List.getD,hi]
structure GM (h hh:H)(B id b:Nat)(r:fR)(n:Nat)(vO vR:V)(O:List (List Int))(R:List (List (List Int)))(i:Nat)(acc:List (List Int)):Prop where
 gB:hh.get B=some (.cells false [aC n,vO,vR])
 gR:hh.get (B+1)=some (.cells false [aC 0])
 gN:hh.get (B+1+1)=some (.cells false [aC n])
 gA: ∃va ws,hh.get (B+1+1+1)=some (.cells false [va])/\cW hh va 1 ws (id+1)/\aJ (SI h) ws acc
 gr:hh.get id=some (.loop r)
 gb:hh.get b=some (.cells false [aC n,vO,vR])
 nx:id<hh.next
 fr:Fr h hh
 rows: ∀j,j<i->MP n O R j
structure CkD (h hh:H)(B id:Nat)(r:fR)(n:Nat)(O:List (List Int))(R:List (List (List Int))):Prop where
 gR:hh.get (B+1)=some (.cells false [aC 3])
 gr:hh.get id=some (.loop (sH r .ret))
 nx:id<hh.next
 fr:Fr h hh
 bad: ¬KS n O R
theorem GM.mono {h hh h2:H}{B id b:Nat}{r:fR}{d j:V}{c:List (List Int)}(J:GM h hh B id b r n d j O R i c)(l:B+1+1+1<id)(p:b<id)(f:Fr hh h2):GM h h2 B id b r n d j O R i c:=by
 obtain⟨k,m,g,o,a⟩:=J.gA;have:=J.nx;exact⟨by rw[f.get _ om];exact J.gB,by rw[f.get _ om];exact J.gR,by rw[f.get _ om];exact J.gN,⟨k,m,by rw[f.get _ om];exact g,o.fr f,a⟩,by rw[f.get _ om];exact J.gr,by rw[f.get _ om];exact J.gb,kQ J.nx f.next,J.fr.trans f,J.rows⟩
theorem GM.loop {h hh h2:H}{B id b:Nat}{r r2:fR}{d j:V}{c:List (List Int)}(J:GM h hh B id b r n d j O R i c)(t:B+1+1+1<id)(w:b<id)(p:h.next<=B)(g:h2.get id=some (.loop r2))(f:h2.next=hh.next)(o: ∀k,k≠id->h2.get k=hh.get k):GM h h2 B id b r2 n d j O R i c:=by
 obtain⟨s,u,q,m,a⟩:=J.gA;refine⟨by rw[o _ om];exact J.gB,by rw[o _ om];exact J.gR,by rw[o _ om];exact J.gN,⟨s,u,by rw[o _ om];exact q,m.mono om λk _ _ _ _ v _=>o k om,a⟩,g,by rw[o _ om];exact J.gb,by rw[f];exact J.nx,⟨by rw[f];exact J.fr.next,λk l=>by rw[o k om];exact J.fr.get k l⟩,J.rows⟩
theorem Sy (vc:V)(d:Int)(O:List (List Int))(R:List (List (List Int)))(h:H)(hc:Hd h vc d O R)(hd:d<=7\/64<d)(so:mY O)(sr:qB R):
  Ev T 135 [vc] h (λv h'=>v= aC (lE d O R)/\Fr h h'):=by
 obtain⟨o,q,rfl,sO,sR⟩:=hc
 refine kV ?_
 obtain⟨wO,tO,aO⟩:=sO
 obtain⟨wR,tR,aR,kR⟩:=sR
 have lO:=aO.length
 have lR:=aR.length
 have c1:bH o=some (aC (O.length:Int)):=by unfold bH;rw[tO.len (n:=O.length) om om];rfl
 have e0:bH q=some (aC (R.length:Int)):=by unfold bH;rw[tR.len (n:=R.length) om om];rfl
 have a7:=tO.cM.2.1
 have a9:=tR.cM.2.1
 obtain⟨B,hB⟩:=exI h.next
 obtain⟨h1,e1,n1,g1,o1,f1⟩:=dF hB [aC d,o,q]
 obtain⟨h2,e2,n2,g2,o2,f2⟩:=dF n1 [aC 0]
 obtain⟨h3,e3,n3,g3,o3,f3⟩:=dF n2 [aC 0]
 obtain⟨h4,e4,n4,g4,o4⟩:=lU h3 (B+1+1) [aC d]
 have U:h2.get B=some (.cells false [aC d,o,q]):=by rw[o2 _ om];exact g1
 have a5:h4.get B=some (.cells false [aC d,o,q]):=by rw[o4 _ om,o3 _ om];exact U
 have t:h4.get (B+1)=some (.cells false [aC 0]):=by rw[o4 _ om,o3 _ om];exact g2
 have F4:Fr h h4:=by
  refine⟨om,λid b9=>?_⟩;rw[o4 _ om,o3 _ om,o2 _ om,o1 _ om]
 have Z:(a:H)->(id:Nat)->(x y:Int)->eH (some (.cells false [aC x])) a id 0 [aC y]=some (a.set id (some (.cells false [aC y]))):=λa id x y=>cF siM a _ _
 have bx:=aU h (v:= aC d) (u:=o) (w:=q) rfl a7 a9
 have j7:=H.cell_of t
 have a2: ∀z:Int,(h4.set (B+1) (some (.cells false [aC z]))).cell (B+1) 0=some (aC z)/\Fr h (h4.set (B+1) (some (.cells false [aC z]))):=λz=>⟨by rw[H.zY];rfl,F4.set om _⟩
 by_cases b7:d<1
 .have s:=cJ b7
  simp(disch:=omega)only[go_sem,aI,bx,hB,e1,n1,e2,n2,e3,H.cell_of U,g3,Z,e4,H.cell_of g4,s,t]
  exact⟨by unfold lE;rw[bL (.inl b7)],(a2 2).2⟩
 have s:=bT b7
 by_cases b5:64<d
 .have d2:=cJ b5
  simp(disch:=omega)only[go_sem,aI,bx,hB,e1,n1,e2,n2,e3,H.cell_of U,g3,Z,e4,H.cell_of g4,s,d2,t]
  exact⟨by unfold lE;rw[bL (.inr b5)],(a2 2).2⟩
 have d2:=bT b5
 obtain⟨n,rfl⟩: ∃n:Nat,d=(n:Int):=⟨d.toNat,om⟩
 have Y:1<=n:=om
 have e7:n<=7:=om
 by_cases b2:(O.length:Int)≠(n:Int)
 .have dl:=cJ b2
  simp(disch:=omega)only[go_sem,aI,bx,hB,e1,n1,e2,n2,e3,H.cell_of U,g3,Z,e4,H.cell_of g4,s,d2,t,H.cell_of a5,c1,dl]
  exact⟨by rw[uP Y om (λf=>b2 (by have:=f.lo;omega))],(a2 3).2⟩
 have dl:=bT b2
 by_cases b6:(R.length:Int)≠(n:Int)
 .have b0:=cJ b6
  simp(disch:=omega)only[go_sem,aI,bx,hB,e1,n1,e2,n2,e3,H.cell_of U,g3,Z,e4,H.cell_of g4,s,d2,t,H.cell_of a5,c1,dl,e0,b0]
  exact⟨by rw[uP Y om (λf=>b6 (by have:=f.lr;omega))],(a2 3).2⟩
 have b0:=bT b6
 have d5:h4.next=B+1+1+1:=by rw[n4];exact n3
 obtain⟨h5,e5,n5,g5,o5,f5⟩:=dF d5 [.aD]
 have d0:h5.get B=some (.cells false [aC n,o,q]):=by rw[o5 _ om];exact a5
 have rB:=aE d0
 simp(disch:=omega)only[go_sem,aI,bx,hB,e1,n1,e2,n2,e3,H.cell_of U,g3,Z,e4,H.cell_of g4,s,d2,t,H.cell_of a5,c1,dl,e0,b0,d5,e5,rB]
 refine (FH (n:Int) o q a7 a9 h5).mono ?_
 rintro _ W ⟨rfl,g6,n6,f6⟩
 refine aM ?_
 have F6:Fr h W:=(F4.trans f5).trans f6
 have i9:W.get B=some (.cells false [aC n,o,q]):=by rw[f6.get _ om];exact d0
 have i5:W.get (B+1)=some (.cells false [aC 0]):=by rw[f6.get _ om,f5.get _ om];exact t
 have j2:W.get (B+1+1)=some (.cells false [aC n]):=by rw[f6.get _ om,f5.get _ om];exact g4
 have j4:W.get (B+1+1+1)=some (.cells false [.aD]):=by rw[f6.get _ om];exact g5
 refine⟨rfl,tG λr hr=>?_⟩
 obtain⟨id,b9⟩:=exI W.next
 obtain⟨b,hb⟩:=exI h5.next
 rw[hb] at g6 n6
 rw[b9,hb]
 have jE:r.st= .ready:=by rw[hr]
 have b4:r.pend=none:=by rw[hr]
 have j0:R.length=n:=om
 have i3:O.length=n:=om
 have f7:Fr W (W.new (.loop r)):=(Fr.refl W).new _
 have o7: ∀k,k<id->(W.new (.loop r)).get k=W.get k:=λk hk=>H.bN W om _
 have J0:GM h (W.new (.loop r)) B id b r n o q O R 0 []:=
  ⟨by rw[o7 _ om];exact i9,by rw[o7 _ om];exact i5,by rw[o7 _ om];exact j2,⟨.aD, [],by rw[o7 _ om];exact j4,cW.aD _ _ _,trivial⟩,by rw[<-b9,H.aQ],by rw[o7 _ om];exact g6,by rw[H.aZ];omega,F6.trans f7,λj hj=>om⟩
 refine (Xu id b (n:Int) o q wR _ (by rw[lR];exact sr.1) (λi a=>GM h a B id b r n o q O R i (R.take i).flatten) (λa=>CkD h a B id r n O R) J0 (λi a J=>⟨J.gb,tR.mono J.fr⟩) ?_).mono ?_
 .rintro i a hi J
  have a1:i<n:=om
  refine sW J.gr (by rw[hr];rfl) jE λQ g7 n7 o7=>?_
  rw[congrArg fR.assign hr,congrArg fR.vars hr,congrArg fR.pars hr]
  simp(disch:=omega)only[go_sem,List.zip_cons_cons,List.zip_nil_left]
  rw[congrArg fR.body hr]
  have J7:GM h Q B id b (pL r) n o q O R i (R.take i).flatten:=J.loop om om om g7 n7 o7
  have c4:=gH aO (i:=i) om .undef []
  have c9:=gH aR (i:=i) om .undef []
  obtain⟨wr,tr,ar⟩:=c9
  have lr:=ar.length
  have c2:bH (wR.getD i .undef)=some (aC ((R.getD i []).length:Int)):=by unfold bH;rw[tr.len (n:=(R.getD i []).length) om om];rfl
  have c0:=c4.lens
  obtain⟨g8,d8,a3,c7,c5⟩:=(tO.mono J7.fr).shape O.length om om
  have co:Q.cell g8 (d8+i)=some (wO.getD i .undef):=by rw[c5 i om,List.getD,dC om];rfl
  have cB:=H.cell_of J7.gB
  have cN:=H.cell_of J7.gN
  have d9: ∀a N,GM h a B id b (pL r) n o q O R i N-> ¬KS n O R->CkD h ((a.set (B+1) (some (.cells false [aC 3]))).set id (some (.loop (sH r .ret)))) B id r n O R:=λa N J hb=>by
   have:=J.nx;refine⟨by rw[H.aF _ om,H.aW],by rw[H.aW],J.nx,(J.fr.set om _).set om _,hb⟩
  have yq: ∀a p N,GM h a B id b (pL r) n o q O R i N-> ¬KS n O R->Eh id (λv h'=>v= .bool true/\GM h h' B id b r n o q O R (i+1) (R.take (i+1)).flatten\/v= .bool false/\CkD h h' B id r n O R) .ret p (a.set (B+1) (some (.cells false [aC 3]))):=λa p N J hb=>
   Mk (by rw[H.aF _ om];exact J.gr) (.inr ⟨rfl,d9 a N J hb⟩)
  by_cases A:((R.getD i []).length:Int)≠((O.getD i []).length:Int)
  .have s:=cJ A
   refine qL c2 cB @a3.ixa co c0 s @J7.gR Z ?_
   exact yq _ _ _ J7 λf=>A (by have:=(f.row i a1).1;omega)
  have s:=bT A
  by_cases c3:(n:Int)-(i:Int)<((R.getD i []).length:Int)
  .have d2:=cJ c3
   simp(disch:=omega)only[go_sem,c2,cB,cN,a3.ixa,co,c0,s,d2,J7.gR,Z]
   exact yq _ _ _ J7 λf=>by have:=(f.row i a1).2;omega
  have d2:=bT c3
  refine qL c2 cB cN @a3.ixa co c0 s d2 ?_
  refine aH (λk' p a=> ∃(k:Nat),(∃g:Nat->V,p= [g 0,.ptr B 0,.ptr (B+1) 0,.ptr (B+1+1) 0,.ptr (B+1+1+1) 0,g 5,g 6,g 7,g 8,g 9,g 10,g 11,g 12,g 13,wR.getD i .undef,aC ((R.getD i []).length:Int),aC k,g 17,g 18,g 19])/\k<=(R.getD i []).length/\GM h a B id b (pL r) n o q O R i ((R.take i).flatten++(R.getD i []).take k)/\
    (∀x∈(R.getD i []).take k,x.length=n/\mW x=true)/\k'=(R.getD i []).length-k) (R.getD i []).length
   ⟨0,aB rfl,fE _,by rw[List.take_zero,qV];exact J7,λx hx=>by simp at hx,rfl⟩ ?_
  clear co cB cN c7 c5 J7 s d2 a3 g7 n7 o7 Q
  rintro k' p h8 ⟨k,⟨g,rfl⟩,hk,K,b1,rfl⟩
  by_cases c8:(k:Int)<((R.getD i []).length:Int)
  case neg=>
   have e1:=bT c8;obtain rfl:k=(R.getD i []).length:=om
   rw[List.take_length] at K b1;rw[<-Oo om] at K;refine bE e1 ?_;refine pD jE b4 K.gr (.inl ⟨rfl,?_⟩);have l:=K.loop (h2:=h8.set id (some (.loop r))) om om om (by rw[H.aW]) rfl (λk hk=>H.aF _ hk _)
   have b8: ∀j,j<i+1->MP n O R j:=λj hj=>by
    by_cases e:j=i
    .subst e;exact⟨⟨om,om⟩,b1⟩
    .exact l.rows j om
   exact⟨l.gB,l.gR,l.gN,l.gA,l.gr,l.gb,l.nx,l.fr,b8⟩
  have e1:=cJ c8
  have a0:k<(R.getD i []).length:=om
  obtain⟨x,hx⟩:=exI ((R.getD i []).getD k [])
  have sx:=gH ar a0 .undef []
  rw[hx] at sx
  have d3:x∈R.getD i []:=by rw[<-hx];exact aV a0
  obtain⟨h0,e8,d4,j5,j3⟩:=(tr.mono K.fr).shape (R.getD i []).length om om
  have ck:h8.cell h0 (e8+k)=some (wr.getD k .undef):=by rw[j3 k om,List.getD,dC om];rfl
  have cN:=H.cell_of K.gN
  generalize wr.getD k .undef=vx at sx ck
  have d7:=sx.lens
  by_cases A:(x.length:Int)≠(n:Int)
  .have s:=cJ A
   refine qL e1 @d4.ixa ck d7 cN s @K.gR Z ?_
   exact yq _ _ _ K λf=>A (by have:=(f.perm i a1 x d3).1;omega)
  have s:=bT A
  refine kA e1 @d4.ixa ck d7 cN s ?_
  refine (tW vx x h8 om (sx.mono K.fr)).mono ?_
  rintro _ h9 ⟨rfl,f9⟩
  have l:=K.mono om om f9
  cases hpk:mW x with
  |false=>
   have e3:decide (Ma x≠0)=true:=cJ (by unfold Ma;rw[bV om,hpk];simp);refine dQ e3 @l.gR Z ?_;exact yq _ _ _ l λf=>by have:=(f.perm i a1 x d3).2;rw[hpk] at this;cases this
  |true=>
   have e3:decide (Ma x≠0)=false:=bT (by unfold Ma;rw[bV om,hpk];simp);obtain⟨va,ws,gA,ow,al⟩:=l.gA
   have one:vx.cells= [vx]/\vx.one=true:=⟨sx.cM.1,sx.cM.2.1⟩
   have k4:=l.nx;obtain⟨b3,i6,k3,i4,k0,P⟩:=dF (h:=h9) rfl [vx];have cA:=H.cell_of gA;have j6:b3.cell (B+1+1+1) 0=some va:=by rw[H.cell_of (by rw[P.get _ om];exact gA)];rfl
   have k2:=al.length
   have j8:((R.take i).flatten++(R.getD i []).take k).length<=400:=by
    have h1:=nH (m:=7) (R:=R) (i:=i) om (λj hj=>by have:=(l.rows j hj).1.2;omega);have h2:i*7<=7*7:=Nat.mul_le_mul_right 7 om;rw[iB,wH];omega
   obtain⟨e6,i1,a6⟩:=(ow.fr P).push (bytes:=24) (SV.one om i4 (.kn 1)) (n:=ws.length) (m:=1) om rfl om om om;have ap: ∀k,k<=id->dS va k:=λk hk k1 i2 m c e e2=>by have:=(ow.in _ _ _ _ e).2.1;omega
   have d6:e6.get (B+1+1+1)=some (.cells false [va]):=by rw[a6.old _ om (ap _ om),P.get _ om];exact gA
   have j9:=a6.next;have i0:(a:H)->(y:V)->eH (some (.cells false [va])) a (B+1+1+1) 0 [y]=some (a.set (B+1+1+1) (some (.cells false [y]))):=λa y=>cF siM a _ _
   refine uA e3 cA (cQ h9 (z:= .aD) one.1 one.2) i6 i1 d6 i0 ?_;rw[eJ k]
   have G: ∀k,k<=id->k≠B+1+1+1->(e6.set (B+1+1+1) (some (.cells false [.sl b3.next 0 (ws.length+1) (.un 1)]))).get k=h9.get k:=λk h1 h2=>by
    rw[H.aF _ h2,a6.old _ om (ap _ h1),P.get _ om]
   have tk:(R.take i).flatten++(R.getD i []).take (k+1)=((R.take i).flatten++(R.getD i []).take k)++ [x]:=by
    rw[pJ,dJ [] a0,hx]
   refine⟨(R.getD i []).length-(k+1),om,k+1,aB rfl,om,⟨by rw[G _ om om];exact l.gB,by rw[G _ om om];exact l.gR,by rw[G _ om om];exact l.gN,⟨_,ws++ [vx],by rw[H.aW],?_,?_⟩,by rw[G _ om om];exact l.gr,by rw[G _ om om];exact l.gb,by simp only[H.dE];omega,?_,l.rows⟩,λy hy=>?_,rfl⟩
   .refine (a6.own (b:=id+1) om rfl om).mono (eU _) λk i2 m c e h1 h2=>H.aF _ om _
   .rw[tk];exact al.append ⟨sx,trivial⟩
   .refine⟨by simp only[H.dE];have:=l.fr.next;omega,λk hk=>?_⟩
    rw[G k om om];exact l.fr.get k hk
   .rw[dJ [] a0,hx] at hy
    rcases jO.1 hy with hy|hy
    .exact b1 y hy
    .rw[List.mem_singleton.1 hy]
     exact⟨om,hpk⟩
 .rintro _ a (J|D)
  .refine⟨r,J.gr,by rw[jE];simp,?_⟩
   have en:r.pend.getD .norm= .norm:=by rw[b4];rfl
   rw[en]
   rw[lR,List.take_length] at J
   have J:=J.loop (r2:={r with st:= .out}) (h2:=a.set id (some (.loop {r with st:= .out}))) om om om (by rw[H.aW]) rfl (λk hk=>H.aF _ hk _)
   generalize a.set id (some (.loop {r with st:= .out}))=Q at J
   clear J0 f7 o7 b4 jE hr
   have frm:KS n O R:=KS.of i3 j0 λj hj=>J.rows j om
   obtain⟨R',eR,hP⟩:=frm.nat
   obtain⟨va,ws,gA,ow,al⟩:=J.gA
   have eF:R.flatten=R'.flatten.map zi:=by rw[eR,List.map_flatten]
   rw[eF] at al
   have nx:=J.nx
   have rB:=aE J.gB
   have cN:=H.cell_of J.gN
   have cA:=H.cell_of gA
   have fb:Fr Q (H.mk Q.tr (Q.next+7)):=(Fr.refl Q).bU om
   have f4:SP (H.mk Q.tr (Q.next+7)) va R'.flatten:=⟨ws,(ow.fr fb).sv,al.mono λ_ _ x=>x.mono (J.fr.trans fb)⟩
   have e9:R'.flatten.length<1000000:=by
    have h1:=nH (m:=7) (R:=R) (i:=n) om (λj hj=>by have:=(J.rows j om).1.2;omega);have h2:n*7<=7*7:=Nat.mul_le_mul_right 7 om;rw[Bo om,eF,fL] at h1;omega
   refine dQ (aE (h:=H.mk Q.tr (Q.next+7)) J.gB) cN cA ?_
   refine (Sw n va R'.flatten _ Y e7 e9 f4 hP).mono ?_
   rintro _ h8 ⟨i7,L,F,τ,rfl,RR,tl,f8,_⟩
   have F8:Fr Q h8:=fb.trans f8
   have K:=J.mono om om F8
   have eO:=tO.dM
   have c6:=tR.dM
   refine dQ (aE K.gB) eO c6 ?_
   refine (Mg h8 n i7 L F τ e7 RR tl.tw).mono ?_
   rintro g9 h9 ⟨O2,R2,j1,i8,f9⟩
   have l:=K.mono om om f9
   have a8:bA n (Xd n R') O2 R2:=i8.congr tl.group
   obtain⟨f0,g0⟩:=Gv (λx hx=>bX.bM hP hx) om a8
   refine dQ (aE l.gB) eO c6 ?_
   refine (SD _ g9 (n:Int) (n:Int) O (O2.map zi) R (R2.map (List.map zi)) h9 ⟨o,q,rfl,⟨wO,tO.mono l.fr,aO.mono λ_ _ x=>x.mono l.fr⟩,⟨wR,tR.mono l.fr,aR.mono (λ_ _ x=>x.mono l.fr),kR⟩⟩ j1.ch so f0 (sr.inn (λj hj x hx=>(frm.perm j om x hx).1) om) g0).mono ?_
   rintro _ b3 ⟨rfl,P⟩
   have a4:=l.mono om om P
   have iff:=Zp.iff (O:=O) Y om hP a8
   rw[<-eR] at iff
   by_cases hq:(n:Int)=(n:Int)/\O=O2.map zi/\R=R2.map (List.map zi)
   .have ed:=cJ hq
    rw[ed]
    refine cU @a4.gR Z ?_
    refine⟨?_,a4.fr.set om _⟩
    unfold lE
    rw[bV om,bL (iff.2 hq.2)]
   .have ed:=bT hq
    rw[ed]
    refine cU @a4.gR Z ?_
    refine⟨?_,a4.fr.set om _⟩
    unfold lE
    rw[bV om,bV (λc=>hq ⟨rfl,iff.1 c⟩)]
  .refine⟨_,D.gr,by simp [sH],?_⟩
   have en:(sH r .ret).pend.getD .norm= .ret:=rfl
   rw[en]
   have nx:=D.nx
   have gR:(a.set id (some (.loop {sH r .ret with st:= .out}))).cell (B+1) 0=some (aC 3):=by rw[H.Gx _ om,H.cell_of D.gR];rfl
   refine bE gR ?_
   exact⟨by rw[uP Y om D.bad],D.fr.set (by have:=D.fr.next;omega) _⟩
end
end Go.Proofs.YtcdbmkidaecdiaaGreat
namespace Go.Proofs.YtcdbmkidaecdiaaGreat
open Go Go.Ay Go.Pm
theorem CC {x:Nat}:Bn .shr .u64 (x:Int) 1=some (.int .u64 ((x/2:Nat):Int)):=by
 unfold Bn;rw[bV om];simp only;congr 2;show Int.fdiv (x:Int) 2=_;rw[Int.fdiv_eq_ediv_of_nonneg _ om];rfl
theorem Av (u:V)(a:List Nat)(p:Nat)(h:H)(hn:a.length<1000000)(J:a.Pairwise (· < ·))(R:SI h u (zi a)):
  Ev T 103 [u,aC p] h (λv h'=> ∃k f,v= .tup [aC (k:Nat),.bool f]/\(f=true↔p∈a)/\(f=true->k<a.length/\a.getD k 0=p)/\Fr h h'):=by
 have U:=R.lens
 rw[aL] at U
 refine yF U ?_
 have mono: ∀i j,i<j->j<a.length->a.getD i 0<a.getD j 0:=λi j t o=>by
  rw[bJ om,bJ o];exact Sr.1 J i j om o t
 refine aH (λO d B=> ∃(i j:Nat),(∃g:Nat->V,d= [u,aC p,g 2,g 3,aC (a.length:Int),aC i,aC j,g 7,g 8,g 9])/\i<=j/\j<=a.length/\(∀m,m<i->a.getD m 0<p)/\(∀m,j<=m->m<a.length->p<=a.getD m 0)/\Fr h B/\O=j-i) a.length
  ⟨0,a.length,aB rfl,om,om,λm c=>om,λm t o=>om,Fr.refl h,rfl⟩ ?_
 rintro O d B ⟨i,j,⟨g,rfl⟩,Y,hj,l,w,F,rfl⟩
 obtain⟨id,K,A,N,W⟩:=(R.mono F).open
 rw[aL] at A N W
 have cell: ∀m,m<a.length->B.cell id (K+m)=some (aC (a.getD m 0:Nat)):=λm c=>by rw[W m c];congr 2;simp [zi,c]
 by_cases r:(i:Int)<(j:Int)
 .have z:=cJ r
  have ea:(i:Int)+(j:Int)=((i+j:Nat):Int):=om
  obtain⟨m,c⟩:=exI ((i+j)/2)
  have sr:=CC (x:=i+j)
  rw[c] at sr
  have Z:=cell m om
  simp(disch:=omega)only[go_sem,z,ea,Ck,xG,jC (n:=((i+j:Nat):Int)) om om,sr,A.ixa,Z]
  refine (Vp _ _ _).mono ?_
  rintro _ h3 ⟨rfl,G⟩
  by_cases P:((a.getD m 0:Nat):Int)<(p:Int)
  .have b:Go.Sort.ltInt ((a.getD m 0:Nat):Int) (p:Int)=true:=by unfold Go.Sort.ltInt;exact cJ P
   rw[b]
   refine aM ?_
   rw[eJ m]
   refine⟨j-(m+1),om,m+1,j,aB rfl,om,hj,λq hq=>?_,w,F.trans G,rfl⟩
   by_cases e:q=m
   .rw[e];omega
   .have:=mono q m om om;omega
  .have b:Go.Sort.ltInt ((a.getD m 0:Nat):Int) (p:Int)=false:=by unfold Go.Sort.ltInt;exact bT P
   rw[b]
   refine aM ?_
   refine⟨m-i,om,i,m,aB rfl,om,om,l,λq t o=>?_,F.trans G,rfl⟩
   by_cases e:q=m
   .rw[e];omega
   .have:=mono m q om o;omega
 have z:=bT r
 obtain rfl:i=j:=om
 by_cases y:(i:Int)<(a.length:Int)
 .have b:=cJ y
  have ci:=cell i om
  by_cases s:((a.getD i 0:Nat):Int)=(p:Int)
  .have L:=cJ s
   refine kA z b @A.ixa ci L @jS ?_
   exact⟨i,true,rfl,⟨λ_=>by rw[show p=a.getD i 0 by omega];exact aV om,λ_=>rfl⟩,λ_=>⟨om,om⟩,F⟩
  .have L:=bT s
   refine kA z b @A.ixa ci L @jS ?_
   refine Ev.mono (Q:=λv h'=>v= .bool false/\Fr B h') ?_ ?_
   .refine kV ?_
    have e: ∀x:Int,decide (x≠x)=false:=λx=>bT om
    refine cU @aI e ?_
    exact Fr.refl _
   rintro _ h3 ⟨rfl,G⟩
   refine aM ?_
   refine⟨i,false,rfl,⟨λh=>(by cases h),λh=>?_⟩,λh=>(by cases h),F.trans G⟩
   exfalso
   obtain⟨m,c,e⟩:=rV.1 h
   rw[<-bJ (a:=a) c] at e
   by_cases t:m<i
   .have:=l m t;omega
   .have o:m≠i:=λb=>by subst b;omega
    have:=mono i m om c
    have:=w i om om
    omega
 .have b:=bT y
  refine dQ z b @jS ?_
  refine⟨i,false,rfl,⟨λh=>(by cases h),λh=>?_⟩,λh=>(by cases h),F⟩
  exfalso
  obtain⟨m,c,e⟩:=rV.1 h
  rw[<-bJ (a:=a) c] at e
  have:=l m om
  omega
end Go.Proofs.YtcdbmkidaecdiaaGreat
namespace Go.Proofs.YtcdbmkidaecdiaaGreat
open Go Go.Ay Go.Pm
theorem fO {α β:Type}(f:α->β){l:List α}{i:Nat}{d:α}{e:β}(h:i<l.length):(l.map f).getD i e=f (l.getD i d):=by
 simp [List.getD,h]
theorem wQ.mono {h h' h2:H}{v:V}{l:List Int}(f:wQ h h' v l)(g:Fr h' h2):wQ h h2 v l:=by
 obtain⟨id,a,e,c,b,i,d⟩:=f.ex;exact⟨⟨id,a,e,c,kQ b g.next,by rw[g.get _ b];exact i,d⟩,f.fr.trans g⟩
theorem uS {h h':H}{v:V}{l:List Nat}(n:Vf h h' v l):wQ h h' v (zi l):=by
 have⟨e,g,nx,f⟩:=n;exact⟨⟨h.next,_,by rw[e,aL],eU _,om,g,.inr (by rw[aL])⟩,f⟩
theorem wQ.le {b h h':H}{v:V}{l:List Int}(f:wQ h h' v l)(g:Fr b h):wQ b h' v l:=by
 obtain⟨id,a,e,c,i,j,d⟩:=f.ex;exact⟨⟨id,a,e,kP g.next c,i,j,d⟩,g.trans f.fr⟩
end Go.Proofs.YtcdbmkidaecdiaaGreat
namespace Go.Proofs.YtcdbmkidaecdiaaGreat
open Go Go.Ay Go.Pm
section
variable {W:Nat->Prop} {h:H} {vc:V} {n:Nat} {O:LN} {G:List Nat->Prop}
structure GC (W:Nat->Prop)(h:H)(vc:V)(n:Nat)(O:LN)(R:iA)(G:List Nat->Prop):Prop where
 cw:KU W h vc n O R
 isc:bA n G O R
 cX:eM n G
 n0:1<=n
 n7:n<=7
theorem GC.go {W':Nat->Prop}{h':H}{R:iA}(g:GC W h vc n O R G)(f:Fx W h h')(a: ∀id,id<h.next->W' id->W id):GC W' h' vc n O R G:=⟨g.cw.go f a,g.isc,g.cX,g.n0,g.n7⟩
theorem GC.ch {R:iA}(g:GC W h vc n O R G):Hd h vc (n:Int) (O.map zi) (R.map (List.map zi)):=g.cw.ch
theorem GC.mono {h':H}{R:iA}(g:GC W h vc n O R G)(f:Fr h h'):GC W h' vc n O R G:=⟨g.cw.mono f,g.isc,g.cX,g.n0,g.n7⟩
theorem Mz {n:Nat}{G:List Nat->Prop}(b:eM n G){O:LN}{R:iA}(c:bA n G O R): ∀d i x,i+d=n->G x->Fix i x->Xd n R x
 |0,i,x,h,hx,fx=>by
  have X:=b.bM hx;obtain rfl:i=n:=om
  rw[fx.all X];exact .one
 |d+1,i,x,h,hx,fx=>by
  have hi:i<n:=om
  have X:=b.bM hx;have m:=(c.mem i hi (x.getD i 0)).2 ⟨x,hx,fx,rfl⟩;obtain⟨k,f,e⟩:=rV.1 m;have a:=c.rep i hi k f;rw[bJ f,e] at a;obtain⟨z,l⟩:=exI ((R.getD i []).getD k []);rw[l] at a;have Z:=b.bM a.mem
  have j:z∈R.flatten:=by
   have p:k<(R.getD i []).length:=by rw[c.rl i hi];exact f
   exact List.mem_flatten.2 ⟨R.getD i [],aV (by rw[c.lr];exact hi),by rw[<-l];exact aV p⟩
  have o:=Mz b c d (i+1) (aS x (cK z)) om (b.mul hx (b.inv a.mem)) ((Fix.mul X om fx (Fix.inv Z om a.fix)).succ (by
   rw[dI (by rw[X.len];exact hi)];have:=rE Z hi
   rwa [a.maps] at this))
  have:=bX.mul o j;rwa [aG X Z.inv Z,dU Z,bD X] at this
theorem iD {R:iA}(c:bA n G O R): ∀g∈R.flatten,G g:=λg d=>by
 obtain⟨r,j,d⟩:=List.mem_flatten.1 d;obtain⟨i,hi,rfl⟩:=rV.1 j;obtain⟨k,f,rfl⟩:=rV.1 d;have a:i<n:=by have:=c.lr;omega
 have e:R.getD i []=R[i]:=by rw[List.getD,dC hi];rfl
 have b:k<(O.getD i []).length:=by rw[<-c.rl i a,e];exact f
 have:=(c.rep i a k b).mem;rw[e,List.getD,dC f] at this;exact this
theorem mT (a:eM n G){R:iA}(c:bA n G O R)(x:List Nat):Xd n R x↔G x:=
 ⟨λh=>h.le a (iD c),λh=>Mz a c n 0 x om h (λk b=>om)⟩
theorem GC.IB {R:iA}(g:GC W h vc n O R G):lE (n:Int) (O.map zi) (R.map (List.map zi))=0:=by
 unfold lE;have:=g.n0;have:=g.n7;rw[bV om,bL ⟨n,O,R,rfl,g.n0,om,rfl,rfl,λx a=>g.cX.bM (iD g.isc x a),g.isc.congr λx=>(mT g.cX g.isc x).symm⟩]
theorem GC.small {R:iA}(g:GC W h vc n O R G):mY (O.map zi)/\rP (R.map (List.map zi)):=Gv (λx a=>g.cX.bM a) (by have:=g.n7;omega) g.isc
theorem GC.check {R:iA}(g:GC W h vc n O R G):Ev T 135 [vc] h (λv h'=>v= aC 0/\Fr h h'):=by
 have:=Sy vc _ _ _ h g.ch (.inl (by have:=g.n7;omega)) g.small.1 g.small.2.out;rwa [g.IB] at this
theorem Am {x:List Nat}(X:aY n x)(a:1<=n)(h2:n<=64):Ma (zi x)=0:=by
 unfold Ma;rw[bV (by rw[aL,X.len];omega),Tr X];rfl
end
end Go.Proofs.YtcdbmkidaecdiaaGreat
namespace Go.Proofs.YtcdbmkidaecdiaaGreat
open Go Go.Ay Go.Pm
theorem Hy (c:V)(n:Nat)(l:LN)(h:H)(x:1<=n)(z:n<=7)(hl:l.length<=4096)(K:SP h c l)(N: ∀g∈l,aY n g):
  Ev T 101 [aC n,c] h (λv h'=> ∃vc O R,v= .tup [vc,aC 0]/\GC (λid=>id<h.next) h' vc n O R (bX n (· ∈l))/\Fr h h'):=by
 obtain⟨B,hB⟩:=exI h.next
 obtain⟨Q,e1,n1,g1,o1,f1⟩:=dF hB [aC 0,.aD,.aD]
 have d1:decide ((n:Int)<1)=false:=bT om
 have d2:decide ((64:Int)<(n:Int))=false:=bT om
 have lv:=K.lens
 rw[fL] at lv
 have d3:decide ((4096:Int)<(l.length:Int))=false:=bT om
 obtain⟨id,W,ws,sh,a,P,d,p⟩:=K.open
 rw[fL] at sh a P d
 refine GG hB e1 d1 d2 lv d3 ?_
 refine bY (λt Y=>(∃g:Nat->V,t= [aC n,c,.ptr B 0,g 3,g 4,g 5,g 6,g 7,g 8,g 9,g 10,g 11,g 12,g 13])/\Fr Q Y) ?_ ?_
 .refine aH (λk' t Y=> ∃(i:Nat),(∃g:Nat->V,t= [aC n,c,.ptr B 0,g 3,g 4,g 5,g 6,g 7,c,aC (l.length:Int),aC i,g 11,g 12,g 13])/\i<=l.length/\Fr Q Y/\k'=l.length-i) l.length
   ⟨0,aB rfl,fE _,Fr.refl Q,rfl⟩ ?_
  rintro k' o r ⟨i,⟨g,rfl⟩,hi,f,rfl⟩
  by_cases m:(i:Int)<(l.length:Int)
  .have d4:=cJ m
   have b:i<l.length:=om
   have F2:=f1.trans f
   have ci:r.cell id (W+i)=some (ws.getD i .undef):=by rw[F2.cell (a om),d i b]
   have U:=wF p b
   have X:aY n (l.getD i []):=N _ (aV b)
   generalize ws.getD i .undef=vx at ci U
   have lx:=U.lens
   rw[aL,X.len] at lx
   refine dQ d4 @sh.ixa ci ?_
   refine (tW vx _ r (by rw[aL,X.len];omega) (U.mono F2)).mono ?_
   rw[Am X x om]
   rintro _ A ⟨rfl,j⟩
   refine aM ?_
   refine bI (λd=>(d rfl).elim) (λ_=>?_)
   refine bE lx ?_
   refine bI (λd=>(d rfl).elim) (λ_=>?_)
   refine aM ?_
   rw[eJ i]
   exact⟨l.length-(i+1),om,i+1,aB rfl,om,f.trans j,rfl⟩
  have d4:=bT m
  refine bE d4 ?_
  exact⟨aB rfl,f⟩
 rintro o r ⟨⟨g,rfl⟩,f⟩
 have F2:=f1.trans f
 refine aM ?_
 refine (Sw n c l r x z om (K.mono F2) N).mono ?_
 rintro _ A ⟨y,L,F,τ,rfl,R,tl,j,_⟩
 refine aM ?_
 refine (Mg A n y L F τ z R tl.tw).mono ?_
 rintro vc s ⟨O,R',ch,G,J⟩
 have F4:=(F2.trans j).trans J
 have g4:s.get B=some (.cells false [aC 0,.aD,.aD]):=by rw[J.get _ (by have:=j.next;have:=f.next;omega),j.get _ (by have:=f.next;omega),f.get _ om];exact g1
 have Z:=ch
 have⟨vO,vR,a1,a0,e,t1,_,_,t2,_,_⟩:=ch
 subst e
 have k:=t1.cM.2.1
 have q:=t2.cM.2.1
 obtain⟨h5,e5,n5,g5,o5⟩:=lU s B [aC n,vO,vR]
 have r5:=aE g5
 refine iT (bW s B 0 (v:= aC n) (u:=vO) (w:=vR) rfl k q) g4 @bQ e5 r5 ?_
 have n3:=j.next
 have n2:=f.next
 have n4:=J.next
 have f5:Fx (λid=>id<A.next) s h5:=⟨om,λid _ a=>o5 id om⟩
 refine⟨_,O,R',rfl,⟨Z.go f5 (λid _ h=>om),G.congr tl.group,bX.cX N,x,z⟩,⟨by have:=F4.next;omega,λid a=>by rw[o5 id om];exact F4.get id a⟩⟩
end Go.Proofs.YtcdbmkidaecdiaaGreat
namespace Go.Proofs.YtcdbmkidaecdiaaGreat
open Go Go.Ay Go.Pm
section
variable {b A:Nat} {hh:H} {l:LN}
theorem CW {h:H}{v:V}{ws:List V}(s:SV h v 1 ws)(k:Wg v)(p:1<=ws.length): ∃v',pI 1 v (some (aC 1)) none none=some v'/\SV h v' 1 (ws.drop 1):=by
 rcases s with ⟨_,e⟩|⟨id,a,len,r,f,d,rfl,i,j,m,t,o⟩
 .rw[e] at p;simp at p
 have u:kT none len len=some len:=by simp [kT]
 have n:((d.drop a).take (len*1)).drop 1=(d.drop (a+1)).take (len- 1):=by
  rw[List.drop_take,List.drop_drop,qZ]
 rcases k _ _ _ _ rfl with rfl|⟨c,rfl,w⟩
 .by_cases q:1<len
  .refine⟨.sl id (a+1) (len- 1) (.un 1),?_,.inr ⟨id,a+1,len- 1,_,f,d,rfl,by rw[Nx,i];omega,j,m,om,by rw[<-o,n,qZ]⟩⟩
   simp [pI,kT,q,show (1:Int)<=(len:Int) by omega]
  .refine⟨.sl id a 0 (.un 1),?_,.inr ⟨id,a,0,_,f,d,rfl,by rw[Nx,i];omega,j,m,om,?_⟩⟩
   .have:len=1:=om
    subst this;simp [pI,kT]
   .have:ws.drop 1= []:=Yl (by rw[Nx];omega)
    rw[this];simp
 .refine⟨.sl id (if c=1 then a else a+1) (len- 1) (.kn (c- 1)),?_,.inr ⟨id,_,len- 1,_,f,d,rfl,by rw[Nx,i];omega,j,m,by split<;>omega,?_⟩⟩
  .have:1<=len:=om
   simp [pI,kT,show (1:Int)<=(len:Int) by omega,show 1<=c by omega]
  .by_cases e:c=1
   .have:ws.drop 1= []:=Yl (by rw[Nx];omega)
    rw[this];have:len- 1=0:=om
    rw[this];simp
   .rw[bV e,<-o,n,qZ]
def Hq (b:Nat)(hh:H)(A:Nat)(l:LN):Prop:= ∃va ws W,hh.get A=bG [va]/\cW hh va 1 ws b/\fG W hh ws l/\Dp W va/\(∀id,id<b->W id)/\ ∀id,W id->id<hh.next
theorem Hq.mono {h2:H}(a:Hq b hh A l)(m:A<hh.next)(f:Fr hh h2):Hq b h2 A l:=by
 have⟨i,j,W,g,o,p,k,c,d⟩:=a;exact⟨i,j,W,by rw[f.get _ m];exact g,o.fr f,p.fx (Fx.of f),k,c,λid h=>kQ (d id h) f.next⟩
theorem Hq.other {h2:H}(a:Hq b hh A l){k:Nat}(t:k<b)(c:k≠A)(n:h2.next=hh.next)(o: ∀j,j≠k->h2.get j=hh.get j):Hq b h2 A l:=by
 have⟨i,s,W,g,q,p,r,d,u⟩:=a
 have f:Fx W hh h2:=⟨om,λid v m=>o id λe=>m (e▸d k t)⟩
 exact⟨i,s,W,by rw[o _ (Ne.symm c)];exact g,q.mono om λid _ _ _ _ v _=>o id om,fG.go p f (λ_ _ h=>h),r,d,λid h=>by rw[n];exact u id h⟩
theorem Hq.push {d:H}(a:Hq b hh A l)(B:A<b){x:List Nat}{s y:V}(bytes:Nat)(N:bytes<=24)(hl:l.length<1000000)(f:Fr hh d)(Z:b<=hh.next)(L:PV (λid=>id<hh.next) d s x)(O:SV d y 1 [s]):
  ∃va h6,hh.get A=bG [va]/\rD d 1 bytes va y=some (.sl d.next 0 (l.length+1) (.un 1),h6)/\h6.get A=bG [va]/\h6.next=d.next+1/\(∀k,k<b->h6.get k=d.get k)/\
   (va.cells= [va]/\va.one=true)/\dM va va=true/\ ∀h7,h6.set A (bG [.sl d.next 0 (l.length+1) (.un 1)])=h7->Hq b h7 A (l++ [x]):=by
 have⟨va,R,W,g,o,p,P,G,J⟩:=a
 have K:=aJ.length p
 have nx:=f.next
 obtain⟨h6,Y,r⟩:=(o.fr f).push (bytes:=bytes) O (n:=l.length) (m:=1) om rfl om om ⟨by have:=Nat.mul_le_mul_left (2*(l.length+1)+1000) N;omega,om⟩
 have ap: ∀k,k<b->dS va k:=λk z id j m c e e2=>by have:=(o.in _ _ _ _ e).2.1;omega
 have U:=r.next
 have w: ∀k,k<b->h6.get k=d.get k:=λk z=>r.old k om (ap k z)
 refine⟨va,h6,g,Y,by rw[w A B,f.get A om];exact g,U,w,⟨o.sv.cM.1,o.sv.cM.2.1⟩,o.sv.dM,λh7 e=>?_⟩
 subst e
 have t:Fx W d h6:=r.fx P
 have v:Fx W h6 (h6.set A (bG [.sl d.next 0 (l.length+1) (.un 1)])):=Fx.set h6 (G A B) _
 have i:=t.trans v (λ_ _ h=>h)
 have F: ∀id,id<d.next->(W id\/id=d.next)->W id:=λid Q q=>by
  rcases q with q|q
  .exact q
  .omega
 have u:PV W d s x:=L.jK λid _ h=>J id h
 refine⟨_,R++ [s],λid=>W id\/id=d.next,by rw[H.aW],?_,(fG.go (p.fx (Fx.of f)) i F).append (fG.one (PV.go u i F)),λid j n c e=>by cases e;exact .inr rfl,λid h=> .inl (G id h),λid h=>?_⟩
 .exact (r.own (b:=b) om rfl om).mono (eU _) λid j m c e Q _=>H.aF h6 om _
 .simp only[H.dE]
  rcases h with h|h
  .have:=J id h;omega
  .omega
end
end Go.Proofs.YtcdbmkidaecdiaaGreat
namespace Go.Proofs.YtcdbmkidaecdiaaGreat
open Go Go.Ay Go.Pm
def cI (R:iA):LN:=R.flatMap (List.drop 1)
theorem xF {R:iA}{i:Nat}(hi:i<R.length):cI (R.take (i+1))=cI (R.take i)++(R.getD i []).drop 1:=by
 unfold cI;rw[dJ [] hi,List.flatMap_append];simp
theorem sG {n:Nat}{R:iA}:{i:Nat}->i<=R.length->(∀j,j<i->(R.getD j []).length<=n)->(cI (R.take i)).length<=i*n
 |0,_,_=>by simp [cI]
 |i+1,h,hr=>by
  rw[xF om,iB,Nx,Nat.succ_mul];have a:=sG (i:=i) om (λj c=>hr j om);have b:=hr i om;omega
structure JS (h h':H)(v:V)(l:LN):Prop where
 ex: ∃ws W,cW h' v 1 ws h.next/\fG W h' ws l/\Dp W v/\(∀id,id<h.next->W id)
 fr:Fr h h'
theorem JS.sp {h h':H}{v:V}{l:LN}(n:JS h h' v l):SP h' v l:=by
 obtain⟨b,W,o,p,_⟩:=n.ex;have a:=aJ.length p
 exact⟨b,o.sv,aJ.jM (by simpa using a) λi hi c=>by
  have:=(aJ.get p i hi om).si
  simpa using this⟩
theorem JS.pl {h h':H}{v:V}{l:LN}(n:JS h h' v l):PL (λid=>id<h.next) h' v l:=by
 obtain⟨b,W,o,p,_,a⟩:=n.ex;exact⟨b,o.sv,Yn o,p.jK (λid _ h=>a id h),cW.NK o⟩
structure StJ (h hh:H)(id b B:Nat)(r:fR)(n:Nat)(vO vR:V)(R:iA)(i:Nat):Prop where
 acc:Hq (id+1) hh (B+1) (cI (R.take i))
 gr:hh.get id=some (.loop r)
 gb:hh.get b=bG [aC n,vO,vR]
 nx:id<hh.next
 fr:Fr h hh
theorem Oe {W:Nat->Prop}(vc:V)(n:Nat)(O:LN)(R:iA)(G:List Nat->Prop)(h:H)(gc:GC W h vc n O R G):
  Ev T 106 [vc] h (λv h'=> ∃vl,v= .tup [vl,aC 0]/\JS h h' vl (cI R)):=by
 obtain⟨Q,vR,e,sO,sR⟩:=gc.ch
 subst e
 have⟨wR,tR,aR,kR⟩:=sR
 have lR:=aR.length
 have c:=gc.isc
 rw[fL,c.lr] at lR
 have a6:Q.one=true:=EB sO
 have b1:=tR.cM.2.1
 have n0:=gc.n0
 have n7:=gc.n7
 obtain⟨B,hB⟩:=exI h.next
 obtain⟨h1,e1,n1,g1,o1,f1⟩:=dF hB [aC n,Q,vR]
 have bx:=aU h (v:= aC n) (u:=Q) (w:=vR) rfl a6 b1
 have rB:=aE g1
 refine pY bx hB e1 rB ?_
 refine ((gc.mono f1).check).mono ?_
 rintro _ h2 ⟨rfl,f2⟩
 refine aM ?_
 refine bI (λhc=>(hc rfl).elim) (λ_=>?_)
 obtain⟨A,hA⟩:=exI h2.next
 have n2:=f2.next
 obtain⟨h3,e3,n3,g3,o3,f3⟩:=dF hA [.aD]
 have e0:h3.get B=bG [aC n,Q,vR]:=by rw[f3.get _ om,f2.get _ om];exact g1
 have e5:=aE e0
 refine dQ hA e3 e5 ?_
 refine (FH (n:Int) Q vR a6 b1 h3).mono ?_
 rintro _ h4 ⟨rfl,g4,n4,f4⟩
 refine aM ?_
 obtain⟨id,b6⟩:=exI h4.next
 obtain⟨b,hb⟩:=exI h3.next
 rw[hb] at g4 n4
 refine⟨rfl,tG λr hr=>?_⟩
 rw[b6,hb]
 have jE:r.st= .ready:=by rw[hr]
 have c3:r.pend=none:=by rw[hr]
 have o5: ∀k,k<id->(h4.new (.loop r)).get k=h4.get k:=λk N=>H.bN h4 om _
 have f5:Fr h4 (h4.new (.loop r)):=(Fr.refl h4).new _
 have n5:(h4.new (.loop r)).next=id+1:=by rw[H.aZ,b6]
 have F4:=((f1.trans f2).trans f3).trans f4
 have rl: ∀j,j<n->(R.getD j []).length<=n:=λj Y=>by
  rw[c.rl j Y];exact kP (kC (λx hx=>gc.cX.bM hx) Y (c.asc j Y) (c.mem j Y)) om
 obtain⟨t,b7⟩: ∃t,A=t+1:=⟨A- 1,om⟩
 have J0:StJ h (h4.new (.loop r)) id b t r n Q vR R 0:=by
  refine⟨⟨.aD, [],λk=>k<id+1,?_,cW.aD _ _ _,trivial,λ_ _ _ _ e=>(by cases e),λ_ h=>h,λk N=>om⟩,by rw[<-b6,H.aQ],by rw[o5 _ om];exact g4,om,F4.trans f5⟩;rw[<-b7,o5 _ om,f4.get _ om];exact g3
 refine (Xu id b (n:Int) Q vR wR _ om (λi m=>StJ h m id b t r n Q vR R i) (λm=>False) J0 (λi m J=>⟨J.gb,tR.mono J.fr⟩) ?_).mono ?_
 .rintro i m hi J
  have f:i<n:=om
  refine sW J.gr (by rw[hr];rfl) jE λh9 g9 n9 o9=>?_
  rw[congrArg fR.assign hr,congrArg fR.vars hr,congrArg fR.pars hr]
  simp(disch:=omega)only[go_sem,List.zip_cons_cons,List.zip_nil_left]
  rw[congrArg fR.body hr]
  have nx:=J.nx
  have ri:(R.map (List.map zi)).getD i []=(R.getD i []).map zi:=fO (List.map zi) (by rw[c.lr];exact f)
  have a8:=gH aR (i:=i) (by rw[fL,c.lr];exact f) .undef []
  rw[ri] at a8
  have⟨wr,tr,ar⟩:=a8
  have lr:=ar.length
  rw[fL] at lr
  have c2:1<=wr.length:=by
   rw[lr,c.rl i f];have:=(c.mem i f i).2 ⟨bC n,gc.cX.one,Fix.one n i om,fW f⟩;exact Ss this
  have F9:Fr h h9:=⟨by rw[n9];exact J.fr.next,λk N=>by rw[o9 k om];exact J.fr.get k N⟩
  obtain⟨vt,e9,tt⟩:=CW tr (kR _ (aV om)) c2
  have lt:bH vt=some (aC (wr.length- 1:Nat)):=by unfold bH;rw[tt.len (n:=wr.length- 1) (by rw[Nx];omega) om];rfl
  have g7:wr.length<=7:=by have:=rl i f;omega
  refine cU e9 lt ?_
  have A9:Hq (id+1) h9 (t+1) (cI (R.take i)):=J.acc.other (k:=id) om om n9 o9
  refine aH (λk' a7 m=> ∃(k:Nat),(∃g:Nat->V,a7= [g 0,g 1,g 2,g 3,g 4,.ptr A 0,g 6,g 7,g 8,g 9,g 10,g 11,vt,aC (wr.length- 1:Nat),aC k,g 15])/\k<=wr.length- 1/\Hq (id+1) m (t+1) (cI (R.take i)++((R.getD i []).drop 1).take k)/\
    m.get id=some (.loop (pL r))/\m.get b=bG [aC n,Q,vR]/\id<m.next/\Fr h m/\k'=wr.length- 1-k) (wr.length- 1)
   ⟨0,aB rfl,fE _,by rw[List.take_zero,qV];exact A9,g9,by rw[o9 _ om];exact J.gb,om,F9,rfl⟩ ?_
  rintro k' a7 a ⟨k,⟨g,rfl⟩,N,a5,a9,b0,c4,F,rfl⟩
  have g5:((R.getD i []).drop 1).length=wr.length- 1:=by rw[Nx];omega
  by_cases b9:(k:Int)<((wr.length- 1:Nat):Int)
  case neg=>
   have d1:=bT b9;have ek:k=wr.length- 1:=om
   rw[ek,Bo (l:=(R.getD i []).drop 1) om,<-xF (by rw[c.lr];exact f)] at a5;refine bE d1 ?_;refine pD jE c3 a9 (.inl ⟨rfl,a5.other (k:=id) om om rfl (λj Y=>H.aF _ Y _),by rw[H.aW],by rw[H.aF _ om];exact b0,c4,F.set om _⟩)
  have d1:=cJ b9
  have f9:k<wr.length- 1:=om
  have b4:k+1<(R.getD i []).length:=om
  obtain⟨x,hx⟩:=exI ((R.getD i []).getD (k+1) [])
  have d2:((R.getD i []).drop 1).getD k []=x:=by
   rw[<-hx];generalize R.getD i []=row;rw[List.getD,List.getD,List.getElem?_drop,Nat.add_comm 1 k]
  have X:aY n x:=by
   rw[<-hx];exact gc.cX.bM (c.rep i f (k+1) (by rw[<-c.rl i f];exact b4)).mem
  have sx:=gH ar (i:=k+1) (by rw[fL];exact b4) .undef []
  rw[fO zi (d:= []) b4,hx] at sx
  obtain⟨d4,c0,d8,f8,f6⟩:=(tt.mono F).shape (wr.length- 1) (by rw[Nx];omega) om
  have ck:a.cell d4 (c0+k)=some (wr.getD (k+1) .undef):=by
   rw[f6 k (by rw[Nx];omega),List.getElem?_drop,List.getD,Nat.add_comm 1 k,dC om];rfl
  generalize wr.getD (k+1) .undef=vx at sx ck
  obtain⟨L,gA,d7⟩: ∃L,a.get (t+1)=bG [L]/\dM L L=true:=by
   have⟨L,_,_,gA,ow,_⟩:=a5;exact⟨L,gA,ow.sv.dM⟩
  have fb:Fr a (H.mk a.tr (a.next+6)):=(Fr.refl a).bU om
  rw[b7]
  simp(disch:=omega)only[go_sem,d1,d8.ixa,ck,H.cell_of gA]
  refine (Ky vx (zi x) (H.mk a.tr (a.next+6)) (by rw[aL,X.len];omega) (by rw[aL,X.len];omega) (sx.mono (F.trans fb))).mono ?_
  rintro Z p s
  have b8:=fb.trans s.fr
  have d3:=s.fr.next
  have c9:p.get (t+1)=bG [L]:=by rw[b8.get _ om];exact gA
  have d0:PV (λid=>id<a.next) p Z x:=s.pv λid h=>by simp;omega
  simp(disch:=omega)only[go_sem,H.cell_of c9,d7,cQ _ (z:= .aD) d0.eZ.1 d0.eZ.2]
  obtain⟨o,q⟩: ∃o:H,o=H.mk ((H.mk p.tr (a.next+3)).new (Ob.cells false [Z])).tr p.next:=⟨_,rfl⟩
  rw[<-q]
  have f0:o.get (a.next+3)=bG [Z]:=by rw[q];exact H.aQ (H.mk p.tr (a.next+3)) _
  have g6:o.next=p.next:=by rw[q]
  have c8: ∀k,k≠a.next+3->o.get k=p.get k:=λk N=>by rw[q];exact H.bN (H.mk p.tr (a.next+3)) (by simpa using N) _
  simp only at d3
  have U:Fr a o:=⟨om,λk N=>by rw[c8 k om];exact b8.get k N⟩
  have e4:PV (λid=>id<a.next) o Z x:=by
   obtain⟨i5,c5,ev,a1,a2,a3,a4⟩:=s.ex;simp only at a1;rw[ev];exact⟨SV.all (by rw[aN,qZ]) om (by rw[c8 _ om];exact a3) _,λm=>by have:i5<a.next:=m;omega⟩
  have e2:(cI (R.take i)++((R.getD i []).drop 1).take k).length<1000000:=by
   have h1:=sG (n:=n) (R:=R) (i:=i) (by rw[c.lr];omega) (λj Y=>rl j om);have h2:i*n<=7*7:=Nat.mul_le_mul om n7;rw[iB,wH];omega
  obtain⟨c1,b3,c6,f7,e8,g8,b2,one,_,d5⟩:=a5.push om (bytes:=24) (eU _) e2 U om e4 (SV.one om f0 (.kn 1))
  have d9:c1=L:=by rw[gA] at c6;cases c6;rfl
  subst d9
  have d6:(m:H)->(y:V)->eH (bG [c1]) m (t+1) 0 [y]=some (m.set (t+1) (bG [y])):=λm y=>cF siM m _ _
  refine dQ f7 e8 d6 ?_
  rw[eJ k]
  have b5:=d5 _ rfl
  have e7:cI (R.take i)++((R.getD i []).drop 1).take k++ [x]=cI (R.take i)++((R.getD i []).drop 1).take (k+1):=by
   rw[pJ,dJ [] om,d2]
  rw[e7] at b5
  have g2:Fr a (b3.set (t+1) (bG [.sl o.next 0 ((cI (R.take i)++((R.getD i []).drop 1).take k).length+1) (.un 1)]))->True:=λ_=>trivial
  obtain⟨P,K⟩: ∃P,P=b3.set (t+1) (bG [.sl o.next 0 ((cI (R.take i)++((R.getD i []).drop 1).take k).length+1) (.un 1)]):=⟨_,rfl⟩
  rw[<-K] at b5 |-
  have e6: ∀k,k<=id->k≠t+1->P.get k=a.get k:=λk h1 h2=>by rw[K,H.aF _ h2,b2 k om];exact U.get k om
  have g0:P.next=b3.next:=by rw[K];rfl
  refine⟨wr.length- 1-(k+1),om,k+1,aB rfl,om,b5,by rw[b2 id om,U.get _ om];exact a9,by rw[b2 b om,U.get _ om];exact b0,om,⟨by have:=F.next;omega,λk N=>by rw[e6 k om om];exact F.get k N⟩,rfl⟩
 .rintro _ m (J|hf)
  case inr=>exact hf.elim
  refine⟨r,J.gr,by rw[jE];simp,?_⟩
  have en:r.pend.getD .norm= .norm:=by rw[c3];rfl
  rw[en]
  have nx:=J.nx
  have c7:=J.acc
  rw[lR,Bo (by rw[c.lr];omega)] at c7
  obtain⟨h9,a0⟩: ∃h9,h9=m.set id (some (.loop {r with st:= .out})):=⟨_,rfl⟩
  have A9:=c7.other (h2:=h9) (k:=id) om om (by rw[a0];rfl) (λj Y=>by rw[a0,H.aF _ Y])
  have F9:Fr h h9:=by rw[a0];exact J.fr.set om _
  rw[<-a0,b7]
  have⟨L,ws,W',gA,ow,pv,bl,l1,l2⟩:=A9
  simp(disch:=omega)only[go_sem,H.cell_of gA]
  exact⟨L,rfl,⟨ws,W',ow.le om,pv,bl,λid h=>l1 id om⟩,F9⟩
end Go.Proofs.YtcdbmkidaecdiaaGreat
namespace Go.Pm
section
variable {x:List Nat} {i:Nat}
def eY (O:wW)(x:List Nat)(i:Nat):List Nat:=(O.getD i []).map λq=>x.getD q 0
def iR (l:List Nat):List Nat:=l.mergeSort λa b=>decide (a<=b)
theorem fX (l:List Nat):(iR l).Perm l:=List.mergeSort_perm l _
theorem zB (l:List Nat):(iR l).Pairwise (· <= ·):=by
 have:=List.pairwise_mergeSort (le:=λa b:Nat=>decide (a<=b)) (λa b c d f=>by simp at*;omega) (λa b=>by simp;omega) l;exact this.imp λh=>by simpa using h
def gO (O:wW)(R:RI)(x:List Nat)(i im:Nat):List Nat:=aS ((R.getD i []).getD ((eY O x i).idxOf im) []) x
def bZ (O:wW)(R:RI):Nat->Nat->List Nat->wW
 |0,_,x=> [x]
 |d+1,i,x=>(iR (eY O x i)).flatMap λim=>bZ O R d (i+1) (gO O R x i im)
structure dR (G:List Nat->Prop)(L:wW):Prop where
 asc:L.Pairwise Lt
 mem: ∀x,x∈L↔G x
theorem Lt.irrefl (h:Lt x x):False:=h.asymm h
theorem Lt.trans {y z:List Nat}(q:x.length=y.length)(a:Lt x y)(b:Lt y z):Lt x z:=by
 have⟨k,l,d,o⟩:=a;have⟨m,p,f,n⟩:=b;rcases Nat.lt_trichotomy k m with h|h|h
 .exact⟨k,l,λj c=>(d j c).trans (f j oq),by rw[<-f k h];exact o⟩
 .subst h;exact⟨k,l,λj c=>(d j c).trans (f j c),oq⟩
 .exact⟨m,oq,λj c=>(d j oq).trans (f j c),by rw[d m h];exact n⟩
theorem BU:{a b:wW}->a.Pairwise Lt->b.Pairwise Lt->(∀p,p∈a↔p∈b)->a=b
 | [], [],_,_,_=>rfl
 | [],y::b,_,_,h=>by have:=(h y).2 (by simp);simp at this
 |x::a, [],_,_,h=>by have:=(h x).1 (by simp);simp at this
 |x::a,y::b,ha,hb,h=>by
  obtain⟨l,m⟩:=List.pairwise_cons.1 ha;obtain⟨k,n⟩:=List.pairwise_cons.1 hb
  have e:x=y:=by
   have f:=(h x).1 (by simp);have d:=(h y).2 (by simp);rcases List.mem_cons.1 f with f|f
   .exact f
   .rcases List.mem_cons.1 d with d|d
    .exact d.symm
    .exact ((k x f).asymm (l y d)).elim
  subst e;congr 1
  refine BU m n λp=>⟨λc=>?_,λc=>?_⟩
  .rcases List.mem_cons.1 ((h p).1 (List.mem_cons_of_mem _ c)) with e|j
   .subst e;exact ((l p c).irrefl).elim
   .exact j
  .rcases List.mem_cons.1 ((h p).2 (List.mem_cons_of_mem _ c)) with e|j
   .subst e;exact ((k p c).irrefl).elim
   .exact j
theorem dR.uniq {G:List Nat->Prop}{L M:wW}(a:dR G L)(b:dR G M):L=M:=BU a.asc b.asc λp=>(a.mem p).trans (b.mem p).symm
theorem dR.nodup {G:List Nat->Prop}{L:wW}(a:dR G L):L.Nodup:=by
 rw[List.nodup_iff_pairwise_ne];exact a.asc.imp λh e=>by rw[e] at h;exact h.irrefl
def iC (O:wW):Nat->Nat->Nat
 |0,_=>1
 |d+1,i=>(O.getD i []).length*iC O d (i+1)
section
variable {n:Nat} {G:List Nat->Prop} {O:wW} {R:RI}
theorem OA {im:Nat}:im∈eY O x i↔ ∃q∈O.getD i [],x.getD q 0=im:=by simp [eY]
theorem yK (d:eM n G)(c:bA n G O R)(hi:i<n){q:Nat}(a:q∈O.getD i []):q<n:=by
 obtain⟨g,b,_,rfl⟩:=(c.mem i hi q).1 a;exact (d.bM b).fZ hi
theorem Aq (d:eM n G)(c:bA n G O R)(X:aY n x)(hi:i<n):(eY O x i).Nodup:=by
 have nd:(O.getD i []).Pairwise (· < ·):=c.asc i hi;rw[List.nodup_iff_pairwise_ne];unfold eY;rw[List.pairwise_map];refine nd.imp_of_mem λ{a b} h j f e=>?_
 have:=X.inj (yK d c hi h) (yK d c hi j) e;omega
theorem lY (r:eM n G)(c:bA n G O R)(X:aY n x)(hi:i<n){im:Nat}(h:im∈eY O x i):
  ∃k,k<(O.getD i []).length/\(eY O x i).idxOf im=k/\x.getD ((O.getD i []).getD k 0) 0=im/\Xf n G i ((O.getD i []).getD k 0) ((R.getD i []).getD k [])/\gO O R x i im=aS ((R.getD i []).getD k []) x/\aY n (gO O R x i im)/\(gO O R x i im).getD i 0=im/\ ∀j,j<i->(gO O R x i im).getD j 0=x.getD j 0:=by
 have f:=List.idxOf_lt_length_iff.2 h
 have a:(eY O x i).idxOf im<(O.getD i []).length:=by simpa [eY] using f
 have o:(eY O x i).getD ((eY O x i).idxOf im) 0=im:=by rw[bJ f,List.getElem_idxOf]
 obtain⟨k,e⟩: ∃k,(eY O x i).idxOf im=k:=⟨_,rfl⟩
 rw[e] at a o f
 have p:x.getD ((O.getD i []).getD k 0) 0=im:=by
  rw[<-o];unfold eY;rw[List.getD_eq_getElem?_getD (l:=List.map _ _),List.getElem?_map,List.getElem?_eq_getElem a,bJ a];rfl
 have b:=c.rep i hi k a
 have m:=r.bM b.mem
 have d:gO O R x i im=aS ((R.getD i []).getD k []) x:=by unfold gO;rw[e]
 refine⟨k,a,e,p,b,d,by rw[d];exact m.mul X,?_,λj q=>?_⟩
 .rw[d,dI (by rw[m.len];exact hi),b.maps,p]
 .rw[d,dI (by rw[m.len];omega),b.fix j q]
theorem uI (o:eM n G)(c:bA n G O R):(d i:Nat)->(x:List Nat)->i+d=n->aY n x->
  (∀z,z∈bZ O R d i x↔ ∃g,G g/\Fix i g/\z=aS g x)/\(bZ O R d i x).Pairwise Lt/\(bZ O R d i x).length=iC O d i
 |0,i,x,h,X=>by
  obtain rfl:i=n:=oq
  refine⟨λz=>?_,by simp [bZ],rfl⟩;simp only[bZ,List.mem_singleton];constructor
  .rintro rfl;exact⟨bC i,o.one,Fix.one i i (Nat.le_refl _),(cV X).symm⟩
  .rintro⟨g,q,s,rfl⟩;rw[s.all (o.bM q),cV X]
 |d+1,i,x,h,X=>by
  have hi:i<n:=oq
  have u:=λp (f:p∈eY O x i)=>uI o c d (i+1) (gO O R x i p) oq (lY o c X hi f).choose_spec.2.2.2.2.2.1
  have y: ∀p,p∈iR (eY O x i)↔p∈eY O x i:=λp=>(fX _).mem_iff
  have t: ∀p,p∈eY O x i-> ∀z,z∈bZ O R d (i+1) (gO O R x i p)->z.length=n/\z.getD i 0=p/\ ∀j,j<i->z.getD j 0=x.getD j 0:=λp f z A=>by
   obtain⟨g,q,s,rfl⟩:=((u p f).1 z).1 A;obtain⟨k,_,_,_,_,_,_,s1,Z⟩:=lY o c X hi f;have r:=o.bM q;refine⟨by rw[fV,r.len],?_,λj B=>?_⟩
   .rw[dI (by rw[r.len];exact hi),s i oq,s1]
   .rw[dI (by rw[r.len];omega),s j oq,Z j B]
  refine⟨λz=>?_,?_,?_⟩
  .simp only[bZ,List.mem_flatMap,y]
   constructor
   .rintro⟨p,f,A⟩
    obtain⟨g,q,s,rfl⟩:=((u p f).1 z).1 A;obtain⟨k,_,_,_,m,K,_⟩:=lY o c X hi f;refine⟨aS g ((R.getD i []).getD k []),o.mul q m.mem,Fix.mul (o.bM q) oq (s.mono oq) m.fix,?_⟩;rw[K,aG (o.bM q) (o.bM m.mem) X]
   .rintro⟨g,q,s,rfl⟩
    have r:=o.bM q;have P:=(c.mem i hi (g.getD i 0)).2 ⟨g,q,s,rfl⟩;have f:x.getD (g.getD i 0) 0∈eY O x i:=OA.2 ⟨_,P,rfl⟩;refine⟨_,f,((u _ f).1 _).2 ?_⟩;obtain⟨k,N,_,hx,m,K,_⟩:=lY o c X hi f;have F:(O.getD i []).getD k 0=g.getD i 0:=X.inj (yK o c hi (by rw[bJ N];exact List.getElem_mem N)) (yK o c hi P) hx;rw[F] at m;have v:=o.bM m.mem;refine⟨aS g (cK ((R.getD i []).getD k [])),o.mul q (o.inv m.mem),(Fix.mul r oq s (Fix.inv v oq m.fix)).succ ?_,?_⟩
    .rw[dI (by rw[r.len];exact hi)]
     have:=rE v hi;rwa [m.maps] at this
    .rw[K,<-aG (r.mul v.inv) v X,aG r v.inv v,dU v,bD r]
  .unfold bZ
   rw[List.pairwise_flatMap];refine⟨λp f=>(u p ((y p).1 f)).2.1,?_⟩;have J:=zB (eY O x i);have nd:(iR (eY O x i)).Nodup:=(fX _).nodup_iff.2 (Aq o c X hi);rw[List.nodup_iff_pairwise_ne] at nd;refine (J.and nd).imp_of_mem λ{a b} L W U z A w hw=>?_
   obtain⟨l1,z1,Y⟩:=t a ((y a).1 L) z A;obtain⟨l2,Q,w2⟩:=t b ((y b).1 W) w hw;exact⟨i,oq,λj B=>by rw[Y j B,w2 j B],by rw[z1,Q];omega⟩
  .unfold bZ iC
   rw[List.length_flatMap];have:(iR (eY O x i)).map (λa=>(bZ O R d (i+1) (gO O R x i a)).length)=(iR (eY O x i)).map λ_=>iC O d (i+1):=List.map_congr_left λa L=>(u a ((y a).1 L)).2.2
   rw[this];have hl:(iR (eY O x i)).length=(O.getD i []).length:=by rw[(fX _).length_eq];simp [eY]
   rw[<-hl];generalize iR (eY O x i)=l
   induction l with
   |nil=>simp
   |cons a l u=>simp only[List.map_cons,List.sum_cons,u,List.length_cons,Nat.succ_mul];omega
theorem dA (a:eM n G)(c:bA n G O R):dR G (bZ O R n 0 (bC n))/\(bZ O R n 0 (bC n)).length=iC O n 0:=by
 obtain⟨d,h,f⟩:=uI a c n 0 (bC n) oq (aY.one n);refine⟨⟨h,λx=>?_⟩,f⟩;rw[d];constructor
 .rintro⟨g,hg,_,rfl⟩;rw[bD (a.bM hg)];exact hg
 .exact λb=>⟨x,b,λk j=>oq,(bD (a.bM b)).symm⟩
end
end
end Go.Pm
namespace Go.Proofs.YtcdbmkidaecdiaaGreat
open Go Go.Ay Go.Pm
section
variable {O:LN} {W:Nat->Prop}
theorem Fl {O:LN}{m:Nat}(a:1<=m): ∀d i,(∀j,i<=j->j<i+d->(O.getD j []).length<=m)->iC O d i<=m^d
 |0,_,_=>eU _
 |d+1,i,h=>by
  unfold iC;rw[Nat.pow_succ,Nat.mul_comm (m^d)];exact Nat.mul_le_mul (h i (eU _) om) (Fl a d (i+1) λj c b=>h j om om)
theorem tF {O:LN}: ∀d i,(∀j,i<=j->j<i+d->0<(O.getD j []).length)->0<iC O d i
 |0,_,_=>Nat.one_pos
 |d+1,i,h=>Nat.mul_pos (h i (eU _) om) (tF d (i+1) λj b a=>h j om om)
theorem GC.row {h:H}{c:V}{n:Nat}{R:iA}{G:List Nat->Prop}(g:GC W h c n O R G){j:Nat}(a:j<n):0<(O.getD j []).length/\(O.getD j []).length<=n:=by
 refine⟨?_,kP (kC (λx b=>g.cX.bM b) a (g.isc.asc j a) (g.isc.mem j a)) om⟩;exact Ss ((g.isc.mem j a j).2 ⟨bC n,g.cX.one,Fix.one n j om,fW a⟩)
theorem OH (vc:V)(n:Nat)(O:LN)(R:iA)(G:List Nat->Prop)(h:H)(f:GC W h vc n O R G):
  Ev T 157 [vc] h (λv h'=> ∃S,v= .tup [.sl S 0 (n+1) (.kn (n+1)),.bool true]/\h'.cell S 0=some (aC (iC O n 0:Nat))/\Fr h h'):=by
 obtain⟨x,q,e,sO,sR⟩:=f.ch
 subst e
 refine kV ?_
 have l:=f.isc
 have n0:=f.n0
 have n7:=f.n7
 obtain⟨wO,tO,aO⟩:=sO
 have lO:=aO.length
 rw[fL,l.lo] at lO
 have J:=tO.cM.2.1
 have P:q.one=true:=Yb sR
 obtain⟨B,hB⟩:=exI h.next
 obtain⟨h1,e1,n1,g1,o1,f1⟩:=dF hB [aC n,x,q]
 have bx:=aU h (v:= aC n) (u:=x) (w:=q) rfl J P
 have en:(n:Int)+1=((n+1:Nat):Int):=om
 have Z:=mJ h1 (n+1) om
 rw[n1] at Z
 obtain⟨t,z,n2,g2,o2,f2⟩:=dF n1 (rc (n+1) λ_=> aC 0)
 rw[z] at Z
 have p:t.get B=some (.cells false [aC n,x,q]):=by rw[o2 _ om];exact g1
 have pt:(c:H)->(S:Nat)->(F:Nat->V)->(k:Nat)->(v:V)->k<n+1->eH (some (.cells false (rc (n+1) F))) c S k [v]=some (c.set S (some (.cells false (rc (n+1) λj=>if j=k then v else F j)))):=λc S F k v U=>by rw[cF (by rw[iK];exact U),jL]
 obtain⟨h3,e3,n3,g3,o3⟩:=lU t (B+1) (rc (n+1) λj=>if j=n then aC 1 else aC 0)
 have o:h3.get B=some (.cells false [aC n,x,q]):=by rw[o3 _ om];exact p
 have a0:n<n+1:=om
 simp(disch:=omega)only[go_sem,aI,bx,hB,e1,H.cell_of g1,en,Z,H.cell_of p,g2,pt _ _ _ n _ a0,e3,H.cell_of o]
 have F3:Fr h h3:=⟨om,λk U=>by rw[o3 _ om,o2 _ om,o1 _ om]⟩
 have a1: ∀i,i<=n->0<iC O (n-i) i/\iC O (n-i) i<=823543:=λi hi=>by
  refine⟨tF _ _ λj h1 t=>(f.row om).1,kP (Fl (m:=7) om _ _ λj h1 t=>by have:=(f.row (j:=j) om).2;omega) ?_⟩;exact kP (Nat.pow_le_pow_right om (show n-i<=7 by omega)) deC
 refine aH (λr b c=> ∃(i:Nat),(∃g:Nat->V,b= [g 0,.ptr B 0,g 2,g 3,.sl (B+1) 0 (n+1) (.kn (n+1)),aC ((i:Int)- 1),g 6,g 7,g 8])/\i<=n/\c.get B=some (.cells false [aC n,x,q])/\
   c.get (B+1)=some (.cells false (rc (n+1) λj=>if i<=j then aC (iC O (n-j) j:Nat) else aC 0))/\B+1<c.next/\Fr h c/\r=i) n
  ⟨n,aB rfl,eU _,o,?_,om,F3,rfl⟩ ?_
 .rw[g3]
  congr 2
  refine cT λj hj=>?_
  by_cases e:j=n
  .subst e;rw[bL rfl,bL (eU _),Nat.sub_self];rfl
  .rw[bV e,bV om]
 clear g3 o o3 n3 e3 h3 F3 p g2 o2 n2 z Z t f2
 rintro r b h4 ⟨i,⟨g,rfl⟩,hi,gB,gS,nx,F,U⟩
 subst U
 by_cases L:(0:Int)<=(r:Int)- 1
 case neg=>
  have Y:=bT L;obtain rfl:r=0:=om
  refine bE Y ?_;refine⟨B+1,rfl,?_,F⟩;rw[iJ gS om]
  rfl
 have Y:=cJ L
 obtain⟨i,rfl⟩: ∃i,r=i+1:=⟨r- 1,om⟩
 have ei:((i+1:Nat):Int)- 1=(i:Int):=om
 have eI:(i:Int)+1=((i+1:Nat):Int):=om
 rw[ei] at Y |-
 have a:=gH aO (i:=i) (by rw[fL,l.lo];omega) .undef []
 rw[fO zi (d:= []) (by rw[l.lo];omega)] at a
 obtain⟨a3,N,a5,a7,a2⟩:=(tO.mono F).shape n om om
 have co:h4.cell a3 (N+i)=some (wO.getD i .undef):=by rw[a2 i om,List.getD,dC om];rfl
 generalize wO.getD i .undef=vo at a co
 have lo:=a.lens
 rw[aL] at lo
 obtain⟨m,hm⟩:=exI ((O.getD i []).length)
 rw[hm] at lo
 have K:=f.row (j:=i) om
 rw[hm] at K
 have cS:h4.cell (B+1) (i+1)=some (aC ((iC O (n-(i+1)) (i+1):Nat):Int)):=by rw[iJ gS om,bL (eU _)]
 obtain⟨s,hs⟩:=exI (iC O (n-(i+1)) (i+1))
 rw[hs] at cS
 have y:=a1 (i+1) om
 rw[hs] at y
 have Q:(1000000000000000000:Int).tdiv (m:Int)=((1000000000000000000/m:Nat):Int):=by
  rw[show (1000000000000000000:Int)=((1000000000000000000:Nat):Int) from rfl,Int.tdiv_eq_ediv_of_nonneg om];rfl
 have hq:100000000000000000<=1000000000000000000/m:=by
  rw[Nat.le_div_iff_mul_le om];omega
 have a9:1000000000000000000/m<=1000000000000000000:=Nat.div_le_self _ _
 have d2:decide (((1000000000000000000/m:Nat):Int)<(s:Int))=false:=bT om
 have A:(m:Int)*(s:Int)=((m*s:Nat):Int):=rfl
 have a8:m*s<=7*823543:=Nat.mul_le_mul om y.2
 have a4:i<n+1:=om
 have a6:(m:Int)≠0:=om
 simp(disch:=omega)only[go_sem,Y,H.cell_of gB,a5.ixa,co,lo,eI,cS,Q,a6,d2,A,gS,pt _ _ _ i _ a4]
 refine⟨i,om,i,aB rfl,om,gB,?_,om,?_,rfl⟩
 .congr 2
  refine cT λj hj=>?_
  by_cases e:j=i
  .subst e
   rw[bL rfl,bL (eU _),show n-j=(n-(j+1))+1 by omega]
   unfold iC
   rw[hm,hs]
  .rw[bV e]
   by_cases z:i+1<=j
   .rw[bL z,bL om]
   .rw[bV z,bV om]
 .exact (F.bU om).set om _
theorem ZE (o:V)(n:Nat)(O:LN)(R:iA)(G:List Nat->Prop)(h:H)(d:GC W h o n O R G):
  Ev T 119 [o] h (λv h'=>v= .tup [aC (iC O n 0:Nat),aC 0]/\Fr h h'):=by
 obtain⟨i,k,e,r,z⟩:=d.ch
 subst e
 have a:i.one=true:=EB r
 have b:k.one=true:=Yb z
 obtain⟨B,p⟩:=exI h.next
 obtain⟨K,x,J,l,L,j⟩:=dF p [aC n,i,k]
 have q:=aU h (v:= aC n) (u:=i) (w:=k) rfl a b
 have t:=aE l
 refine pY q p x t ?_
 refine ((d.mono j).check).mono ?_
 rintro _ m ⟨rfl,f⟩
 have c:=aE (h:=m) (id:=B) (by rw[f.get _ om];exact l)
 refine aM ?_
 refine bI (λA=>(A rfl).elim) (λ_=>?_)
 refine bE c ?_
 refine (OH _ n O R G m ((d.mono j).mono f)).mono ?_
 rintro _ F ⟨S,rfl,s,y⟩
 refine bE s ?_
 exact (j.trans f).trans y
end
end Go.Proofs.YtcdbmkidaecdiaaGreat
