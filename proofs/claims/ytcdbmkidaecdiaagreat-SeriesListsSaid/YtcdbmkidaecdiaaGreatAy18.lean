/- What the statements need: deferred calls, loops, scopes, results, the records of ranges over functions. -/
import Derived.Test.YtcdbmkidaecdiaaGreatAy17
namespace Go.Ay
open Go
section
variable {m:M} {w:World} {lo n nt:Nat} {h:H} {F:Fence} {c:Code} {Q:Exit->Act->World->Prop} {a:Act} {pv:List Nat}
section
variable {P:Program} {p:Nat->Option Fn}
def oU (m:M)(w:World)(lo:Nat):Nat->List Deferred->OK->Prop
 |_, [],dfs=>dfs= []
 |hi,d::ds,dfs=>
  (∃r,d.target= .collected r/\lo<=r/\r<hi/\w.heap[r]? =some (.deferred (some []))/\oU m w lo r ds dfs)∨
  (∃g args rest ys,dfs=(g,args)::rest/\d.target= .fn (.func g) ys/\gJ m args (d.args++ys).toList/\oU m w lo hi ds rest)
theorem oU.hi {m:M}{w:World}{lo:Nat}: ∀(ds:List Deferred) (hi hi':Nat) (dfs:OK),hi<=hi'->oU m w lo hi ds dfs->oU m w lo hi' ds dfs
 | [],_,_,_,_,h=>h
 |d::ds,hi,hi',dfs,hle,h=>by
  rcases h with ⟨r,f,i,k,j,l⟩|⟨g,e,b,o,f,i,k,j⟩
  ·exact .inl ⟨r,f,i,om,j,l⟩
  ·exact .inr ⟨g,e,b,o,f,i,k,oU.hi ds hi hi' b hle j⟩
theorem oU.append {b:Nat}(i:lo<=b): ∀(ds ds':List Deferred) (hi:Nat) (dfs dfs':OK),b<=hi->oU m w b hi ds dfs->oU m w lo b ds' dfs'->oU m w lo hi (ds++ds') (dfs++dfs')
 | [],ds',hi,dfs,dfs',hle,h,h'=>by
  have:dfs= []:=h;subst this;exact oU.hi ds' b hi dfs' hle h'
 |d::ds,ds',hi,dfs,dfs',hle,h,h'=>by
  rcases h with ⟨r,j,k,l,o,q⟩|⟨g,f,e,s,j,k,l,o⟩
  ·exact .inl ⟨r,j,om,l,o,oU.append i ds ds' r dfs dfs' k q h'⟩
  ·subst j
   exact .inr ⟨g,f,e++dfs',s,rfl,k,l,oU.append i ds ds' hi e dfs' hle o h'⟩
theorem HR.not_def (g:HR P m h w){r:Nat}{x:Option (List Deferred)}(e:w.heap[r]? =some (.deferred x)): ¬LB m h r:=by
 rintro⟨id,o,q,h1,h2,rfl⟩;obtain⟨i,f,d⟩:=g.live id o h1;rw[h2] at f;cases f
 cases o with
 |cells ro vs=>obtain⟨c,el,fr,b,_⟩:=d;rw[e] at b;cases b
 |map es=>obtain⟨c,el,b,_⟩:=d;rw[e] at b;cases b
 |wmap sh es=>obtain⟨_,c,el,b,_⟩:=d;rw[e] at b;cases b
 |loop l=>obtain⟨c,b,_⟩:=d;rw[e] at b;cases b
theorem FP.lb {b:Nat}(d:FP m h b):LB m h b:=by
 obtain⟨i,o,q,f,_,g,e⟩:=d;exact⟨i,o,q,f,g,e⟩
theorem oU.Xr {o:M}{h':H}{w':World}(k:HR P m h w)(a:iC P m h w o h' w'): ∀(ds:List Deferred) (hi:Nat) (dfs:OK),oU m w lo hi ds dfs->oU o w' lo hi ds dfs
 | [],_,_,hd=>hd
 |d::ds,hi,dfs,hd=>by
  rcases hd with ⟨r,i,j,l,f,q⟩|⟨g,e,b,t,i,j,l,f⟩
  ·exact .inl ⟨r,i,j,l,(a.kept.block r (Wi.1 f).1 (λs=>k.not_def f s.lb)).trans f,oU.Xr k a ds r dfs q⟩
  ·exact .inr ⟨g,e,b,t,i,j,gJ.mono a.ext _ _ l,oU.Xr k a ds hi b f⟩
theorem iC.dead {l:M}{k:H}{g:World}(a:iC P l k g m h w){r:Nat}{o:Obj}(x: ¬LB m h r)(v:g.heap.size<=r):iC P l k g m h (w.putObj r o):=by
 have f: ∀b,b≠r->(w.putObj r o).heap[b]? =w.heap[b]? :=λb f=>World.putObj_heap_other f
 refine⟨a.ext,⟨λid j d=>?_,a.rel.inj⟩,a.fresh,⟨a.kept.os,a.kept.tape,a.kept.output,by simpa using a.kept.size,λb t u=>?_⟩,a.fp,a.next,a.lb,a.old⟩
 ·obtain⟨q,i,s⟩:=a.rel.live id j d
  exact⟨q,i,OR.mono (Ext.refl m) (f q.1 (λe=>x ⟨id,j,q,d,i,e⟩)) s⟩
 ·rw[f b om];exact a.kept.block b t u
theorem iC.laid (f:HR P m h w)(o:Obj):iC P m h w m h (w.alloc o):=by
 refine⟨Ext.refl m,⟨λid i d=>?_,f.inj⟩,λ_ _ h=> .inl h,⟨rfl,rfl,rfl,by simp,λb j _=>heap_alloc_old w o _ j⟩,λ_ h=> .inl h,eH _,λ_ h=> .inl h,λ_ _ h=>h⟩;obtain⟨q,g,e⟩:=f.live id i d;exact⟨q,g,OR.mono (Ext.refl m) (heap_alloc_old w o _ e.lt) e⟩
def Qe (F:Fence)(n:Nat)(P:Program)(c:Code)(Q:Exit->Act->World->Prop)(a:Act)(w:World):Prop:=
 ∀(b:Frame) (k:List Item) (cs:List Frame),b.roundOf=F.round->F.fn b.fn->F.room (cs.length+1+n)->
  ∃e a' w',Q e a' w'/\ArrivesIn (Machine.fenced P F) P (lone (b.atR a (.code c:: .inLoop c::k)) cs w) b k cs e a' w'
theorem Qe.wp (h:Qe F n P c Q a w):(Code.loop c).wpIn F n P Q a w:=by
 intro b k l f g i;obtain⟨e,q,o,j,d⟩:=h b k l f g i;exact⟨e,q,o,j,.of_steps (.one (fenced_calm g i rfl) stepR_loop) d⟩
theorem Qe.step (h:c.wpIn F n P (Exit.then (Qe F n P c Q) Q) a w):Qe F n P c Q a w:=by
 intro b k y q u v;obtain⟨e,g,f,o,d⟩:=h b (.inLoop c::k) y q u v
 cases e with
 |normal=>
  obtain⟨s,r,t,j,i⟩:=o b k y q u v;exact⟨s,r,t,j,.of_steps (StepsIn.trans d (.one (fenced_calm u v rfl) stepR_inLoop)) i⟩
 |exit id=>exact⟨_,g,f,o,.pass (x:= .inLoop c) rfl (λ_ _=> .inl (by simp)) d⟩
 |goto l=>exact⟨_,g,f,o,.pass (x:= .inLoop c) rfl (λ_ _=> .inl (by simp)) d⟩
 |ret=>exact⟨_,g,f,o,.pass (x:= .inLoop c) rfl (λ_ _=> .inl (by simp)) d⟩
 |panic ch=>exact⟨_,g,f,o,.pass (x:= .inLoop c) rfl (λ_ _=> .inl (by simp)) d⟩
 |outgrown=>exact⟨_,g,f,o,.pass (x:= .inLoop c) rfl (λ_ _=> .inl (by simp)) d⟩
theorem nJ {b:Frame}{k:List Item}{d:List Frame}:
  step P (lone (b.atR a (.code (.scope c)::k)) d w)= .next (lone (b.atR a (.code c:: .inScope c::k)) d w):=
 step_lone_go (by simp [stepG,stepG.exec,Frame.atR])
theorem Ra {b:Frame}{k:List Item}{d:List Frame}:
  step P (lone (b.atR a (.inScope c::k)) d w)= .next (lone (b.atR a k) d w):=
 step_lone_go (by simp [stepG,stepG.exec,Frame.atR])
theorem CT (h:c.wpIn F n P (λe a w=>(∀l,e≠ .goto l)/\Q e a w) a w):(Code.scope c).wpIn F n P Q a w:=by
 intro b k v o q t;have i:(lone (b.atR a (.code (.scope c)::k)) v w).fenced P F:=fenced_calm q t rfl;obtain⟨e,g,f,⟨y,j⟩,d⟩:=h b (.inScope c::k) v o q t;have u: ∀id,exitTo id (.inScope c::k)=exitTo id k:=λid=>by simp [exitTo]
 cases e with
 |normal=>exact⟨.normal,g,f,j,.head i nJ (StepsIn.trans d (.one (fenced_calm q t rfl) Ra))⟩
 |exit id=>exact⟨.exit id,g,f,j,λx r=> .head i nJ (d.1 x (by rw[u];exact r)),
   λs r=>let ⟨k₁,h1,h2⟩:=d.2 s (by rw[u];exact r);⟨k₁,h1,.head i nJ h2⟩⟩
 |goto l=>exact absurd rfl (y l)
 |ret=>exact⟨_,g,f,j,.of_steps (.one i nJ) d⟩
 |panic ch=>exact⟨_,g,f,j,.of_steps (.one i nJ) d⟩
 |outgrown=>exact⟨_,g,f,j,.of_steps (.one i nJ) d⟩
def Wu (tmps:Array Value):ResultVar->Sem Value
 | .tmp t=>pure (tmps.getD t undef)
 | .cell a t=>do loadVar t (←asAddr (tmps.getD a undef))
theorem DJ (b:Func)(tmps:Array Value):results b tmps=(do
  let vs ←b.results.mapM (Wu tmps)
  pure (if h:vs.size=1 then vs[0] else .tuple vs)):=rfl
theorem OF {b:List V}{tmps:Array Value}(v:HR P m h w)(o:jA m nt pv b tmps){i:ResultVar}{r:Rv}{u:V}(d:Tj P pv i=some r)(e:Ch b h r=some u):
  ∃y,(Wu tmps i).run P w= .ok y w/\VR m u y:=by
 cases i with
 |tmp t=>
  simp only[Tj,lT] at d;obtain⟨k,g,rfl⟩:=d;simp only[Ch] at e;cases e;exact⟨_,rfl,o.val t k g⟩
 |cell t ty=>
  simp only[Tj] at d;split at d
  ·rename_i q s
   simp only[lT] at d;obtain⟨k,g,rfl⟩:=d;simp only[Ch] at e;have j:=o.val t k g;obtain⟨x,z⟩:=FU (agg:=q.1) (n:=q.2) s;obtain⟨y,l,A⟩:=AS v x z j e
   cases hval:b.getD k V.undef with
   |ptr id off=>
    rw[hval] at j;obtain⟨B,_,f⟩:=j;refine⟨y,?_,A⟩;simp only[Wu];rw[f] at l ⊢;simpa [Instr.loadAt,Instr.sureAddr,asAddr] using l
   |_=>rw[hval] at e;simp [RV] at e
  ·cases d
theorem Mh {m:M}{w:World}{f:ResultVar->Sem Value}{g:Rv->Option V}{k:ResultVar->Option Rv}(j: ∀rv r u,k rv=some r->g r=some u-> ∃y,(f rv).run P w= .ok y w/\VR m u y):
  ∀(l:List ResultVar) (rs:List Rv) (us:List V),cI (l.map k)=some rs->cI (rs.map g)=some us-> ∃ys,(l.mapM f).run P w= .ok ys w/\gJ m us ys
 | [],rs,us,b,d=>by
  simp only[List.map_nil,cI] at b;cases b;simp only[List.map_nil,cI] at d;cases d;exact⟨[],rfl,trivial⟩
 |rv::l,rs,us,b,d=>by
  simp only[List.map_cons] at b
  cases hk:k rv with
  |none=>simp [hk,cI] at b
  |some r=>
   simp only[hk,cI,lT] at b;obtain⟨e,b,rfl⟩:=b;simp only[List.map_cons] at d
   cases hg:g r with
   |none=>simp [hg,cI] at d
   |some u=>
    simp only[hg,cI,lT] at d;obtain⟨i,d,rfl⟩:=d;obtain⟨y,t,s⟩:=j rv r u hk hg;obtain⟨ys,q,o⟩:=Mh j l e i b d;exact⟨y::ys,by simp [List.mapM_cons,t,q],s,o⟩
theorem Ct {b:List V}{tmps:Array Value}(t:HR P m h w)(j:jA m nt pv b tmps){f:Func}{rs:List Rv}{us:List V}
  (g:cI (f.results.toList.map (Tj P pv))=some rs) (q:cI (rs.map (Ch b h))=some us): ∃y,(results f tmps).run P w= .ok y w/\VR m (Js us) y:=by
 obtain⟨d,i,e⟩:=Mh (P:=P) (m:=m) (w:=w) (λv r u o l=>OF t j o l) f.results.toList rs us g q
 have k:=gJ.length e
 refine⟨if h:d.toArray.size=1 then d.toArray[0] else .tuple d.toArray,?_,?_⟩
 ·rw[DJ]
  have s:(f.results.mapM (Wu tmps)).run P w= .ok d.toArray w:=by
   rw[Array.mapM_eq_mapM_toList];simp [i]
  simp only[Sem.run_bind,s,Result.andThen,Sem.run_pure]
 ·match us,d,e,k with
  | [], [],_,_=>exact⟨#[],rfl,trivial⟩
  | [u], [y],e,_=>exact e.1
  |u::u2::us,y::y2::d,e,_=>exact⟨_,rfl,e⟩
theorem Cr {l:Nat}{q:Loop}(h:w.heap[l]? =some (.loop q))(fn:FuncId)(tmps:Array Value)(ps:Array Tmp)(assign body:Code):
  (Instr.enterLoop fn tmps ps assign body (some l)).run P w=
   .ok (w.heap.size, []) (w.alloc (.loop {state:= .ready,pending:=none,fn,tmps,params:=ps,assign,body,defers:=q.defers})):=by
 unfold Instr.enterLoop
 simp only[Sem.run_bind,run_getLoop h,run_newObj_alloc,Result.andThen,Sem.run_pure]
theorem Zz {m:M}{nt:Nat}{pv:List Nat}: ∀(ps:List Tmp) (ks:List Nat) (args:List V) (xs:List Value) (vars:List V) (tmps:Array Value),cI (ps.map λt=>idx t pv)=some ks->gJ m args xs->jA m nt pv vars tmps->
  jA m nt pv ((ks.zip args).foldl (λvs q=>vs.set q.1 q.2) vars) ((ps.zip xs).foldl (λtmps (t,a)=>tmps.setIfInBounds t a) tmps)
 | [],ks,args,xs,vars,tmps,h,_,hv=>by simp only[List.map_nil,cI] at h;cases h;simpa using hv
 |t::ps,ks,args,xs,vars,tmps,h,ha,hv=>by
  simp only[List.map_cons] at h
  cases hi:idx t pv with
  |none=>simp [hi,cI] at h
  |some k=>
   simp only[hi,cI,lT] at h;obtain⟨b,h,rfl⟩:=h
   match args,xs,ha with
   | [], [],_=>simpa using hv
   |u::args,x::xs,ha=>
    simp only[List.zip_cons_cons,List.foldl_cons]
    exact Zz ps b args xs _ _ h ha.2 (hv.set hi ha.1)
end
end
end Go.Ay
