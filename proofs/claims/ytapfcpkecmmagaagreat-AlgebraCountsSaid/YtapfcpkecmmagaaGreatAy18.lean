/- What the statements need: deferred calls, loops, scopes, results, the records of ranges over functions. -/
import Derived.Test.YtapfcpkecmmagaaGreatAy17
namespace Go.Ay
open Go
section
variable {m:M} {w:World} {lo n nt:Nat} {h:H} {F:Fence} {c:Code} {Q:Exit->Act->World->Prop} {a:Act} {pv:List Nat}
section
variable {P:Program} {p:Nat->Option Fn}
def kS (m:M)(w:World)(lo:Nat):Nat->List Deferred->Sz->Prop
 |_, [],dfs=>dfs= []
 |hi,d::ds,dfs=>
  (∃r,d.target= .collected r/\lo<=r/\r<hi/\w.heap[r]? =some (.deferred (some []))/\kS m w lo r ds dfs)∨
  (∃g args rest ys,dfs=(g,args)::rest/\d.target= .fn (.func g) ys/\fL m args (d.args++ys).toList/\kS m w lo hi ds rest)
theorem kS.hi {m:M}{w:World}{lo:Nat}: ∀(ds:List Deferred) (hi hi':Nat) (dfs:Sz),hi<=hi'->kS m w lo hi ds dfs->kS m w lo hi' ds dfs
 | [],_,_,_,_,h=>h
 |d::ds,hi,hi',dfs,hle,h=>by
  rcases h with ⟨r,f,i,k,j,l⟩|⟨g,e,b,o,f,i,k,j⟩
  ·exact .inl ⟨r,f,i,om,j,l⟩
  ·exact .inr ⟨g,e,b,o,f,i,k,kS.hi ds hi hi' b hle j⟩
theorem kS.append {b:Nat}(f:lo<=b): ∀(ds ds':List Deferred) (hi:Nat) (dfs dfs':Sz),b<=hi->kS m w b hi ds dfs->kS m w lo b ds' dfs'->kS m w lo hi (ds++ds') (dfs++dfs')
 | [],ds',hi,dfs,dfs',hle,h,h'=>by
  have:dfs= []:=h;subst this;exact kS.hi ds' b hi dfs' hle h'
 |d::ds,ds',hi,dfs,dfs',hle,h,h'=>by
  rcases h with ⟨r,j,k,o,l,q⟩|⟨g,i,e,s,j,k,o,l⟩
  ·exact .inl ⟨r,j,om,o,l,kS.append f ds ds' r dfs dfs' k q h'⟩
  ·subst j
   exact .inr ⟨g,i,e++dfs',s,rfl,k,o,kS.append f ds ds' hi e dfs' hle l h'⟩
theorem HR.not_def (g:HR P m h w){r:Nat}{x:Option (List Deferred)}(e:w.heap[r]? =some (.deferred x)): ¬LB m h r:=by
 rintro⟨id,o,q,h1,h2,rfl⟩;obtain⟨i,f,d⟩:=g.live id o h1;rw[h2] at f;cases f
 cases o with
 |cells ro vs=>obtain⟨c,el,fr,b,_⟩:=d;rw[e] at b;cases b
 |map es=>obtain⟨c,el,b,_⟩:=d;rw[e] at b;cases b
 |wmap sh es=>obtain⟨_,c,el,b,_⟩:=d;rw[e] at b;cases b
 |loop l=>obtain⟨c,b,_⟩:=d;rw[e] at b;cases b
theorem FP.lb {b:Nat}(d:FP m h b):LB m h b:=by
 obtain⟨i,o,q,e,_,f,g⟩:=d;exact⟨i,o,q,e,f,g⟩
theorem kS.Kq {o:M}{h':H}{w':World}(k:HR P m h w)(a:fU P m h w o h' w'): ∀(ds:List Deferred) (hi:Nat) (dfs:Sz),kS m w lo hi ds dfs->kS o w' lo hi ds dfs
 | [],_,_,hd=>hd
 |d::ds,hi,dfs,hd=>by
  rcases hd with ⟨r,i,j,l,f,s⟩|⟨g,e,b,t,i,j,l,f⟩
  ·exact .inl ⟨r,i,j,l,(a.kept.block r (Gu.1 f).1 (λq=>k.not_def f q.lb)).trans f,kS.Kq k a ds r dfs s⟩
  ·exact .inr ⟨g,e,b,t,i,j,fL.mono a.ext _ _ l,kS.Kq k a ds hi b f⟩
theorem fU.dead {k:M}{j:H}{g:World}(a:fU P k j g m h w){r:Nat}{o:Obj}(x: ¬LB m h r)(v:g.heap.size<=r):fU P k j g m h (w.putObj r o):=by
 have f: ∀b,b≠r->(w.putObj r o).heap[b]? =w.heap[b]? :=λb f=>World.putObj_heap_other f
 refine⟨a.ext,⟨λid i d=>?_,a.rel.inj⟩,a.fresh,⟨a.kept.os,a.kept.tape,a.kept.output,by simpa using a.kept.size,λb s u=>?_⟩,a.fp,a.next,a.lb,a.old⟩
 ·obtain⟨q,l,t⟩:=a.rel.live id i d
  exact⟨q,l,OR.mono (Ext.refl m) (f q.1 (λe=>x ⟨id,i,q,d,l,e⟩)) t⟩
 ·rw[f b om];exact a.kept.block b s u
theorem fU.laid (e:HR P m h w)(o:Obj):fU P m h w m h (w.alloc o):=by
 refine⟨Ext.refl m,⟨λid f d=>?_,e.inj⟩,λ_ _ h=> .inl h,⟨rfl,rfl,rfl,by simp,λb b _=>heap_alloc_old w o _ b⟩,λ_ h=> .inl h,fH _,λ_ h=> .inl h,λ_ _ h=>h⟩;obtain⟨q,g,b⟩:=e.live id f d;exact⟨q,g,OR.mono (Ext.refl m) (heap_alloc_old w o _ b.lt) b⟩
def Ap (F:Fence)(n:Nat)(P:Program)(c:Code)(Q:Exit->Act->World->Prop)(a:Act)(w:World):Prop:=
 ∀(b:Frame) (k:List Item) (cs:List Frame),b.roundOf=F.round->F.fn b.fn->F.room (cs.length+1+n)->
  ∃e a' w',Q e a' w'/\ArrivesIn (Machine.fenced P F) P (lone (b.atR a (.code c:: .inLoop c::k)) cs w) b k cs e a' w'
theorem Ap.wp (h:Ap F n P c Q a w):(Code.loop c).wpIn F n P Q a w:=by
 intro b k o f g i;obtain⟨e,j,l,q,d⟩:=h b k o f g i;exact⟨e,j,l,q,.of_steps (.one (fenced_calm g i rfl) stepR_loop) d⟩
theorem Ap.step (h:c.wpIn F n P (Exit.then (Ap F n P c Q) Q) a w):Ap F n P c Q a w:=by
 intro b k v o t u;obtain⟨e,f,g,j,d⟩:=h b (.inLoop c::k) v o t u
 cases e with
 |normal=>
  obtain⟨s,q,r,e,i⟩:=j b k v o t u;exact⟨s,q,r,e,.of_steps (StepsIn.trans d (.one (fenced_calm t u rfl) stepR_inLoop)) i⟩
 |exit id=>exact⟨_,f,g,j,.pass (x:= .inLoop c) rfl (λ_ _=> .inl (by simp)) d⟩
 |goto l=>exact⟨_,f,g,j,.pass (x:= .inLoop c) rfl (λ_ _=> .inl (by simp)) d⟩
 |ret=>exact⟨_,f,g,j,.pass (x:= .inLoop c) rfl (λ_ _=> .inl (by simp)) d⟩
 |panic ch=>exact⟨_,f,g,j,.pass (x:= .inLoop c) rfl (λ_ _=> .inl (by simp)) d⟩
 |outgrown=>exact⟨_,f,g,j,.pass (x:= .inLoop c) rfl (λ_ _=> .inl (by simp)) d⟩
theorem kA {b:Frame}{k:List Item}{d:List Frame}:
  step P (lone (b.atR a (.code (.scope c)::k)) d w)= .next (lone (b.atR a (.code c:: .inScope c::k)) d w):=
 step_lone_go (by simp [stepG,stepG.exec,Frame.atR])
theorem Cn {b:Frame}{k:List Item}{d:List Frame}:
  step P (lone (b.atR a (.inScope c::k)) d w)= .next (lone (b.atR a k) d w):=
 step_lone_go (by simp [stepG,stepG.exec,Frame.atR])
theorem Mq (h:c.wpIn F n P (λe a w=>(∀l,e≠ .goto l)/\Q e a w) a w):(Code.scope c).wpIn F n P Q a w:=by
 intro b k t o q r;have i:(lone (b.atR a (.code (.scope c)::k)) t w).fenced P F:=fenced_calm q r rfl;obtain⟨e,f,g,⟨u,j⟩,d⟩:=h b (.inScope c::k) t o q r;have s: ∀id,exitTo id (.inScope c::k)=exitTo id k:=λid=>by simp [exitTo]
 cases e with
 |normal=>exact⟨.normal,f,g,j,.head i kA (StepsIn.trans d (.one (fenced_calm q r rfl) Cn))⟩
 |exit id=>exact⟨.exit id,f,g,j,λb k=> .head i kA (d.1 b (by rw[s];exact k)),
   λb k=>let ⟨k₁,h1,h2⟩:=d.2 b (by rw[s];exact k);⟨k₁,h1,.head i kA h2⟩⟩
 |goto l=>exact absurd rfl (u l)
 |ret=>exact⟨_,f,g,j,.of_steps (.one i kA) d⟩
 |panic ch=>exact⟨_,f,g,j,.of_steps (.one i kA) d⟩
 |outgrown=>exact⟨_,f,g,j,.of_steps (.one i kA) d⟩
def Fl (tmps:Array Value):ResultVar->Sem Value
 | .tmp t=>pure (tmps.getD t undef)
 | .cell a t=>do loadVar t (←asAddr (tmps.getD a undef))
theorem Ly (b:Func)(tmps:Array Value):results b tmps=(do
  let vs ←b.results.mapM (Fl tmps)
  pure (if h:vs.size=1 then vs[0] else .tuple vs)):=rfl
theorem Rc {b:List V}{tmps:Array Value}(z:HR P m h w)(o:iG m nt pv b tmps){f:ResultVar}{r:Rv}{u:V}(d:Eo P pv f=some r)(e:sY b h r=some u):
  ∃y,(Fl tmps f).run P w= .ok y w/\VR m u y:=by
 cases f with
 |tmp t=>
  simp only[Eo,jB] at d;obtain⟨k,j,rfl⟩:=d;simp only[sY] at e;cases e;exact⟨_,rfl,o.val t k j⟩
 |cell t ty=>
  simp only[Eo] at d;split at d
  ·rename_i q A
   simp only[jB] at d;obtain⟨k,j,rfl⟩:=d;simp only[sY] at e;have i:=o.val t k j;obtain⟨s,v⟩:=Na (agg:=q.1) (n:=q.2) A;obtain⟨y,l,x⟩:=Kc z s v i e
   cases hval:b.getD k V.undef with
   |ptr id off=>
    rw[hval] at i;obtain⟨B,_,g⟩:=i;refine⟨y,?_,x⟩;simp only[Fl];rw[g] at l ⊢;simpa [Instr.loadAt,Instr.sureAddr,asAddr] using l
   |_=>rw[hval] at e;simp [Yc] at e
  ·cases d
theorem Ax {m:M}{w:World}{f:ResultVar->Sem Value}{g:Rv->Option V}{k:ResultVar->Option Rv}(j: ∀rv r u,k rv=some r->g r=some u-> ∃y,(f rv).run P w= .ok y w/\VR m u y):
  ∀(l:List ResultVar) (rs:List Rv) (us:List V),cU (l.map k)=some rs->cU (rs.map g)=some us-> ∃ys,(l.mapM f).run P w= .ok ys w/\fL m us ys
 | [],rs,us,b,d=>by
  simp only[List.map_nil,cU] at b;cases b;simp only[List.map_nil,cU] at d;cases d;exact⟨[],rfl,trivial⟩
 |rv::l,rs,us,b,d=>by
  simp only[List.map_cons] at b
  cases hk:k rv with
  |none=>simp [hk,cU] at b
  |some r=>
   simp only[hk,cU,jB] at b;obtain⟨i,b,rfl⟩:=b;simp only[List.map_cons] at d
   cases hg:g r with
   |none=>simp [hg,cU] at d
   |some u=>
    simp only[hg,cU,jB] at d;obtain⟨e,d,rfl⟩:=d;obtain⟨y,s,q⟩:=j rv r u hk hg;obtain⟨ys,t,o⟩:=Ax j l i e b d;exact⟨y::ys,by simp [List.mapM_cons,s,t],q,o⟩
theorem tM {b:List V}{tmps:Array Value}(s:HR P m h w)(j:iG m nt pv b tmps){f:Func}{g:List Rv}{us:List V}
  (k:cU (f.results.toList.map (Eo P pv))=some g) (o:cU (g.map (sY b h))=some us): ∃y,(results f tmps).run P w= .ok y w/\VR m (wF us) y:=by
 obtain⟨e,i,d⟩:=Ax (P:=P) (m:=m) (w:=w) (λl r u q l=>Rc s j q l) f.results.toList g us k o
 have l:=fL.length d
 refine⟨if h:e.toArray.size=1 then e.toArray[0] else .tuple e.toArray,?_,?_⟩
 ·rw[Ly]
  have q:(f.results.mapM (Fl tmps)).run P w= .ok e.toArray w:=by
   rw[Array.mapM_eq_mapM_toList];simp [i]
  simp only[Sem.run_bind,q,Result.andThen,Sem.run_pure]
 ·match us,e,d,l with
  | [], [],_,_=>exact⟨#[],rfl,trivial⟩
  | [u], [y],d,_=>exact d.1
  |u::u2::us,y::y2::e,d,_=>exact⟨_,rfl,d⟩
theorem sU {l:Nat}{q:Loop}(h:w.heap[l]? =some (.loop q))(fn:FuncId)(tmps:Array Value)(b:Array Tmp)(assign body:Code):
  (Instr.enterLoop fn tmps b assign body (some l)).run P w=
   .ok (w.heap.size, []) (w.alloc (.loop {state:= .ready,pending:=none,fn,tmps,params:=b,assign,body,defers:=q.defers})):=by
 unfold Instr.enterLoop
 simp only[Sem.run_bind,run_getLoop h,run_newObj_alloc,Result.andThen,Sem.run_pure]
theorem Hw {m:M}{nt:Nat}{pv:List Nat}: ∀(ps:List Tmp) (ks:List Nat) (args:List V) (xs:List Value) (vars:List V) (tmps:Array Value),cU (ps.map λt=>idx t pv)=some ks->fL m args xs->iG m nt pv vars tmps->
  iG m nt pv ((ks.zip args).foldl (λvs q=>vs.set q.1 q.2) vars) ((ps.zip xs).foldl (λtmps (t,a)=>tmps.setIfInBounds t a) tmps)
 | [],ks,args,xs,vars,tmps,h,_,hv=>by simp only[List.map_nil,cU] at h;cases h;simpa using hv
 |t::ps,ks,args,xs,vars,tmps,h,ha,hv=>by
  simp only[List.map_cons] at h
  cases hi:idx t pv with
  |none=>simp [hi,cU] at h
  |some k=>
   simp only[hi,cU,jB] at h;obtain⟨b,h,rfl⟩:=h
   match args,xs,ha with
   | [], [],_=>simpa using hv
   |u::args,x::xs,ha=>
    simp only[List.zip_cons_cons,List.foldl_cons]
    exact Hw ps b args xs _ _ h ha.2 (hv.set hi ha.1)
end
end
end Go.Ay
