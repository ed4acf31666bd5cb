/- What the statements need: deferred calls, loops, scopes, results, the records of ranges over functions. -/
import Derived.Test.YtapfcpkecmmagaaGreatAy17
namespace Go.Ay
open Go
section
variable {m:M} {w:World} {lo n nt:Nat} {h:H} {F:Fence} {c:Code} {Q:Exit->Act->World->Prop} {a:Act} {pv:List Nat}
section
variable {P:Program} {p:Nat->Option Fn}
def kZ (m:M)(w:World)(lo:Nat):Nat->List Deferred->Tt->Prop
 |_, [],dfs=>dfs= []
 |hi,d::ds,dfs=>
  (∃r,d.target= .collected r/\lo<=r/\r<hi/\w.heap[r]? =some (.deferred (some []))/\kZ m w lo r ds dfs)∨
  (∃g args rest ys,dfs=(g,args)::rest/\d.target= .fn (.func g) ys/\fP m args (d.args++ys).toList/\kZ m w lo hi ds rest)
theorem kZ.hi {m:M}{w:World}{lo:Nat}: ∀(ds:List Deferred) (hi hi':Nat) (dfs:Tt),hi<=hi'->kZ m w lo hi ds dfs->kZ m w lo hi' ds dfs
 | [],_,_,_,_,h=>h
 |d::ds,hi,hi',dfs,hle,h=>by
  rcases h with ⟨r,f,j,k,i,l⟩|⟨g,e,b,o,f,j,k,i⟩
  ·exact .inl ⟨r,f,j,om,i,l⟩
  ·exact .inr ⟨g,e,b,o,f,j,k,kZ.hi ds hi hi' b hle i⟩
theorem kZ.append {b:Nat}(f:lo<=b): ∀(ds ds':List Deferred) (hi:Nat) (dfs dfs':Tt),b<=hi->kZ m w b hi ds dfs->kZ m w lo b ds' dfs'->kZ m w lo hi (ds++ds') (dfs++dfs')
 | [],ds',hi,dfs,dfs',hle,h,h'=>by
  have:dfs= []:=h;subst this;exact kZ.hi ds' b hi dfs' hle h'
 |d::ds,ds',hi,dfs,dfs',hle,h,h'=>by
  rcases h with ⟨r,j,o,k,l,q⟩|⟨g,i,e,s,j,o,k,l⟩
  ·exact .inl ⟨r,j,om,k,l,kZ.append f ds ds' r dfs dfs' o q h'⟩
  ·subst j
   exact .inr ⟨g,i,e++dfs',s,rfl,o,k,kZ.append f ds ds' hi e dfs' hle l h'⟩
theorem HR.not_def (g:HR P m h w){r:Nat}{x:Option (List Deferred)}(d:w.heap[r]? =some (.deferred x)): ¬LB m h r:=by
 rintro⟨id,o,q,h1,h2,rfl⟩;obtain⟨i,f,e⟩:=g.live id o h1;rw[h2] at f;cases f
 cases o with
 |cells ro vs=>obtain⟨c,el,fr,b,_⟩:=e;rw[d] at b;cases b
 |map es=>obtain⟨c,el,b,_⟩:=e;rw[d] at b;cases b
 |wmap sh es=>obtain⟨_,c,el,b,_⟩:=e;rw[d] at b;cases b
 |loop l=>obtain⟨c,b,_⟩:=e;rw[d] at b;cases b
theorem FP.lb {b:Nat}(e:FP m h b):LB m h b:=by
 obtain⟨i,o,q,d,_,g,f⟩:=e;exact⟨i,o,q,d,g,f⟩
theorem kZ.Hz {o:M}{h':H}{w':World}(l:HR P m h w)(a:fY P m h w o h' w'): ∀(ds:List Deferred) (hi:Nat) (dfs:Tt),kZ m w lo hi ds dfs->kZ o w' lo hi ds dfs
 | [],_,_,hd=>hd
 |d::ds,hi,dfs,hd=>by
  rcases hd with ⟨r,i,k,j,e,q⟩|⟨g,f,b,t,i,k,j,e⟩
  ·exact .inl ⟨r,i,k,j,(a.kept.block r (Er.1 e).1 (λs=>l.not_def e s.lb)).trans e,kZ.Hz l a ds r dfs q⟩
  ·exact .inr ⟨g,f,b,t,i,k,fP.mono a.ext _ _ j,kZ.Hz l a ds hi b e⟩
theorem fY.dead {j:M}{k:H}{g:World}(a:fY P j k g m h w){r:Nat}{o:Obj}(x: ¬LB m h r)(t:g.heap.size<=r):fY P j k g m h (w.putObj r o):=by
 have f: ∀b,b≠r->(w.putObj r o).heap[b]? =w.heap[b]? :=λb f=>World.putObj_heap_other f
 refine⟨a.ext,⟨λid i d=>?_,a.rel.inj⟩,a.fresh,⟨a.kept.os,a.kept.tape,a.kept.output,by simpa using a.kept.size,λb s v=>?_⟩,a.fp,a.next,a.lb,a.old⟩
 ·obtain⟨q,l,u⟩:=a.rel.live id i d
  exact⟨q,l,OR.mono (Ext.refl m) (f q.1 (λe=>x ⟨id,i,q,d,l,e⟩)) u⟩
 ·rw[f b om];exact a.kept.block b s v
theorem fY.laid (e:HR P m h w)(o:Obj):fY P m h w m h (w.alloc o):=by
 refine⟨Ext.refl m,⟨λid f d=>?_,e.inj⟩,λ_ _ h=> .inl h,⟨rfl,rfl,rfl,by simp,λb b _=>heap_alloc_old w o _ b⟩,λ_ h=> .inl h,eS _,λ_ h=> .inl h,λ_ _ h=>h⟩;obtain⟨q,g,b⟩:=e.live id f d;exact⟨q,g,OR.mono (Ext.refl m) (heap_alloc_old w o _ b.lt) b⟩
def Bh (F:Fence)(n:Nat)(P:Program)(c:Code)(Q:Exit->Act->World->Prop)(a:Act)(w:World):Prop:=
 ∀(b:Frame) (k:List Item) (cs:List Frame),b.roundOf=F.round->F.fn b.fn->F.room (cs.length+1+n)->
  ∃e a' w',Q e a' w'/\ArrivesIn (Machine.fenced P F) P (lone (b.atR a (.code c:: .inLoop c::k)) cs w) b k cs e a' w'
theorem Bh.wp (h:Bh F n P c Q a w):(Code.loop c).wpIn F n P Q a w:=by
 intro b k j f g i;obtain⟨e,l,q,o,d⟩:=h b k j f g i;exact⟨e,l,q,o,.of_steps (.one (fenced_calm g i rfl) stepR_loop) d⟩
theorem Bh.step (h:c.wpIn F n P (Exit.then (Bh F n P c Q) Q) a w):Bh F n P c Q a w:=by
 intro b k v r u t;obtain⟨e,g,f,j,d⟩:=h b (.inLoop c::k) v r u t
 cases e with
 |normal=>
  obtain⟨s,o,q,e,i⟩:=j b k v r u t;exact⟨s,o,q,e,.of_steps (StepsIn.trans d (.one (fenced_calm u t rfl) stepR_inLoop)) i⟩
 |exit id=>exact⟨_,g,f,j,.pass (x:= .inLoop c) rfl (λ_ _=> .inl (by simp)) d⟩
 |goto l=>exact⟨_,g,f,j,.pass (x:= .inLoop c) rfl (λ_ _=> .inl (by simp)) d⟩
 |ret=>exact⟨_,g,f,j,.pass (x:= .inLoop c) rfl (λ_ _=> .inl (by simp)) d⟩
 |panic ch=>exact⟨_,g,f,j,.pass (x:= .inLoop c) rfl (λ_ _=> .inl (by simp)) d⟩
 |outgrown=>exact⟨_,g,f,j,.pass (x:= .inLoop c) rfl (λ_ _=> .inl (by simp)) d⟩
theorem kH {b:Frame}{k:List Item}{d:List Frame}:
  step P (lone (b.atR a (.code (.scope c)::k)) d w)= .next (lone (b.atR a (.code c:: .inScope c::k)) d w):=
 step_lone_go (by simp [stepG,stepG.exec,Frame.atR])
theorem Cv {b:Frame}{k:List Item}{d:List Frame}:
  step P (lone (b.atR a (.inScope c::k)) d w)= .next (lone (b.atR a k) d w):=
 step_lone_go (by simp [stepG,stepG.exec,Frame.atR])
theorem Lh (h:c.wpIn F n P (λe a w=>(∀l,e≠ .goto l)/\Q e a w) a w):(Code.scope c).wpIn F n P Q a w:=by
 intro b k s r q o;have i:(lone (b.atR a (.code (.scope c)::k)) s w).fenced P F:=fenced_calm q o rfl;obtain⟨e,g,f,⟨u,j⟩,d⟩:=h b (.inScope c::k) s r q o;have t: ∀id,exitTo id (.inScope c::k)=exitTo id k:=λid=>by simp [exitTo]
 cases e with
 |normal=>exact⟨.normal,g,f,j,.head i kH (StepsIn.trans d (.one (fenced_calm q o rfl) Cv))⟩
 |exit id=>exact⟨.exit id,g,f,j,λb k=> .head i kH (d.1 b (by rw[t];exact k)),
   λb k=>let ⟨k₁,h1,h2⟩:=d.2 b (by rw[t];exact k);⟨k₁,h1,.head i kH h2⟩⟩
 |goto l=>exact absurd rfl (u l)
 |ret=>exact⟨_,g,f,j,.of_steps (.one i kH) d⟩
 |panic ch=>exact⟨_,g,f,j,.of_steps (.one i kH) d⟩
 |outgrown=>exact⟨_,g,f,j,.of_steps (.one i kH) d⟩
def Gc (tmps:Array Value):ResultVar->Sem Value
 | .tmp t=>pure (tmps.getD t undef)
 | .cell a t=>do loadVar t (←asAddr (tmps.getD a undef))
theorem Mz (b:Func)(tmps:Array Value):results b tmps=(do
  let vs ←b.results.mapM (Gc tmps)
  pure (if h:vs.size=1 then vs[0] else .tuple vs)):=rfl
theorem Sc {b:List V}{tmps:Array Value}(v:HR P m h w)(o:iG m nt pv b tmps){i:ResultVar}{r:Rv}{u:V}(d:Dq P pv i=some r)(e:sY b h r=some u):
  ∃y,(Gc tmps i).run P w= .ok y w/\VR m u y:=by
 cases i with
 |tmp t=>
  simp only[Dq,jA] at d;obtain⟨k,j,rfl⟩:=d;simp only[sY] at e;cases e;exact⟨_,rfl,o.val t k j⟩
 |cell t ty=>
  simp only[Dq] at d;split at d
  ·rename_i q s
   simp only[jA] at d;obtain⟨k,j,rfl⟩:=d;simp only[sY] at e;have f:=o.val t k j;obtain⟨x,A⟩:=Mr (agg:=q.1) (n:=q.2) s;obtain⟨y,l,z⟩:=Je v x A f e
   cases hval:b.getD k V.undef with
   |ptr id off=>
    rw[hval] at f;obtain⟨B,_,g⟩:=f;refine⟨y,?_,z⟩;simp only[Gc];rw[g] at l ⊢;simpa [Instr.loadAt,Instr.sureAddr,asAddr] using l
   |_=>rw[hval] at e;simp [Wa] at e
  ·cases d
theorem Cc {m:M}{w:World}{f:ResultVar->Sem Value}{g:Rv->Option V}{k:ResultVar->Option Rv}(j: ∀rv r u,k rv=some r->g r=some u-> ∃y,(f rv).run P w= .ok y w/\VR m u y):
  ∀(l:List ResultVar) (rs:List Rv) (us:List V),cV (l.map k)=some rs->cV (rs.map g)=some us-> ∃ys,(l.mapM f).run P w= .ok ys w/\fP m us ys
 | [],rs,us,b,d=>by
  simp only[List.map_nil,cV] at b;cases b;simp only[List.map_nil,cV] at d;cases d;exact⟨[],rfl,trivial⟩
 |rv::l,rs,us,b,d=>by
  simp only[List.map_cons] at b
  cases hk:k rv with
  |none=>simp [hk,cV] at b
  |some r=>
   simp only[hk,cV,jA] at b;obtain⟨i,b,rfl⟩:=b;simp only[List.map_cons] at d
   cases hg:g r with
   |none=>simp [hg,cV] at d
   |some u=>
    simp only[hg,cV,jA] at d;obtain⟨e,d,rfl⟩:=d;obtain⟨y,t,o⟩:=j rv r u hk hg;obtain⟨ys,s,q⟩:=Cc j l i e b d;exact⟨y::ys,by simp [List.mapM_cons,t,s],o,q⟩
theorem tJ {b:List V}{tmps:Array Value}(s:HR P m h w)(q:iG m nt pv b tmps){f:Func}{g:List Rv}{us:List V}
  (j:cV (f.results.toList.map (Dq P pv))=some g) (o:cV (g.map (sY b h))=some us): ∃y,(results f tmps).run P w= .ok y w/\VR m (xQ us) y:=by
 obtain⟨d,k,e⟩:=Cc (P:=P) (m:=m) (w:=w) (λi r u l i=>Sc s q l i) f.results.toList g us j o
 have i:=fP.length e
 refine⟨if h:d.toArray.size=1 then d.toArray[0] else .tuple d.toArray,?_,?_⟩
 ·rw[Mz]
  have l:(f.results.mapM (Gc tmps)).run P w= .ok d.toArray w:=by
   rw[Array.mapM_eq_mapM_toList];simp [k]
  simp only[Sem.run_bind,l,Result.andThen,Sem.run_pure]
 ·match us,d,e,i with
  | [], [],_,_=>exact⟨#[],rfl,trivial⟩
  | [u], [y],e,_=>exact e.1
  |u::u2::us,y::y2::d,e,_=>exact⟨_,rfl,e⟩
theorem sV {l:Nat}{q:Loop}(h:w.heap[l]? =some (.loop q))(fn:FuncId)(tmps:Array Value)(b:Array Tmp)(assign body:Code):
  (Instr.enterLoop fn tmps b assign body (some l)).run P w=
   .ok (w.heap.size, []) (w.alloc (.loop {state:= .ready,pending:=none,fn,tmps,params:=b,assign,body,defers:=q.defers})):=by
 unfold Instr.enterLoop
 simp only[Sem.run_bind,run_getLoop h,run_newObj_alloc,Result.andThen,Sem.run_pure]
theorem Hv {m:M}{nt:Nat}{pv:List Nat}: ∀(ps:List Tmp) (ks:List Nat) (args:List V) (xs:List Value) (vars:List V) (tmps:Array Value),cV (ps.map λt=>idx t pv)=some ks->fP m args xs->iG m nt pv vars tmps->
  iG m nt pv ((ks.zip args).foldl (λvs q=>vs.set q.1 q.2) vars) ((ps.zip xs).foldl (λtmps (t,a)=>tmps.setIfInBounds t a) tmps)
 | [],ks,args,xs,vars,tmps,h,_,hv=>by simp only[List.map_nil,cV] at h;cases h;simpa using hv
 |t::ps,ks,args,xs,vars,tmps,h,ha,hv=>by
  simp only[List.map_cons] at h
  cases hi:idx t pv with
  |none=>simp [hi,cV] at h
  |some k=>
   simp only[hi,cV,jA] at h;obtain⟨b,h,rfl⟩:=h
   match args,xs,ha with
   | [], [],_=>simpa using hv
   |u::args,x::xs,ha=>
    simp only[List.zip_cons_cons,List.foldl_cons]
    exact Hv ps b args xs _ _ h ha.2 (hv.set hi ha.1)
end
end
end Go.Ay
