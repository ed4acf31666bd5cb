/- What the statements need: deferred calls, loops, scopes, results, the records of ranges over functions. -/
import Derived.Test.YtcdbmkidaecdiaaGreatAy17
namespace Go.Ay
open Go
section
variable {m:M} {w:World} {lo n nt:Nat} {h:H} {F:Fence} {c:Code} {Q:Exit->Act->World->Prop} {a:Act} {pv:List Nat}
section
variable {P:Program} {p:Nat->Option Fn}
def pL (m:M)(w:World)(lo:Nat):Nat->List Deferred->MZ->Prop
 |_, [],dfs=>dfs= []
 |hi,d::ds,dfs=>
  (∃r,d.target= .collected r/\lo<=r/\r<hi/\w.heap[r]? =some (.deferred (some []))/\pL m w lo r ds dfs)∨
  (∃g args rest ys,dfs=(g,args)::rest/\d.target= .fn (.func g) ys/\gZ m args (d.args++ys).toList/\pL m w lo hi ds rest)
theorem pL.hi {m:M}{w:World}{lo:Nat}: ∀(ds:List Deferred) (hi hi':Nat) (dfs:MZ),hi<=hi'->pL m w lo hi ds dfs->pL m w lo hi' ds dfs
 | [],_,_,_,_,h=>h
 |d::ds,hi,hi',dfs,hle,h=>by
  rcases h with ⟨r,k,i,l,j,o⟩|⟨g,f,b,q,k,i,l,j⟩
  ·exact .inl ⟨r,k,i,om,j,o⟩
  ·exact .inr ⟨g,f,b,q,k,i,l,pL.hi ds hi hi' b hle j⟩
theorem pL.append {b:Nat}(i:lo<=b): ∀(ds ds':List Deferred) (hi:Nat) (dfs dfs':MZ),b<=hi->pL m w b hi ds dfs->pL m w lo b ds' dfs'->pL m w lo hi (ds++ds') (dfs++dfs')
 | [],ds',hi,dfs,dfs',hle,h,h'=>by
  have:dfs= []:=h;subst this;exact pL.hi ds' b hi dfs' hle h'
 |d::ds,ds',hi,dfs,dfs',hle,h,h'=>by
  rcases h with ⟨r,q,k,o,l,s⟩|⟨g,j,f,t,q,k,o,l⟩
  ·exact .inl ⟨r,q,om,o,l,pL.append i ds ds' r dfs dfs' k s h'⟩
  ·subst q
   exact .inr ⟨g,j,f++dfs',t,rfl,k,o,pL.append i ds ds' hi f dfs' hle l h'⟩
theorem HR.not_def (j:HR P m h w){r:Nat}{x:Option (List Deferred)}(d:w.heap[r]? =some (.deferred x)): ¬LB m h r:=by
 rintro⟨id,o,q,h1,h2,rfl⟩;obtain⟨k,i,f⟩:=j.live id o h1;rw[h2] at i;cases i
 cases o with
 |cells ro vs=>obtain⟨c,el,fr,b,_⟩:=f;rw[d] at b;cases b
 |map es=>obtain⟨c,el,b,_⟩:=f;rw[d] at b;cases b
 |wmap sh es=>obtain⟨_,c,el,b,_⟩:=f;rw[d] at b;cases b
 |loop l=>obtain⟨c,b,_⟩:=f;rw[d] at b;cases b
theorem FP.lb {b:Nat}(f:FP m h b):LB m h b:=by
 obtain⟨i,o,q,j,_,k,d⟩:=f;exact⟨i,o,q,j,k,d⟩
theorem pL.Yp {q:M}{h':H}{w':World}(l:HR P m h w)(a:iO P m h w q h' w'): ∀(ds:List Deferred) (hi:Nat) (dfs:MZ),pL m w lo hi ds dfs->pL q w' lo hi ds dfs
 | [],_,_,hd=>hd
 |d::ds,hi,dfs,hd=>by
  rcases hd with ⟨r,o,j,k,f,t⟩|⟨g,i,b,u,o,j,k,f⟩
  ·exact .inl ⟨r,o,j,k,(a.kept.block r (AS.1 f).1 (λs=>l.not_def f s.lb)).trans f,pL.Yp l a ds r dfs t⟩
  ·exact .inr ⟨g,i,b,u,o,j,gZ.mono a.ext _ _ k,pL.Yp l a ds hi b f⟩
theorem iO.dead {l:M}{s:H}{i:World}(a:iO P l s i m h w){r:Nat}{o:Obj}(x: ¬LB m h r)(u:i.heap.size<=r):iO P l s i m h (w.putObj r o):=by
 have f: ∀b,b≠r->(w.putObj r o).heap[b]? =w.heap[b]? :=λb f=>World.putObj_heap_other f
 refine⟨a.ext,⟨λid k d=>?_,a.rel.inj⟩,a.fresh,⟨a.kept.os,a.kept.tape,a.kept.output,by simpa using a.kept.size,λb y t=>?_⟩,a.fp,a.next,a.lb,a.old⟩
 ·obtain⟨q,j,v⟩:=a.rel.live id k d
  exact⟨q,j,OR.mono (Ext.refl m) (f q.1 (λe=>x ⟨id,k,q,d,j,e⟩)) v⟩
 ·rw[f b om];exact a.kept.block b y t
theorem iO.laid (i:HR P m h w)(o:Obj):iO P m h w m h (w.alloc o):=by
 refine⟨Ext.refl m,⟨λid k d=>?_,i.inj⟩,λ_ _ h=> .inl h,⟨rfl,rfl,rfl,by simp,λb l _=>heap_alloc_old w o _ l⟩,λ_ h=> .inl h,fM _,λ_ h=> .inl h,λ_ _ h=>h⟩;obtain⟨q,j,f⟩:=i.live id k d;exact⟨q,j,OR.mono (Ext.refl m) (heap_alloc_old w o _ f.lt) f⟩
def Ps (F:Fence)(n:Nat)(P:Program)(c:Code)(Q:Exit->Act->World->Prop)(a:Act)(w:World):Prop:=
 ∀(b:Frame) (k:List Item) (cs:List Frame),b.roundOf=F.round->F.fn b.fn->F.room (cs.length+1+n)->
  ∃e a' w',Q e a' w'/\ArrivesIn (Machine.fenced P F) P (lone (b.atR a (.code c:: .inLoop c::k)) cs w) b k cs e a' w'
theorem Ps.wp (h:Ps F n P c Q a w):(Code.loop c).wpIn F n P Q a w:=by
 intro b k q f i j;obtain⟨e,r,o,l,d⟩:=h b k q f i j;exact⟨e,r,o,l,.of_steps (.one (fenced_calm i j rfl) stepR_loop) d⟩
theorem Ps.step (h:c.wpIn F n P (Exit.then (Ps F n P c Q) Q) a w):Ps F n P c Q a w:=by
 intro b k z s v y;obtain⟨e,i,f,q,d⟩:=h b (.inLoop c::k) z s v y
 cases e with
 |normal=>
  obtain⟨u,t,r,o,j⟩:=q b k z s v y;exact⟨u,t,r,o,.of_steps (StepsIn.trans d (.one (fenced_calm v y rfl) stepR_inLoop)) j⟩
 |exit id=>exact⟨_,i,f,q,.pass (x:= .inLoop c) rfl (λ_ _=> .inl (by simp)) d⟩
 |goto l=>exact⟨_,i,f,q,.pass (x:= .inLoop c) rfl (λ_ _=> .inl (by simp)) d⟩
 |ret=>exact⟨_,i,f,q,.pass (x:= .inLoop c) rfl (λ_ _=> .inl (by simp)) d⟩
 |panic ch=>exact⟨_,i,f,q,.pass (x:= .inLoop c) rfl (λ_ _=> .inl (by simp)) d⟩
 |outgrown=>exact⟨_,i,f,q,.pass (x:= .inLoop c) rfl (λ_ _=> .inl (by simp)) d⟩
theorem nZ {b:Frame}{k:List Item}{d:List Frame}:
  step P (lone (b.atR a (.code (.scope c)::k)) d w)= .next (lone (b.atR a (.code c:: .inScope c::k)) d w):=
 step_lone_go (by simp [stepG,stepG.exec,Frame.atR])
theorem Qi {b:Frame}{k:List Item}{d:List Frame}:
  step P (lone (b.atR a (.inScope c::k)) d w)= .next (lone (b.atR a k) d w):=
 step_lone_go (by simp [stepG,stepG.exec,Frame.atR])
theorem CY (h:c.wpIn F n P (λe a w=>(∀l,e≠ .goto l)/\Q e a w) a w):(Code.scope c).wpIn F n P Q a w:=by
 intro b k x s r t;have j:(lone (b.atR a (.code (.scope c)::k)) x w).fenced P F:=fenced_calm r t rfl;obtain⟨e,i,f,⟨y,o⟩,d⟩:=h b (.inScope c::k) x s r t;have v: ∀id,exitTo id (.inScope c::k)=exitTo id k:=λid=>by simp [exitTo]
 cases e with
 |normal=>exact⟨.normal,i,f,o,.head j nZ (StepsIn.trans d (.one (fenced_calm r t rfl) Qi))⟩
 |exit id=>exact⟨.exit id,i,f,o,λz q=> .head j nZ (d.1 z (by rw[v];exact q)),
   λu q=>let ⟨k₁,h1,h2⟩:=d.2 u (by rw[v];exact q);⟨k₁,h1,.head j nZ h2⟩⟩
 |goto l=>exact absurd rfl (y l)
 |ret=>exact⟨_,i,f,o,.of_steps (.one j nZ) d⟩
 |panic ch=>exact⟨_,i,f,o,.of_steps (.one j nZ) d⟩
 |outgrown=>exact⟨_,i,f,o,.of_steps (.one j nZ) d⟩
def Tu (tmps:Array Value):ResultVar->Sem Value
 | .tmp t=>pure (tmps.getD t undef)
 | .cell a t=>do loadVar t (←asAddr (tmps.getD a undef))
theorem DP (b:Func)(tmps:Array Value):results b tmps=(do
  let vs ←b.results.mapM (Tu tmps)
  pure (if h:vs.size=1 then vs[0] else .tuple vs)):=rfl
theorem MC {b:List V}{tmps:Array Value}(B:HR P m h w)(s:jM m nt pv b tmps){l:ResultVar}{r:Rv}{u:V}(d:Te P pv l=some r)(f:Ct b h r=some u):
  ∃y,(Tu tmps l).run P w= .ok y w/\VR m u y:=by
 cases l with
 |tmp t=>
  simp only[Te,mJ] at d;obtain⟨k,i,rfl⟩:=d;simp only[Ct] at f;cases f;exact⟨_,rfl,s.val t k i⟩
 |cell t ty=>
  simp only[Te] at d;split at d
  ·rename_i q A
   simp only[mJ] at d;obtain⟨k,i,rfl⟩:=d;simp only[Ct] at f;have j:=s.val t k i;obtain⟨G,x⟩:=DA (agg:=q.1) (n:=q.2) A;obtain⟨y,v,z⟩:=AG B G x j f
   cases hval:b.getD k V.undef with
   |ptr id off=>
    rw[hval] at j;obtain⟨J,_,o⟩:=j;refine⟨y,?_,z⟩;simp only[Tu];rw[o] at v ⊢;simpa [Instr.loadAt,Instr.sureAddr,asAddr] using v
   |_=>rw[hval] at f;simp [QW] at f
  ·cases d
theorem Oe {m:M}{w:World}{f:ResultVar->Sem Value}{g:Rv->Option V}{k:ResultVar->Option Rv}(o: ∀rv r u,k rv=some r->g r=some u-> ∃y,(f rv).run P w= .ok y w/\VR m u y):
  ∀(l:List ResultVar) (rs:List Rv) (us:List V),cH (l.map k)=some rs->cH (rs.map g)=some us-> ∃ys,(l.mapM f).run P w= .ok ys w/\gZ m us ys
 | [],rs,us,d,b=>by
  simp only[List.map_nil,cH] at d;cases d;simp only[List.map_nil,cH] at b;cases b;exact⟨[],rfl,trivial⟩
 |rv::l,rs,us,d,b=>by
  simp only[List.map_cons] at d
  cases hk:k rv with
  |none=>simp [hk,cH] at d
  |some r=>
   simp only[hk,cH,mJ] at d;obtain⟨i,d,rfl⟩:=d;simp only[List.map_cons] at b
   cases hg:g r with
   |none=>simp [hg,cH] at b
   |some u=>
    simp only[hg,cH,mJ] at b;obtain⟨j,b,rfl⟩:=b;obtain⟨y,s,t⟩:=o rv r u hk hg;obtain⟨ys,v,q⟩:=Oe o l i j d b;exact⟨y::ys,by simp [List.mapM_cons,s,v],t,q⟩
theorem Dk {b:List V}{tmps:Array Value}(q:HR P m h w)(k:jM m nt pv b tmps){i:Func}{rs:List Rv}{us:List V}
  (t:cH (i.results.toList.map (Te P pv))=some rs) (s:cH (rs.map (Ct b h))=some us): ∃y,(results i tmps).run P w= .ok y w/\VR m (Jm us) y:=by
 obtain⟨f,x,d⟩:=Oe (P:=P) (m:=m) (w:=w) (λz r u o j=>MC q k o j) i.results.toList rs us t s
 have v:=gZ.length d
 refine⟨if h:f.toArray.size=1 then f.toArray[0] else .tuple f.toArray,?_,?_⟩
 ·rw[DP]
  have l:(i.results.mapM (Tu tmps)).run P w= .ok f.toArray w:=by
   rw[Array.mapM_eq_mapM_toList];simp [x]
  simp only[Sem.run_bind,l,Result.andThen,Sem.run_pure]
 ·match us,f,d,v with
  | [], [],_,_=>exact⟨#[],rfl,trivial⟩
  | [u], [y],d,_=>exact d.1
  |u::u2::us,y::y2::f,d,_=>exact⟨_,rfl,d⟩
theorem Cw {l:Nat}{q:Loop}(h:w.heap[l]? =some (.loop q))(fn:FuncId)(tmps:Array Value)(ps:Array Tmp)(assign body:Code):
  (Instr.enterLoop fn tmps ps assign body (some l)).run P w=
   .ok (w.heap.size, []) (w.alloc (.loop {state:= .ready,pending:=none,fn,tmps,params:=ps,assign,body,defers:=q.defers})):=by
 unfold Instr.enterLoop
 simp only[Sem.run_bind,run_getLoop h,run_newObj_alloc,Result.andThen,Sem.run_pure]
theorem Ys {m:M}{nt:Nat}{pv:List Nat}: ∀(ps:List Tmp) (ks:List Nat) (args:List V) (xs:List Value) (vars:List V) (tmps:Array Value),cH (ps.map λt=>idx t pv)=some ks->gZ m args xs->jM m nt pv vars tmps->
  jM m nt pv ((ks.zip args).foldl (λvs q=>vs.set q.1 q.2) vars) ((ps.zip xs).foldl (λtmps (t,a)=>tmps.setIfInBounds t a) tmps)
 | [],ks,args,xs,vars,tmps,h,_,hv=>by simp only[List.map_nil,cH] at h;cases h;simpa using hv
 |t::ps,ks,args,xs,vars,tmps,h,ha,hv=>by
  simp only[List.map_cons] at h
  cases hi:idx t pv with
  |none=>simp [hi,cH] at h
  |some k=>
   simp only[hi,cH,mJ] at h;obtain⟨b,h,rfl⟩:=h
   match args,xs,ha with
   | [], [],_=>simpa using hv
   |u::args,x::xs,ha=>
    simp only[List.zip_cons_cons,List.foldl_cons]
    exact Ys ps b args xs _ _ h ha.2 (hv.set hi ha.1)
end
end
end Go.Ay
