/- What the statements need: deferred calls, loops, scopes, results, the records of ranges over functions. -/
import Derived.Test.YtcdbmkidaecdiaaGreatAy17
namespace Go.Ay
open Go
section
variable {m:M} {w:World} {lo n nt:Nat} {h:H} {F:Fence} {c:Code} {Q:Exit->Act->World->Prop} {a:Act} {pv:List Nat}
section
variable {P:Program} {p:Nat->Option Fn}
def pL (m:M)(w:World)(lo:Nat):Nat->List Deferred->MZ->Prop
 |_, [],dfs=>dfs= []
 |hi,d::ds,dfs=>
  (∃r,d.target= .collected r/\lo<=r/\r<hi/\w.heap[r]? =some (.deferred (some []))/\pL m w lo r ds dfs)∨
  (∃g args rest ys,dfs=(g,args)::rest/\d.target= .fn (.func g) ys/\gZ m args (d.args++ys).toList/\pL m w lo hi ds rest)
theorem pL.hi {m:M}{w:World}{lo:Nat}: ∀(ds:List Deferred) (hi hi':Nat) (dfs:MZ),hi<=hi'->pL m w lo hi ds dfs->pL m w lo hi' ds dfs
 | [],_,_,_,_,h=>h
 |d::ds,hi,hi',dfs,hle,h=>by
  rcases h with ⟨r,j,f,k,i,o⟩|⟨g,e,b,l,j,f,k,i⟩
  ·exact .inl ⟨r,j,f,om,i,o⟩
  ·exact .inr ⟨g,e,b,l,j,f,k,pL.hi ds hi hi' b hle i⟩
theorem pL.append {b:Nat}(i:lo<=b): ∀(ds ds':List Deferred) (hi:Nat) (dfs dfs':MZ),b<=hi->pL m w b hi ds dfs->pL m w lo b ds' dfs'->pL m w lo hi (ds++ds') (dfs++dfs')
 | [],ds',hi,dfs,dfs',hle,h,h'=>by
  have:dfs= []:=h;subst this;exact pL.hi ds' b hi dfs' hle h'
 |d::ds,ds',hi,dfs,dfs',hle,h,h'=>by
  rcases h with ⟨r,o,k,j,l,s⟩|⟨g,f,e,q,o,k,j,l⟩
  ·exact .inl ⟨r,o,om,j,l,pL.append i ds ds' r dfs dfs' k s h'⟩
  ·subst o
   exact .inr ⟨g,f,e++dfs',q,rfl,k,j,pL.append i ds ds' hi e dfs' hle l h'⟩
theorem HR.not_def (g:HR P m h w){r:Nat}{x:Option (List Deferred)}(d:w.heap[r]? =some (.deferred x)): ¬LB m h r:=by
 rintro⟨id,o,q,h1,h2,rfl⟩;obtain⟨i,f,e⟩:=g.live id o h1;rw[h2] at f;cases f
 cases o with
 |cells ro vs=>obtain⟨c,el,fr,b,_⟩:=e;rw[d] at b;cases b
 |map es=>obtain⟨c,el,b,_⟩:=e;rw[d] at b;cases b
 |wmap sh es=>obtain⟨_,c,el,b,_⟩:=e;rw[d] at b;cases b
 |loop l=>obtain⟨c,b,_⟩:=e;rw[d] at b;cases b
theorem FP.lb {b:Nat}(f:FP m h b):LB m h b:=by
 obtain⟨i,o,q,d,_,e,g⟩:=f;exact⟨i,o,q,d,e,g⟩
theorem pL.Yp {o:M}{h':H}{w':World}(k:HR P m h w)(a:iO P m h w o h' w'): ∀(ds:List Deferred) (hi:Nat) (dfs:MZ),pL m w lo hi ds dfs->pL o w' lo hi ds dfs
 | [],_,_,hd=>hd
 |d::ds,hi,dfs,hd=>by
  rcases hd with ⟨r,l,j,i,e,s⟩|⟨g,f,b,q,l,j,i,e⟩
  ·exact .inl ⟨r,l,j,i,(a.kept.block r (AS.1 e).1 (λt=>k.not_def e t.lb)).trans e,pL.Yp k a ds r dfs s⟩
  ·exact .inr ⟨g,f,b,q,l,j,gZ.mono a.ext _ _ i,pL.Yp k a ds hi b e⟩
theorem iO.dead {j:M}{i:H}{g:World}(a:iO P j i g m h w){r:Nat}{o:Obj}(u: ¬LB m h r)(t:g.heap.size<=r):iO P j i g m h (w.putObj r o):=by
 have f: ∀b,b≠r->(w.putObj r o).heap[b]? =w.heap[b]? :=λb f=>World.putObj_heap_other f
 refine⟨a.ext,⟨λid l d=>?_,a.rel.inj⟩,a.fresh,⟨a.kept.os,a.kept.tape,a.kept.output,by simpa using a.kept.size,λb x s=>?_⟩,a.fp,a.next,a.lb,a.old⟩
 ·obtain⟨q,k,v⟩:=a.rel.live id l d
  exact⟨q,k,OR.mono (Ext.refl m) (f q.1 (λe=>u ⟨id,l,q,d,k,e⟩)) v⟩
 ·rw[f b om];exact a.kept.block b x s
theorem iO.laid (e:HR P m h w)(o:Obj):iO P m h w m h (w.alloc o):=by
 refine⟨Ext.refl m,⟨λid j d=>?_,e.inj⟩,λ_ _ h=> .inl h,⟨rfl,rfl,rfl,by simp,λb i _=>heap_alloc_old w o _ i⟩,λ_ h=> .inl h,fM _,λ_ h=> .inl h,λ_ _ h=>h⟩;obtain⟨q,g,f⟩:=e.live id j d;exact⟨q,g,OR.mono (Ext.refl m) (heap_alloc_old w o _ f.lt) f⟩
def Ps (F:Fence)(n:Nat)(P:Program)(c:Code)(Q:Exit->Act->World->Prop)(a:Act)(w:World):Prop:=
 ∀(b:Frame) (k:List Item) (cs:List Frame),b.roundOf=F.round->F.fn b.fn->F.room (cs.length+1+n)->
  ∃e a' w',Q e a' w'/\ArrivesIn (Machine.fenced P F) P (lone (b.atR a (.code c:: .inLoop c::k)) cs w) b k cs e a' w'
theorem Ps.wp (h:Ps F n P c Q a w):(Code.loop c).wpIn F n P Q a w:=by
 intro b k j f i g;obtain⟨e,o,q,l,d⟩:=h b k j f i g;exact⟨e,o,q,l,.of_steps (.one (fenced_calm i g rfl) stepR_loop) d⟩
theorem Ps.step (h:c.wpIn F n P (Exit.then (Ps F n P c Q) Q) a w):Ps F n P c Q a w:=by
 intro b k y t v u;obtain⟨e,f,g,o,d⟩:=h b (.inLoop c::k) y t v u
 cases e with
 |normal=>
  obtain⟨r,q,s,j,i⟩:=o b k y t v u;exact⟨r,q,s,j,.of_steps (StepsIn.trans d (.one (fenced_calm v u rfl) stepR_inLoop)) i⟩
 |exit id=>exact⟨_,f,g,o,.pass (x:= .inLoop c) rfl (λ_ _=> .inl (by simp)) d⟩
 |goto l=>exact⟨_,f,g,o,.pass (x:= .inLoop c) rfl (λ_ _=> .inl (by simp)) d⟩
 |ret=>exact⟨_,f,g,o,.pass (x:= .inLoop c) rfl (λ_ _=> .inl (by simp)) d⟩
 |panic ch=>exact⟨_,f,g,o,.pass (x:= .inLoop c) rfl (λ_ _=> .inl (by simp)) d⟩
 |outgrown=>exact⟨_,f,g,o,.pass (x:= .inLoop c) rfl (λ_ _=> .inl (by simp)) d⟩
theorem nZ {b:Frame}{k:List Item}{d:List Frame}:
  step P (lone (b.atR a (.code (.scope c)::k)) d w)= .next (lone (b.atR a (.code c:: .inScope c::k)) d w):=
 step_lone_go (by simp [stepG,stepG.exec,Frame.atR])
theorem Qi {b:Frame}{k:List Item}{d:List Frame}:
  step P (lone (b.atR a (.inScope c::k)) d w)= .next (lone (b.atR a k) d w):=
 step_lone_go (by simp [stepG,stepG.exec,Frame.atR])
theorem CY (h:c.wpIn F n P (λe a w=>(∀l,e≠ .goto l)/\Q e a w) a w):(Code.scope c).wpIn F n P Q a w:=by
 intro b k v q s r;have i:(lone (b.atR a (.code (.scope c)::k)) v w).fenced P F:=fenced_calm s r rfl;obtain⟨e,f,g,⟨y,j⟩,d⟩:=h b (.inScope c::k) v q s r;have u: ∀id,exitTo id (.inScope c::k)=exitTo id k:=λid=>by simp [exitTo]
 cases e with
 |normal=>exact⟨.normal,f,g,j,.head i nZ (StepsIn.trans d (.one (fenced_calm s r rfl) Qi))⟩
 |exit id=>exact⟨.exit id,f,g,j,λx t=> .head i nZ (d.1 x (by rw[u];exact t)),
   λo t=>let ⟨k₁,h1,h2⟩:=d.2 o (by rw[u];exact t);⟨k₁,h1,.head i nZ h2⟩⟩
 |goto l=>exact absurd rfl (y l)
 |ret=>exact⟨_,f,g,j,.of_steps (.one i nZ) d⟩
 |panic ch=>exact⟨_,f,g,j,.of_steps (.one i nZ) d⟩
 |outgrown=>exact⟨_,f,g,j,.of_steps (.one i nZ) d⟩
def Tu (tmps:Array Value):ResultVar->Sem Value
 | .tmp t=>pure (tmps.getD t undef)
 | .cell a t=>do loadVar t (←asAddr (tmps.getD a undef))
theorem DP (b:Func)(tmps:Array Value):results b tmps=(do
  let vs ←b.results.mapM (Tu tmps)
  pure (if h:vs.size=1 then vs[0] else .tuple vs)):=rfl
theorem MC {b:List V}{tmps:Array Value}(z:HR P m h w)(o:jM m nt pv b tmps){i:ResultVar}{r:Rv}{u:V}(d:Te P pv i=some r)(e:Ct b h r=some u):
  ∃y,(Tu tmps i).run P w= .ok y w/\VR m u y:=by
 cases i with
 |tmp t=>
  simp only[Te,mJ] at d;obtain⟨k,j,rfl⟩:=d;simp only[Ct] at e;cases e;exact⟨_,rfl,o.val t k j⟩
 |cell t ty=>
  simp only[Te] at d;split at d
  ·rename_i q x
   simp only[mJ] at d;obtain⟨k,j,rfl⟩:=d;simp only[Ct] at e;have f:=o.val t k j;obtain⟨A,s⟩:=DA (agg:=q.1) (n:=q.2) x;obtain⟨y,l,v⟩:=AG z A s f e
   cases hval:b.getD k V.undef with
   |ptr id off=>
    rw[hval] at f;obtain⟨B,_,g⟩:=f;refine⟨y,?_,v⟩;simp only[Tu];rw[g] at l ⊢;simpa [Instr.loadAt,Instr.sureAddr,asAddr] using l
   |_=>rw[hval] at e;simp [QW] at e
  ·cases d
theorem Oe {m:M}{w:World}{f:ResultVar->Sem Value}{g:Rv->Option V}{k:ResultVar->Option Rv}(j: ∀rv r u,k rv=some r->g r=some u-> ∃y,(f rv).run P w= .ok y w/\VR m u y):
  ∀(l:List ResultVar) (rs:List Rv) (us:List V),cH (l.map k)=some rs->cH (rs.map g)=some us-> ∃ys,(l.mapM f).run P w= .ok ys w/\gZ m us ys
 | [],rs,us,d,b=>by
  simp only[List.map_nil,cH] at d;cases d;simp only[List.map_nil,cH] at b;cases b;exact⟨[],rfl,trivial⟩
 |rv::l,rs,us,d,b=>by
  simp only[List.map_cons] at d
  cases hk:k rv with
  |none=>simp [hk,cH] at d
  |some r=>
   simp only[hk,cH,mJ] at d;obtain⟨e,d,rfl⟩:=d;simp only[List.map_cons] at b
   cases hg:g r with
   |none=>simp [hg,cH] at b
   |some u=>
    simp only[hg,cH,mJ] at b;obtain⟨i,b,rfl⟩:=b;obtain⟨y,t,q⟩:=j rv r u hk hg;obtain⟨ys,o,s⟩:=Oe j l e i d b;exact⟨y::ys,by simp [List.mapM_cons,t,o],q,s⟩
theorem Dk {b:List V}{tmps:Array Value}(k:HR P m h w)(s:jM m nt pv b tmps){f:Func}{rs:List Rv}{us:List V}
  (l:cH (f.results.toList.map (Te P pv))=some rs) (i:cH (rs.map (Ct b h))=some us): ∃y,(results f tmps).run P w= .ok y w/\VR m (Jm us) y:=by
 obtain⟨e,o,d⟩:=Oe (P:=P) (m:=m) (w:=w) (λv r u t j=>MC k s t j) f.results.toList rs us l i
 have q:=gZ.length d
 refine⟨if h:e.toArray.size=1 then e.toArray[0] else .tuple e.toArray,?_,?_⟩
 ·rw[DP]
  have g:(f.results.mapM (Tu tmps)).run P w= .ok e.toArray w:=by
   rw[Array.mapM_eq_mapM_toList];simp [o]
  simp only[Sem.run_bind,g,Result.andThen,Sem.run_pure]
 ·match us,e,d,q with
  | [], [],_,_=>exact⟨#[],rfl,trivial⟩
  | [u], [y],d,_=>exact d.1
  |u::u2::us,y::y2::e,d,_=>exact⟨_,rfl,d⟩
theorem Cw {l:Nat}{q:Loop}(h:w.heap[l]? =some (.loop q))(fn:FuncId)(tmps:Array Value)(ps:Array Tmp)(assign body:Code):
  (Instr.enterLoop fn tmps ps assign body (some l)).run P w=
   .ok (w.heap.size, []) (w.alloc (.loop {state:= .ready,pending:=none,fn,tmps,params:=ps,assign,body,defers:=q.defers})):=by
 unfold Instr.enterLoop
 simp only[Sem.run_bind,run_getLoop h,run_newObj_alloc,Result.andThen,Sem.run_pure]
theorem Ys {m:M}{nt:Nat}{pv:List Nat}: ∀(ps:List Tmp) (ks:List Nat) (args:List V) (xs:List Value) (vars:List V) (tmps:Array Value),cH (ps.map λt=>idx t pv)=some ks->gZ m args xs->jM m nt pv vars tmps->
  jM m nt pv ((ks.zip args).foldl (λvs q=>vs.set q.1 q.2) vars) ((ps.zip xs).foldl (λtmps (t,a)=>tmps.setIfInBounds t a) tmps)
 | [],ks,args,xs,vars,tmps,h,_,hv=>by simp only[List.map_nil,cH] at h;cases h;simpa using hv
 |t::ps,ks,args,xs,vars,tmps,h,ha,hv=>by
  simp only[List.map_cons] at h
  cases hi:idx t pv with
  |none=>simp [hi,cH] at h
  |some k=>
   simp only[hi,cH,mJ] at h;obtain⟨b,h,rfl⟩:=h
   match args,xs,ha with
   | [], [],_=>simpa using hv
   |u::args,x::xs,ha=>
    simp only[List.zip_cons_cons,List.foldl_cons]
    exact Ys ps b args xs _ _ h ha.2 (hv.set hi ha.1)
end
end
end Go.Ay
