/- What the statements need: deferred calls, loops, scopes, results, the records of ranges over functions. -/
import Derived.Test.YtcdbmkidaecdiaaGreatAy17
namespace Go.Ay
open Go
section
variable {m:M} {w:World} {lo n nt:Nat} {h:H} {F:Fence} {c:Code} {Q:Exit->Act->World->Prop} {a:Act} {pv:List Nat}
section
variable {P:Program} {p:Nat->Option Fn}
def pL (m:M)(w:World)(lo:Nat):Nat->List Deferred->MZ->Prop
 |_, [],dfs=>dfs= []
 |hi,d::ds,dfs=>
  (∃r,d.target= .collected r/\lo<=r/\r<hi/\w.heap[r]? =some (.deferred (some []))/\pL m w lo r ds dfs)∨
  (∃g args rest ys,dfs=(g,args)::rest/\d.target= .fn (.func g) ys/\gZ m args (d.args++ys).toList/\pL m w lo hi ds rest)
theorem pL.hi {m:M}{w:World}{lo:Nat}: ∀(ds:List Deferred) (hi hi':Nat) (dfs:MZ),hi<=hi'->pL m w lo hi ds dfs->pL m w lo hi' ds dfs
 | [],_,_,_,_,h=>h
 |d::ds,hi,hi',dfs,hle,h=>by
  rcases h with ⟨r,i,k,l,j,o⟩|⟨g,f,b,q,i,k,l,j⟩
  ·exact .inl ⟨r,i,k,om,j,o⟩
  ·exact .inr ⟨g,f,b,q,i,k,l,pL.hi ds hi hi' b hle j⟩
theorem pL.append {b:Nat}(i:lo<=b): ∀(ds ds':List Deferred) (hi:Nat) (dfs dfs':MZ),b<=hi->pL m w b hi ds dfs->pL m w lo b ds' dfs'->pL m w lo hi (ds++ds') (dfs++dfs')
 | [],ds',hi,dfs,dfs',hle,h,h'=>by
  have:dfs= []:=h;subst this;exact pL.hi ds' b hi dfs' hle h'
 |d::ds,ds',hi,dfs,dfs',hle,h,h'=>by
  rcases h with ⟨r,k,q,l,o,s⟩|⟨g,j,f,t,k,q,l,o⟩
  ·exact .inl ⟨r,k,om,l,o,pL.append i ds ds' r dfs dfs' q s h'⟩
  ·subst k
   exact .inr ⟨g,j,f++dfs',t,rfl,q,l,pL.append i ds ds' hi f dfs' hle o h'⟩
theorem HR.not_def (j:HR P m h w){r:Nat}{x:Option (List Deferred)}(d:w.heap[r]? =some (.deferred x)): ¬LB m h r:=by
 rintro⟨id,o,q,h1,h2,rfl⟩;obtain⟨k,i,f⟩:=j.live id o h1;rw[h2] at i;cases i
 cases o with
 |cells ro vs=>obtain⟨c,el,fr,b,_⟩:=f;rw[d] at b;cases b
 |map es=>obtain⟨c,el,b,_⟩:=f;rw[d] at b;cases b
 |wmap sh es=>obtain⟨_,c,el,b,_⟩:=f;rw[d] at b;cases b
 |loop l=>obtain⟨c,b,_⟩:=f;rw[d] at b;cases b
theorem FP.lb {b:Nat}(k:FP m h b):LB m h b:=by
 obtain⟨i,o,q,f,_,j,d⟩:=k;exact⟨i,o,q,f,j,d⟩
theorem pL.Yp {q:M}{h':H}{w':World}(l:HR P m h w)(a:iO P m h w q h' w'): ∀(ds:List Deferred) (hi:Nat) (dfs:MZ),pL m w lo hi ds dfs->pL q w' lo hi ds dfs
 | [],_,_,hd=>hd
 |d::ds,hi,dfs,hd=>by
  rcases hd with ⟨r,j,o,k,f,s⟩|⟨g,i,b,t,j,o,k,f⟩
  ·exact .inl ⟨r,j,o,k,(a.kept.block r (AS.1 f).1 (λu=>l.not_def f u.lb)).trans f,pL.Yp l a ds r dfs s⟩
  ·exact .inr ⟨g,i,b,t,j,o,gZ.mono a.ext _ _ k,pL.Yp l a ds hi b f⟩
theorem iO.dead {s:M}{j:H}{i:World}(a:iO P s j i m h w){r:Nat}{o:Obj}(u: ¬LB m h r)(y:i.heap.size<=r):iO P s j i m h (w.putObj r o):=by
 have f: ∀b,b≠r->(w.putObj r o).heap[b]? =w.heap[b]? :=λb f=>World.putObj_heap_other f
 refine⟨a.ext,⟨λid k d=>?_,a.rel.inj⟩,a.fresh,⟨a.kept.os,a.kept.tape,a.kept.output,by simpa using a.kept.size,λb t x=>?_⟩,a.fp,a.next,a.lb,a.old⟩
 ·obtain⟨q,l,v⟩:=a.rel.live id k d
  exact⟨q,l,OR.mono (Ext.refl m) (f q.1 (λe=>u ⟨id,k,q,d,l,e⟩)) v⟩
 ·rw[f b om];exact a.kept.block b t x
theorem iO.laid (f:HR P m h w)(o:Obj):iO P m h w m h (w.alloc o):=by
 refine⟨Ext.refl m,⟨λid j d=>?_,f.inj⟩,λ_ _ h=> .inl h,⟨rfl,rfl,rfl,by simp,λb l _=>heap_alloc_old w o _ l⟩,λ_ h=> .inl h,fM _,λ_ h=> .inl h,λ_ _ h=>h⟩;obtain⟨q,k,i⟩:=f.live id j d;exact⟨q,k,OR.mono (Ext.refl m) (heap_alloc_old w o _ i.lt) i⟩
def Ps (F:Fence)(n:Nat)(P:Program)(c:Code)(Q:Exit->Act->World->Prop)(a:Act)(w:World):Prop:=
 ∀(b:Frame) (k:List Item) (cs:List Frame),b.roundOf=F.round->F.fn b.fn->F.room (cs.length+1+n)->
  ∃e a' w',Q e a' w'/\ArrivesIn (Machine.fenced P F) P (lone (b.atR a (.code c:: .inLoop c::k)) cs w) b k cs e a' w'
theorem Ps.wp (h:Ps F n P c Q a w):(Code.loop c).wpIn F n P Q a w:=by
 intro b k l f j i;obtain⟨e,r,o,q,d⟩:=h b k l f j i;exact⟨e,r,o,q,.of_steps (.one (fenced_calm j i rfl) stepR_loop) d⟩
theorem Ps.step (h:c.wpIn F n P (Exit.then (Ps F n P c Q) Q) a w):Ps F n P c Q a w:=by
 intro b k z s y v;obtain⟨e,f,i,q,d⟩:=h b (.inLoop c::k) z s y v
 cases e with
 |normal=>
  obtain⟨t,r,u,o,j⟩:=q b k z s y v;exact⟨t,r,u,o,.of_steps (StepsIn.trans d (.one (fenced_calm y v rfl) stepR_inLoop)) j⟩
 |exit id=>exact⟨_,f,i,q,.pass (x:= .inLoop c) rfl (λ_ _=> .inl (by simp)) d⟩
 |goto l=>exact⟨_,f,i,q,.pass (x:= .inLoop c) rfl (λ_ _=> .inl (by simp)) d⟩
 |ret=>exact⟨_,f,i,q,.pass (x:= .inLoop c) rfl (λ_ _=> .inl (by simp)) d⟩
 |panic ch=>exact⟨_,f,i,q,.pass (x:= .inLoop c) rfl (λ_ _=> .inl (by simp)) d⟩
 |outgrown=>exact⟨_,f,i,q,.pass (x:= .inLoop c) rfl (λ_ _=> .inl (by simp)) d⟩
theorem nZ {b:Frame}{k:List Item}{d:List Frame}:
  step P (lone (b.atR a (.code (.scope c)::k)) d w)= .next (lone (b.atR a (.code c:: .inScope c::k)) d w):=
 step_lone_go (by simp [stepG,stepG.exec,Frame.atR])
theorem Qi {b:Frame}{k:List Item}{d:List Frame}:
  step P (lone (b.atR a (.inScope c::k)) d w)= .next (lone (b.atR a k) d w):=
 step_lone_go (by simp [stepG,stepG.exec,Frame.atR])
theorem CY (h:c.wpIn F n P (λe a w=>(∀l,e≠ .goto l)/\Q e a w) a w):(Code.scope c).wpIn F n P Q a w:=by
 intro b k v t u q;have j:(lone (b.atR a (.code (.scope c)::k)) v w).fenced P F:=fenced_calm u q rfl;obtain⟨e,f,i,⟨y,o⟩,d⟩:=h b (.inScope c::k) v t u q;have x: ∀id,exitTo id (.inScope c::k)=exitTo id k:=λid=>by simp [exitTo]
 cases e with
 |normal=>exact⟨.normal,f,i,o,.head j nZ (StepsIn.trans d (.one (fenced_calm u q rfl) Qi))⟩
 |exit id=>exact⟨.exit id,f,i,o,λz r=> .head j nZ (d.1 z (by rw[x];exact r)),
   λs r=>let ⟨k₁,h1,h2⟩:=d.2 s (by rw[x];exact r);⟨k₁,h1,.head j nZ h2⟩⟩
 |goto l=>exact absurd rfl (y l)
 |ret=>exact⟨_,f,i,o,.of_steps (.one j nZ) d⟩
 |panic ch=>exact⟨_,f,i,o,.of_steps (.one j nZ) d⟩
 |outgrown=>exact⟨_,f,i,o,.of_steps (.one j nZ) d⟩
def Tu (tmps:Array Value):ResultVar->Sem Value
 | .tmp t=>pure (tmps.getD t undef)
 | .cell a t=>do loadVar t (←asAddr (tmps.getD a undef))
theorem DP (b:Func)(tmps:Array Value):results b tmps=(do
  let vs ←b.results.mapM (Tu tmps)
  pure (if h:vs.size=1 then vs[0] else .tuple vs)):=rfl
theorem MC {b:List V}{tmps:Array Value}(z:HR P m h w)(v:jM m nt pv b tmps){l:ResultVar}{r:Rv}{u:V}(d:Te P pv l=some r)(f:Ct b h r=some u):
  ∃y,(Tu tmps l).run P w= .ok y w/\VR m u y:=by
 cases l with
 |tmp t=>
  simp only[Te,mJ] at d;obtain⟨k,j,rfl⟩:=d;simp only[Ct] at f;cases f;exact⟨_,rfl,v.val t k j⟩
 |cell t ty=>
  simp only[Te] at d;split at d
  ·rename_i q G
   simp only[mJ] at d;obtain⟨k,j,rfl⟩:=d;simp only[Ct] at f;have i:=v.val t k j;obtain⟨x,B⟩:=DA (agg:=q.1) (n:=q.2) G;obtain⟨y,s,A⟩:=AG z x B i f
   cases hval:b.getD k V.undef with
   |ptr id off=>
    rw[hval] at i;obtain⟨J,_,o⟩:=i;refine⟨y,?_,A⟩;simp only[Tu];rw[o] at s ⊢;simpa [Instr.loadAt,Instr.sureAddr,asAddr] using s
   |_=>rw[hval] at f;simp [QW] at f
  ·cases d
theorem Oe {m:M}{w:World}{f:ResultVar->Sem Value}{g:Rv->Option V}{k:ResultVar->Option Rv}(o: ∀rv r u,k rv=some r->g r=some u-> ∃y,(f rv).run P w= .ok y w/\VR m u y):
  ∀(l:List ResultVar) (rs:List Rv) (us:List V),cH (l.map k)=some rs->cH (rs.map g)=some us-> ∃ys,(l.mapM f).run P w= .ok ys w/\gZ m us ys
 | [],rs,us,b,d=>by
  simp only[List.map_nil,cH] at b;cases b;simp only[List.map_nil,cH] at d;cases d;exact⟨[],rfl,trivial⟩
 |rv::l,rs,us,b,d=>by
  simp only[List.map_cons] at b
  cases hk:k rv with
  |none=>simp [hk,cH] at b
  |some r=>
   simp only[hk,cH,mJ] at b;obtain⟨i,b,rfl⟩:=b;simp only[List.map_cons] at d
   cases hg:g r with
   |none=>simp [hg,cH] at d
   |some u=>
    simp only[hg,cH,mJ] at d;obtain⟨j,d,rfl⟩:=d;obtain⟨y,s,v⟩:=o rv r u hk hg;obtain⟨ys,t,q⟩:=Oe o l i j b d;exact⟨y::ys,by simp [List.mapM_cons,s,t],v,q⟩
theorem Dk {b:List V}{tmps:Array Value}(s:HR P m h w)(o:jM m nt pv b tmps){i:Func}{rs:List Rv}{us:List V}
  (l:cH (i.results.toList.map (Te P pv))=some rs) (q:cH (rs.map (Ct b h))=some us): ∃y,(results i tmps).run P w= .ok y w/\VR m (Jm us) y:=by
 obtain⟨d,j,f⟩:=Oe (P:=P) (m:=m) (w:=w) (λz r u t v=>MC s o t v) i.results.toList rs us l q
 have x:=gZ.length f
 refine⟨if h:d.toArray.size=1 then d.toArray[0] else .tuple d.toArray,?_,?_⟩
 ·rw[DP]
  have k:(i.results.mapM (Tu tmps)).run P w= .ok d.toArray w:=by
   rw[Array.mapM_eq_mapM_toList];simp [j]
  simp only[Sem.run_bind,k,Result.andThen,Sem.run_pure]
 ·match us,d,f,x with
  | [], [],_,_=>exact⟨#[],rfl,trivial⟩
  | [u], [y],f,_=>exact f.1
  |u::u2::us,y::y2::d,f,_=>exact⟨_,rfl,f⟩
theorem Cw {l:Nat}{q:Loop}(h:w.heap[l]? =some (.loop q))(fn:FuncId)(tmps:Array Value)(ps:Array Tmp)(assign body:Code):
  (Instr.enterLoop fn tmps ps assign body (some l)).run P w=
   .ok (w.heap.size, []) (w.alloc (.loop {state:= .ready,pending:=none,fn,tmps,params:=ps,assign,body,defers:=q.defers})):=by
 unfold Instr.enterLoop
 simp only[Sem.run_bind,run_getLoop h,run_newObj_alloc,Result.andThen,Sem.run_pure]
theorem Ys {m:M}{nt:Nat}{pv:List Nat}: ∀(ps:List Tmp) (ks:List Nat) (args:List V) (xs:List Value) (vars:List V) (tmps:Array Value),cH (ps.map λt=>idx t pv)=some ks->gZ m args xs->jM m nt pv vars tmps->
  jM m nt pv ((ks.zip args).foldl (λvs q=>vs.set q.1 q.2) vars) ((ps.zip xs).foldl (λtmps (t,a)=>tmps.setIfInBounds t a) tmps)
 | [],ks,args,xs,vars,tmps,h,_,hv=>by simp only[List.map_nil,cH] at h;cases h;simpa using hv
 |t::ps,ks,args,xs,vars,tmps,h,ha,hv=>by
  simp only[List.map_cons] at h
  cases hi:idx t pv with
  |none=>simp [hi,cH] at h
  |some k=>
   simp only[hi,cH,mJ] at h;obtain⟨b,h,rfl⟩:=h
   match args,xs,ha with
   | [], [],_=>simpa using hv
   |u::args,x::xs,ha=>
    simp only[List.zip_cons_cons,List.foldl_cons]
    exact Ys ps b args xs _ _ h ha.2 (hv.set hi ha.1)
end
end
end Go.Ay
