/- What the statements need: deferred calls, loops, scopes, results, the records of ranges over functions. -/
import Derived.Test.YtapfcpkecmmagaaGreatAy17
namespace Go.Ay
open Go
section
variable {m:M} {w:World} {lo n nt:Nat} {h:H} {F:Fence} {c:Code} {Q:Exit->Act->World->Prop} {a:Act} {pv:List Nat}
section
variable {P:Program} {p:Nat->Option Fn}
def jE (m:M)(w:World)(lo:Nat):Nat->List Deferred->Lh->Prop
 |_, [],dfs=>dfs= []
 |hi,d::ds,dfs=>
  (∃r,d.target= .collected r/\lo<=r/\r<hi/\w.heap[r]? =some (.deferred (some []))/\jE m w lo r ds dfs)∨
  (∃g args rest ys,dfs=(g,args)::rest/\d.target= .fn (.func g) ys/\eG m args (d.args++ys).toList/\jE m w lo hi ds rest)
theorem jE.hi {m:M}{w:World}{lo:Nat}: ∀(ds:List Deferred) (hi hi':Nat) (dfs:Lh),hi<=hi'->jE m w lo hi ds dfs->jE m w lo hi' ds dfs
 | [],_,_,_,_,h=>h
 |d::ds,hi,hi',dfs,hle,h=>by
  rcases h with ⟨r,h1,h2,h3,h4,h5⟩|⟨g,args,rest,ys,h1,h2,h3,h4⟩
  ·exact .inl ⟨r,h1,h2,by omega,h4,h5⟩
  ·exact .inr ⟨g,args,rest,ys,h1,h2,h3,jE.hi ds hi hi' rest hle h4⟩
theorem jE.append {mid:Nat}(hlm:lo<=mid): ∀(ds ds':List Deferred) (hi:Nat) (dfs dfs':Lh),mid<=hi->jE m w mid hi ds dfs->jE m w lo mid ds' dfs'->jE m w lo hi (ds++ds') (dfs++dfs')
 | [],ds',hi,dfs,dfs',hle,h,h'=>by
  have:dfs= []:=h;subst this;exact jE.hi ds' mid hi dfs' hle h'
 |d::ds,ds',hi,dfs,dfs',hle,h,h'=>by
  rcases h with ⟨r,h1,h2,h3,h4,h5⟩|⟨g,args,rest,ys,h1,h2,h3,h4⟩
  ·exact .inl ⟨r,h1,by omega,h3,h4,jE.append hlm ds ds' r dfs dfs' h2 h5 h'⟩
  ·subst h1
   exact .inr ⟨g,args,rest++dfs',ys,rfl,h2,h3,jE.append hlm ds ds' hi rest dfs' hle h4 h'⟩
theorem HR.not_def (hr:HR P m h w){r:Nat}{x:Option (List Deferred)}(hd:w.heap[r]? =some (.deferred x)): ¬LB m h r:=by
 rintro⟨id,o,q,h1,h2,rfl⟩;obtain⟨q',hq,ho⟩:=hr.live id o h1;rw[h2] at hq;cases hq
 cases o with
 |cells ro vs=>obtain⟨c,el,fr,h3,_⟩:=ho;rw[hd] at h3;cases h3
 |map es=>obtain⟨c,el,h3,_⟩:=ho;rw[hd] at h3;cases h3
 |wmap sh es=>obtain⟨_,c,el,h3,_⟩:=ho;rw[hd] at h3;cases h3
 |loop l=>obtain⟨c,h3,_⟩:=ho;rw[hd] at h3;cases h3
theorem FP.lb {b:Nat}(hf:FP m h b):LB m h b:=by
 obtain⟨i,o,q,e1,_,e3,e4⟩:=hf;exact⟨i,o,q,e1,e3,e4⟩
theorem jE.Bl {m':M}{h':H}{w':World}(hr:HR P m h w)(a:eS P m h w m' h' w'): ∀(ds:List Deferred) (hi:Nat) (dfs:Lh),jE m w lo hi ds dfs->jE m' w' lo hi ds dfs
 | [],_,_,hd=>hd
 |d::ds,hi,dfs,hd=>by
  rcases hd with ⟨r,h1,h2,h3,h4,h5⟩|⟨g,args,rest,ys,h1,h2,h3,h4⟩
  ·exact .inl ⟨r,h1,h2,h3,(a.kept.block r (Array.getElem?_eq_some_iff.1 h4).1 (λhf=>hr.not_def h4 hf.lb)).trans h4,jE.Bl hr a ds r dfs h5⟩
  ·exact .inr ⟨g,args,rest,ys,h1,h2,eG.mono a.ext _ _ h3,jE.Bl hr a ds hi rest h4⟩
theorem eS.dead {m0:M}{h0:H}{w0:World}(a:eS P m0 h0 w0 m h w){r:Nat}{o:Obj}(hr: ¬LB m h r)(hlo:w0.heap.size<=r):eS P m0 h0 w0 m h (w.putObj r o):=by
 have hb: ∀b,b≠r->(w.putObj r o).heap[b]? =w.heap[b]? :=λb hb=>World.putObj_heap_other hb
 refine⟨a.ext,⟨λid ob hid=>?_,a.rel.inj⟩,a.fresh,⟨a.kept.os,a.kept.tape,a.kept.output,by simpa using a.kept.size,λb h1 h2=>?_⟩,a.fp,a.next,a.lb,a.old⟩
 ·obtain⟨q,hq,ho⟩:=a.rel.live id ob hid
  exact⟨q,hq,OR.mono (Ext.refl m) (hb q.1 (λe=>hr ⟨id,ob,q,hid,hq,e⟩)) ho⟩
 ·rw[hb b (by omega)];exact a.kept.block b h1 h2
theorem eS.laid (hr:HR P m h w)(o:Obj):eS P m h w m h (w.alloc o):=by
 refine⟨Ext.refl m,⟨λid ob hid=>?_,hr.inj⟩,λ_ _ h=> .inl h,⟨rfl,rfl,rfl,by simp,λb hb _=>heap_alloc_old w o _ hb⟩,λ_ h=> .inl h,eP _,λ_ h=> .inl h,λ_ _ h=>h⟩;obtain⟨q,hq,ho⟩:=hr.live id ob hid;exact⟨q,hq,OR.mono (Ext.refl m) (heap_alloc_old w o _ ho.lt) ho⟩
def uR (F:Fence)(n:Nat)(P:Program)(c:Code)(Q:Exit->Act->World->Prop)(a:Act)(w:World):Prop:=
 ∀(b:Frame) (k:List Item) (cs:List Frame),b.roundOf=F.round->F.fn b.fn->F.room (cs.length+1+n)->
  ∃e a' w',Q e a' w'/\ArrivesIn (Machine.fenced P F) P (lone (b.atR a (.code c:: .inLoop c::k)) cs w) b k cs e a' w'
theorem uR.wp (h:uR F n P c Q a w):(Code.loop c).wpIn F n P Q a w:=by
 intro b k cs hro hb hr;obtain⟨e,a',w',hq,harr⟩:=h b k cs hro hb hr;exact⟨e,a',w',hq,.of_steps (.one (fenced_calm hb hr rfl) stepR_loop) harr⟩
theorem uR.step (h:c.wpIn F n P (Exit.then (uR F n P c Q) Q) a w):uR F n P c Q a w:=by
 intro b k cs hro hb hr;obtain⟨e,a₁,w₁,hq,harr⟩:=h b (.inLoop c::k) cs hro hb hr
 cases e with
 |normal=>
  obtain⟨e₂,a₂,w₂,hq₂,harr₂⟩:=hq b k cs hro hb hr;exact⟨e₂,a₂,w₂,hq₂,.of_steps (StepsIn.trans harr (.one (fenced_calm hb hr rfl) stepR_inLoop)) harr₂⟩
 |exit id=>exact⟨_,a₁,w₁,hq,.pass (x:= .inLoop c) rfl (λ_ _=> .inl (by simp)) harr⟩
 |goto l=>exact⟨_,a₁,w₁,hq,.pass (x:= .inLoop c) rfl (λ_ _=> .inl (by simp)) harr⟩
 |ret=>exact⟨_,a₁,w₁,hq,.pass (x:= .inLoop c) rfl (λ_ _=> .inl (by simp)) harr⟩
 |panic ch=>exact⟨_,a₁,w₁,hq,.pass (x:= .inLoop c) rfl (λ_ _=> .inl (by simp)) harr⟩
 |outgrown=>exact⟨_,a₁,w₁,hq,.pass (x:= .inLoop c) rfl (λ_ _=> .inl (by simp)) harr⟩
theorem iU {b:Frame}{k:List Item}{cs:List Frame}:
  step P (lone (b.atR a (.code (.scope c)::k)) cs w)= .next (lone (b.atR a (.code c:: .inScope c::k)) cs w):=
 step_lone_go (by simp [stepG,stepG.exec,Frame.atR])
theorem xU {b:Frame}{k:List Item}{cs:List Frame}:
  step P (lone (b.atR a (.inScope c::k)) cs w)= .next (lone (b.atR a k) cs w):=
 step_lone_go (by simp [stepG,stepG.exec,Frame.atR])
theorem Em (h:c.wpIn F n P (λe a w=>(∀l,e≠ .goto l)/\Q e a w) a w):(Code.scope c).wpIn F n P Q a w:=by
 intro b k cs hro hb hr;have h0:(lone (b.atR a (.code (.scope c)::k)) cs w).fenced P F:=fenced_calm hb hr rfl;obtain⟨e,a₁,w₁,⟨hg,hq⟩,harr⟩:=h b (.inScope c::k) cs hro hb hr;have hx: ∀id,exitTo id (.inScope c::k)=exitTo id k:=λid=>by simp [exitTo]
 cases e with
 |normal=>exact⟨.normal,a₁,w₁,hq,.head h0 iU (StepsIn.trans harr (.one (fenced_calm hb hr rfl) xU))⟩
 |exit id=>exact⟨.exit id,a₁,w₁,hq,λk' hk=> .head h0 iU (harr.1 k' (by rw[hx];exact hk)),
   λhr' hk=>let ⟨k₁,h1,h2⟩:=harr.2 hr' (by rw[hx];exact hk);⟨k₁,h1,.head h0 iU h2⟩⟩
 |goto l=>exact absurd rfl (hg l)
 |ret=>exact⟨_,a₁,w₁,hq,.of_steps (.one h0 iU) harr⟩
 |panic ch=>exact⟨_,a₁,w₁,hq,.of_steps (.one h0 iU) harr⟩
 |outgrown=>exact⟨_,a₁,w₁,hq,.of_steps (.one h0 iU) harr⟩
def zX (tmps:Array Value):ResultVar->Sem Value
 | .tmp t=>pure (tmps.getD t undef)
 | .cell a t=>do loadVar t (←asAddr (tmps.getD a undef))
theorem Gt (fn:Func)(tmps:Array Value):results fn tmps=(do
  let vs ←fn.results.mapM (zX tmps)
  pure (if h:vs.size=1 then vs[0] else .tuple vs)):=rfl
theorem Kb {vars:List V}{tmps:Array Value}(hr:HR P m h w)(hv:fL m nt pv vars tmps){rv:ResultVar}{r:Rv}{u:V}(hc:zE P pv rv=some r)(he:qD vars h r=some u):
  ∃y,(zX tmps rv).run P w= .ok y w/\VR m u y:=by
 cases rv with
 |tmp t=>
  simp only[zE,gJ] at hc;obtain⟨k,hk,rfl⟩:=hc;simp only[qD] at he;cases he;exact⟨_,rfl,hv.val t k hk⟩
 |cell t ty=>
  simp only[zE] at hc;split at hc
  ·rename_i q hq
   simp only[gJ] at hc;obtain⟨k,hk,rfl⟩:=hc;simp only[qD] at he;have hx:=hv.val t k hk;obtain⟨h1,h2⟩:=Dy (agg:=q.1) (n:=q.2) hq;obtain⟨y,h3,h4⟩:=Cx hr h1 h2 hx he
   cases hval:vars.getD k V.undef with
   |ptr id off=>
    rw[hval] at hx;obtain⟨q2,_,hxe⟩:=hx;refine⟨y,?_,h4⟩;simp only[zX];rw[hxe] at h3 ⊢;simpa [Instr.loadAt,Instr.sureAddr,asAddr] using h3
   |_=>rw[hval] at he;simp [Pl] at he
  ·cases hc
theorem uU {m:M}{w:World}{f:ResultVar->Sem Value}{g:Rv->Option V}{k:ResultVar->Option Rv}(hf: ∀rv r u,k rv=some r->g r=some u-> ∃y,(f rv).run P w= .ok y w/\VR m u y):
  ∀(l:List ResultVar) (rs:List Rv) (us:List V),bY (l.map k)=some rs->bY (rs.map g)=some us-> ∃ys,(l.mapM f).run P w= .ok ys w/\eG m us ys
 | [],rs,us,h1,h2=>by
  simp only[List.map_nil,bY] at h1;cases h1;simp only[List.map_nil,bY] at h2;cases h2;exact⟨[],rfl,trivial⟩
 |rv::l,rs,us,h1,h2=>by
  simp only[List.map_cons] at h1
  cases hk:k rv with
  |none=>simp [hk,bY] at h1
  |some r=>
   simp only[hk,bY,gJ] at h1;obtain⟨rs',h1,rfl⟩:=h1;simp only[List.map_cons] at h2
   cases hg:g r with
   |none=>simp [hg,bY] at h2
   |some u=>
    simp only[hg,bY,gJ] at h2;obtain⟨us',h2,rfl⟩:=h2;obtain⟨y,e1,e2⟩:=hf rv r u hk hg;obtain⟨ys,e3,e4⟩:=uU hf l rs' us' h1 h2;exact⟨y::ys,by simp [List.mapM_cons,e1,e3],e2,e4⟩
theorem qJ {vars:List V}{tmps:Array Value}(hr:HR P m h w)(hv:fL m nt pv vars tmps){fn:Func}{rs:List Rv}{us:List V}
  (hc:bY (fn.results.toList.map (zE P pv))=some rs) (he:bY (rs.map (qD vars h))=some us): ∃y,(results fn tmps).run P w= .ok y w/\VR m (tJ us) y:=by
 obtain⟨ys,h1,h2⟩:=uU (P:=P) (m:=m) (w:=w) (λrv r u hk hg=>Kb hr hv hk hg) fn.results.toList rs us hc he
 have hl:=eG.length h2
 refine⟨if h:ys.toArray.size=1 then ys.toArray[0] else .tuple ys.toArray,?_,?_⟩
 ·rw[Gt]
  have h3:(fn.results.mapM (zX tmps)).run P w= .ok ys.toArray w:=by
   rw[Array.mapM_eq_mapM_toList];simp [h1]
  simp only[Sem.run_bind,h3,Result.andThen,Sem.run_pure]
 ·match us,ys,h2,hl with
  | [], [],_,_=>exact⟨#[],rfl,trivial⟩
  | [u], [y],h2,_=>exact h2.1
  |u::u2::us,y::y2::ys,h2,_=>exact⟨_,rfl,h2⟩
theorem qE {l:Nat}{q:Loop}(h:w.heap[l]? =some (.loop q))(fn:FuncId)(tmps:Array Value)(ps:Array Tmp)(assign body:Code):
  (Instr.enterLoop fn tmps ps assign body (some l)).run P w=
   .ok (w.heap.size, []) (w.alloc (.loop {state:= .ready,pending:=none,fn,tmps,params:=ps,assign,body,defers:=q.defers})):=by
 unfold Instr.enterLoop
 simp only[Sem.run_bind,run_getLoop h,run_newObj_alloc,Result.andThen,Sem.run_pure]
theorem Cj {m:M}{nt:Nat}{pv:List Nat}: ∀(ps:List Tmp) (ks:List Nat) (args:List V) (xs:List Value) (vars:List V) (tmps:Array Value),bY (ps.map λt=>idx t pv)=some ks->eG m args xs->fL m nt pv vars tmps->
  fL m nt pv ((ks.zip args).foldl (λvs q=>vs.set q.1 q.2) vars) ((ps.zip xs).foldl (λtmps (t,a)=>tmps.setIfInBounds t a) tmps)
 | [],ks,args,xs,vars,tmps,h,_,hv=>by simp only[List.map_nil,bY] at h;cases h;simpa using hv
 |t::ps,ks,args,xs,vars,tmps,h,ha,hv=>by
  simp only[List.map_cons] at h
  cases hi:idx t pv with
  |none=>simp [hi,bY] at h
  |some k=>
   simp only[hi,bY,gJ] at h;obtain⟨ks',h,rfl⟩:=h
   match args,xs,ha with
   | [], [],_=>simpa using hv
   |u::args,x::xs,ha=>
    simp only[List.zip_cons_cons,List.foldl_cons]
    exact Cj ps ks' args xs _ _ h ha.2 (hv.set hi ha.1)
end
end
end Go.Ay
