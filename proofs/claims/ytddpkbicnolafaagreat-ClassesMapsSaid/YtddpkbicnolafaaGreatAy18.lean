/- What the statements need: deferred calls, loops, scopes, results, the records of ranges over functions. -/
import Derived.Test.YtddpkbicnolafaaGreatAy17
namespace Go.Ay
open Go
section
variable {P:Program} {p:Nat->Option Fn}
def rW (m:M) (w:World) (lo:Nat):Nat->List Deferred->UT->Prop
 |_, [],dfs=>dfs= []
 |hi,d::ds,dfs=>
  (∃ r,d.target= .collected r/\lo<=r/\r<hi/\w.heap[r]? =some (.deferred (some []))/\rW m w lo r ds dfs)∨
  (∃ g args rest ys,dfs=(g,args)::rest/\d.target= .fn (.func g) ys/\gW m args (d.args++ys).toList/\rW m w lo hi ds rest)
theorem rW.hi {m:M} {w:World} {lo:Nat}: ∀ (ds:List Deferred) (hi hi':Nat) (dfs:UT),hi<=hi'->rW m w lo hi ds dfs->rW m w lo hi' ds dfs
 | [],_,_,_,_,h=>h
 |d::ds,hi,hi',dfs,hle,h=>by
  rcases h with ⟨r,h1,h2,h3,h4,h5⟩|⟨g,args,rest,ys,h1,h2,h3,h4⟩
  ·exact .inl ⟨r,h1,h2,by omega,h4,h5⟩
  ·exact .inr ⟨g,args,rest,ys,h1,h2,h3,rW.hi ds hi hi' rest hle h4⟩
theorem rW.append {m:M} {w:World} {lo mid:Nat} (hlm:lo<=mid): ∀ (ds ds':List Deferred) (hi:Nat) (dfs dfs':UT),mid<=hi->rW m w mid hi ds dfs->rW m w lo mid ds' dfs'->rW m w lo hi (ds++ds') (dfs++dfs')
 | [],ds',hi,dfs,dfs',hle,h,h'=>by
  have:dfs= []:=h
  subst this
  exact rW.hi ds' mid hi dfs' hle h'
 |d::ds,ds',hi,dfs,dfs',hle,h,h'=>by
  rcases h with ⟨r,h1,h2,h3,h4,h5⟩|⟨g,args,rest,ys,h1,h2,h3,h4⟩
  ·exact .inl ⟨r,h1,by omega,h3,h4,rW.append hlm ds ds' r dfs dfs' h2 h5 h'⟩
  ·subst h1
   exact .inr ⟨g,args,rest++dfs',ys,rfl,h2,h3,rW.append hlm ds ds' hi rest dfs' hle h4 h'⟩
theorem HR.not_def {m:M} {h:H} {w:World} (hr:HR P m h w) {r:Nat} {x:Option (List Deferred)} (hd:w.heap[r]? =some (.deferred x)): ¬LB m h r:=by
 rintro ⟨id,o,q,h1,h2,rfl⟩
 obtain ⟨q',hq,ho⟩:=hr.live id o h1
 rw [h2] at hq;cases hq
 cases o with
 |cells ro vs=>obtain ⟨c,el,fr,h3,_⟩:=ho;rw [hd] at h3;cases h3
 |map es=>obtain ⟨c,el,h3,_⟩:=ho;rw [hd] at h3;cases h3
 |wmap sh es=>obtain ⟨_,c,el,h3,_⟩:=ho;rw [hd] at h3;cases h3
 |loop l=>obtain ⟨c,h3,_⟩:=ho;rw [hd] at h3;cases h3
theorem FP.lb {m:M} {h:H} {b:Nat} (hf:FP m h b):LB m h b:=by
 obtain ⟨i,o,q,e1,_,e3,e4⟩:=hf
 exact ⟨i,o,q,e1,e3,e4⟩
theorem rW.EY {m m':M} {h h':H} {w w':World} (hr:HR P m h w) (a:iP P m h w m' h' w') {lo:Nat}: ∀ (ds:List Deferred) (hi:Nat) (dfs:UT),rW m w lo hi ds dfs->rW m' w' lo hi ds dfs
 | [],_,_,hd=>hd
 |d::ds,hi,dfs,hd=>by
  rcases hd with ⟨r,h1,h2,h3,h4,h5⟩|⟨g,args,rest,ys,h1,h2,h3,h4⟩
  ·exact .inl ⟨r,h1,h2,h3,(a.kept.block r (Array.getElem?_eq_some_iff.1 h4).1 (λ hf=>hr.not_def h4 hf.lb)).trans h4,rW.EY hr a ds r dfs h5⟩
  ·exact .inr ⟨g,args,rest,ys,h1,h2,gW.mono a.ext _ _ h3,rW.EY hr a ds hi rest h4⟩
theorem iP.dead {m0 m:M} {h0 h:H} {w0 w:World} (a:iP P m0 h0 w0 m h w) {r:Nat} {o:Obj} (hr: ¬LB m h r) (hlo:w0.heap.size<=r):iP P m0 h0 w0 m h (w.putObj r o):=by
 have hb: ∀ b,b≠r->(w.putObj r o).heap[b]? =w.heap[b]? :=λ b hb=>World.putObj_heap_other hb
 refine ⟨a.ext,⟨λ id ob hid=>?_,a.rel.inj⟩,a.fresh,⟨a.kept.os,a.kept.tape,a.kept.output,by simpa using a.kept.size,λ b h1 h2=>?_⟩,a.fp,a.next,a.lb,a.old⟩
 ·obtain ⟨q,hq,ho⟩:=a.rel.live id ob hid
  exact ⟨q,hq,OR.mono (Ext.refl m) (hb q.1 (λ e=>hr ⟨id,ob,q,hid,hq,e⟩)) ho⟩
 ·rw [hb b (by omega)];exact a.kept.block b h1 h2
theorem iP.laid {m:M} {h:H} {w:World} (hr:HR P m h w) (o:Obj):iP P m h w m h (w.alloc o):=by
 refine ⟨Ext.refl m,⟨λ id ob hid=>?_,hr.inj⟩,λ _ _ h=> .inl h,⟨rfl,rfl,rfl,by simp,λ b hb _=>heap_alloc_old w o _ hb⟩,λ _ h=> .inl h,jC _,λ _ h=> .inl h,λ _ _ h=>h⟩
 obtain ⟨q,hq,ho⟩:=hr.live id ob hid
 exact ⟨q,hq,OR.mono (Ext.refl m) (heap_alloc_old w o _ ho.lt) ho⟩
def Sz (F:Fence) (n:Nat) (P:Program) (c:Code) (Q:Exit->Act->World->Prop) (a:Act) (w:World):Prop:=
 ∀ (b:Frame) (k:List Item) (cs:List Frame),b.roundOf=F.round->F.fn b.fn->F.room (cs.length+1+n)->
  ∃ e a' w',Q e a' w'/\ArrivesIn (Machine.fenced P F) P (lone (b.atR a (.code c:: .inLoop c::k)) cs w) b k cs e a' w'
theorem Sz.wp {F:Fence} {n:Nat} {c:Code} {Q:Exit->Act->World->Prop} {a:Act} {w:World} (h:Sz F n P c Q a w):(Code.loop c).wpIn F n P Q a w:=by
 intro b k cs hro hb hr
 obtain ⟨e,a',w',hq,harr⟩:=h b k cs hro hb hr
 exact ⟨e,a',w',hq,.of_steps (.one (fenced_calm hb hr rfl) stepR_loop) harr⟩
theorem Sz.step {F:Fence} {n:Nat} {c:Code} {Q:Exit->Act->World->Prop} {a:Act} {w:World} (h:c.wpIn F n P (Exit.then (Sz F n P c Q) Q) a w):Sz F n P c Q a w:=by
 intro b k cs hro hb hr
 obtain ⟨e,a₁,w₁,hq,harr⟩:=h b (.inLoop c::k) cs hro hb hr
 cases e with
 |normal=>
  obtain ⟨e₂,a₂,w₂,hq₂,harr₂⟩:=hq b k cs hro hb hr
  exact ⟨e₂,a₂,w₂,hq₂,.of_steps (StepsIn.trans harr (.one (fenced_calm hb hr rfl) stepR_inLoop)) harr₂⟩
 |exit id=>exact ⟨_,a₁,w₁,hq,.pass (x:= .inLoop c) rfl (λ _ _=> .inl (by simp)) harr⟩
 |goto l=>exact ⟨_,a₁,w₁,hq,.pass (x:= .inLoop c) rfl (λ _ _=> .inl (by simp)) harr⟩
 |ret=>exact ⟨_,a₁,w₁,hq,.pass (x:= .inLoop c) rfl (λ _ _=> .inl (by simp)) harr⟩
 |panic ch=>exact ⟨_,a₁,w₁,hq,.pass (x:= .inLoop c) rfl (λ _ _=> .inl (by simp)) harr⟩
 |outgrown=>exact ⟨_,a₁,w₁,hq,.pass (x:= .inLoop c) rfl (λ _ _=> .inl (by simp)) harr⟩
theorem qC {b:Frame} {a:Act} {k:List Item} {cs:List Frame} {w:World} {c:Code}:
  step P (lone (b.atR a (.code (.scope c)::k)) cs w)= .next (lone (b.atR a (.code c:: .inScope c::k)) cs w):=
 step_lone_go (by simp [stepG,stepG.exec,Frame.atR])
theorem Wo {b:Frame} {a:Act} {k:List Item} {cs:List Frame} {w:World} {c:Code}:
  step P (lone (b.atR a (.inScope c::k)) cs w)= .next (lone (b.atR a k) cs w):=
 step_lone_go (by simp [stepG,stepG.exec,Frame.atR])
theorem MS {F:Fence} {n:Nat} {c:Code} {Q:Exit->Act->World->Prop} {a:Act} {w:World} (h:c.wpIn F n P (λ e a w=>(∀ l,e≠ .goto l)/\Q e a w) a w):(Code.scope c).wpIn F n P Q a w:=by
 intro b k cs hro hb hr
 have h0:(lone (b.atR a (.code (.scope c)::k)) cs w).fenced P F:=fenced_calm hb hr rfl
 obtain ⟨e,a₁,w₁,⟨hg,hq⟩,harr⟩:=h b (.inScope c::k) cs hro hb hr
 have hx: ∀ id,exitTo id (.inScope c::k)=exitTo id k:=λ id=>by simp [exitTo]
 cases e with
 |normal=>exact ⟨.normal,a₁,w₁,hq,.head h0 qC (StepsIn.trans harr (.one (fenced_calm hb hr rfl) Wo))⟩
 |exit id=>exact ⟨.exit id,a₁,w₁,hq,λ k' hk=> .head h0 qC (harr.1 k' (by rw [hx];exact hk)),
   λ hr' hk=>let ⟨k₁,h1,h2⟩:=harr.2 hr' (by rw [hx];exact hk);⟨k₁,h1,.head h0 qC h2⟩⟩
 |goto l=>exact absurd rfl (hg l)
 |ret=>exact ⟨_,a₁,w₁,hq,.of_steps (.one h0 qC) harr⟩
 |panic ch=>exact ⟨_,a₁,w₁,hq,.of_steps (.one h0 qC) harr⟩
 |outgrown=>exact ⟨_,a₁,w₁,hq,.of_steps (.one h0 qC) harr⟩
def AM (tmps:Array Value):ResultVar->Sem Value
 | .tmp t=>pure (tmps.getD t undef)
 | .cell a t=>do loadVar t (←asAddr (tmps.getD a undef))
theorem JE (fn:Func) (tmps:Array Value):results fn tmps=(do
  let vs ←fn.results.mapM (AM tmps)
  pure (if h:vs.size=1 then vs[0] else .tuple vs)):=rfl
theorem QL {m:M} {h:H} {w:World} {nt:Nat} {pv:List Nat} {vars:List V} {tmps:Array Value} (hr:HR P m h w) (hv:jX m nt pv vars tmps) {rv:ResultVar} {r:Rv} {u:V} (hc:Zd P pv rv=some r) (he:Gw vars h r=some u):
  ∃ y,(AM tmps rv).run P w= .ok y w/\VR m u y:=by
 cases rv with
 |tmp t=>
  simp only [Zd,oC] at hc
  obtain ⟨k,hk,rfl⟩:=hc
  simp only [Gw] at he
  cases he
  exact ⟨_,rfl,hv.val t k hk⟩
 |cell t ty=>
  simp only [Zd] at hc
  split at hc
  ·rename_i q hq
   simp only [oC] at hc
   obtain ⟨k,hk,rfl⟩:=hc
   simp only [Gw] at he
   have hx:=hv.val t k hk
   obtain ⟨h1,h2⟩:=JL (agg:=q.1) (n:=q.2) hq
   obtain ⟨y,h3,h4⟩:=GN hr h1 h2 hx he
   cases hval:vars.getD k V.undef with
   |ptr id off=>
    rw [hval] at hx
    obtain ⟨q2,_,hxe⟩:=hx
    refine ⟨y,?_,h4⟩
    simp only [AM]
    rw [hxe] at h3 ⊢
    simpa [Instr.loadAt,Instr.sureAddr,asAddr] using h3
   |_=>rw [hval] at he;simp [XK] at he
  ·cases hc
theorem Vk {m:M} {w:World} {f:ResultVar->Sem Value} {g:Rv->Option V} {k:ResultVar->Option Rv} (hf: ∀ rv r u,k rv=some r->g r=some u-> ∃ y,(f rv).run P w= .ok y w/\VR m u y):
  ∀ (l:List ResultVar) (rs:List Rv) (us:List V),cK (l.map k)=some rs->cK (rs.map g)=some us-> ∃ ys,(l.mapM f).run P w= .ok ys w/\gW m us ys
 | [],rs,us,h1,h2=>by
  simp only [List.map_nil,cK] at h1;cases h1
  simp only [List.map_nil,cK] at h2;cases h2
  exact ⟨[],rfl,trivial⟩
 |rv::l,rs,us,h1,h2=>by
  simp only [List.map_cons] at h1
  cases hk:k rv with
  |none=>simp [hk,cK] at h1
  |some r=>
   simp only [hk,cK,oC] at h1
   obtain ⟨rs',h1,rfl⟩:=h1
   simp only [List.map_cons] at h2
   cases hg:g r with
   |none=>simp [hg,cK] at h2
   |some u=>
    simp only [hg,cK,oC] at h2
    obtain ⟨us',h2,rfl⟩:=h2
    obtain ⟨y,e1,e2⟩:=hf rv r u hk hg
    obtain ⟨ys,e3,e4⟩:=Vk hf l rs' us' h1 h2
    exact ⟨y::ys,by simp [List.mapM_cons,e1,e3],e2,e4⟩
theorem Hz {m:M} {h:H} {w:World} {nt:Nat} {pv:List Nat} {vars:List V} {tmps:Array Value} (hr:HR P m h w) (hv:jX m nt pv vars tmps) {fn:Func} {rs:List Rv} {us:List V}
  (hc:cK (fn.results.toList.map (Zd P pv))=some rs) (he:cK (rs.map (Gw vars h))=some us): ∃ y,(results fn tmps).run P w= .ok y w/\VR m (Ny us) y:=by
 obtain ⟨ys,h1,h2⟩:=Vk (P:=P) (m:=m) (w:=w) (λ rv r u hk hg=>QL hr hv hk hg) fn.results.toList rs us hc he
 have hl:=gW.length h2
 refine ⟨if h:ys.toArray.size=1 then ys.toArray[0] else .tuple ys.toArray,?_,?_⟩
 ·rw [JE]
  have h3:(fn.results.mapM (AM tmps)).run P w= .ok ys.toArray w:=by
   rw [Array.mapM_eq_mapM_toList]
   simp [h1]
  simp only [Sem.run_bind,h3,Result.andThen,Sem.run_pure]
 ·match us,ys,h2,hl with
  | [], [],_,_=>exact ⟨#[],rfl,trivial⟩
  | [u], [y],h2,_=>exact h2.1
  |u::u2::us,y::y2::ys,h2,_=>exact ⟨_,rfl,h2⟩
theorem Gr {w:World} {l:Nat} {q:Loop} (h:w.heap[l]? =some (.loop q)) (fn:FuncId) (tmps:Array Value) (ps:Array Tmp) (assign body:Code):
  (Instr.enterLoop fn tmps ps assign body (some l)).run P w=
   .ok (w.heap.size, []) (w.alloc (.loop {state:= .ready,pending:=none,fn,tmps,params:=ps,assign,body,defers:=q.defers})):=by
 unfold Instr.enterLoop
 simp only [Sem.run_bind,run_getLoop h,run_newObj_alloc,Result.andThen,Sem.run_pure]
theorem HZ {m:M} {nt:Nat} {pv:List Nat}: ∀ (ps:List Tmp) (ks:List Nat) (args:List V) (xs:List Value) (vars:List V) (tmps:Array Value),cK (ps.map λ t=>idx t pv)=some ks->gW m args xs->jX m nt pv vars tmps->
  jX m nt pv ((ks.zip args).foldl (λ vs q=>vs.set q.1 q.2) vars) ((ps.zip xs).foldl (λ tmps (t,a)=>tmps.setIfInBounds t a) tmps)
 | [],ks,args,xs,vars,tmps,h,_,hv=>by simp only [List.map_nil,cK] at h;cases h;simpa using hv
 |t::ps,ks,args,xs,vars,tmps,h,ha,hv=>by
  simp only [List.map_cons] at h
  cases hi:idx t pv with
  |none=>simp [hi,cK] at h
  |some k=>
   simp only [hi,cK,oC] at h
   obtain ⟨ks',h,rfl⟩:=h
   match args,xs,ha with
   | [], [],_=>simpa using hv
   |u::args,x::xs,ha=>
    simp only [List.zip_cons_cons,List.foldl_cons]
    exact HZ ps ks' args xs _ _ h ha.2 (hv.set hi ha.1)
end
end Go.Ay
