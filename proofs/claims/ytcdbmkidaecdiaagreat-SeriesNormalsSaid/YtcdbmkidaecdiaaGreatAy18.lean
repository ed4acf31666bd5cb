/- What the statements need: deferred calls, loops, scopes, results, the records of ranges over functions. -/
import Derived.Test.YtcdbmkidaecdiaaGreatAy17
namespace Go.Ay
open Go
section
variable {w:World} {lo nt:Nat} {m:M} {h:H} {pv:List Nat}
section
variable {P:Program} {p:Nat->Option Fn}
def vN (w:World)(lo:Nat):Nat->List Deferred->Prop
 |_, []=>True
 |hi,d::ds=> ∃r,d.target= .collected r/\lo<=r/\r<hi/\w.heap[r]? =some (.deferred (some []))/\vN w lo r ds
theorem vN.hi {w:World}{lo:Nat}: ∀(ds:List Deferred) (hi hi':Nat),hi<=hi'->vN w lo hi ds->vN w lo hi' ds
 | [],_,_,_,_=>trivial
 |_::_,_,_,hle,⟨r,h1,h2,h3,h4⟩=>⟨r,h1,h2,om,h4⟩
theorem vN.append {a:Nat}(b:lo<=a): ∀(ds ds':List Deferred) (hi:Nat),a<=hi->vN w a hi ds->vN w lo a ds'->vN w lo hi (ds++ds')
 | [],ds',hi,hle,_,h'=>vN.hi ds' a hi hle h'
 |_::ds,ds',_,_,⟨r,h1,h2,h3,h4,h5⟩,h'=>⟨r,h1,om,h3,h4,vN.append b ds ds' r h2 h5 h'⟩
theorem HR.not_def (f:HR P m h w){r:Nat}{x:Option (List Deferred)}(b:w.heap[r]? =some (.deferred x)): ¬LB m h r:=by
 rintro⟨id,o,q,h1,h2,rfl⟩;obtain⟨g,e,d⟩:=f.live id o h1;rw[h2] at e;cases e
 cases o with
 |cells ro vs=>obtain⟨c,el,fr,a,_⟩:=d;rw[b] at a;cases a
 |wmap sh es=>obtain⟨_,c,el,a,_⟩:=d;rw[b] at a;cases a
 |loop l=>obtain⟨c,a,_⟩:=d;rw[b] at a;cases a
theorem FP.lb {b:Nat}(a:FP m h b):LB m h b:=by
 obtain⟨i,o,q,d,_,c,e⟩:=a;exact⟨i,o,q,d,c,e⟩
theorem vN.NA {d:M}{h':H}{w':World}(b:HR P m h w)(a:jR P m h w d h' w'): ∀(ds:List Deferred) (hi:Nat),vN w lo hi ds->vN w' lo hi ds
 | [],_,_=>trivial
 |_::ds,_,⟨r,h1,h2,h3,h4,h5⟩=>⟨r,h1,h2,h3,(a.kept.block r (HF.1 h4).1 (λc=>b.not_def h4 c.lb)).trans h4,vN.NA b a ds r h5⟩
theorem jR.dead {j:M}{k:H}{f:World}(a:jR P j k f m h w){r:Nat}{o:Obj}(s: ¬LB m h r)(t:f.heap.size<=r):jR P j k f m h (w.putObj r o):=by
 have d: ∀b,b≠r->(w.putObj r o).heap[b]? =w.heap[b]? :=λb d=>World.putObj_heap_other d
 refine⟨a.ext,⟨λid g c=>?_,a.rel.inj⟩,a.fresh,⟨a.kept.os,a.kept.tape,a.kept.output,by simpa using a.kept.size,λb l n=>?_⟩,a.fp,a.next,a.lb,a.old⟩
 ·obtain⟨q,i,u⟩:=a.rel.live id g c
  exact⟨q,i,OR.mono (Ext.refl m) (d q.1 (λe=>s ⟨id,g,q,c,i,e⟩)) u⟩
 ·rw[d b om];exact a.kept.block b l n
theorem jR.laid (c:HR P m h w)(o:Obj):jR P m h w m h (w.alloc o):=by
 refine⟨Ext.refl m,⟨λid e a=>?_,c.inj⟩,λ_ _ h=> .inl h,⟨rfl,rfl,rfl,by simp,λb g _=>heap_alloc_old w o _ g⟩,λ_ h=> .inl h,dT _,λ_ h=> .inl h,λ_ _ h=>h⟩;obtain⟨q,f,d⟩:=c.live id e a;exact⟨q,f,OR.mono (Ext.refl m) (heap_alloc_old w o _ d.lt) d⟩
def Nx (F:Fence)(n:Nat)(P:Program)(c:Code)(Q:Exit->Act->World->Prop)(a:Act)(w:World):Prop:=
 ∀(b:Frame) (k:List Item) (cs:List Frame),b.roundOf=F.round->F.fn b.fn->F.room (cs.length+1+n)->
  ∃e a' w',Q e a' w'/\ArrivesIn (Machine.fenced P F) P (lone (b.atR a (.code c:: .inLoop c::k)) cs w) b k cs e a' w'
theorem Nx.wp {F:Fence}{n:Nat}{c:Code}{Q:Exit->Act->World->Prop}{a:Act}(h:Nx F n P c Q a w):(Code.loop c).wpIn F n P Q a w:=by
 intro b k o f i g;obtain⟨e,q,j,l,d⟩:=h b k o f i g;exact⟨e,q,j,l,.of_steps (.one (fenced_calm i g rfl) stepR_loop) d⟩
theorem Nx.step {F:Fence}{n:Nat}{c:Code}{Q:Exit->Act->World->Prop}{a:Act}(h:c.wpIn F n P (Exit.then (Nx F n P c Q) Q) a w):Nx F n P c Q a w:=by
 intro b k y q v u;obtain⟨e,g,f,o,d⟩:=h b (.inLoop c::k) y q v u
 cases e with
 |normal=>
  obtain⟨s,t,r,j,i⟩:=o b k y q v u;exact⟨s,t,r,j,.of_steps (StepsIn.trans d (.one (fenced_calm v u rfl) stepR_inLoop)) i⟩
 |exit id=>exact⟨_,g,f,o,.pass (x:= .inLoop c) rfl (λ_ _=> .inl (by simp)) d⟩
 |goto l=>exact⟨_,g,f,o,.pass (x:= .inLoop c) rfl (λ_ _=> .inl (by simp)) d⟩
 |ret=>exact⟨_,g,f,o,.pass (x:= .inLoop c) rfl (λ_ _=> .inl (by simp)) d⟩
 |panic ch=>exact⟨_,g,f,o,.pass (x:= .inLoop c) rfl (λ_ _=> .inl (by simp)) d⟩
 |outgrown=>exact⟨_,g,f,o,.pass (x:= .inLoop c) rfl (λ_ _=> .inl (by simp)) d⟩
def Vl (tmps:Array Value):ResultVar->Sem Value
 | .tmp t=>pure (tmps.getD t undef)
 | .cell a t=>do loadVar t (←asAddr (tmps.getD a undef))
theorem BR (a:Func)(tmps:Array Value):results a tmps=(do
  let vs ←a.results.mapM (Vl tmps)
  pure (if h:vs.size=1 then vs[0] else .tuple vs)):=rfl
theorem JP {a:List V}{tmps:Array Value}(s:HR P m h w)(j:jW m nt pv a tmps){g:ResultVar}{r:Rv}{u:V}(b:Xl P pv g=some r)(c:Kh a h r=some u):
  ∃y,(Vl tmps g).run P w= .ok y w/\VR m u y:=by
 cases g with
 |tmp t=>
  simp only[Xl,oU] at b;obtain⟨k,d,rfl⟩:=b;simp only[Kh] at c;cases c;exact⟨_,rfl,j.val t k d⟩
 |cell t ty=>
  simp only[Xl] at b;split at b
  ·rename_i q v
   simp only[oU] at b;obtain⟨k,d,rfl⟩:=b;simp only[Kh] at c;have e:=j.val t k d;obtain⟨l,o⟩:=DZ (agg:=q.1) (n:=q.2) v;obtain⟨y,i,x⟩:=BH s l o e c
   cases hval:a.getD k V.undef with
   |ptr id off=>
    rw[hval] at e;obtain⟨z,_,f⟩:=e;refine⟨y,?_,x⟩;simp only[Vl];rw[f] at i ⊢;simpa [Instr.loadAt,Instr.sureAddr,asAddr] using i
   |_=>rw[hval] at c;simp [YG] at c
  ·cases b
theorem Pz {m:M}{w:World}{f:ResultVar->Sem Value}{g:Rv->Option V}{k:ResultVar->Option Rv}(e: ∀rv r u,k rv=some r->g r=some u-> ∃y,(f rv).run P w= .ok y w/\VR m u y):
  ∀(l:List ResultVar) (rs:List Rv) (us:List V),dG (l.map k)=some rs->dG (rs.map g)=some us-> ∃ys,(l.mapM f).run P w= .ok ys w/\iR m us ys
 | [],rs,us,a,b=>by
  simp only[List.map_nil,dG] at a;cases a;simp only[List.map_nil,dG] at b;cases b;exact⟨[],rfl,trivial⟩
 |rv::l,rs,us,a,b=>by
  simp only[List.map_cons] at a
  cases hk:k rv with
  |none=>simp [hk,dG] at a
  |some r=>
   simp only[hk,dG,oU] at a;obtain⟨c,a,rfl⟩:=a;simp only[List.map_cons] at b
   cases hg:g r with
   |none=>simp [hg,dG] at b
   |some u=>
    simp only[hg,dG,oU] at b;obtain⟨d,b,rfl⟩:=b;obtain⟨y,n,o⟩:=e rv r u hk hg;obtain⟨ys,i,j⟩:=Pz e l c d a b;exact⟨y::ys,by simp [List.mapM_cons,n,i],o,j⟩
theorem Re {a:List V}{tmps:Array Value}(j:HR P m h w)(l:jW m nt pv a tmps){d:Func}{rs:List Rv}{us:List V}
  (n:dG (d.results.toList.map (Xl P pv))=some rs) (e:dG (rs.map (Kh a h))=some us): ∃y,(results d tmps).run P w= .ok y w/\VR m (Yv us) y:=by
 obtain⟨c,f,b⟩:=Pz (P:=P) (m:=m) (w:=w) (λq r u i o=>JP j l i o) d.results.toList rs us n e
 have k:=iR.length b
 refine⟨if h:c.toArray.size=1 then c.toArray[0] else .tuple c.toArray,?_,?_⟩
 ·rw[BR]
  have g:(d.results.mapM (Vl tmps)).run P w= .ok c.toArray w:=by
   rw[Array.mapM_eq_mapM_toList];simp [f]
  simp only[Sem.run_bind,g,Result.andThen,Sem.run_pure]
 ·match us,c,b,k with
  | [], [],_,_=>exact⟨#[],rfl,trivial⟩
  | [u], [y],b,_=>exact b.1
  |u::u2::us,y::y2::c,b,_=>exact⟨_,rfl,b⟩
theorem Dz {l:Nat}{q:Loop}(h:w.heap[l]? =some (.loop q))(fn:FuncId)(tmps:Array Value)(ps:Array Tmp)(assign body:Code):
  (Instr.enterLoop fn tmps ps assign body (some l)).run P w=
   .ok (w.heap.size, []) (w.alloc (.loop {state:= .ready,pending:=none,fn,tmps,params:=ps,assign,body,defers:=q.defers})):=by
 unfold Instr.enterLoop
 simp only[Sem.run_bind,run_getLoop h,run_newObj_alloc,Result.andThen,Sem.run_pure]
theorem Xr {m:M}{nt:Nat}{pv:List Nat}: ∀(ps:List Tmp) (ks:List Nat) (args:List V) (xs:List Value) (vars:List V) (tmps:Array Value),dG (ps.map λt=>idx t pv)=some ks->iR m args xs->jW m nt pv vars tmps->
  jW m nt pv ((ks.zip args).foldl (λvs q=>vs.set q.1 q.2) vars) ((ps.zip xs).foldl (λtmps (t,a)=>tmps.setIfInBounds t a) tmps)
 | [],ks,args,xs,vars,tmps,h,_,hv=>by simp only[List.map_nil,dG] at h;cases h;simpa using hv
 |t::ps,ks,args,xs,vars,tmps,h,ha,hv=>by
  simp only[List.map_cons] at h
  cases hi:idx t pv with
  |none=>simp [hi,dG] at h
  |some k=>
   simp only[hi,dG,oU] at h;obtain⟨b,h,rfl⟩:=h
   match args,xs,ha with
   | [], [],_=>simpa using hv
   |u::args,x::xs,ha=>
    simp only[List.zip_cons_cons,List.foldl_cons]
    exact Xr ps b args xs _ _ h ha.2 (hv.set hi ha.1)
end
end
end Go.Ay
