/- One item, and a region in its own order. -/
import Derived.Test.YtcdbmkidaecdiaaGreatAy9
import Derived.Test.YtcdbmkidaecdiaaGreatAy1b
namespace Go.Ay
open Go
section
variable {g:Nat} {r:Option Nat} {K:Act->World->Prop} {Q:Exit->Act->World->Prop} {m':M}
abbrev Wf (r:Option Nat):Fence:={Fence.wide with round:=r}
def POk (P:Program)(p:Nat->Option Fn):Prop:= ∀g fn,p g=some fn-> ∃pv F,P.funcs[g]? =some F/\CL P pv F=some fn/\enters P g=true
def Dm (P:Program)(m:M)(h:H)(w:World)(v:V)(h':H):Ending->World->Prop:=λe w'=> ∃x m',e= .returned x/\VR m' v x/\iO P m h w m' h' w'
def Dd (P:Program)(cl:dP):Prop:= ∀g args h v h',cl g args h=some (v,h')->enters P g=true/\ ∀m w (xs:Array Value),gZ m args xs.toList->HR P m h w->Qk m h.next->
 CallsIn (Wf none) 0 P g xs w (Dm P m h w v h')
def Ao (P:Program)(yl:dP):Prop:= ∀id args h v h',yl id args h=some (v,h')-> ∀m w (xs:Array Value) q,gZ m args xs.toList->HR P m h w->Qk m h.next->m id=some q->
 ∃fn tmps assign body,(Instr.yield q.1 xs).run P w= .ok (.round q.1 fn tmps assign body) w/\RoundIn (Wf none) 0 P q.1 fn tmps assign body w (Dm P m h w v h')
section
variable {P:Program} {cl yl:dP}
theorem qC {xs:Array Value}{w:World}(h:enters P g=true):(callFunc g xs).run P w= .ok (.enter g xs) w:=by
 unfold enters at h
 cases hf:P.funcs[g]? with
 |none=>simp [hf] at h
 |some fn=>
  simp only[hf,Option.any_some,vN,bne_iff_ne,ne_eq] at h;obtain⟨b,a⟩:=Option.isSome_iff_exists.1 h.1;simp [callFunc,hf,h.2,a]
variable {m:M} {h h':H} {w:World} {nt:Nat} {pv defs:List Nat} {vars loc:List V} {a:Act} {o:Oper} {v:V}
theorem Un (i: ∀c,o.op≠ .defer c)(j:Goal P m h w o a v h')
  (f: ∀x w' m',VR m' v x->iO P m h w m' h' w'->K (a.put o.dst x) w'):o.wpIn (Wf r) 0 P a w K Q:=by
 obtain⟨x,w',m',b,e,d⟩:=j
 refine⟨λ_ _=>trivial,?_⟩
 rw[Oper.semAt_eq _ _ _ i]
 rcases b with b|⟨b,rfl⟩
 ·rw[b,Oper.uponIn_value];exact f x w' m' e d
 ·rw[b,Oper.uponIn_skip];exact f _ w' m' e d
theorem Gb (j: ∀c,o.op≠ .defer c){xs:Array Value}(d:(execOp a.eval o).run P w= .ok (.enter g xs) w)
  (b:CallsIn (Wf none) 0 P g xs w (Dm P m h w v h')) (l: ∀x w' m',VR m' v x->iO P m h w m' h' w'->K (a.put o.dst x) w'):o.wpIn (Wf r) 0 P a w K Q:=by
 refine⟨λ_ _=>trivial,?_⟩
 rw[Oper.semAt_eq _ _ _ j,d,Oper.uponIn_enter]
 refine⟨λh=>by simp [Fence.wide] at h,?_⟩
 have f:CallsIn (Wf r) 0 P g xs w (Dm P m h w v h'):=b
 refine CallsIn.mono f (λe w' i=>?_)
 obtain⟨x,m',rfl,k,f⟩:=i
 exact l x w' m' k f
theorem UB (p: ∀c,o.op≠ .defer c){l:Nat}{k:FuncId}{tmps:Array Value}{f j:Code}(d:(execOp a.eval o).run P w= .ok (.round l k tmps f j) w)
  (b:RoundIn (Wf none) 0 P l k tmps f j w (Dm P m h w v h')) (s: ∀x w' m',VR m' v x->iO P m h w m' h' w'->K (a.put o.dst x) w'):o.wpIn (Wf r) 0 P a w K Q:=by
 refine⟨λ_ _=>trivial,?_⟩
 rw[Oper.semAt_eq _ _ _ p,d,Oper.uponIn_round]
 refine⟨λh=>by simp [Fence.wide] at h,?_⟩
 have i:RoundIn (Wf r) 0 P l k tmps f j w (Dm P m h w v h'):=b
 refine RoundIn.mono i (λe w' n=>?_)
 obtain⟨x,m',rfl,q,i⟩:=n
 exact s x w' m' q i
theorem oH {e:dR}(b:jO P pv defs o=some e): ∀c,o.op≠ .defer c:=by
 intro c d;unfold jO at b;rw[d] at b;simp at b
def DY (x:Option dR):Prop:= ∀act,x=some act-> ∃i,act= .op i
theorem Ru:DY none:=λ_ h=>by cases h
theorem Sz (i:I):DY (some (.op i)):=λ_ h=>by cases h;exact⟨i,rfl⟩
theorem AK {α:Type}(x:Option α)(f:α->I):DY (x.map λa=> .op (f a)):=λ_ h=>by
 obtain⟨b,_,c⟩:=mJ.1 h;exact⟨f b,c.symm⟩
theorem Tb {α:Type}(x:Option α)(f:α->Option dR)(h: ∀b,DY (f b)):DY (x.bind f):=λ_ d=>by
 obtain⟨b,_,c⟩:=qM.1 d;exact h b _ c
set_option maxHeartbeats 1000000 in
theorem OW {b:Builtin}{args:Array Operand}{c:Array TypeId}{ty:TypeId}:DY (tI P pv defs ⟨.builtin b,args,c⟩ ty):=by
 unfold tI
 cases b<;>simp only[uV]<;>
  repeat' first
   |exact Ru
   |contradiction
   |exact Sz _
   |exact AK _ _
   |(refine Tb _ _ (λ_=>?_))
   |split
set_option maxHeartbeats 1000000 in
theorem IL (b: ∀c,o.op≠ .call c):DY (jO P pv defs o):=by
 unfold jO;cases hop:o.op
 case call c=>exact absurd hop (b c)
 all_goals
  simp only[uV]
  repeat' first
   |exact Ru
   |contradiction
   |exact Sz _
   |exact AK _ _
   |(refine Tb _ _ (λ_=>?_))
   |split
theorem Nf {b:String}: ∀{l:List Nat} {t g:Nat},Pd P b l=some (t,g)->t∈l/\BB P b t=some g
 | [],t,g,h=>by simp [Pd] at h
 |u::l,t,g,h=>by
  simp only[Pd] at h;split at h
  ·rename_i f d
   cases h;exact⟨by simp,d⟩
  ·obtain⟨c,e⟩:=Nf h
   exact⟨by simp [c],e⟩
theorem CO {b:String}{t:Nat}(h:Pd P b (List.range P.types.size)=some (t,g))(v:Value)(w:World):
  enters P g=true/\(method (P.types.size+Made.depth) t v b).run P w= .ok (g,v) w:=by
 obtain⟨y,c⟩:=Nf h
 have B:0<P.types.size:=by have:=Gu.1 y;omega
 unfold BB at c
 split at c
 ·rename_i r x
  obtain⟨i,hi,A⟩:=qM.1 x
  split at c
  ·rename_i f d p j z
   have l:enters P f=true->(∀e,d≠ .pointer e)->f=g->enters P g=true/\(method (P.types.size+Made.depth) t v b).run P w= .ok (g,v) w:=by
    intro k u n;subst n;refine⟨k,?_⟩
    obtain⟨q,s⟩: ∃q,P.types.size+Made.depth=q+1:=⟨P.types.size+Made.depth- 1,om⟩
    rw[s];unfold method;simp only[Sem.run_bind,show (typeInfo t).run P w= .ok i w from by simp [typeInfo,hi],Result.andThen_ok,A,p,follow,Sem.run_pure,j];cases d<;>first
     |exact absurd rfl (u _)
     |simp [receiverAt,run_underlying z,Place.get]
   cases d<;>simp only at c<;>first
    |(cases c;done)
    |(split at c
      ·rename_i k
       cases c
       exact l k (λ_=>by simp) rfl
      ·cases c)
  ·cases c
 ·cases c
theorem Bo {f:dR}(d:jO P pv defs o=some f)(s: ∀i,f≠ .op i):(∃c r name g t cx args,o.op= .call c/\c.callee= .invoke r name/\f= .calli g t cx args/\
   Pd P name (List.range P.types.size)=some (t,g)/\fU pv defs r=some cx/\rR pv defs c.args.toList=some args)∨ ∃c x,o.op= .call c/\c.callee= .value x/\
  ((∃g args,x= .func g/\f= .call g args/\enters P g=true/\rR pv defs c.args.toList=some args)∨
   (∃cx args,f= .callv cx args/\fU pv defs x=some cx/\rR pv defs c.args.toList=some args)):=by
 by_cases e: ∀c,o.op≠ .call c
 ·obtain⟨i,rfl⟩:=IL e _ d
  exact absurd rfl (s i)
 ·have ⟨c,hop⟩: ∃c,o.op= .call c:=Jg λh=>e λc d=>h ⟨c,d⟩
  unfold jO at d
  rw[hop] at d
  obtain⟨j,args,z⟩:=c
  simp only at d
  cases j with
  |value x=>
   refine .inr ⟨_,x,hop,rfl,?_⟩;simp only[tI] at d
   cases x with
   |func g=>
    simp only at d;split at d
    ·rename_i y
     simp only[mJ] at d;obtain⟨xs,u,rfl⟩:=d;exact .inl ⟨g,xs,rfl,rfl,y,u⟩
    ·cases d
   |_=>
    simp only[uV,qM] at d;obtain⟨cx,p,n,l,k⟩:=d;cases k;exact .inr ⟨cx,n,rfl,p,l⟩
  |invoke r mm=>
   simp only[tI] at d;split at d
   ·rename_i q A
    simp only[uV,qM] at d;obtain⟨cx,p,n,l,k⟩:=d;cases k;exact .inl ⟨_,r,mm,q.2,q.1,cx,n,hop,rfl,rfl,A,p,l⟩
   ·cases d
  |builtin b=>
   obtain⟨i,rfl⟩:=OW _ d;exact absurd rfl (s i)
theorem PQ (hS:Dd P cl)(hY:Ao P yl){A:dR}(hc:jO P pv defs o=some A)(s:St m nt pv defs vars loc a)(Y:HR P m h w)(hl:Qk m h.next)
  (j:lN cl yl vars loc h A=some (v,h'))  
  (hK: ∀x w' m',VR m' v x->iO P m h w m' h' w'->K (a.put o.dst x) w'):o.wpIn (Wf r) 0 P a w K Q:=by
 have hd:=oH hc
 by_cases hi: ∃i,A= .op i
 ·obtain⟨i,rfl⟩:=hi
  rw[sX] at j
  exact Un hd (Mh s Y hl.fresh hc j) hK
 ·have hi: ∀i,A≠ .op i:=λi e=>hi ⟨i,e⟩
  rcases Bo hc hi with ⟨c,W,R,g,t,cx,B,N,k,rfl,hm,J,d⟩|⟨c,x,N,k,n⟩
  ·obtain⟨z,b,a4⟩:=c
   simp only at k d
   subst k
   rw[rH] at j
   have O:=iM s d
   have l:=aJ s J
   split at j
   ·rename_i u uv F
    rw[F] at l
    obtain⟨y,p,a3⟩:=l
    cases hut:Nat.beq u t with
    |false=>rw[hut] at j;cases j
    |true=>
     rw[hut] at j;simp only[cond_true] at j;obtain rfl:=Nat.eq_of_beq_eq_true hut;obtain⟨_,a2⟩:=CO hm y w
     have f:(execOp a.eval o).run P w= .ok (.enter g (#[y]++b.map a.eval)) w:=by
      have a0:((#[a.eval W]++b.map a.eval).extract 1 (#[a.eval W]++b.map a.eval).size)=b.map a.eval:=by
       apply Array.toList_inj.1;simp [List.extract_eq_take_drop,Tn]
      have a5:execOp a.eval o=Go.invoke (.fn (.method R) #[]) (#[a.eval W]++b.map a.eval):=by
       unfold execOp;rw[N];simp [resolve]
      rw[a5];have h0:(#[a.eval W]++b.map a.eval)[0]? =some (a.eval W):=by rw[Array.getElem?_append_left (by simp)];rfl
      simp only[Go.invoke,h0,a0];simp only[p,callMethod,Sem.run_bind,run_program,Result.andThen_ok,a2];exact qC (hS _ _ _ _ _ j).1
     exact Gb hd f ((hS _ _ _ _ _ j).2 m w _ (by simpa using ⟨a3,O⟩) Y hl) hK
   ·cases j
  obtain⟨z,b,a4⟩:=c
  simp only at k n
  subst k
  have G: ∀(Z:Go.Fn) (first L:Array Value),a.eval x= .func Z first L->execOp a.eval o=Go.invoke (.fn Z L) (first++b.map a.eval):=by
   intro Z first L F
   unfold execOp;rw[N];simp [resolve,Deferred.ofValue,F]
  rcases n with ⟨g,B,rfl,rfl,U,d⟩|⟨cx,B,rfl,J,d⟩
  ·rw[tS] at j
   have O:=iM s d
   have f:(execOp a.eval o).run P w= .ok (.enter g (b.map a.eval)) w:=by
    rw[G _ _ _ rfl];simp [Go.invoke,qC U]
   exact Gb hd f ((hS _ _ _ _ _ j).2 m w _ (by simpa using O) Y hl) hK
  ·rw[rF] at j
   have O:=iM s d
   have l:=aJ s J
   split at j
   ·rename_i g fs cs F
    rw[F] at l
    obtain⟨xs,ys,p,h1,h2⟩:=l
    have f:(execOp a.eval o).run P w= .ok (.enter g (xs++b.map a.eval++ys)) w:=by
     rw[G _ _ _ p];simp only[Go.invoke];exact qC (hS _ _ _ _ _ j).1
    exact Gb hd f ((hS _ _ _ _ _ j).2 m w _ (by simpa using (h1.append (O.append h2))) Y hl) hK
   ·rename_i id F
    rw[F] at l
    obtain⟨q,hq,p⟩:=l
    obtain⟨Z,a1,as,bd,h1,h2⟩:=hY _ _ _ _ _ j m w (b.map a.eval) q (by simpa using O) Y hl hq
    have f:(execOp a.eval o).run P w= .ok (.round q.1 Z a1 as bd) w:=by
     rw[G _ _ _ p];simpa [Go.invoke] using h1
    exact UB hd f h2 hK
   ·cases j
theorem VR.Ou {m:M}{v:V}{x:Value}(b:v.Iu=true)(h:VR m v x):VR m' v x:=by
 cases v<;>simp [V.Iu] at b<;>exact h
theorem gZ.Ou {m:M}: ∀{vs:List V} {xs:List Value},vs.all V.Iu=true->gZ m vs xs->gZ m' vs xs
 | [], [],_,_=>trivial
 |v::vs,x::xs,hs,h=>by
  rw[List.all_cons,vN] at hs;exact⟨VR.Ou hs.1 h.1,gZ.Ou hs.2 h.2⟩
 | [],_::_,_,h=>h.elim
 |_::_, [],_,h=>h.elim
theorem iO.aaH {m:M}{h h':H}{w w':World}(b:iO P (λ_=>none) ⟨.lf,0⟩ w m' h' w')(e:HR P m h w):iO P m h w m h w':=by
 have zA: ∀x,x<w.heap.size->w'.heap[x]? =w.heap[x]? :=λx c=>b.kept.block x c (λ⟨_,_,_,h1,_⟩=>by cases h1)
 refine⟨Ext.refl m,⟨λid o d=>?_,e.inj⟩,λ_ _ h=> .inl h,⟨b.kept.os,b.kept.tape,b.kept.output,b.kept.size,λx c _=>zA x c⟩,λ_ h=> .inl h,fM _,λ_ h=> .inl h,λ_ _ h=>h⟩;obtain⟨p,i,f⟩:=e.live id o d;exact⟨p,i,OR.mono (Ext.refl m) (zA _ f.lt) f⟩
theorem QE (R:Dd P cl){args:List X}(F:jO P pv defs o=some (.call g args))(s:St m nt pv defs vars loc a){Z h2:H}
  (J:Kg cl g (args.map (xv vars loc)) Z=some (v,h2))  
  (W: ∀x w',VR m v x->(∀h,HR P m h w->iO P m h w m h w')->K (a.put o.dst x) w'):o.wpIn (Wf r) 0 P a w K Q:=by
 have Y:=oH F
 rcases Bo F (λi e=>by cases e) with ⟨_,_,_,_,_,_,_,_,_,e,_⟩|⟨c,x,B,d,b⟩
 ·cases e
 obtain⟨u,n,U⟩:=c
 simp only at d b
 subst d
 rcases b with ⟨g',k,rfl,l,p,f⟩|⟨cx,k,l,_⟩
 ·cases l
  obtain⟨_,L,O,h3,z⟩:=yL J
  have A:=iM s f
  have t:(execOp a.eval o).run P w= .ok (.enter g (n.map a.eval)) w:=by
   unfold execOp;rw[B];have y:a.eval (.func g)= .func (.func g) #[] #[]:=rfl;simp [resolve,Deferred.ofValue,y,Go.invoke,qC p]
  have G:HR P (λ_=>none) (⟨.lf,0⟩:H) w:=⟨λid o h=>(by cases h),λi j oi oj pi pj _ h=>(by cases h)⟩
  refine Gb Y t ((R _ _ _ _ _ z).2 (λ_=>none) w _ (by simpa using gZ.Ou L A) G (λ_ _=>rfl)) (λx w' m' y q=>?_)
  exact W x w' (VR.Ou O y) (λh N=>q.aaH N)
 ·cases l
end
end
end Go.Ay
