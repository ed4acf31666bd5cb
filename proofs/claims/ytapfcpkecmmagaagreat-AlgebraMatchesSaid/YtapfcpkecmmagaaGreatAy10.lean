/- One item, and a region in its own order. -/
import Derived.Test.YtapfcpkecmmagaaGreatAy9
import Derived.Test.YtapfcpkecmmagaaGreatAy1b
namespace Go.Ay
open Go
section
variable {g:Nat} {r:Option Nat} {K:Act->World->Prop} {Q:Exit->Act->World->Prop} {m':M}
abbrev Wf (r:Option Nat):Fence:={Fence.wide with round:=r}
def Xr (P:Program)(p:Nat->Option Fn):Prop:= ∀g fn,p g=some fn-> ∃pv F,P.funcs[g]? =some F/\Hq P pv F=some fn/\enters P g=true
def tF (P:Program)(m:M)(h:H)(w:World)(v:V)(h':H):Ending->World->Prop:=λe w'=> ∃x m',e= .returned x/\VR m' v x/\fY P m h w m' h' w'
def tE (P:Program)(cl:dP):Prop:= ∀g args h v h',cl g args h=some (v,h')->enters P g=true/\ ∀m w (xs:Array Value),fP m args xs.toList->HR P m h w->Cx m h.next->
 CallsIn (Wf none) 0 P g xs w (tF P m h w v h')
def rY (P:Program)(yl:dP):Prop:= ∀id args h v h',yl id args h=some (v,h')-> ∀m w (xs:Array Value) q,fP m args xs.toList->HR P m h w->Cx m h.next->m id=some q->
 ∃fn tmps assign body,(Instr.yield q.1 xs).run P w= .ok (.round q.1 fn tmps assign body) w/\RoundIn (Wf none) 0 P q.1 fn tmps assign body w (tF P m h w v h')
section
variable {P:Program} {cl yl:dP}
theorem lE {xs:Array Value}{w:World}(h:enters P g=true):(callFunc g xs).run P w= .ok (.enter g xs) w:=by
 unfold enters at h
 cases hf:P.funcs[g]? with
 |none=>simp [hf] at h
 |some fn=>
  simp only[hf,Option.any_some,pF,bne_iff_ne,ne_eq] at h;obtain⟨b,a⟩:=Option.isSome_iff_exists.1 h.1;simp [callFunc,hf,h.2,a]
variable {m:M} {h h':H} {w:World} {nt:Nat} {pv defs:List Nat} {vars loc:List V} {a:Act} {o:Oper} {v:V}
theorem Gn (j: ∀c,o.op≠ .defer c)(i:Goal P m h w o a v h')
  (f: ∀x w' m',VR m' v x->fY P m h w m' h' w'->K (a.put o.dst x) w'):o.wpIn (Wf r) 0 P a w K Q:=by
 obtain⟨x,w',m',b,d,e⟩:=i
 refine⟨λ_ _=>trivial,?_⟩
 rw[Oper.semAt_eq _ _ _ j]
 rcases b with b|⟨b,rfl⟩
 ·rw[b,Oper.uponIn_value];exact f x w' m' d e
 ·rw[b,Oper.uponIn_skip];exact f _ w' m' d e
theorem uQ (i: ∀c,o.op≠ .defer c){xs:Array Value}(d:(execOp a.eval o).run P w= .ok (.enter g xs) w)
  (b:CallsIn (Wf none) 0 P g xs w (tF P m h w v h')) (j: ∀x w' m',VR m' v x->fY P m h w m' h' w'->K (a.put o.dst x) w'):o.wpIn (Wf r) 0 P a w K Q:=by
 refine⟨λ_ _=>trivial,?_⟩
 rw[Oper.semAt_eq _ _ _ i,d,Oper.uponIn_enter]
 refine⟨λh=>by simp [Fence.wide] at h,?_⟩
 have f:CallsIn (Wf r) 0 P g xs w (tF P m h w v h'):=b
 refine CallsIn.mono f (λe w' k=>?_)
 obtain⟨x,m',rfl,e,f⟩:=k
 exact j x w' m' e f
theorem Tz (k: ∀c,o.op≠ .defer c){l:Nat}{i:FuncId}{tmps:Array Value}{as f:Code}(d:(execOp a.eval o).run P w= .ok (.round l i tmps as f) w)
  (b:RoundIn (Wf none) 0 P l i tmps as f w (tF P m h w v h')) (p: ∀x w' m',VR m' v x->fY P m h w m' h' w'->K (a.put o.dst x) w'):o.wpIn (Wf r) 0 P a w K Q:=by
 refine⟨λ_ _=>trivial,?_⟩
 rw[Oper.semAt_eq _ _ _ k,d,Oper.uponIn_round]
 refine⟨λh=>by simp [Fence.wide] at h,?_⟩
 have j:RoundIn (Wf r) 0 P l i tmps as f w (tF P m h w v h'):=b
 refine RoundIn.mono j (λe w' n=>?_)
 obtain⟨x,m',rfl,e,j⟩:=n
 exact p x w' m' e j
theorem kV {b:dV}(e:iI P pv defs o=some b): ∀c,o.op≠ .defer c:=by
 intro c d;unfold iI at e;rw[d] at e;simp at e
def Lo (x:Option dV):Prop:= ∀act,x=some act-> ∃i,act= .op i
theorem Ef:Lo none:=λ_ h=>by cases h
theorem Ew (i:I):Lo (some (.op i)):=λ_ h=>by cases h;exact⟨i,rfl⟩
theorem Jt {α:Type}(x:Option α)(f:α->I):Lo (x.map λa=> .op (f a)):=λ_ h=>by
 obtain⟨b,_,c⟩:=jA.1 h;exact⟨f b,c.symm⟩
theorem Ds {α:Type}(x:Option α)(f:α->Option dV)(h: ∀b,Lo (f b)):Lo (x.bind f):=λ_ c=>by
 obtain⟨b,_,d⟩:=lT.1 c;exact h b _ d
set_option maxHeartbeats 1000000 in
theorem Uw {b:Builtin}{args:Array Operand}{c:Array TypeId}{ty:TypeId}:Lo (mY P pv defs ⟨.builtin b,args,c⟩ ty):=by
 unfold mY
 cases b<;>simp only[oS]<;>
  repeat' first
   |exact Ef
   |contradiction
   |exact Ew _
   |exact Jt _ _
   |(refine Ds _ _ (λ_=>?_))
   |split
set_option maxHeartbeats 1000000 in
theorem Tb (b: ∀c,o.op≠ .call c):Lo (iI P pv defs o):=by
 unfold iI;cases hop:o.op
 case call c=>exact absurd hop (b c)
 all_goals
  simp only[oS]
  repeat' first
   |exact Ef
   |contradiction
   |exact Ew _
   |exact Jt _ _
   |(refine Ds _ _ (λ_=>?_))
   |split
theorem Ax {b:String}: ∀{l:List Nat} {t g:Nat},Al P b l=some (t,g)->t∈l/\Mq P b t=some g
 | [],t,g,h=>by simp [Al] at h
 |u::l,t,g,h=>by
  simp only[Al] at h;split at h
  ·rename_i f c
   cases h;exact⟨by simp,c⟩
  ·obtain⟨e,d⟩:=Ax h
   exact⟨by simp [e],d⟩
theorem Nn {b:String}{t:Nat}(h:Al P b (List.range P.types.size)=some (t,g))(v:Value)(w:World):
  enters P g=true/\(method (P.types.size+Made.depth) t v b).run P w= .ok (g,v) w:=by
 obtain⟨A,c⟩:=Ax h
 have B:0<P.types.size:=by have:=Db.1 A;omega
 unfold Mq at c
 split at c
 ·rename_i r x
  obtain⟨i,hi,s⟩:=lT.1 x
  split at c
  ·rename_i f d z k y
   have l:enters P f=true->(∀e,d≠ .pointer e)->f=g->enters P g=true/\(method (P.types.size+Made.depth) t v b).run P w= .ok (g,v) w:=by
    intro n p j;subst j;refine⟨n,?_⟩
    obtain⟨q,u⟩: ∃q,P.types.size+Made.depth=q+1:=⟨P.types.size+Made.depth- 1,om⟩
    rw[u];unfold method;simp only[Sem.run_bind,show (typeInfo t).run P w= .ok i w from by simp [typeInfo,hi],Result.andThen_ok,s,z,follow,Sem.run_pure,k];cases d<;>first
     |exact absurd rfl (p _)
     |simp [receiverAt,run_underlying y,Place.get]
   cases d<;>simp only at c<;>first
    |(cases c;done)
    |(split at c
      ·rename_i n
       cases c
       exact l n (λ_=>by simp) rfl
      ·cases c)
  ·cases c
 ·cases c
theorem rP {e:dV}(d:iI P pv defs o=some e)(s: ∀i,e≠ .op i):(∃c r name g t cx args,o.op= .call c/\c.callee= .invoke r name/\e= .calli g t cx args/\
   Al P name (List.range P.types.size)=some (t,g)/\fC pv defs r=some cx/\mI pv defs c.args.toList=some args)∨ ∃c x,o.op= .call c/\c.callee= .value x/\
  ((∃g args,x= .func g/\e= .call g args/\enters P g=true/\mI pv defs c.args.toList=some args)∨
   (∃cx args,e= .callv cx args/\fC pv defs x=some cx/\mI pv defs c.args.toList=some args)):=by
 by_cases f: ∀c,o.op≠ .call c
 ·obtain⟨i,rfl⟩:=Tb f _ d
  exact absurd rfl (s i)
 ·have ⟨c,hop⟩: ∃c,o.op= .call c:=Am λh=>f λc d=>h ⟨c,d⟩
  unfold iI at d
  rw[hop] at d
  obtain⟨j,args,z⟩:=c
  simp only at d
  cases j with
  |value x=>
   refine .inr ⟨_,x,hop,rfl,?_⟩;simp only[mY] at d
   cases x with
   |func g=>
    simp only at d;split at d
    ·rename_i A
     simp only[jA] at d;obtain⟨xs,u,rfl⟩:=d;exact .inl ⟨g,xs,rfl,rfl,A,u⟩
    ·cases d
   |_=>
    simp only[oS,lT] at d;obtain⟨cx,n,k,p,l⟩:=d;cases l;exact .inr ⟨cx,k,rfl,n,p⟩
  |invoke r mm=>
   simp only[mY] at d;split at d
   ·rename_i q y
    simp only[oS,lT] at d;obtain⟨cx,n,k,p,l⟩:=d;cases l;exact .inl ⟨_,r,mm,q.2,q.1,cx,k,hop,rfl,rfl,y,n,p⟩
   ·cases d
  |builtin b=>
   obtain⟨i,rfl⟩:=Uw _ d;exact absurd rfl (s i)
theorem Xa (hS:tE P cl)(hY:rY P yl){z:dV}(hc:iI P pv defs o=some z)(s:St m nt pv defs vars loc a)(hr:HR P m h w)(hl:Cx m h.next)
  (j:jC cl yl vars loc h z=some (v,h'))  
  (W: ∀x w' m',VR m' v x->fY P m h w m' h' w'->K (a.put o.dst x) w'):o.wpIn (Wf r) 0 P a w K Q:=by
 have R:=kV hc
 by_cases hi: ∃i,z= .op i
 ·obtain⟨i,rfl⟩:=hi
  rw[nG] at j
  exact Gn R (Be s hr hl.fresh hc j) W
 ·have hi: ∀i,z≠ .op i:=λi e=>hi ⟨i,e⟩
  rcases rP hc hi with ⟨c,r',U,g,t,cx,B,N,k,rfl,hm,F,d⟩|⟨c,x,N,k,p⟩
  ·obtain⟨A,b,a1⟩:=c
   simp only at k d
   subst k
   rw[mB] at j
   have O:=fR s d
   have l:=aJ s F
   split at j
   ·rename_i u uv L
    rw[L] at l
    obtain⟨y,n,a4⟩:=l
    cases hut:Nat.beq u t with
    |false=>rw[hut] at j;cases j
    |true=>
     rw[hut] at j;simp only[cond_true] at j;obtain rfl:=Nat.eq_of_beq_eq_true hut;obtain⟨_,a3⟩:=Nn hm y w
     have f:(execOp a.eval o).run P w= .ok (.enter g (#[y]++b.map a.eval)) w:=by
      have Z:((#[a.eval r']++b.map a.eval).extract 1 (#[a.eval r']++b.map a.eval).size)=b.map a.eval:=by
       apply Array.toList_inj.1;simp [List.extract_eq_take_drop,yW]
      have a2:execOp a.eval o=Go.invoke (.fn (.method U) #[]) (#[a.eval r']++b.map a.eval):=by
       unfold execOp;rw[N];simp [resolve]
      rw[a2];have h0:(#[a.eval r']++b.map a.eval)[0]? =some (a.eval r'):=by rw[Array.getElem?_append_left (by simp)];rfl
      simp only[Go.invoke,h0,Z];simp only[n,callMethod,Sem.run_bind,run_program,Result.andThen_ok,a3];exact lE (hS _ _ _ _ _ j).1
     exact uQ R f ((hS _ _ _ _ _ j).2 m w _ (by simpa using ⟨a4,O⟩) hr hl) W
   ·cases j
  obtain⟨A,b,a1⟩:=c
  simp only at k p
  subst k
  have G: ∀(fn:Go.Fn) (first J:Array Value),a.eval x= .func fn first J->execOp a.eval o=Go.invoke (.fn fn J) (first++b.map a.eval):=by
   intro fn first J L
   unfold execOp;rw[N];simp [resolve,Deferred.ofValue,L]
  rcases p with ⟨g,B,rfl,rfl,Y,d⟩|⟨cx,B,rfl,F,d⟩
  ·rw[mW] at j
   have O:=fR s d
   have f:(execOp a.eval o).run P w= .ok (.enter g (b.map a.eval)) w:=by
    rw[G _ _ _ rfl];simp [Go.invoke,lE Y]
   exact uQ R f ((hS _ _ _ _ _ j).2 m w _ (by simpa using O) hr hl) W
  ·rw[mC] at j
   have O:=fR s d
   have l:=aJ s F
   split at j
   ·rename_i g fs cs L
    rw[L] at l
    obtain⟨xs,ys,n,h1,h2⟩:=l
    have f:(execOp a.eval o).run P w= .ok (.enter g (xs++b.map a.eval++ys)) w:=by
     rw[G _ _ _ n];simp only[Go.invoke];exact lE (hS _ _ _ _ _ j).1
    exact uQ R f ((hS _ _ _ _ _ j).2 m w _ (by simpa using (h1.append (O.append h2))) hr hl) W
   ·rename_i id L
    rw[L] at l
    obtain⟨q,hq,n⟩:=l
    obtain⟨fn,a0,as,bd,h1,h2⟩:=hY _ _ _ _ _ j m w (b.map a.eval) q (by simpa using O) hr hl hq
    have f:(execOp a.eval o).run P w= .ok (.round q.1 fn a0 as bd) w:=by
     rw[G _ _ _ n];simpa [Go.invoke] using h1
    exact Tz R f h2 W
   ·cases j
theorem VR.Bf {m:M}{v:V}{x:Value}(b:v.xP=true)(h:VR m v x):VR m' v x:=by
 cases v<;>simp [V.xP] at b<;>exact h
theorem fP.Bf {m:M}: ∀{vs:List V} {xs:List Value},vs.all V.xP=true->fP m vs xs->fP m' vs xs
 | [], [],_,_=>trivial
 |v::vs,x::xs,hs,h=>by
  rw[List.all_cons,pF] at hs;exact⟨VR.Bf hs.1 h.1,fP.Bf hs.2 h.2⟩
 | [],_::_,_,h=>h.elim
 |_::_, [],_,h=>h.elim
theorem fY.AV {m:M}{h h':H}{w w':World}(b:fY P (λ_=>none) ⟨.lf,0⟩ w m' h' w')(e:HR P m h w):fY P m h w m h w':=by
 have keep: ∀x,x<w.heap.size->w'.heap[x]? =w.heap[x]? :=λx d=>b.kept.block x d (λ⟨_,_,_,h1,_⟩=>by cases h1)
 refine⟨Ext.refl m,⟨λid o c=>?_,e.inj⟩,λ_ _ h=> .inl h,⟨b.kept.os,b.kept.tape,b.kept.output,b.kept.size,λx d _=>keep x d⟩,λ_ h=> .inl h,eS _,λ_ h=> .inl h,λ_ _ h=>h⟩;obtain⟨p,f,d⟩:=e.live id o c;exact⟨p,f,OR.mono (Ext.refl m) (keep _ d.lt) d⟩
theorem Uz (J:tE P cl){args:List X}(z:iI P pv defs o=some (.call g args))(s:St m nt pv defs vars loc a){N h2:H}
  (O:yA cl g (args.map (xv vars loc)) N=some (v,h2))  
  (B: ∀x w',VR m v x->(∀h,HR P m h w->fY P m h w m h w')->K (a.put o.dst x) w'):o.wpIn (Wf r) 0 P a w K Q:=by
 have A:=kV z
 rcases rP z (λi e=>by cases e) with ⟨_,_,_,_,_,_,_,_,_,e,_⟩|⟨c,x,y,d,b⟩
 ·cases e
 obtain⟨e,f,e⟩:=c
 simp only at d b
 subst d
 rcases b with ⟨b,j,rfl,k,p,l⟩|⟨b,j,k,_⟩
 ·cases k
  obtain⟨_,L,G,b,q⟩:=qJ O
  have t:=fR s l
  have n:(execOp a.eval o).run P w= .ok (.enter g (f.map a.eval)) w:=by
   unfold execOp;rw[y];have u:a.eval (.func g)= .func (.func g) #[] #[]:=rfl;simp [resolve,Deferred.ofValue,u,Go.invoke,lE p]
  have F:HR P (λ_=>none) (⟨.lf,0⟩:H) w:=⟨λid o h=>(by cases h),λi j b b b b _ h=>(by cases h)⟩
  refine uQ A n ((J _ _ _ _ _ q).2 (λ_=>none) w _ (by simpa using fP.Bf L t) F (λ_ _=>rfl)) (λx w' m' u b=>?_)
  exact B x w' (VR.Bf G u) (λh c=>b.AV c)
 ·cases k
end
end
end Go.Ay
