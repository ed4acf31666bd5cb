/- One item, and a region in its own order. -/
import Derived.Test.YtcdbmkidaecdiaaGreatAy9
import Derived.Test.YtcdbmkidaecdiaaGreatAy1b
namespace Go.Ay
open Go
section
variable {g:Nat} {r:Option Nat} {K:Act->World->Prop} {Q:Exit->Act->World->Prop} {m':M}
abbrev Wf (r:Option Nat):Fence:={Fence.wide with round:=r}
def POk (P:Program)(p:Nat->Option Fn):Prop:= ∀g fn,p g=some fn-> ∃pv F,P.funcs[g]? =some F/\CL P pv F=some fn/\enters P g=true
def Dm (P:Program)(m:M)(h:H)(w:World)(v:V)(h':H):Ending->World->Prop:=λe w'=> ∃x m',e= .returned x/\VR m' v x/\iO P m h w m' h' w'
def Dd (P:Program)(cl:dP):Prop:= ∀g args h v h',cl g args h=some (v,h')->enters P g=true/\ ∀m w (xs:Array Value),gZ m args xs.toList->HR P m h w->Qk m h.next->
 CallsIn (Wf none) 0 P g xs w (Dm P m h w v h')
def Ao (P:Program)(yl:dP):Prop:= ∀id args h v h',yl id args h=some (v,h')-> ∀m w (xs:Array Value) q,gZ m args xs.toList->HR P m h w->Qk m h.next->m id=some q->
 ∃fn tmps assign body,(Instr.yield q.1 xs).run P w= .ok (.round q.1 fn tmps assign body) w/\RoundIn (Wf none) 0 P q.1 fn tmps assign body w (Dm P m h w v h')
section
variable {P:Program} {cl yl:dP}
theorem qC {xs:Array Value}{w:World}(h:enters P g=true):(callFunc g xs).run P w= .ok (.enter g xs) w:=by
 unfold enters at h
 cases hf:P.funcs[g]? with
 |none=>simp [hf] at h
 |some fn=>
  simp only[hf,Option.any_some,vN,bne_iff_ne,ne_eq] at h;obtain⟨b,a⟩:=Option.isSome_iff_exists.1 h.1;simp [callFunc,hf,h.2,a]
variable {m:M} {h h':H} {w:World} {nt:Nat} {pv defs:List Nat} {vars loc:List V} {a:Act} {o:Oper} {v:V}
theorem Un (k: ∀c,o.op≠ .defer c)(j:Goal P m h w o a v h')
  (f: ∀x w' m',VR m' v x->iO P m h w m' h' w'->K (a.put o.dst x) w'):o.wpIn (Wf r) 0 P a w K Q:=by
 obtain⟨x,w',m',b,i,d⟩:=j
 refine⟨λ_ _=>trivial,?_⟩
 rw[Oper.semAt_eq _ _ _ k]
 rcases b with b|⟨b,rfl⟩
 ·rw[b,Oper.uponIn_value];exact f x w' m' i d
 ·rw[b,Oper.uponIn_skip];exact f _ w' m' i d
theorem Gb (i: ∀c,o.op≠ .defer c){xs:Array Value}(d:(execOp a.eval o).run P w= .ok (.enter g xs) w)
  (b:CallsIn (Wf none) 0 P g xs w (Dm P m h w v h')) (j: ∀x w' m',VR m' v x->iO P m h w m' h' w'->K (a.put o.dst x) w'):o.wpIn (Wf r) 0 P a w K Q:=by
 refine⟨λ_ _=>trivial,?_⟩
 rw[Oper.semAt_eq _ _ _ i,d,Oper.uponIn_enter]
 refine⟨λh=>by simp [Fence.wide] at h,?_⟩
 have f:CallsIn (Wf r) 0 P g xs w (Dm P m h w v h'):=b
 refine CallsIn.mono f (λe w' k=>?_)
 obtain⟨x,m',rfl,l,f⟩:=k
 exact j x w' m' l f
theorem UB (n: ∀c,o.op≠ .defer c){l:Nat}{f:FuncId}{tmps:Array Value}{j k:Code}(d:(execOp a.eval o).run P w= .ok (.round l f tmps j k) w)
  (b:RoundIn (Wf none) 0 P l f tmps j k w (Dm P m h w v h')) (p: ∀x w' m',VR m' v x->iO P m h w m' h' w'->K (a.put o.dst x) w'):o.wpIn (Wf r) 0 P a w K Q:=by
 refine⟨λ_ _=>trivial,?_⟩
 rw[Oper.semAt_eq _ _ _ n,d,Oper.uponIn_round]
 refine⟨λh=>by simp [Fence.wide] at h,?_⟩
 have i:RoundIn (Wf r) 0 P l f tmps j k w (Dm P m h w v h'):=b
 refine RoundIn.mono i (λe w' q=>?_)
 obtain⟨x,m',rfl,s,i⟩:=q
 exact p x w' m' s i
theorem oH {b:dR}(f:jO P pv defs o=some b): ∀c,o.op≠ .defer c:=by
 intro c d;unfold jO at f;rw[d] at f;simp at f
def DY (x:Option dR):Prop:= ∀act,x=some act-> ∃i,act= .op i
theorem Ru:DY none:=λ_ h=>by cases h
theorem Sz (i:I):DY (some (.op i)):=λ_ h=>by cases h;exact⟨i,rfl⟩
theorem AK {α:Type}(x:Option α)(f:α->I):DY (x.map λa=> .op (f a)):=λ_ h=>by
 obtain⟨b,_,c⟩:=mJ.1 h;exact⟨f b,c.symm⟩
theorem Tb {α:Type}(x:Option α)(f:α->Option dR)(h: ∀b,DY (f b)):DY (x.bind f):=λ_ c=>by
 obtain⟨b,_,d⟩:=qM.1 c;exact h b _ d
set_option maxHeartbeats 1000000 in
theorem OW {b:Builtin}{args:Array Operand}{c:Array TypeId}{ty:TypeId}:DY (tI P pv defs ⟨.builtin b,args,c⟩ ty):=by
 unfold tI
 cases b<;>simp only[uV]<;>
  repeat' first
   |exact Ru
   |contradiction
   |exact Sz _
   |exact AK _ _
   |(refine Tb _ _ (λ_=>?_))
   |split
set_option maxHeartbeats 1000000 in
theorem IL (b: ∀c,o.op≠ .call c):DY (jO P pv defs o):=by
 unfold jO;cases hop:o.op
 case call c=>exact absurd hop (b c)
 all_goals
  simp only[uV]
  repeat' first
   |exact Ru
   |contradiction
   |exact Sz _
   |exact AK _ _
   |(refine Tb _ _ (λ_=>?_))
   |split
theorem Nf {b:String}: ∀{l:List Nat} {t g:Nat},Pd P b l=some (t,g)->t∈l/\BB P b t=some g
 | [],t,g,h=>by simp [Pd] at h
 |u::l,t,g,h=>by
  simp only[Pd] at h;split at h
  ·rename_i f d
   cases h;exact⟨by simp,d⟩
  ·obtain⟨i,c⟩:=Nf h
   exact⟨by simp [i],c⟩
theorem CO {b:String}{t:Nat}(h:Pd P b (List.range P.types.size)=some (t,g))(v:Value)(w:World):
  enters P g=true/\(method (P.types.size+Made.depth) t v b).run P w= .ok (g,v) w:=by
 obtain⟨x,c⟩:=Nf h
 have y:0<P.types.size:=by have:=Gu.1 x;omega
 unfold BB at c
 split at c
 ·rename_i r A
  obtain⟨i,hi,B⟩:=qM.1 A
  split at c
  ·rename_i f d p k z
   have l:enters P f=true->(∀e,d≠ .pointer e)->f=g->enters P g=true/\(method (P.types.size+Made.depth) t v b).run P w= .ok (g,v) w:=by
    intro n u j;subst j;refine⟨n,?_⟩
    obtain⟨q,s⟩: ∃q,P.types.size+Made.depth=q+1:=⟨P.types.size+Made.depth- 1,om⟩
    rw[s];unfold method;simp only[Sem.run_bind,show (typeInfo t).run P w= .ok i w from by simp [typeInfo,hi],Result.andThen_ok,B,p,follow,Sem.run_pure,k];cases d<;>first
     |exact absurd rfl (u _)
     |simp [receiverAt,run_underlying z,Place.get]
   cases d<;>simp only at c<;>first
    |(cases c;done)
    |(split at c
      ·rename_i n
       cases c
       exact l n (λ_=>by simp) rfl
      ·cases c)
  ·cases c
 ·cases c
theorem Bo {j:dR}(d:jO P pv defs o=some j)(u: ∀i,j≠ .op i):(∃c r name g t cx args,o.op= .call c/\c.callee= .invoke r name/\j= .calli g t cx args/\
   Pd P name (List.range P.types.size)=some (t,g)/\fU pv defs r=some cx/\rR pv defs c.args.toList=some args)∨ ∃c x,o.op= .call c/\c.callee= .value x/\
  ((∃g args,x= .func g/\j= .call g args/\enters P g=true/\rR pv defs c.args.toList=some args)∨
   (∃cx args,j= .callv cx args/\fU pv defs x=some cx/\rR pv defs c.args.toList=some args)):=by
 by_cases f: ∀c,o.op≠ .call c
 ·obtain⟨i,rfl⟩:=IL f _ d
  exact absurd rfl (u i)
 ·have ⟨c,hop⟩: ∃c,o.op= .call c:=Jg λh=>f λc d=>h ⟨c,d⟩
  unfold jO at d
  rw[hop] at d
  obtain⟨k,args,z⟩:=c
  simp only at d
  cases k with
  |value x=>
   refine .inr ⟨_,x,hop,rfl,?_⟩;simp only[tI] at d
   cases x with
   |func g=>
    simp only at d;split at d
    ·rename_i B
     simp only[mJ] at d;obtain⟨xs,A,rfl⟩:=d;exact .inl ⟨g,xs,rfl,rfl,B,A⟩
    ·cases d
   |_=>
    simp only[uV,qM] at d;obtain⟨cx,s,n,l,p⟩:=d;cases p;exact .inr ⟨cx,n,rfl,s,l⟩
  |invoke r mm=>
   simp only[tI] at d;split at d
   ·rename_i q y
    simp only[uV,qM] at d;obtain⟨cx,s,n,l,p⟩:=d;cases p;exact .inl ⟨_,r,mm,q.2,q.1,cx,n,hop,rfl,rfl,y,s,l⟩
   ·cases d
  |builtin b=>
   obtain⟨i,rfl⟩:=OW _ d;exact absurd rfl (u i)
theorem PQ (hS:Dd P cl)(hY:Ao P yl){z:dR}(hc:jO P pv defs o=some z)(s:St m nt pv defs vars loc a)(hr:HR P m h w)(Y:Qk m h.next)
  (j:Lh cl yl vars loc h z=some (v,h'))  
  (hK: ∀x w' m',VR m' v x->iO P m h w m' h' w'->K (a.put o.dst x) w'):o.wpIn (Wf r) 0 P a w K Q:=by
 have hd:=oH hc
 by_cases hi: ∃i,z= .op i
 ·obtain⟨i,rfl⟩:=hi
  rw[sX] at j
  exact Un hd (Mh s hr Y.fresh hc j) hK
 ·have hi: ∀i,z≠ .op i:=λi e=>hi ⟨i,e⟩
  rcases Bo hc hi with ⟨c,U,a1,g,t,cx,B,F,k,rfl,hm,L,d⟩|⟨c,x,F,k,p⟩
  ·obtain⟨A,b,a4⟩:=c
   simp only at k d
   subst k
   rw[rH] at j
   have O:=iM s d
   have l:=aJ s L
   split at j
   ·rename_i u uv N
    rw[N] at l
    obtain⟨y,n,a2⟩:=l
    cases hut:Nat.beq u t with
    |false=>rw[hut] at j;cases j
    |true=>
     rw[hut] at j;simp only[cond_true] at j;obtain rfl:=Nat.eq_of_beq_eq_true hut;obtain⟨_,a5⟩:=CO hm y w
     have f:(execOp a.eval o).run P w= .ok (.enter g (#[y]++b.map a.eval)) w:=by
      have a0:((#[a.eval U]++b.map a.eval).extract 1 (#[a.eval U]++b.map a.eval).size)=b.map a.eval:=by
       apply Array.toList_inj.1;simp [List.extract_eq_take_drop,Tn]
      have a3:execOp a.eval o=Go.invoke (.fn (.method a1) #[]) (#[a.eval U]++b.map a.eval):=by
       unfold execOp;rw[F];simp [resolve]
      rw[a3];have h0:(#[a.eval U]++b.map a.eval)[0]? =some (a.eval U):=by rw[Array.getElem?_append_left (by simp)];rfl
      simp only[Go.invoke,h0,a0];simp only[n,callMethod,Sem.run_bind,run_program,Result.andThen_ok,a5];exact qC (hS _ _ _ _ _ j).1
     exact Gb hd f ((hS _ _ _ _ _ j).2 m w _ (by simpa using ⟨a2,O⟩) hr Y) hK
   ·cases j
  obtain⟨A,b,a4⟩:=c
  simp only at k p
  subst k
  have J: ∀(Z:Go.Fn) (first G:Array Value),a.eval x= .func Z first G->execOp a.eval o=Go.invoke (.fn Z G) (first++b.map a.eval):=by
   intro Z first G N
   unfold execOp;rw[F];simp [resolve,Deferred.ofValue,N]
  rcases p with ⟨g,B,rfl,rfl,W,d⟩|⟨cx,B,rfl,L,d⟩
  ·rw[tS] at j
   have O:=iM s d
   have f:(execOp a.eval o).run P w= .ok (.enter g (b.map a.eval)) w:=by
    rw[J _ _ _ rfl];simp [Go.invoke,qC W]
   exact Gb hd f ((hS _ _ _ _ _ j).2 m w _ (by simpa using O) hr Y) hK
  ·rw[rF] at j
   have O:=iM s d
   have l:=aJ s L
   split at j
   ·rename_i g fs cs N
    rw[N] at l
    obtain⟨xs,ys,n,h1,h2⟩:=l
    have f:(execOp a.eval o).run P w= .ok (.enter g (xs++b.map a.eval++ys)) w:=by
     rw[J _ _ _ n];simp only[Go.invoke];exact qC (hS _ _ _ _ _ j).1
    exact Gb hd f ((hS _ _ _ _ _ j).2 m w _ (by simpa using (h1.append (O.append h2))) hr Y) hK
   ·rename_i id N
    rw[N] at l
    obtain⟨q,hq,n⟩:=l
    obtain⟨Z,R,as,bd,h1,h2⟩:=hY _ _ _ _ _ j m w (b.map a.eval) q (by simpa using O) hr Y hq
    have f:(execOp a.eval o).run P w= .ok (.round q.1 Z R as bd) w:=by
     rw[J _ _ _ n];simpa [Go.invoke] using h1
    exact UB hd f h2 hK
   ·cases j
theorem VR.Ou {m:M}{v:V}{x:Value}(b:v.Iu=true)(h:VR m v x):VR m' v x:=by
 cases v<;>simp [V.Iu] at b<;>exact h
theorem gZ.Ou {m:M}: ∀{vs:List V} {xs:List Value},vs.all V.Iu=true->gZ m vs xs->gZ m' vs xs
 | [], [],_,_=>trivial
 |v::vs,x::xs,hs,h=>by
  rw[List.all_cons,vN] at hs;exact⟨VR.Ou hs.1 h.1,gZ.Ou hs.2 h.2⟩
 | [],_::_,_,h=>h.elim
 |_::_, [],_,h=>h.elim
theorem iO.aaH {m:M}{h h':H}{w w':World}(b:iO P (λ_=>none) ⟨.lf,0⟩ w m' h' w')(i:HR P m h w):iO P m h w m h w':=by
 have zA: ∀x,x<w.heap.size->w'.heap[x]? =w.heap[x]? :=λx c=>b.kept.block x c (λ⟨_,_,_,h1,_⟩=>by cases h1)
 refine⟨Ext.refl m,⟨λid o d=>?_,i.inj⟩,λ_ _ h=> .inl h,⟨b.kept.os,b.kept.tape,b.kept.output,b.kept.size,λx c _=>zA x c⟩,λ_ h=> .inl h,fM _,λ_ h=> .inl h,λ_ _ h=>h⟩;obtain⟨p,j,f⟩:=i.live id o d;exact⟨p,j,OR.mono (Ext.refl m) (zA _ f.lt) f⟩
theorem QE (O:Dd P cl){args:List X}(F:jO P pv defs o=some (.call g args))(s:St m nt pv defs vars loc a){L h2:H}
  (J:Kg cl g (args.map (xv vars loc)) L=some (v,h2))  
  (R: ∀x w',VR m v x->(∀h,HR P m h w->iO P m h w m h w')->K (a.put o.dst x) w'):o.wpIn (Wf r) 0 P a w K Q:=by
 have W:=oH F
 rcases Bo F (λi e=>by cases e) with ⟨_,_,_,_,_,_,_,_,_,e,_⟩|⟨c,x,z,d,b⟩
 ·cases e
 obtain⟨u,f,Y⟩:=c
 simp only at d b
 subst d
 rcases b with ⟨g',l,rfl,n,q,k⟩|⟨cx,l,n,_⟩
 ·cases n
  obtain⟨_,U,N,h3,y⟩:=yL J
  have A:=iM s k
  have t:(execOp a.eval o).run P w= .ok (.enter g (f.map a.eval)) w:=by
   unfold execOp;rw[z];have B:a.eval (.func g)= .func (.func g) #[] #[]:=rfl;simp [resolve,Deferred.ofValue,B,Go.invoke,qC q]
  have G:HR P (λ_=>none) (⟨.lf,0⟩:H) w:=⟨λid o h=>(by cases h),λi j oi oj pi pj _ h=>(by cases h)⟩
  refine Gb W t ((O _ _ _ _ _ y).2 (λ_=>none) w _ (by simpa using gZ.Ou U A) G (λ_ _=>rfl)) (λx w' m' B p=>?_)
  exact R x w' (VR.Ou N B) (λh Z=>p.aaH Z)
 ·cases n
end
end
end Go.Ay
