/- One item, and a region in its own order. -/
import Derived.Test.YtcdbmkidaecdiaaGreatAy9
import Derived.Test.YtcdbmkidaecdiaaGreatAy1b
namespace Go.Ay
open Go
section
variable {r:Option Nat} {K:Act->World->Prop} {Q:Exit->Act->World->Prop}
abbrev Wf (r:Option Nat):Fence:={Fence.wide with round:=r}
def POk (P:Program)(p:Nat->Option Fn):Prop:= ∀g fn,p g=some fn-> ∃pv F,P.funcs[g]? =some F/\CQ P pv F=some fn/\enters P g=true
def Lu (P:Program)(m:M)(h:H)(w:World)(v:V)(h':H):Ending->World->Prop:=λe w'=> ∃x m',e= .returned x/\VR m' v x/\jR P m h w m' h' w'
def Hz (P:Program)(cl:lQ):Prop:= ∀g args h v h',cl g args h=some (v,h')->enters P g=true/\ ∀m w (xs:Array Value),iR m args xs.toList->HR P m h w->Vz m h.next->
 CallsIn (Wf none) 0 P g xs w (Lu P m h w v h')
def Bp (P:Program)(yl:lQ):Prop:= ∀id args h v h',yl id args h=some (v,h')-> ∀m w (xs:Array Value) q,iR m args xs.toList->HR P m h w->Vz m h.next->m id=some q->
 ∃fn tmps assign body,(Instr.yield q.1 xs).run P w= .ok (.round q.1 fn tmps assign body) w/\RoundIn (Wf none) 0 P q.1 fn tmps assign body w (Lu P m h w v h')
section
variable {P:Program} {cl yl:lQ}
theorem Fl {g:Nat}{xs:Array Value}{w:World}(h:enters P g=true):(callFunc g xs).run P w= .ok (.enter g xs) w:=by
 unfold enters at h
 cases hf:P.funcs[g]? with
 |none=>simp [hf] at h
 |some fn=>
  simp only[hf,Option.any_some,sE,bne_iff_ne,ne_eq] at h;obtain⟨b,a⟩:=Option.isSome_iff_exists.1 h.1;simp [callFunc,hf,h.2,a]
variable {m:M} {h h':H} {w:World} {nt:Nat} {pv defs:List Nat} {vars loc:List V} {a:Act} {o:Oper} {v:V}
theorem Uz (j: ∀c,o.op≠ .defer c)(k:Goal P m h w o a v h')
  (i: ∀x w' m',VR m' v x->jR P m h w m' h' w'->K (a.put o.dst x) w'):o.wpIn (Wf r) 0 P a w K Q:=by
 obtain⟨x,w',m',b,d,f⟩:=k
 refine⟨λ_ _=>trivial,?_⟩
 rw[Oper.semAt_eq _ _ _ j]
 rcases b with b|⟨b,rfl⟩
 ·rw[b,Oper.uponIn_value];exact i x w' m' d f
 ·rw[b,Oper.uponIn_skip];exact i _ w' m' d f
theorem Zy (i: ∀c,o.op≠ .defer c){g:Nat}{xs:Array Value}(d:(execOp a.eval o).run P w= .ok (.enter g xs) w)
  (b:CallsIn (Wf none) 0 P g xs w (Lu P m h w v h')) (l: ∀x w' m',VR m' v x->jR P m h w m' h' w'->K (a.put o.dst x) w'):o.wpIn (Wf r) 0 P a w K Q:=by
 refine⟨λ_ _=>trivial,?_⟩
 rw[Oper.semAt_eq _ _ _ i,d,Oper.uponIn_enter]
 refine⟨λh=>by simp [Fence.wide] at h,?_⟩
 have f:CallsIn (Wf r) 0 P g xs w (Lu P m h w v h'):=b
 refine CallsIn.mono f (λe w' k=>?_)
 obtain⟨x,m',rfl,j,f⟩:=k
 exact l x w' m' j f
theorem UN (n: ∀c,o.op≠ .defer c){l:Nat}{i:FuncId}{tmps:Array Value}{f j:Code}(d:(execOp a.eval o).run P w= .ok (.round l i tmps f j) w)
  (b:RoundIn (Wf none) 0 P l i tmps f j w (Lu P m h w v h')) (s: ∀x w' m',VR m' v x->jR P m h w m' h' w'->K (a.put o.dst x) w'):o.wpIn (Wf r) 0 P a w K Q:=by
 refine⟨λ_ _=>trivial,?_⟩
 rw[Oper.semAt_eq _ _ _ n,d,Oper.uponIn_round]
 refine⟨λh=>by simp [Fence.wide] at h,?_⟩
 have k:RoundIn (Wf r) 0 P l i tmps f j w (Lu P m h w v h'):=b
 refine RoundIn.mono k (λe w' q=>?_)
 obtain⟨x,m',rfl,p,k⟩:=q
 exact s x w' m' p k
theorem uF {d:fO}(f:pI P pv defs o=some d): ∀c,o.op≠ .defer c:=by
 intro c b;unfold pI at f;rw[b] at f;simp at f
def CD (x:Option fO):Prop:= ∀act,x=some act-> ∃i,act= .op i
theorem Ti:CD none:=λ_ h=>by cases h
theorem So (i:I):CD (some (.op i)):=λ_ h=>by cases h;exact⟨i,rfl⟩
theorem Zc {α:Type}(x:Option α)(f:α->I):CD (x.map λa=> .op (f a)):=λ_ h=>by
 obtain⟨b,_,c⟩:=oU.1 h;exact⟨f b,c.symm⟩
theorem Sn {α:Type}(x:Option α)(f:α->Option fO)(h: ∀b,CD (f b)):CD (x.bind f):=λ_ c=>by
 obtain⟨b,_,d⟩:=xP.1 c;exact h b _ d
set_option maxHeartbeats 1000000 in
theorem SA {b:Builtin}{args:Array Operand}{c:Array TypeId}{ty:TypeId}:CD (xI P pv defs ⟨.builtin b,args,c⟩ ty):=by
 unfold xI
 cases b<;>simp only[Da]<;>
  repeat' first
   |exact Ti
   |contradiction
   |exact So _
   |exact Zc _ _
   |(refine Sn _ _ (λ_=>?_))
   |split
set_option maxHeartbeats 1000000 in
theorem JQ (b: ∀c,o.op≠ .call c):CD (pI P pv defs o):=by
 unfold pI;cases hop:o.op
 case call c=>exact absurd hop (b c)
 all_goals
  simp only[Da]
  repeat' first
   |exact Ti
   |contradiction
   |exact So _
   |exact Zc _ _
   |(refine Sn _ _ (λ_=>?_))
   |split
theorem Xo {k:fO}(d:pI P pv defs o=some k)(l: ∀i,k≠ .op i): ∃c x,o.op= .call c/\c.callee= .value x/\
  ((∃g args,x= .func g/\k= .call g args/\enters P g=true/\Ew pv defs c.args.toList=some args)∨
   (∃cx args,k= .callv cx args/\iM pv defs x=some cx/\Ew pv defs c.args.toList=some args)):=by
 by_cases f: ∀c,o.op≠ .call c
 ·obtain⟨i,rfl⟩:=JQ f _ d
  exact absurd rfl (l i)
 ·have ⟨c,hop⟩: ∃c,o.op= .call c:=Jj λh=>f λc d=>h ⟨c,d⟩
  unfold pI at d
  rw[hop] at d
  obtain⟨j,args,p⟩:=c
  simp only at d
  cases j with
  |value x=>
   refine⟨_,x,hop,rfl,?_⟩;simp only[xI] at d
   cases x with
   |func g=>
    simp only at d;split at d
    ·rename_i q
     simp only[oU] at d;obtain⟨xs,s,rfl⟩:=d;exact .inl ⟨g,xs,rfl,rfl,q,s⟩
    ·cases d
   |_=>
    simp only[Da,xP] at d;obtain⟨cx,n,cs,t,u⟩:=d;cases u;exact .inr ⟨cx,cs,rfl,n,t⟩
  |invoke r mm=>cases d
  |builtin b=>
   obtain⟨i,rfl⟩:=SA _ d;exact absurd rfl (l i)
theorem XW (hS:Hz P cl)(hY:Bp P yl){l:fO}(Y:pI P pv defs o=some l)(s:St m nt pv defs vars loc a)(O:HR P m h w)(N:Vz m h.next)
  (n:uN cl yl vars loc h l=some (v,h'))  
  (R: ∀x w' m',VR m' v x->jR P m h w m' h' w'->K (a.put o.dst x) w'):o.wpIn (Wf r) 0 P a w K Q:=by
 have L:=uF Y
 by_cases hi: ∃i,l= .op i
 ·obtain⟨i,rfl⟩:=hi
  exact Uz L (Qc s O N.fresh Y n) R
 ·have hi: ∀i,l≠ .op i:=λi e=>hi ⟨i,e⟩
  obtain⟨c,x,Z,p,j⟩:=Xo Y hi
  obtain⟨J,b,a1⟩:=c
  simp only at p j
  subst p
  have y: ∀(F:Go.Fn) (first t:Array Value),a.eval x= .func F first t->execOp a.eval o=Go.invoke (.fn F t) (first++b.map a.eval):=by
   intro F first t B
   unfold execOp;rw[Z];simp [resolve,Deferred.ofValue,B]
  rcases j with ⟨g,A,rfl,rfl,z,f⟩|⟨cx,A,rfl,a0,f⟩
  ·have U:=tH s f
   have d:(execOp a.eval o).run P w= .ok (.enter g (b.map a.eval)) w:=by
    rw[y _ _ _ rfl];simp [Go.invoke,Fl z]
   exact Zy L d ((hS _ _ _ _ _ n).2 m w _ (by simpa using U) O N) R
  ·rw[uN] at n
   have U:=tH s f
   have k:=aQ s a0
   split at n
   ·rename_i g fs cs B
    rw[B] at k
    obtain⟨xs,ys,u,W,h2⟩:=k
    have d:(execOp a.eval o).run P w= .ok (.enter g (xs++b.map a.eval++ys)) w:=by
     rw[y _ _ _ u];simp only[Go.invoke];exact Fl (hS _ _ _ _ _ n).1
    exact Zy L d ((hS _ _ _ _ _ n).2 m w _ (by simpa using (W.append (U.append h2))) O N) R
   ·rename_i id B
    rw[B] at k
    obtain⟨q,hq,u⟩:=k
    obtain⟨F,G,as,bd,W,h2⟩:=hY _ _ _ _ _ n m w (b.map a.eval) q (by simpa using U) O N hq
    have d:(execOp a.eval o).run P w= .ok (.round q.1 F G as bd) w:=by
     rw[y _ _ _ u];simpa [Go.invoke] using W
    exact UN L d h2 R
   ·cases n
end
end
end Go.Ay
