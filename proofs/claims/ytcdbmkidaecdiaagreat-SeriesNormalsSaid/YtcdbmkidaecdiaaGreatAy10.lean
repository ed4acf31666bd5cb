/- One item, and a region in its own order. -/
import Derived.Test.YtcdbmkidaecdiaaGreatAy9
import Derived.Test.YtcdbmkidaecdiaaGreatAy1b
namespace Go.Ay
open Go
section
variable {r:Option Nat} {K:Act->World->Prop} {Q:Exit->Act->World->Prop}
abbrev Wf (r:Option Nat):Fence:={Fence.wide with round:=r}
def Lu (P:Program)(m:M)(h:H)(w:World)(v:V)(h':H):Ending->World->Prop:=λe w'=> ∃x m',e= .returned x/\VR m' v x/\jR P m h w m' h' w'
def Hz (P:Program)(cl:lQ):Prop:= ∀g args h v h',cl g args h=some (v,h')->enters P g=true/\ ∀m w (xs:Array Value),iR m args xs.toList->HR P m h w->Vz m h.next->
 CallsIn (Wf none) 0 P g xs w (Lu P m h w v h')
def LU (P:Program)(g:Nat):Prop:= ∀args h v h',Mm args h=some (v,h')->enters P g=true/\ ∀m w (xs:Array Value),iR m args xs.toList->HR P m h w->Vz m h.next->
 CallsIn (Wf none) 0 P g xs w (Lu P m h w v h')
def POk (P:Program)(p:Nat->Option Fn):Prop:= ∀g fn,p g=some fn->fn.srt=true/\LU P g∨ ∃pv F,P.funcs[g]? =some F/\CQ P pv F=some fn/\enters P g=true
def Bp (P:Program)(yl:lQ):Prop:= ∀id args h v h',yl id args h=some (v,h')-> ∀m w (xs:Array Value) q,iR m args xs.toList->HR P m h w->Vz m h.next->m id=some q->
 ∃fn tmps assign body,(Instr.yield q.1 xs).run P w= .ok (.round q.1 fn tmps assign body) w/\RoundIn (Wf none) 0 P q.1 fn tmps assign body w (Lu P m h w v h')
section
variable {P:Program} {cl yl:lQ}
theorem Fl {g:Nat}{xs:Array Value}{w:World}(h:enters P g=true):(callFunc g xs).run P w= .ok (.enter g xs) w:=by
 unfold enters at h
 cases hf:P.funcs[g]? with
 |none=>simp [hf] at h
 |some fn=>
  simp only[hf,Option.any_some,sE,bne_iff_ne,ne_eq] at h;obtain⟨b,a⟩:=Option.isSome_iff_exists.1 h.1;simp [callFunc,hf,h.2,a]
variable {m:M} {h h':H} {w:World} {nt:Nat} {pv defs:List Nat} {vars loc:List V} {a:Act} {o:Oper} {v:V}
theorem Uz (g: ∀c,o.op≠ .defer c)(i:Goal P m h w o a v h')
  (f: ∀x w' m',VR m' v x->jR P m h w m' h' w'->K (a.put o.dst x) w'):o.wpIn (Wf r) 0 P a w K Q:=by
 obtain⟨x,w',m',b,d,e⟩:=i
 refine⟨λ_ _=>trivial,?_⟩
 rw[Oper.semAt_eq _ _ _ g]
 rcases b with b|⟨b,rfl⟩
 ·rw[b,Oper.uponIn_value];exact f x w' m' d e
 ·rw[b,Oper.uponIn_skip];exact f _ w' m' d e
theorem Zy (l: ∀c,o.op≠ .defer c){g:Nat}{xs:Array Value}(d:(execOp a.eval o).run P w= .ok (.enter g xs) w)
  (b:CallsIn (Wf none) 0 P g xs w (Lu P m h w v h')) (k: ∀x w' m',VR m' v x->jR P m h w m' h' w'->K (a.put o.dst x) w'):o.wpIn (Wf r) 0 P a w K Q:=by
 refine⟨λ_ _=>trivial,?_⟩
 rw[Oper.semAt_eq _ _ _ l,d,Oper.uponIn_enter]
 refine⟨λh=>by simp [Fence.wide] at h,?_⟩
 have f:CallsIn (Wf r) 0 P g xs w (Lu P m h w v h'):=b
 refine CallsIn.mono f (λe w' j=>?_)
 obtain⟨x,m',rfl,i,f⟩:=j
 exact k x w' m' i f
theorem UN (q: ∀c,o.op≠ .defer c){l:Nat}{g:FuncId}{tmps:Array Value}{j i:Code}(d:(execOp a.eval o).run P w= .ok (.round l g tmps j i) w)
  (b:RoundIn (Wf none) 0 P l g tmps j i w (Lu P m h w v h')) (p: ∀x w' m',VR m' v x->jR P m h w m' h' w'->K (a.put o.dst x) w'):o.wpIn (Wf r) 0 P a w K Q:=by
 refine⟨λ_ _=>trivial,?_⟩
 rw[Oper.semAt_eq _ _ _ q,d,Oper.uponIn_round]
 refine⟨λh=>by simp [Fence.wide] at h,?_⟩
 have f:RoundIn (Wf r) 0 P l g tmps j i w (Lu P m h w v h'):=b
 refine RoundIn.mono f (λe w' n=>?_)
 obtain⟨x,m',rfl,k,f⟩:=n
 exact p x w' m' k f
theorem uF {e:fO}(b:pI P pv defs o=some e): ∀c,o.op≠ .defer c:=by
 intro c d;unfold pI at b;rw[d] at b;simp at b
def CD (x:Option fO):Prop:= ∀act,x=some act-> ∃i,act= .op i
theorem Ti:CD none:=λ_ h=>by cases h
theorem Mu (i:I):CD (some (.op i)):=λ_ h=>by cases h;exact⟨i,rfl⟩
theorem Zc {α:Type}(x:Option α)(f:α->I):CD (x.map λa=> .op (f a)):=λ_ h=>by
 obtain⟨b,_,c⟩:=oU.1 h;exact⟨f b,c.symm⟩
theorem Sn {α:Type}(x:Option α)(f:α->Option fO)(h: ∀b,CD (f b)):CD (x.bind f):=λ_ c=>by
 obtain⟨b,_,d⟩:=xP.1 c;exact h b _ d
set_option maxHeartbeats 1000000 in
theorem SA {b:Builtin}{args:Array Operand}{c:Array TypeId}{ty:TypeId}:CD (xI P pv defs ⟨.builtin b,args,c⟩ ty):=by
 unfold xI
 cases b<;>simp only[Da]<;>
  repeat' first
   |exact Ti
   |contradiction
   |exact Mu _
   |exact Zc _ _
   |(refine Sn _ _ (λ_=>?_))
   |split
set_option maxHeartbeats 1000000 in
theorem JQ (b: ∀c,o.op≠ .call c):CD (pI P pv defs o):=by
 unfold pI;cases hop:o.op
 case call c=>exact absurd hop (b c)
 all_goals
  simp only[Da]
  repeat' first
   |exact Ti
   |contradiction
   |exact Mu _
   |exact Zc _ _
   |(refine Sn _ _ (λ_=>?_))
   |split
theorem Xo {j:fO}(d:pI P pv defs o=some j)(k: ∀i,j≠ .op i): ∃c x,o.op= .call c/\c.callee= .value x/\
  ((∃g args,x= .func g/\j= .call g args/\enters P g=true/\Ew pv defs c.args.toList=some args)∨
   (∃cx args,j= .callv cx args/\iM pv defs x=some cx/\Ew pv defs c.args.toList=some args)):=by
 by_cases e: ∀c,o.op≠ .call c
 ·obtain⟨i,rfl⟩:=JQ e _ d
  exact absurd rfl (k i)
 ·have ⟨c,hop⟩: ∃c,o.op= .call c:=Jj λh=>e λc d=>h ⟨c,d⟩
  unfold pI at d
  rw[hop] at d
  obtain⟨f,args,s⟩:=c
  simp only at d
  cases f with
  |value x=>
   refine⟨_,x,hop,rfl,?_⟩;simp only[xI] at d
   cases x with
   |func g=>
    simp only at d;split at d
    ·rename_i u
     simp only[oU] at d;obtain⟨xs,t,rfl⟩:=d;exact .inl ⟨g,xs,rfl,rfl,u,t⟩
    ·cases d
   |_=>
    simp only[Da,xP] at d;obtain⟨cx,l,q,p,n⟩:=d;cases n;exact .inr ⟨cx,q,rfl,l,p⟩
  |invoke r mm=>cases d
  |builtin b=>
   obtain⟨i,rfl⟩:=SA _ d;exact absurd rfl (k i)
theorem XW (Z:Hz P cl)(hY:Bp P yl){l:fO}(hc:pI P pv defs o=some l)(s:St m nt pv defs vars loc a)(N:HR P m h w)(U:Vz m h.next)
  (n:uN cl yl vars loc h l=some (v,h'))  
  (L: ∀x w' m',VR m' v x->jR P m h w m' h' w'->K (a.put o.dst x) w'):o.wpIn (Wf r) 0 P a w K Q:=by
 have J:=uF hc
 by_cases hi: ∃i,l= .op i
 ·obtain⟨i,rfl⟩:=hi
  exact Uz J (Qc s N U.fresh hc n) L
 ·have hi: ∀i,l≠ .op i:=λi e=>hi ⟨i,e⟩
  obtain⟨c,x,a1,p,j⟩:=Xo hc hi
  obtain⟨O,b,a2⟩:=c
  simp only at p j
  subst p
  have t: ∀(B:Go.Fn) (first u:Array Value),a.eval x= .func B first u->execOp a.eval o=Go.invoke (.fn B u) (first++b.map a.eval):=by
   intro B first u A
   unfold execOp;rw[a1];simp [resolve,Deferred.ofValue,A]
  rcases j with ⟨g,F,rfl,rfl,z,f⟩|⟨cx,F,rfl,a0,f⟩
  ·have R:=tH s f
   have d:(execOp a.eval o).run P w= .ok (.enter g (b.map a.eval)) w:=by
    rw[t _ _ _ rfl];simp [Go.invoke,Fl z]
   exact Zy J d ((Z _ _ _ _ _ n).2 m w _ (by simpa using R) N U) L
  ·rw[uN] at n
   have R:=tH s f
   have k:=aQ s a0
   split at n
   ·rename_i g fs cs A
    rw[A] at k
    obtain⟨xs,ys,y,W,Y⟩:=k
    have d:(execOp a.eval o).run P w= .ok (.enter g (xs++b.map a.eval++ys)) w:=by
     rw[t _ _ _ y];simp only[Go.invoke];exact Fl (Z _ _ _ _ _ n).1
    exact Zy J d ((Z _ _ _ _ _ n).2 m w _ (by simpa using (W.append (R.append Y))) N U) L
   ·rename_i id A
    rw[A] at k
    obtain⟨q,hq,y⟩:=k
    obtain⟨B,G,as,bd,W,Y⟩:=hY _ _ _ _ _ n m w (b.map a.eval) q (by simpa using R) N U hq
    have d:(execOp a.eval o).run P w= .ok (.round q.1 B G as bd) w:=by
     rw[t _ _ _ y];simpa [Go.invoke] using W
    exact UN J d Y L
   ·cases n
end
end
end Go.Ay
