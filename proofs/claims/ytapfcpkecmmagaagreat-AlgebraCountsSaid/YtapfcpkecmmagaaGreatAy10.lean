/- One item, and a region in its own order. -/
import Derived.Test.YtapfcpkecmmagaaGreatAy9
import Derived.Test.YtapfcpkecmmagaaGreatAy1b
namespace Go.Ay
open Go
section
variable {g:Nat} {r:Option Nat} {K:Act->World->Prop} {Q:Exit->Act->World->Prop} {m':M}
abbrev Wf (r:Option Nat):Fence:={Fence.wide with round:=r}
def Wk (P:Program)(p:Nat->Option Fn):Prop:= ∀g fn,p g=some fn-> ∃pv F,P.funcs[g]? =some F/\Gl P pv F=some fn/\enters P g=true
def tC (P:Program)(m:M)(h:H)(w:World)(v:V)(h':H):Ending->World->Prop:=λe w'=> ∃x m',e= .returned x/\VR m' v x/\fU P m h w m' h' w'
def tN (P:Program)(cl:dP):Prop:= ∀g args h v h',cl g args h=some (v,h')->enters P g=true/\ ∀m w (xs:Array Value),fL m args xs.toList->HR P m h w->Cq m h.next->
 CallsIn (Wf none) 0 P g xs w (tC P m h w v h')
def rX (P:Program)(yl:dP):Prop:= ∀id args h v h',yl id args h=some (v,h')-> ∀m w (xs:Array Value) q,fL m args xs.toList->HR P m h w->Cq m h.next->m id=some q->
 ∃fn tmps assign body,(Instr.yield q.1 xs).run P w= .ok (.round q.1 fn tmps assign body) w/\RoundIn (Wf none) 0 P q.1 fn tmps assign body w (tC P m h w v h')
section
variable {P:Program} {cl yl:dP}
theorem lF {xs:Array Value}{w:World}(h:enters P g=true):(callFunc g xs).run P w= .ok (.enter g xs) w:=by
 unfold enters at h
 cases hf:P.funcs[g]? with
 |none=>simp [hf] at h
 |some fn=>
  simp only[hf,Option.any_some,pQ,bne_iff_ne,ne_eq] at h;obtain⟨b,a⟩:=Option.isSome_iff_exists.1 h.1;simp [callFunc,hf,h.2,a]
variable {m:M} {h h':H} {w:World} {nt:Nat} {pv defs:List Nat} {vars loc:List V} {a:Act} {o:Oper} {v:V}
theorem Gg (j: ∀c,o.op≠ .defer c)(i:Goal P m h w o a v h')
  (f: ∀x w' m',VR m' v x->fU P m h w m' h' w'->K (a.put o.dst x) w'):o.wpIn (Wf r) 0 P a w K Q:=by
 obtain⟨x,w',m',b,d,e⟩:=i
 refine⟨λ_ _=>trivial,?_⟩
 rw[Oper.semAt_eq _ _ _ j]
 rcases b with b|⟨b,rfl⟩
 ·rw[b,Oper.uponIn_value];exact f x w' m' d e
 ·rw[b,Oper.uponIn_skip];exact f _ w' m' d e
theorem vG (j: ∀c,o.op≠ .defer c){xs:Array Value}(d:(execOp a.eval o).run P w= .ok (.enter g xs) w)
  (b:CallsIn (Wf none) 0 P g xs w (tC P m h w v h')) (i: ∀x w' m',VR m' v x->fU P m h w m' h' w'->K (a.put o.dst x) w'):o.wpIn (Wf r) 0 P a w K Q:=by
 refine⟨λ_ _=>trivial,?_⟩
 rw[Oper.semAt_eq _ _ _ j,d,Oper.uponIn_enter]
 refine⟨λh=>by simp [Fence.wide] at h,?_⟩
 have f:CallsIn (Wf r) 0 P g xs w (tC P m h w v h'):=b
 refine CallsIn.mono f (λe w' k=>?_)
 obtain⟨x,m',rfl,e,f⟩:=k
 exact i x w' m' e f
theorem Wg (k: ∀c,o.op≠ .defer c){l:Nat}{i:FuncId}{tmps:Array Value}{as j:Code}(d:(execOp a.eval o).run P w= .ok (.round l i tmps as j) w)
  (b:RoundIn (Wf none) 0 P l i tmps as j w (tC P m h w v h')) (n: ∀x w' m',VR m' v x->fU P m h w m' h' w'->K (a.put o.dst x) w'):o.wpIn (Wf r) 0 P a w K Q:=by
 refine⟨λ_ _=>trivial,?_⟩
 rw[Oper.semAt_eq _ _ _ k,d,Oper.uponIn_round]
 refine⟨λh=>by simp [Fence.wide] at h,?_⟩
 have f:RoundIn (Wf r) 0 P l i tmps as j w (tC P m h w v h'):=b
 refine RoundIn.mono f (λe w' p=>?_)
 obtain⟨x,m',rfl,e,f⟩:=p
 exact n x w' m' e f
theorem kE {d:dR}(e:iJ P pv defs o=some d): ∀c,o.op≠ .defer c:=by
 intro c b;unfold iJ at e;rw[b] at e;simp at e
def Mc (x:Option dR):Prop:= ∀act,x=some act-> ∃i,act= .op i
theorem Ea:Mc none:=λ_ h=>by cases h
theorem De (i:I):Mc (some (.op i)):=λ_ h=>by cases h;exact⟨i,rfl⟩
theorem Jh {α:Type}(x:Option α)(f:α->I):Mc (x.map λa=> .op (f a)):=λ_ h=>by
 obtain⟨b,_,c⟩:=jB.1 h;exact⟨f b,c.symm⟩
theorem Cu {α:Type}(x:Option α)(f:α->Option dR)(h: ∀b,Mc (f b)):Mc (x.bind f):=λ_ d=>by
 obtain⟨b,_,c⟩:=lJ.1 d;exact h b _ c
set_option maxHeartbeats 1000000 in
theorem Ul {b:Builtin}{args:Array Operand}{c:Array TypeId}{ty:TypeId}:Mc (mX P pv defs ⟨.builtin b,args,c⟩ ty):=by
 unfold mX
 cases b<;>simp only[oF]<;>
  repeat' first
   |exact Ea
   |contradiction
   |exact De _
   |exact Jh _ _
   |(refine Cu _ _ (λ_=>?_))
   |split
set_option maxHeartbeats 1000000 in
theorem Rb (b: ∀c,o.op≠ .call c):Mc (iJ P pv defs o):=by
 unfold iJ;cases hop:o.op
 case call c=>exact absurd hop (b c)
 all_goals
  simp only[oF]
  repeat' first
   |exact Ea
   |contradiction
   |exact De _
   |exact Jh _ _
   |(refine Cu _ _ (λ_=>?_))
   |split
theorem Af {b:String}: ∀{l:List Nat} {t g:Nat},Av P b l=some (t,g)->t∈l/\Mt P b t=some g
 | [],t,g,h=>by simp [Av] at h
 |u::l,t,g,h=>by
  simp only[Av] at h;split at h
  ·rename_i f e
   cases h;exact⟨by simp,e⟩
  ·obtain⟨c,d⟩:=Af h
   exact⟨by simp [c],d⟩
theorem Ky {b:String}{t:Nat}(h:Av P b (List.range P.types.size)=some (t,g))(v:Value)(w:World):
  enters P g=true/\(method (P.types.size+Made.depth) t v b).run P w= .ok (g,v) w:=by
 obtain⟨p,c⟩:=Af h
 have A:0<P.types.size:=by have:=Ae.1 p;omega
 unfold Mt at c
 split at c
 ·rename_i r u
  obtain⟨i,hi,y⟩:=lJ.1 u
  split at c
  ·rename_i f d x n z
   have k:enters P f=true->(∀e,d≠ .pointer e)->f=g->enters P g=true/\(method (P.types.size+Made.depth) t v b).run P w= .ok (g,v) w:=by
    intro l s j;subst j;refine⟨l,?_⟩
    obtain⟨q,B⟩: ∃q,P.types.size+Made.depth=q+1:=⟨P.types.size+Made.depth- 1,om⟩
    rw[B];unfold method;simp only[Sem.run_bind,show (typeInfo t).run P w= .ok i w from by simp [typeInfo,hi],Result.andThen_ok,y,x,follow,Sem.run_pure,n];cases d<;>first
     |exact absurd rfl (s _)
     |simp [receiverAt,run_underlying z,Place.get]
   cases d<;>simp only at c<;>first
    |(cases c;done)
    |(split at c
      ·rename_i l
       cases c
       exact k l (λ_=>by simp) rfl
      ·cases c)
  ·cases c
 ·cases c
theorem rM {f:dR}(d:iJ P pv defs o=some f)(s: ∀i,f≠ .op i):(∃c r name g t cx args,o.op= .call c/\c.callee= .invoke r name/\f= .calli g t cx args/\
   Av P name (List.range P.types.size)=some (t,g)/\fC pv defs r=some cx/\mL pv defs c.args.toList=some args)∨ ∃c x,o.op= .call c/\c.callee= .value x/\
  ((∃g args,x= .func g/\f= .call g args/\enters P g=true/\mL pv defs c.args.toList=some args)∨
   (∃cx args,f= .callv cx args/\fC pv defs x=some cx/\mL pv defs c.args.toList=some args)):=by
 by_cases e: ∀c,o.op≠ .call c
 ·obtain⟨i,rfl⟩:=Rb e _ d
  exact absurd rfl (s i)
 ·have ⟨c,hop⟩: ∃c,o.op= .call c:=Bz λh=>e λc d=>h ⟨c,d⟩
  unfold iJ at d
  rw[hop] at d
  obtain⟨j,args,y⟩:=c
  simp only at d
  cases j with
  |value x=>
   refine .inr ⟨_,x,hop,rfl,?_⟩;simp only[mX] at d
   cases x with
   |func g=>
    simp only at d;split at d
    ·rename_i u
     simp only[jB] at d;obtain⟨xs,z,rfl⟩:=d;exact .inl ⟨g,xs,rfl,rfl,u,z⟩
    ·cases d
   |_=>
    simp only[oF,lJ] at d;obtain⟨cx,k,p,l,n⟩:=d;cases n;exact .inr ⟨cx,p,rfl,k,l⟩
  |invoke r mm=>
   simp only[mX] at d;split at d
   ·rename_i q A
    simp only[oF,lJ] at d;obtain⟨cx,k,p,l,n⟩:=d;cases n;exact .inl ⟨_,r,mm,q.2,q.1,cx,p,hop,rfl,rfl,A,k,l⟩
   ·cases d
  |builtin b=>
   obtain⟨i,rfl⟩:=Ul _ d;exact absurd rfl (s i)
theorem Xp (hS:tN P cl)(hY:rX P yl){z:dR}(hc:iJ P pv defs o=some z)(s:St m nt pv defs vars loc a)(Y:HR P m h w)(W:Cq m h.next)
  (j:jI cl yl vars loc h z=some (v,h'))  
  (hK: ∀x w' m',VR m' v x->fU P m h w m' h' w'->K (a.put o.dst x) w'):o.wpIn (Wf r) 0 P a w K Q:=by
 have U:=kE hc
 by_cases hi: ∃i,z= .op i
 ·obtain⟨i,rfl⟩:=hi
  rw[nE] at j
  exact Gg U (Bx s Y W.fresh hc j) hK
 ·have hi: ∀i,z≠ .op i:=λi e=>hi ⟨i,e⟩
  rcases rM hc hi with ⟨c,R,a1,g,t,cx,B,L,k,rfl,hm,G,d⟩|⟨c,x,L,k,n⟩
  ·obtain⟨A,b,a5⟩:=c
   simp only at k d
   subst k
   rw[lU] at j
   have O:=fP s d
   have l:=aJ s G
   split at j
   ·rename_i u uv N
    rw[N] at l
    obtain⟨y,p,a3⟩:=l
    cases hut:Nat.beq u t with
    |false=>rw[hut] at j;cases j
    |true=>
     rw[hut] at j;simp only[cond_true] at j;obtain rfl:=Nat.eq_of_beq_eq_true hut;obtain⟨_,a4⟩:=Ky hm y w
     have f:(execOp a.eval o).run P w= .ok (.enter g (#[y]++b.map a.eval)) w:=by
      have a0:((#[a.eval R]++b.map a.eval).extract 1 (#[a.eval R]++b.map a.eval).size)=b.map a.eval:=by
       apply Array.toList_inj.1;simp [List.extract_eq_take_drop,yR]
      have a6:execOp a.eval o=Go.invoke (.fn (.method a1) #[]) (#[a.eval R]++b.map a.eval):=by
       unfold execOp;rw[L];simp [resolve]
      rw[a6];have h0:(#[a.eval R]++b.map a.eval)[0]? =some (a.eval R):=by rw[Array.getElem?_append_left (by simp)];rfl
      simp only[Go.invoke,h0,a0];simp only[p,callMethod,Sem.run_bind,run_program,Result.andThen_ok,a4];exact lF (hS _ _ _ _ _ j).1
     exact vG U f ((hS _ _ _ _ _ j).2 m w _ (by simpa using ⟨a3,O⟩) Y W) hK
   ·cases j
  obtain⟨A,b,a5⟩:=c
  simp only at k n
  subst k
  have J: ∀(fn:Go.Fn) (first F:Array Value),a.eval x= .func fn first F->execOp a.eval o=Go.invoke (.fn fn F) (first++b.map a.eval):=by
   intro fn first F N
   unfold execOp;rw[L];simp [resolve,Deferred.ofValue,N]
  rcases n with ⟨g,B,rfl,rfl,a2,d⟩|⟨cx,B,rfl,G,d⟩
  ·rw[mV] at j
   have O:=fP s d
   have f:(execOp a.eval o).run P w= .ok (.enter g (b.map a.eval)) w:=by
    rw[J _ _ _ rfl];simp [Go.invoke,lF a2]
   exact vG U f ((hS _ _ _ _ _ j).2 m w _ (by simpa using O) Y W) hK
  ·rw[mB] at j
   have O:=fP s d
   have l:=aJ s G
   split at j
   ·rename_i g fs cs N
    rw[N] at l
    obtain⟨xs,ys,p,h1,h2⟩:=l
    have f:(execOp a.eval o).run P w= .ok (.enter g (xs++b.map a.eval++ys)) w:=by
     rw[J _ _ _ p];simp only[Go.invoke];exact lF (hS _ _ _ _ _ j).1
    exact vG U f ((hS _ _ _ _ _ j).2 m w _ (by simpa using (h1.append (O.append h2))) Y W) hK
   ·rename_i id N
    rw[N] at l
    obtain⟨q,hq,p⟩:=l
    obtain⟨fn,Z,as,bd,h1,h2⟩:=hY _ _ _ _ _ j m w (b.map a.eval) q (by simpa using O) Y W hq
    have f:(execOp a.eval o).run P w= .ok (.round q.1 fn Z as bd) w:=by
     rw[J _ _ _ p];simpa [Go.invoke] using h1
    exact Wg U f h2 hK
   ·cases j
theorem VR.Aq {m:M}{v:V}{x:Value}(b:v.wJ=true)(h:VR m v x):VR m' v x:=by
 cases v<;>simp [V.wJ] at b<;>exact h
theorem fL.Aq {m:M}: ∀{vs:List V} {xs:List Value},vs.all V.wJ=true->fL m vs xs->fL m' vs xs
 | [], [],_,_=>trivial
 |v::vs,x::xs,hs,h=>by
  rw[List.all_cons,pQ] at hs;exact⟨VR.Aq hs.1 h.1,fL.Aq hs.2 h.2⟩
 | [],_::_,_,h=>h.elim
 |_::_, [],_,h=>h.elim
theorem fU.Zn {m:M}{h h':H}{w w':World}(b:fU P (λ_=>none) ⟨.lf,0⟩ w m' h' w')(e:HR P m h w):fU P m h w m h w':=by
 have keep: ∀x,x<w.heap.size->w'.heap[x]? =w.heap[x]? :=λx c=>b.kept.block x c (λ⟨_,_,_,h1,_⟩=>by cases h1)
 refine⟨Ext.refl m,⟨λid o d=>?_,e.inj⟩,λ_ _ h=> .inl h,⟨b.kept.os,b.kept.tape,b.kept.output,b.kept.size,λx c _=>keep x c⟩,λ_ h=> .inl h,fH _,λ_ h=> .inl h,λ_ _ h=>h⟩;obtain⟨p,f,c⟩:=e.live id o d;exact⟨p,f,OR.mono (Ext.refl m) (keep _ c.lt) c⟩
theorem Tf (N:tN P cl){args:List X}(z:iJ P pv defs o=some (.call g args))(s:St m nt pv defs vars loc a){L h2:H}
  (O:xX cl g (args.map (xv vars loc)) L=some (v,h2))  
  (J: ∀x w',VR m v x->(∀h,HR P m h w->fU P m h w m h w')->K (a.put o.dst x) w'):o.wpIn (Wf r) 0 P a w K Q:=by
 have B:=kE z
 rcases rM z (λi e=>by cases e) with ⟨_,_,_,_,_,_,_,_,_,e,_⟩|⟨c,x,q,d,b⟩
 ·cases e
 obtain⟨e,f,e⟩:=c
 simp only at d b
 subst d
 rcases b with ⟨b,l,rfl,k,p,j⟩|⟨b,l,k,_⟩
 ·cases k
  obtain⟨_,A,F,b,u⟩:=qF O
  have t:=fP s j
  have n:(execOp a.eval o).run P w= .ok (.enter g (f.map a.eval)) w:=by
   unfold execOp;rw[q];have y:a.eval (.func g)= .func (.func g) #[] #[]:=rfl;simp [resolve,Deferred.ofValue,y,Go.invoke,lF p]
  have G:HR P (λ_=>none) (⟨.lf,0⟩:H) w:=⟨λid o h=>(by cases h),λi j b b b b _ h=>(by cases h)⟩
  refine vG B n ((N _ _ _ _ _ u).2 (λ_=>none) w _ (by simpa using fL.Aq A t) G (λ_ _=>rfl)) (λx w' m' y b=>?_)
  exact J x w' (VR.Aq F y) (λh c=>b.Zn c)
 ·cases k
end
end
end Go.Ay
