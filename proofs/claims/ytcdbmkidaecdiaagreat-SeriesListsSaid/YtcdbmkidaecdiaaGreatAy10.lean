/- One item, and a region in its own order. -/
import Derived.Test.YtcdbmkidaecdiaaGreatAy9
import Derived.Test.YtcdbmkidaecdiaaGreatAy1b
namespace Go.Ay
open Go
section
variable {g:Nat} {r:Option Nat} {K:Act->World->Prop} {Q:Exit->Act->World->Prop} {m':M}
abbrev Wf (r:Option Nat):Fence:={Fence.wide with round:=r}
def POk (P:Program)(p:Nat->Option Fn):Prop:= ∀g fn,p g=some fn-> ∃pv F,P.funcs[g]? =some F/\EK P pv F=some fn/\enters P g=true
def Cx (P:Program)(m:M)(h:H)(w:World)(v:V)(h':H):Ending->World->Prop:=λe w'=> ∃x m',e= .returned x/\VR m' v x/\iC P m h w m' h' w'
def Cv (P:Program)(cl:dM):Prop:= ∀g args h v h',cl g args h=some (v,h')->enters P g=true/\ ∀m w (xs:Array Value),gJ m args xs.toList->HR P m h w->Qx m h.next->
 CallsIn (Wf none) 0 P g xs w (Cx P m h w v h')
def Al (P:Program)(yl:dM):Prop:= ∀id args h v h',yl id args h=some (v,h')-> ∀m w (xs:Array Value) q,gJ m args xs.toList->HR P m h w->Qx m h.next->m id=some q->
 ∃fn tmps assign body,(Instr.yield q.1 xs).run P w= .ok (.round q.1 fn tmps assign body) w/\RoundIn (Wf none) 0 P q.1 fn tmps assign body w (Cx P m h w v h')
section
variable {P:Program} {cl yl:dM}
theorem pL {xs:Array Value}{w:World}(h:enters P g=true):(callFunc g xs).run P w= .ok (.enter g xs) w:=by
 unfold enters at h
 cases hf:P.funcs[g]? with
 |none=>simp [hf] at h
 |some fn=>
  simp only[hf,Option.any_some,vV,bne_iff_ne,ne_eq] at h;obtain⟨b,a⟩:=Option.isSome_iff_exists.1 h.1;simp [callFunc,hf,h.2,a]
variable {m:M} {h h':H} {w:World} {nt:Nat} {pv defs:List Nat} {vars loc:List V} {a:Act} {o:Oper} {v:V}
theorem Vb (i: ∀c,o.op≠ .defer c)(j:Goal P m h w o a v h')
  (f: ∀x w' m',VR m' v x->iC P m h w m' h' w'->K (a.put o.dst x) w'):o.wpIn (Wf r) 0 P a w K Q:=by
 obtain⟨x,w',m',b,d,e⟩:=j
 refine⟨λ_ _=>trivial,?_⟩
 rw[Oper.semAt_eq _ _ _ i]
 rcases b with b|⟨b,rfl⟩
 ·rw[b,Oper.uponIn_value];exact f x w' m' d e
 ·rw[b,Oper.uponIn_skip];exact f _ w' m' d e
theorem Fq (j: ∀c,o.op≠ .defer c){xs:Array Value}(d:(execOp a.eval o).run P w= .ok (.enter g xs) w)
  (b:CallsIn (Wf none) 0 P g xs w (Cx P m h w v h')) (l: ∀x w' m',VR m' v x->iC P m h w m' h' w'->K (a.put o.dst x) w'):o.wpIn (Wf r) 0 P a w K Q:=by
 refine⟨λ_ _=>trivial,?_⟩
 rw[Oper.semAt_eq _ _ _ j,d,Oper.uponIn_enter]
 refine⟨λh=>by simp [Fence.wide] at h,?_⟩
 have f:CallsIn (Wf r) 0 P g xs w (Cx P m h w v h'):=b
 refine CallsIn.mono f (λe w' k=>?_)
 obtain⟨x,m',rfl,i,f⟩:=k
 exact l x w' m' i f
theorem SM (p: ∀c,o.op≠ .defer c){l:Nat}{f:FuncId}{tmps:Array Value}{j i:Code}(d:(execOp a.eval o).run P w= .ok (.round l f tmps j i) w)
  (b:RoundIn (Wf none) 0 P l f tmps j i w (Cx P m h w v h')) (s: ∀x w' m',VR m' v x->iC P m h w m' h' w'->K (a.put o.dst x) w'):o.wpIn (Wf r) 0 P a w K Q:=by
 refine⟨λ_ _=>trivial,?_⟩
 rw[Oper.semAt_eq _ _ _ p,d,Oper.uponIn_round]
 refine⟨λh=>by simp [Fence.wide] at h,?_⟩
 have k:RoundIn (Wf r) 0 P l f tmps j i w (Cx P m h w v h'):=b
 refine RoundIn.mono k (λe w' q=>?_)
 obtain⟨x,m',rfl,n,k⟩:=q
 exact s x w' m' n k
theorem oJ {d:dO}(b:jG P pv defs o=some d): ∀c,o.op≠ .defer c:=by
 intro c e;unfold jG at b;rw[e] at b;simp at b
def DP (x:Option dO):Prop:= ∀act,x=some act-> ∃i,act= .op i
theorem Rn:DP none:=λ_ h=>by cases h
theorem Tt (i:I):DP (some (.op i)):=λ_ h=>by cases h;exact⟨i,rfl⟩
theorem Zh {α:Type}(x:Option α)(f:α->I):DP (x.map λa=> .op (f a)):=λ_ h=>by
 obtain⟨b,_,c⟩:=lT.1 h;exact⟨f b,c.symm⟩
theorem Te {α:Type}(x:Option α)(f:α->Option dO)(h: ∀b,DP (f b)):DP (x.bind f):=λ_ d=>by
 obtain⟨b,_,c⟩:=qL.1 d;exact h b _ c
set_option maxHeartbeats 1000000 in
theorem UO {b:Builtin}{args:Array Operand}{c:Array TypeId}{ty:TypeId}:DP (sX P pv defs ⟨.builtin b,args,c⟩ ty):=by
 unfold sX
 cases b<;>simp only[vD]<;>
  repeat' first
   |exact Rn
   |contradiction
   |exact Tt _
   |exact Zh _ _
   |(refine Te _ _ (λ_=>?_))
   |split
set_option maxHeartbeats 1000000 in
theorem OD (b: ∀c,o.op≠ .call c):DP (jG P pv defs o):=by
 unfold jG;cases hop:o.op
 case call c=>exact absurd hop (b c)
 all_goals
  simp only[vD]
  repeat' first
   |exact Rn
   |contradiction
   |exact Tt _
   |exact Zh _ _
   |(refine Te _ _ (λ_=>?_))
   |split
theorem Pt {b:String}: ∀{l:List Nat} {t g:Nat},Mj P b l=some (t,g)->t∈l/\DM P b t=some g
 | [],t,g,h=>by simp [Mj] at h
 |u::l,t,g,h=>by
  simp only[Mj] at h;split at h
  ·rename_i f c
   cases h;exact⟨by simp,c⟩
  ·obtain⟨d,e⟩:=Pt h
   exact⟨by simp [d],e⟩
theorem CV {b:String}{t:Nat}(h:Mj P b (List.range P.types.size)=some (t,g))(v:Value)(w:World):
  enters P g=true/\(method (P.types.size+Made.depth) t v b).run P w= .ok (g,v) w:=by
 obtain⟨x,c⟩:=Pt h
 have A:0<P.types.size:=by have:=Lk.1 x;omega
 unfold DM at c
 split at c
 ·rename_i r B
  obtain⟨i,hi,z⟩:=qL.1 B
  split at c
  ·rename_i f d y n u
   have k:enters P f=true->(∀e,d≠ .pointer e)->f=g->enters P g=true/\(method (P.types.size+Made.depth) t v b).run P w= .ok (g,v) w:=by
    intro j s l;subst l;refine⟨j,?_⟩
    obtain⟨q,p⟩: ∃q,P.types.size+Made.depth=q+1:=⟨P.types.size+Made.depth- 1,om⟩
    rw[p];unfold method;simp only[Sem.run_bind,show (typeInfo t).run P w= .ok i w from by simp [typeInfo,hi],Result.andThen_ok,z,y,follow,Sem.run_pure,n];cases d<;>first
     |exact absurd rfl (s _)
     |simp [receiverAt,run_underlying u,Place.get]
   cases d<;>simp only at c<;>first
    |(cases c;done)
    |(split at c
      ·rename_i j
       cases c
       exact k j (λ_=>by simp) rfl
      ·cases c)
  ·cases c
 ·cases c
theorem Ad {e:dO}(d:jG P pv defs o=some e)(s: ∀i,e≠ .op i):(∃c r name g t cx args,o.op= .call c/\c.callee= .invoke r name/\e= .calli g t cx args/\
   Mj P name (List.range P.types.size)=some (t,g)/\fL pv defs r=some cx/\rO pv defs c.args.toList=some args)∨ ∃c x,o.op= .call c/\c.callee= .value x/\
  ((∃g args,x= .func g/\e= .call g args/\enters P g=true/\rO pv defs c.args.toList=some args)∨
   (∃cx args,e= .callv cx args/\fL pv defs x=some cx/\rO pv defs c.args.toList=some args)):=by
 by_cases f: ∀c,o.op≠ .call c
 ·obtain⟨i,rfl⟩:=OD f _ d
  exact absurd rfl (s i)
 ·have ⟨c,hop⟩: ∃c,o.op= .call c:=Kh λh=>f λc d=>h ⟨c,d⟩
  unfold jG at d
  rw[hop] at d
  obtain⟨j,args,y⟩:=c
  simp only at d
  cases j with
  |value x=>
   refine .inr ⟨_,x,hop,rfl,?_⟩;simp only[sX] at d
   cases x with
   |func g=>
    simp only at d;split at d
    ·rename_i z
     simp only[lT] at d;obtain⟨xs,A,rfl⟩:=d;exact .inl ⟨g,xs,rfl,rfl,z,A⟩
    ·cases d
   |_=>
    simp only[vD,qL] at d;obtain⟨cx,l,p,n,k⟩:=d;cases k;exact .inr ⟨cx,p,rfl,l,n⟩
  |invoke r mm=>
   simp only[sX] at d;split at d
   ·rename_i q u
    simp only[vD,qL] at d;obtain⟨cx,l,p,n,k⟩:=d;cases k;exact .inl ⟨_,r,mm,q.2,q.1,cx,p,hop,rfl,rfl,u,l,n⟩
   ·cases d
  |builtin b=>
   obtain⟨i,rfl⟩:=UO _ d;exact absurd rfl (s i)
theorem SE (hS:Cv P cl)(hY:Al P yl){z:dO}(hc:jG P pv defs o=some z)(s:St m nt pv defs vars loc a)(hr:HR P m h w)(hl:Qx m h.next)
  (j:kY cl yl vars loc h z=some (v,h'))  
  (Y: ∀x w' m',VR m' v x->iC P m h w m' h' w'->K (a.put o.dst x) w'):o.wpIn (Wf r) 0 P a w K Q:=by
 have hd:=oJ hc
 by_cases hi: ∃i,z= .op i
 ·obtain⟨i,rfl⟩:=hi
  rw[tQ] at j
  exact Vb hd (On s hr hl.fresh hc j) Y
 ·have hi: ∀i,z≠ .op i:=λi e=>hi ⟨i,e⟩
  rcases Ad hc hi with ⟨c,R,a0,g,t,cx,B,L,k,rfl,hm,J,d⟩|⟨c,x,L,k,p⟩
  ·obtain⟨A,b,a2⟩:=c
   simp only at k d
   subst k
   rw[rE] at j
   have O:=gY s d
   have l:=aJ s J
   split at j
   ·rename_i u uv N
    rw[N] at l
    obtain⟨y,n,a3⟩:=l
    cases hut:Nat.beq u t with
    |false=>rw[hut] at j;cases j
    |true=>
     rw[hut] at j;simp only[cond_true] at j;obtain rfl:=Nat.eq_of_beq_eq_true hut;obtain⟨_,a4⟩:=CV hm y w
     have f:(execOp a.eval o).run P w= .ok (.enter g (#[y]++b.map a.eval)) w:=by
      have W:((#[a.eval R]++b.map a.eval).extract 1 (#[a.eval R]++b.map a.eval).size)=b.map a.eval:=by
       apply Array.toList_inj.1;simp [List.extract_eq_take_drop,Lq]
      have a1:execOp a.eval o=Go.invoke (.fn (.method a0) #[]) (#[a.eval R]++b.map a.eval):=by
       unfold execOp;rw[L];simp [resolve]
      rw[a1];have h0:(#[a.eval R]++b.map a.eval)[0]? =some (a.eval R):=by rw[Array.getElem?_append_left (by simp)];rfl
      simp only[Go.invoke,h0,W];simp only[n,callMethod,Sem.run_bind,run_program,Result.andThen_ok,a4];exact pL (hS _ _ _ _ _ j).1
     exact Fq hd f ((hS _ _ _ _ _ j).2 m w _ (by simpa using ⟨a3,O⟩) hr hl) Y
   ·cases j
  obtain⟨A,b,a2⟩:=c
  simp only at k p
  subst k
  have F: ∀(fn:Go.Fn) (first G:Array Value),a.eval x= .func fn first G->execOp a.eval o=Go.invoke (.fn fn G) (first++b.map a.eval):=by
   intro fn first G N
   unfold execOp;rw[L];simp [resolve,Deferred.ofValue,N]
  rcases p with ⟨g,B,rfl,rfl,U,d⟩|⟨cx,B,rfl,J,d⟩
  ·rw[tS] at j
   have O:=gY s d
   have f:(execOp a.eval o).run P w= .ok (.enter g (b.map a.eval)) w:=by
    rw[F _ _ _ rfl];simp [Go.invoke,pL U]
   exact Fq hd f ((hS _ _ _ _ _ j).2 m w _ (by simpa using O) hr hl) Y
  ·rw[rL] at j
   have O:=gY s d
   have l:=aJ s J
   split at j
   ·rename_i g fs cs N
    rw[N] at l
    obtain⟨xs,ys,n,h1,h2⟩:=l
    have f:(execOp a.eval o).run P w= .ok (.enter g (xs++b.map a.eval++ys)) w:=by
     rw[F _ _ _ n];simp only[Go.invoke];exact pL (hS _ _ _ _ _ j).1
    exact Fq hd f ((hS _ _ _ _ _ j).2 m w _ (by simpa using (h1.append (O.append h2))) hr hl) Y
   ·rename_i id N
    rw[N] at l
    obtain⟨q,hq,n⟩:=l
    obtain⟨fn,Z,as,bd,h1,h2⟩:=hY _ _ _ _ _ j m w (b.map a.eval) q (by simpa using O) hr hl hq
    have f:(execOp a.eval o).run P w= .ok (.round q.1 fn Z as bd) w:=by
     rw[F _ _ _ n];simpa [Go.invoke] using h1
    exact SM hd f h2 Y
   ·cases j
theorem VR.Mw {m:M}{v:V}{x:Value}(b:v.Jh=true)(h:VR m v x):VR m' v x:=by
 cases v<;>simp [V.Jh] at b<;>exact h
theorem gJ.Mw {m:M}: ∀{vs:List V} {xs:List Value},vs.all V.Jh=true->gJ m vs xs->gJ m' vs xs
 | [], [],_,_=>trivial
 |v::vs,x::xs,hs,h=>by
  rw[List.all_cons,vV] at hs;exact⟨VR.Mw hs.1 h.1,gJ.Mw hs.2 h.2⟩
 | [],_::_,_,h=>h.elim
 |_::_, [],_,h=>h.elim
theorem iC.aeC {m:M}{h h':H}{w w':World}(b:iC P (λ_=>none) ⟨.lf,0⟩ w m' h' w')(f:HR P m h w):iC P m h w m h w':=by
 have zI: ∀x,x<w.heap.size->w'.heap[x]? =w.heap[x]? :=λx c=>b.kept.block x c (λ⟨_,_,_,h1,_⟩=>by cases h1)
 refine⟨Ext.refl m,⟨λid o d=>?_,f.inj⟩,λ_ _ h=> .inl h,⟨b.kept.os,b.kept.tape,b.kept.output,b.kept.size,λx c _=>zI x c⟩,λ_ h=> .inl h,eH _,λ_ h=> .inl h,λ_ _ h=>h⟩;obtain⟨p,i,e⟩:=f.live id o d;exact⟨p,i,OR.mono (Ext.refl m) (zI _ e.lt) e⟩
theorem VW (U:Cv P cl){args:List X}(F:jG P pv defs o=some (.call g args))(s:St m nt pv defs vars loc a){L h2:H}
  (R:Lg cl g (args.map (xv vars loc)) L=some (v,h2))  
  (J: ∀x w',VR m v x->(∀h,HR P m h w->iC P m h w m h w')->K (a.put o.dst x) w'):o.wpIn (Wf r) 0 P a w K Q:=by
 have O:=oJ F
 rcases Ad F (λi e=>by cases e) with ⟨_,_,_,_,_,_,_,_,_,e,_⟩|⟨c,x,A,d,b⟩
 ·cases e
 obtain⟨u,l,N⟩:=c
 simp only at d b
 subst d
 rcases b with ⟨g',k,rfl,n,p,f⟩|⟨cx,k,n,_⟩
 ·cases n
  obtain⟨_,W,Y,h3,y⟩:=xS R
  have z:=gY s f
  have t:(execOp a.eval o).run P w= .ok (.enter g (l.map a.eval)) w:=by
   unfold execOp;rw[A];have B:a.eval (.func g)= .func (.func g) #[] #[]:=rfl;simp [resolve,Deferred.ofValue,B,Go.invoke,pL p]
  have G:HR P (λ_=>none) (⟨.lf,0⟩:H) w:=⟨λid o h=>(by cases h),λi j oi oj pi pj _ h=>(by cases h)⟩
  refine Fq O t ((U _ _ _ _ _ y).2 (λ_=>none) w _ (by simpa using gJ.Mw W z) G (λ_ _=>rfl)) (λx w' m' B q=>?_)
  exact J x w' (VR.Mw Y B) (λh Z=>q.aeC Z)
 ·cases n
end
end
end Go.Ay
