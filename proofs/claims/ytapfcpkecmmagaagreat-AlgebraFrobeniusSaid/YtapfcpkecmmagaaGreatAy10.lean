/- One item, and a region in its own order. -/
import Derived.Test.YtapfcpkecmmagaaGreatAy9
import Derived.Test.YtapfcpkecmmagaaGreatAy1b
namespace Go.Ay
open Go
section
variable {g:Nat} {r:Option Nat} {K:Act->World->Prop} {Q:Exit->Act->World->Prop} {m':M}
abbrev Wf (r:Option Nat):Fence:={Fence.wide with round:=r}
def Ln (P:Program)(p:Nat->Option Fn):Prop:= ∀g fn,p g=some fn-> ∃pv F,P.funcs[g]? =some F/\Aj P pv F=some fn/\enters P g=true
def qL (P:Program)(m:M)(h:H)(w:World)(v:V)(h':H):Ending->World->Prop:=λe w'=> ∃x m',e= .returned x/\VR m' v x/\eS P m h w m' h' w'
def qI (P:Program)(cl:dD):Prop:= ∀g args h v h',cl g args h=some (v,h')->enters P g=true/\ ∀m w (xs:Array Value),eG m args xs.toList->HR P m h w->xS m h.next->
 CallsIn (Wf none) 0 P g xs w (qL P m h w v h')
def oW (P:Program)(yl:dD):Prop:= ∀id args h v h',yl id args h=some (v,h')-> ∀m w (xs:Array Value) q,eG m args xs.toList->HR P m h w->xS m h.next->m id=some q->
 ∃fn tmps assign body,(Instr.yield q.1 xs).run P w= .ok (.round q.1 fn tmps assign body) w/\RoundIn (Wf none) 0 P q.1 fn tmps assign body w (qL P m h w v h')
section
variable {P:Program} {cl yl:dD}
theorem jK {xs:Array Value}{w:World}(h:enters P g=true):(callFunc g xs).run P w= .ok (.enter g xs) w:=by
 unfold enters at h
 cases hf:P.funcs[g]? with
 |none=>simp [hf] at h
 |some fn=>
  simp only[hf,Option.any_some,Bool.and_eq_true,bne_iff_ne,ne_eq] at h;obtain⟨b,hb⟩:=Option.isSome_iff_exists.1 h.1;simp [callFunc,hf,h.2,hb]
variable {m:M} {h h':H} {w:World} {nt:Nat} {pv defs:List Nat} {vars loc:List V} {a:Act} {o:Oper} {v:V}
theorem Al (hd: ∀c,o.op≠ .defer c)(hg:Goal P m h w o a v h')
  (hK: ∀x w' m',VR m' v x->eS P m h w m' h' w'->K (a.put o.dst x) w'):o.wpIn (Wf r) 0 P a w K Q:=by
 obtain⟨x,w',m',hy,h1,h2⟩:=hg
 refine⟨λ_ _=>trivial,?_⟩
 rw[Oper.semAt_eq _ _ _ hd]
 rcases hy with hy|⟨hy,rfl⟩
 ·rw[hy,Oper.uponIn_value];exact hK x w' m' h1 h2
 ·rw[hy,Oper.uponIn_skip];exact hK _ w' m' h1 h2
theorem sN (hd: ∀c,o.op≠ .defer c){xs:Array Value}(hrun:(execOp a.eval o).run P w= .ok (.enter g xs) w)
  (hcall:CallsIn (Wf none) 0 P g xs w (qL P m h w v h')) (hK: ∀x w' m',VR m' v x->eS P m h w m' h' w'->K (a.put o.dst x) w'):o.wpIn (Wf r) 0 P a w K Q:=by
 refine⟨λ_ _=>trivial,?_⟩
 rw[Oper.semAt_eq _ _ _ hd,hrun,Oper.uponIn_enter]
 refine⟨λh=>by simp [Fence.wide] at h,?_⟩
 have h2:CallsIn (Wf r) 0 P g xs w (qL P m h w v h'):=hcall
 refine CallsIn.mono h2 (λe w' he=>?_)
 obtain⟨x,m',rfl,h1,h2⟩:=he
 exact hK x w' m' h1 h2
theorem Ly (hd: ∀c,o.op≠ .defer c){l:Nat}{fn:FuncId}{tmps:Array Value}{as bd:Code}(hrun:(execOp a.eval o).run P w= .ok (.round l fn tmps as bd) w)
  (hcall:RoundIn (Wf none) 0 P l fn tmps as bd w (qL P m h w v h')) (hK: ∀x w' m',VR m' v x->eS P m h w m' h' w'->K (a.put o.dst x) w'):o.wpIn (Wf r) 0 P a w K Q:=by
 refine⟨λ_ _=>trivial,?_⟩
 rw[Oper.semAt_eq _ _ _ hd,hrun,Oper.uponIn_round]
 refine⟨λh=>by simp [Fence.wide] at h,?_⟩
 have h2:RoundIn (Wf r) 0 P l fn tmps as bd w (qL P m h w v h'):=hcall
 refine RoundIn.mono h2 (λe w' he=>?_)
 obtain⟨x,m',rfl,h1,h2⟩:=he
 exact hK x w' m' h1 h2
theorem jA {act:dE}(hc:fP P pv defs o=some act): ∀c,o.op≠ .defer c:=by
 intro c hop;unfold fP at hc;rw[hop] at hc;simp at hc
def Fj (x:Option dE):Prop:= ∀act,x=some act-> ∃i,act= .op i
theorem zH:Fj none:=λ_ h=>by cases h
theorem yH (i:I):Fj (some (.op i)):=λ_ h=>by cases h;exact⟨i,rfl⟩
theorem Cz {α:Type}(x:Option α)(f:α->I):Fj (x.map λa=> .op (f a)):=λ_ h=>by
 obtain⟨b,_,h2⟩:=gJ.1 h;exact⟨f b,h2.symm⟩
theorem yO {α:Type}(x:Option α)(f:α->Option dE)(h: ∀b,Fj (f b)):Fj (x.bind f):=λ_ hx=>by
 obtain⟨b,_,h2⟩:=jU.1 hx;exact h b _ h2
set_option maxHeartbeats 1000000 in
theorem Ls {b:Builtin}{args:Array Operand}{ats:Array TypeId}{ty:TypeId}:Fj (lN P pv defs ⟨.builtin b,args,ats⟩ ty):=by
 unfold lN
 cases b<;>simp only[Option.bind_eq_bind]<;>
  repeat' first
   |exact zH
   |contradiction
   |exact yH _
   |exact Cz _ _
   |(refine yO _ _ (λ_=>?_))
   |split
set_option maxHeartbeats 1000000 in
theorem Jp (hn: ∀c,o.op≠ .call c):Fj (fP P pv defs o):=by
 unfold fP;cases hop:o.op
 case call c=>exact absurd hop (hn c)
 all_goals
  simp only[Option.bind_eq_bind]
  repeat' first
   |exact zH
   |contradiction
   |exact yH _
   |exact Cz _ _
   |(refine yO _ _ (λ_=>?_))
   |split
theorem vM {name:String}: ∀{l:List Nat} {t g:Nat},uS P name l=some (t,g)->t∈l/\Fl P name t=some g
 | [],t,g,h=>by simp [uS] at h
 |u::l,t,g,h=>by
  simp only[uS] at h;split at h
  ·rename_i f hf
   cases h;exact⟨by simp,hf⟩
  ·obtain⟨h1,h2⟩:=vM h
   exact⟨by simp [h1],h2⟩
theorem Eg {name:String}{t:Nat}(h:uS P name (List.range P.types.size)=some (t,g))(v:Value)(w:World):
  enters P g=true/\(method (P.types.size+Made.depth) t v name).run P w= .ok (g,v) w:=by
 obtain⟨h1,h2⟩:=vM h
 have hsz:0<P.types.size:=by have:=rH.1 h1;omega
 unfold Fl at h2
 split at h2
 ·rename_i r hr
  obtain⟨i,hi,hf⟩:=jU.1 hr
  split at h2
  ·rename_i f d hp hfn hu
   have key:enters P f=true->(∀e,d≠ .pointer e)->f=g->enters P g=true/\(method (P.types.size+Made.depth) t v name).run P w= .ok (g,v) w:=by
    intro he hd hfg;subst hfg;refine⟨he,?_⟩
    obtain⟨q,hq⟩: ∃q,P.types.size+Made.depth=q+1:=⟨P.types.size+Made.depth- 1,by omega⟩
    rw[hq];unfold method;simp only[Sem.run_bind,show (typeInfo t).run P w= .ok i w from by simp [typeInfo,hi],Result.andThen_ok,hf,hp,follow,Sem.run_pure,hfn];cases d<;>first
     |exact absurd rfl (hd _)
     |simp [receiverAt,run_underlying hu,Place.get]
   cases d<;>simp only at h2<;>first
    |(cases h2;done)
    |(split at h2
      ·rename_i he
       cases h2
       exact key he (λ_=>by simp) rfl
      ·cases h2)
  ·cases h2
 ·cases h2
theorem pD {act:dE}(hc:fP P pv defs o=some act)(hn: ∀i,act≠ .op i):(∃c r name g t cx args,o.op= .call c/\c.callee= .invoke r name/\act= .calli g t cx args/\
   uS P name (List.range P.types.size)=some (t,g)/\dW pv defs r=some cx/\kO pv defs c.args.toList=some args)∨ ∃c x,o.op= .call c/\c.callee= .value x/\
  ((∃g args,x= .func g/\act= .call g args/\enters P g=true/\kO pv defs c.args.toList=some args)∨
   (∃cx args,act= .callv cx args/\dW pv defs x=some cx/\kO pv defs c.args.toList=some args)):=by
 by_cases hcall: ∀c,o.op≠ .call c
 ·obtain⟨i,rfl⟩:=Jp hcall _ hc
  exact absurd rfl (hn i)
 ·have ⟨c,hop⟩: ∃c,o.op= .call c:=xG λh=>hcall λc hc=>h ⟨c,hc⟩
  unfold fP at hc
  rw[hop] at hc
  obtain⟨callee,args,ats⟩:=c
  simp only at hc
  cases callee with
  |value x=>
   refine .inr ⟨_,x,hop,rfl,?_⟩;simp only[lN] at hc
   cases x with
   |func g=>
    simp only at hc;split at hc
    ·rename_i he
     simp only[gJ] at hc;obtain⟨xs,hx,rfl⟩:=hc;exact .inl ⟨g,xs,rfl,rfl,he,hx⟩
    ·cases hc
   |_=>
    simp only[Option.bind_eq_bind,jU] at hc;obtain⟨cx,h1,cs,h2,h3⟩:=hc;cases h3;exact .inr ⟨cx,cs,rfl,h1,h2⟩
  |invoke r mm=>
   simp only[lN] at hc;split at hc
   ·rename_i q hq
    simp only[Option.bind_eq_bind,jU] at hc;obtain⟨cx,h1,cs,h2,h3⟩:=hc;cases h3;exact .inl ⟨_,r,mm,q.2,q.1,cx,cs,hop,rfl,rfl,hq,h1,h2⟩
   ·cases hc
  |builtin b=>
   obtain⟨i,rfl⟩:=Ls _ hc;exact absurd rfl (hn i)
theorem Qk (hS:qI P cl)(hY:oW P yl){act:dE}(hc:fP P pv defs o=some act)(s:St m nt pv defs vars loc a)(hr:HR P m h w)(hl:xS m h.next)
  (he:gO cl yl vars loc h act=some (v,h'))  
  (hK: ∀x w' m',VR m' v x->eS P m h w m' h' w'->K (a.put o.dst x) w'):o.wpIn (Wf r) 0 P a w K Q:=by
 have hd:=jA hc
 by_cases hi: ∃i,act= .op i
 ·obtain⟨i,rfl⟩:=hi
  rw[lX] at he
  exact Al hd (vN s hr hl.fresh hc he) hK
 ·have hi: ∀i,act≠ .op i:=λi e=>hi ⟨i,e⟩
  rcases pD hc hi with ⟨c,r',name,g,t,cx,args,hop,hcal,rfl,hm,hcx,hargs⟩|⟨c,x,hop,hcal,hcase⟩
  ·obtain⟨callee,cargs,ats⟩:=c
   simp only at hcal hargs
   subst hcal
   rw[kH] at he
   have hv:=eM s hargs
   have hvx:=aG s hcx
   split at he
   ·rename_i u uv hx
    rw[hx] at hvx
    obtain⟨y,hxe,hvy⟩:=hvx
    cases hut:Nat.beq u t with
    |false=>rw[hut] at he;cases he
    |true=>
     rw[hut] at he;simp only[cond_true] at he;obtain rfl:=Nat.eq_of_beq_eq_true hut;obtain⟨_,hmr⟩:=Eg hm y w
     have hrun:(execOp a.eval o).run P w= .ok (.enter g (#[y]++cargs.map a.eval)) w:=by
      have hext:((#[a.eval r']++cargs.map a.eval).extract 1 (#[a.eval r']++cargs.map a.eval).size)=cargs.map a.eval:=by
       apply Array.toList_inj.1;simp [List.extract_eq_take_drop,List.take_of_length_le]
      have hx2:execOp a.eval o=Go.invoke (.fn (.method name) #[]) (#[a.eval r']++cargs.map a.eval):=by
       unfold execOp;rw[hop];simp [resolve]
      rw[hx2];have h0:(#[a.eval r']++cargs.map a.eval)[0]? =some (a.eval r'):=by rw[Array.getElem?_append_left (by simp)];rfl
      simp only[Go.invoke,h0,hext];simp only[hxe,callMethod,Sem.run_bind,run_program,Result.andThen_ok,hmr];exact jK (hS _ _ _ _ _ he).1
     exact sN hd hrun ((hS _ _ _ _ _ he).2 m w _ (by simpa using ⟨hvy,hv⟩) hr hl) hK
   ·cases he
  obtain⟨callee,cargs,ats⟩:=c
  simp only at hcal hcase
  subst hcal
  have hex: ∀(fn:Go.Fn) (first cap:Array Value),a.eval x= .func fn first cap->execOp a.eval o=Go.invoke (.fn fn cap) (first++cargs.map a.eval):=by
   intro fn first cap hx
   unfold execOp;rw[hop];simp [resolve,Deferred.ofValue,hx]
  rcases hcase with ⟨g,args,rfl,rfl,hent,hargs⟩|⟨cx,args,rfl,hcx,hargs⟩
  ·rw[lB] at he
   have hv:=eM s hargs
   have hrun:(execOp a.eval o).run P w= .ok (.enter g (cargs.map a.eval)) w:=by
    rw[hex _ _ _ rfl];simp [Go.invoke,jK hent]
   exact sN hd hrun ((hS _ _ _ _ _ he).2 m w _ (by simpa using hv) hr hl) hK
  ·rw[kI] at he
   have hv:=eM s hargs
   have hvx:=aG s hcx
   split at he
   ·rename_i g fs cs hx
    rw[hx] at hvx
    obtain⟨xs,ys,hxe,h1,h2⟩:=hvx
    have hrun:(execOp a.eval o).run P w= .ok (.enter g (xs++cargs.map a.eval++ys)) w:=by
     rw[hex _ _ _ hxe];simp only[Go.invoke];exact jK (hS _ _ _ _ _ he).1
    exact sN hd hrun ((hS _ _ _ _ _ he).2 m w _ (by simpa using (h1.append (hv.append h2))) hr hl) hK
   ·rename_i id hx
    rw[hx] at hvx
    obtain⟨q,hq,hxe⟩:=hvx
    obtain⟨fn,tmps,as,bd,h1,h2⟩:=hY _ _ _ _ _ he m w (cargs.map a.eval) q (by simpa using hv) hr hl hq
    have hrun:(execOp a.eval o).run P w= .ok (.round q.1 fn tmps as bd) w:=by
     rw[hex _ _ _ hxe];simpa [Go.invoke] using h1
    exact Ly hd hrun h2 hK
   ·cases he
theorem VR.uY {m:M}{v:V}{x:Value}(hs:v.tN=true)(h:VR m v x):VR m' v x:=by
 cases v<;>simp [V.tN] at hs<;>exact h
theorem eG.uY {m:M}: ∀{vs:List V} {xs:List Value},vs.all V.tN=true->eG m vs xs->eG m' vs xs
 | [], [],_,_=>trivial
 |v::vs,x::xs,hs,h=>by
  rw[List.all_cons,Bool.and_eq_true] at hs;exact⟨VR.uY hs.1 h.1,eG.uY hs.2 h.2⟩
 | [],_::_,_,h=>h.elim
 |_::_, [],_,h=>h.elim
theorem eS.Rb {m:M}{h h':H}{w w':World}(b:eS P (λ_=>none) ⟨.lf,0⟩ w m' h' w')(hr:HR P m h w):eS P m h w m h w':=by
 have keep: ∀x,x<w.heap.size->w'.heap[x]? =w.heap[x]? :=λx hx=>b.kept.block x hx (λ⟨_,_,_,h1,_⟩=>by cases h1)
 refine⟨Ext.refl m,⟨λid o hid=>?_,hr.inj⟩,λ_ _ h=> .inl h,⟨b.kept.os,b.kept.tape,b.kept.output,b.kept.size,λx hx _=>keep x hx⟩,λ_ h=> .inl h,eP _,λ_ h=> .inl h,λ_ _ h=>h⟩;obtain⟨p,hp,ho⟩:=hr.live id o hid;exact⟨p,hp,OR.mono (Ext.refl m) (keep _ ho.lt) ho⟩
theorem Mf (hS:qI P cl){args:List X}(hc:fP P pv defs o=some (.call g args))(s:St m nt pv defs vars loc a){h1 h2:H}
  (he:uD cl g (args.map (xv vars loc)) h1=some (v,h2))  
  (hK: ∀x w',VR m v x->(∀h,HR P m h w->eS P m h w m h w')->K (a.put o.dst x) w'):o.wpIn (Wf r) 0 P a w K Q:=by
 have hd:=jA hc
 rcases pD hc (λi e=>by cases e) with ⟨_,_,_,_,_,_,_,_,_,e,_⟩|⟨c,x,hop,hcal,hcase⟩
 ·cases e
 obtain⟨callee,cargs,ats⟩:=c
 simp only at hcal hcase
 subst hcal
 rcases hcase with ⟨g',args',rfl,he2,hent,hargs⟩|⟨cx,args',he2,_⟩
 ·cases he2
  obtain⟨_,hs,hv,h3,hcl⟩:=nY he
  have hvs:=eM s hargs
  have hrun:(execOp a.eval o).run P w= .ok (.enter g (cargs.map a.eval)) w:=by
   unfold execOp;rw[hop];have hx:a.eval (.func g)= .func (.func g) #[] #[]:=rfl;simp [resolve,Deferred.ofValue,hx,Go.invoke,jK hent]
  have hE:HR P (λ_=>none) (⟨.lf,0⟩:H) w:=⟨λid o h=>(by cases h),λi j oi oj pi pj _ h=>(by cases h)⟩
  refine sN hd hrun ((hS _ _ _ _ _ hcl).2 (λ_=>none) w _ (by simpa using eG.uY hs hvs) hE (λ_ _=>rfl)) (λx w' m' hx hadv=>?_)
  exact hK x w' (VR.uY hv hx) (λh hr=>hadv.Rb hr)
 ·cases he2
end
end
end Go.Ay
