/- From an answer of the abstract machine to the row's statement. -/
import Derived.Test.YtapfcpkecmmagaaGreatAy25
import Derived.Test.YtapfcpkecmmagaaGreatAy21
import Derived.ProofKit
import Derived.Carry
namespace Go.Ay
open Go Go.RowKit Go.WideShapes Go.ChangeShapes Go.ChangeAt
section
variable {P:Program}
theorem Ap:Ln P (find []):=λ_ _ h=>by cases h
theorem xT {k:Nat}{fn:Fn}{l:List (Nat×Fn)}{pv:List Nat}{F:Func}(h1:P.funcs[k]? =some F)(h2:Aj P pv F=some fn)(h3:(F.body.isSome&&F.name != "runtime.NumGoroutine")=true)(h:Ln P (find l)):Ln P (find ((k,fn)::l)):=by
 intro g f hf;simp only[find] at hf
 cases hb:Nat.beq k g with
 |true=>
  rw[hb] at hf;have:k=g:=Nat.beq_eq.mp hb;subst this;simp only[cond_true,Option.some.injEq] at hf;subst hf;exact⟨pv,F,h1,h2,by simp only[enters,h1,Option.any_some];exact h3⟩
 |false=>
  rw[hb] at hf;exact h g f hf
def H.mX (os:List Ob):H:=os.foldl H.new ⟨.lf,0⟩
theorem sW: ∀(os:List Ob) (h:H),(os.foldl H.new h).next=h.next+os.length/\ ∀k,(os.foldl H.new h).get k=if k<h.next then h.get k else if h.next+os.length<=k then h.get k else os[k-h.next]?
 | [],h=>⟨rfl,λk=>by
  simp only[List.foldl_nil,List.length_nil,Nat.add_zero]
  by_cases c:k<h.next
  ·rw[if_pos c]
  ·rw[if_neg c,if_pos (by omega)]⟩
 |o::os,h=>by
  obtain⟨h1,h2⟩:=sW os (h.new o);refine⟨by rw[List.foldl_cons,h1,H.aV,List.length_cons];omega,λk=>?_⟩;rw[List.foldl_cons,h2,H.aV,H.fW]
  by_cases c1:k<h.next
  ·rw[if_pos (by omega),if_neg (by omega),if_pos c1]
  ·rw[if_neg c1]
   by_cases c2:k=h.next
   ·subst c2
    rw[if_pos (by omega),if_pos rfl,if_neg (by simp)];simp
   ·rw[if_neg (by omega)]
    by_cases c3:h.next+1+os.length<=k
    ·rw[if_pos c3,if_neg c2,if_pos (by simp;omega)]
    ·rw[if_neg c3,if_neg (by simp;omega)]
     rw[show k-h.next=(k-(h.next+1))+1 by omega,List.getElem?_cons_succ]
theorem lT (os:List Ob):(H.mX os).next=os.length:=by
 rw[H.mX,(sW os _).1];exact Nat.zero_add _
theorem kY (os:List Ob)(k:Nat):(H.mX os).get k=os[k]? :=by
 rw[H.mX,(sW os _).2];rw[if_neg (Nat.not_lt_zero _)]
 by_cases h:os.length<=k
 ·have:(H.get ⟨.lf,0⟩ k)=none:=rfl
  rw[if_pos (show 0+os.length<=k by omega),this,List.getElem?_eq_none h]
 ·rw[if_neg (show ¬0+os.length<=k by omega)];rfl
theorem Nf {w:World}{os:List Ob}{ps:List (Nat×Nat×Nat)}(hlen:os.length=ps.length)(h: ∀(i:Nat) (o:Ob) (p:Nat×Nat×Nat),os[i]? =some o->ps[i]? =some p->o.rw=false/\OR P (λ(id:Nat)=>ps[id]?) o p w):
  HR P (λ(id:Nat)=>ps[id]?) (H.mX os) w/\xS (λ(id:Nat)=>ps[id]?) (H.mX os).next:=by
 refine⟨⟨λid o ho=>?_,λi j oi oj pi pj hij hi hj hrw _ _=>?_⟩,λid hid=>?_⟩
 ·rw[kY] at ho
  have hlt:=(List.getElem?_eq_some_iff.1 ho).1
  exact⟨ps[id]'(by omega),eQ _,(h id o _ ho (eQ (by omega))).2⟩
 ·rw[kY] at hi
  have hlt:=(List.getElem?_eq_some_iff.1 hi).1
  rw[(h i oi _ hi (eQ (by omega))).1] at hrw
  cases hrw
 ·rw[lT] at hid
  exact List.getElem?_eq_none (by omega)
theorem eS.below {m m':M}{h h':H}{w w':World}(a:eS P m h w m' h' w')(hro: ∀id o,h.get id=some o->o.rw=false):Below w.heap.size w w':=
 ⟨a.kept.os,a.kept.tape,a.kept.output,a.kept.size,λb hb=>a.kept.block b hb λ⟨id,o,p,ho,hrw,_⟩=>by rw[hro id o ho] at hrw;cases hrw⟩
theorem Me {os:List Ob}(h: ∀o∈os,o.rw=false): ∀id o,(H.mX os).get id=some o->o.rw=false:=λid o ho=>by
 rw[kY] at ho;exact h o (List.mem_of_getElem? ho)
variable {H:Type} {enc:TypeId×Value->H}
theorem qK (hl:laidOutB P=true){W W':World}(hb:Below W.heap.size W W'){sp:Nat->Bool}: ∀(ts:List TypeId) (vs:List Value) (ds:List (DataW H)) (ps:List MemPlace),(∀t∈ts,P.readableRec t=true/\t<P.types.size)->(∀x∈ps,x.block<W.heap.size/\sp x.block=true)->
  DataW.TrodAll enc P W 0 (λ_=>true) true ts vs ds ps->DataW.TrodAll enc P W' 0 sp true ts vs ds ps
 | [], [], [],_,_,_,h=>h
 |t::ts,v::vs,d::ds,ps,ht,hlt,h=>by
  obtain⟨p,q,h1,h2,rfl⟩:=h
  exact⟨p,q,WideElems.Trod_stays hl (ht t (List.mem_cons_self ..)).1 (ht t (List.mem_cons_self ..)).2 h1 (λx hx=>hb.same (hlt x (List.mem_append_left _ hx)).1) (λx hx=>(hlt x (List.mem_append_left _ hx)).2),
   qK hl hb ts vs ds q (λt h=>ht t (List.mem_cons_of_mem _ h)) (λx hx=>hlt x (List.mem_append_right _ hx)) h2,rfl⟩
 | [], [],_::_,_,_,_,h=>h.elim
 | [],_::_,_,_,_,_,h=>h.elim
 |_::_, [],_,_,_,_,h=>h.elim
 |_::_,_::_, [],_,_,_,h=>h.elim
theorem xN {f:Func}{s:ChangeSpec}{apart fresh handsOn again:Bool}{W W':World}{args:Array Value}{v:Value}{ds gs:List (DataW H)}{before pa pv:List MemPlace}
  (hW:DataW.Whole enc P f.params.toList s.vars apart W args.toList ds gs before)
  (hres: ∀(b:Nat) (sp:Nat->Bool) (hd:Bool),DataW.TrodAll enc P W' b sp hd f.resultTypes.toList (v.resultList f.resultTypes.size) (s.fn H (ds++gs)).results [])
  (hargs: ∀sp:Nat->Bool,(∀p∈before,sp p.block=true)->DataW.TrodAll enc P W' 0 sp true f.params.toList args.toList (s.fn H (ds++gs)).args pa)
  (hvars: ∀sp:Nat->Bool,(∀p∈before,sp p.block=true)->DataW.TrodVars enc P W' sp s.vars (s.fn H (ds++gs)).vars pv)
  (hps:before=pa++pv) (hb:Below W.heap.size W W')
  (hok: ∀(j:Nat) (t:TypeId) (r:Value),f.resultTypes[j]? =some t->(v.resultList f.resultTypes.size)[j]? =some r->Value.okWide P W' .any 0 t r):
  s.post enc P f apart fresh handsOn again W args v W':=by
 have hlt: ∀p∈before,p.block<W.heap.size:=λp hp=>hW.lt p hp
 have hold: ∀p∈before,(λb=>decide (b<W.heap.size)) p.block=true:=λp hp=>by simpa using hlt p hp
 refine⟨ds,gs,before, [],pa,pv,hW,hres _ _ _,hargs _ hold,hvars _ hold,World.keptBut_mono (λp hp=>⟨hp,?_⟩) (hb.frame (· ∈before)),λ_=>?_⟩
 ·rw[hps,xH] at hp
  exact Or.inr hp
 ·obtain⟨_,_,_,_,_,hz,hn⟩:=hW
  refine⟨hok,_,_,([]++pa)++pv,⟨[]++pa,pv,trodAll_append (hargs _ (λ_ _=>rfl)) (hres _ _ _),hvars _ (λ_ _=>rfl),rfl,?_,?_⟩,?_⟩
  ·intro b off hp
   have hin:MemPlace.cell b off∈before:=by rw[hps];simpa using hp
   rw[hb.frozen (hlt _ hin)]
   exact hz b off hin
  ·intro ha
   have:=hn ha
   rw[hps] at this
   simpa using this
  ·intro p hp _
   rw[hps]
   simpa using hp
theorem Lx {f:Func}{s:ChangeSpec}{apart fresh handsOn again:Bool}{W W':World}{args:Array Value}{ds gs:List (DataW H)}{before:List MemPlace}{tb:TypeId}
  (hl:laidOutB P=true) (hvar:s.vars= []) (hpar:f.params.toList.all (λt=>P.readableRec t&&decide (t<P.types.size))=true)
  (hrt:f.resultTypes= #[tb]) (htb:P.underlying tb=some .bool)
  (hW:DataW.Whole enc P f.params.toList s.vars apart W args.toList ds gs before)
  (hspec:(s.fn H (ds++gs))={results:= [.lit (.bool true)],args:=ds})
  (hb:Below W.heap.size W W'):s.post enc P f apart fresh handsOn again W args (.bool true) W':=by
 have hW0:=hW
 obtain⟨p,q,hA,hV,hpq,hfz,hnd⟩:=hW
 rw[hvar] at hV
 obtain⟨rfl,rfl⟩:=trodVars_none hV
 rw[List.append_nil] at hpq
 subst hpq
 rw[List.append_nil] at hspec
 refine xN (pa:=before) (pv:= []) hW0 (λb sp hd=>?_) (λsp hsp=>?_) (λsp _=>?_) (by simp) hb ?_
 ·rw[List.append_nil,hspec,hrt]
  exact trodAll_mk1 (shut_bool htb true)
 ·rw[List.append_nil,hspec]
  refine qK hl hb _ _ _ _ (λt ht=>?_) (λx hx=>⟨?_,hsp x hx⟩) hA
  ·have:=List.all_eq_true.1 hpar t ht
   simpa using this
  ·exact hW0.lt x hx
 ·rw[List.append_nil,hspec,hvar];rfl
 ·exact ok_one hrt rfl (okWide_bool_mk htb true)
end
end Go.Ay
