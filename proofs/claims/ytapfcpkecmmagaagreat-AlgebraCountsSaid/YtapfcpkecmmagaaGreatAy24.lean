/- From an answer of the abstract machine to the row's statement. -/
import Derived.Test.YtapfcpkecmmagaaGreatAy25
import Derived.Test.YtapfcpkecmmagaaGreatAy21
import Derived.ProofKit
import Derived.Carry
namespace Go.Ay
open Go Go.RowKit Go.WideShapes Go.ChangeShapes Go.ChangeAt
section
variable {P:Program}
theorem He:Wk P (find []):=λ_ _ h=>by cases h
theorem Ci {k:Nat}{c:Fn}{l:List (Nat×Fn)}{pv:List Nat}{F:Func}(b:P.funcs[k]? =some F)(h2:Gl P pv F=some c)(h3:(F.body.isSome&&F.name != "runtime.NumGoroutine")=true)(h:Wk P (find l)):Wk P (find ((k,c)::l)):=by
 intro g f a;simp only[find] at a
 cases hb:Nat.beq k g with
 |true=>
  rw[hb] at a;have:k=g:=Nat.beq_eq.mp hb;subst this;simp only[cond_true,Option.some.injEq] at a;subst a;exact⟨pv,F,b,h2,by simp only[enters,b,Option.any_some];exact h3⟩
 |false=>
  rw[hb] at a;exact h g f a
def H.jP (os:List Ob):H:=os.foldl H.new ⟨.lf,0⟩
theorem wI: ∀(os:List Ob) (h:H),(os.foldl H.new h).next=h.next+os.length/\ ∀k,(os.foldl H.new h).get k=if k<h.next then h.get k else if h.next+os.length<=k then h.get k else os[k-h.next]?
 | [],h=>⟨rfl,λk=>by
  simp only[List.foldl_nil,List.length_nil,Nat.add_zero]
  by_cases c:k<h.next
  ·rw[aV c]
  ·rw[aZ c,aV om]⟩
 |o::os,h=>by
  obtain⟨e,f⟩:=wI os (h.new o);refine⟨by rw[List.foldl_cons,e,H.aY,List.length_cons];omega,λk=>?_⟩;rw[List.foldl_cons,f,H.aY,H.iN]
  by_cases b:k<h.next
  ·rw[aV om,aZ om,aV b]
  ·rw[aZ b]
   by_cases a:k=h.next
   ·subst a
    rw[aV om,aV rfl,aZ (by simp)];simp
   ·rw[aZ om]
    by_cases d:h.next+1+os.length<=k
    ·rw[aV d,aZ a,aV (by simp;omega)]
    ·rw[aZ d,aZ (by simp;omega)]
     rw[show k-h.next=(k-(h.next+1))+1 by omega,List.getElem?_cons_succ]
theorem lB (a:List Ob):(H.jP a).next=a.length:=by
 rw[H.jP,(wI a _).1];exact Nat.zero_add _
theorem kZ (a:List Ob)(k:Nat):(H.jP a).get k=a[k]? :=by
 rw[H.jP,(wI a _).2];rw[aZ (Nat.not_lt_zero _)]
 by_cases h:a.length<=k
 ·have:(H.get ⟨.lf,0⟩ k)=none:=rfl
  rw[aV (show 0+a.length<=k by omega),this,List.getElem?_eq_none h]
 ·rw[aZ (show ¬0+a.length<=k by omega)];rfl
theorem Xa {w:World}{c:List Ob}{a:List (Nat×Nat×Nat)}(g:c.length=a.length)(h: ∀(i:Nat) (o:Ob) (p:Nat×Nat×Nat),c[i]? =some o->a[i]? =some p->o.rw=false/\OR P (λ(id:Nat)=>a[id]?) o p w):
  HR P (λ(id:Nat)=>a[id]?) (H.jP c) w/\Cq (λ(id:Nat)=>a[id]?) (H.jP c).next:=by
 refine⟨⟨λid o d=>?_,λi j j e e e e hi e b _ _=>?_⟩,λid f=>?_⟩
 ·rw[kZ] at d
  have e:=(xQ.1 d).1
  exact⟨a[id]'om,eX _,(h id o _ d (eX om)).2⟩
 ·rw[kZ] at hi
  have e:=(xQ.1 hi).1
  rw[(h i j _ hi (eX om)).1] at b
  cases b
 ·rw[lB] at f
  exact List.getElem?_eq_none om
theorem fU.below {m e:M}{h h':H}{w w':World}(a:fU P m h w e h' w')(c: ∀id o,h.get id=some o->o.rw=false):Below w.heap.size w w':=
 ⟨a.kept.os,a.kept.tape,a.kept.output,a.kept.size,λb d=>a.kept.block b d λ⟨id,o,p,ho,hrw,_⟩=>by rw[c id o ho] at hrw;cases hrw⟩
theorem Ud {b:List Ob}(h: ∀o∈b,o.rw=false): ∀id o,(H.jP b).get id=some o->o.rw=false:=λid o a=>by
 rw[kZ] at a;exact h o (Rm a)
variable {H:Type} {enc:TypeId×Value->H}
theorem tJ (c:laidOutB P=true){W e:World}(b:Below W.heap.size W e){sp:Nat->Bool}: ∀(ts:List TypeId) (vs:List Value) (ds:List (DataW H)) (ps:List MemPlace),(∀t∈ts,P.readableRec t=true/\t<P.types.size)->(∀x∈ps,x.block<W.heap.size/\sp x.block=true)->
  DataW.TrodAll enc P W 0 (λ_=>true) true ts vs ds ps->DataW.TrodAll enc P e 0 sp true ts vs ds ps
 | [], [], [],_,_,_,h=>h
 |t::ts,v::vs,d::ds,ps,ht,hlt,h=>by
  obtain⟨p,q,f,g,rfl⟩:=h
  exact⟨p,q,WideElems.Trod_stays c (ht t (zA ..)).1 (ht t (zA ..)).2 f (λx a=>b.same (hlt x (List.mem_append_left _ a)).1) (λx a=>(hlt x (List.mem_append_left _ a)).2),
   tJ c b ts vs ds q (λt h=>ht t (xS _ h)) (λx a=>hlt x (List.mem_append_right _ a)) g,rfl⟩
 | [], [],_::_,_,_,_,h=>h.elim
 | [],_::_,_,_,_,_,h=>h.elim
 |_::_, [],_,_,_,_,h=>h.elim
 |_::_,_::_, [],_,_,_,h=>h.elim
theorem Ch {f:Func}{s:ChangeSpec}{h fresh d m:Bool}{W n:World}{args:Array Value}{v:Value}{ds gs:List (DataW H)}{a pa pv:List MemPlace}
  (w:DataW.Whole enc P f.params.toList s.vars h W args.toList ds gs a)
  (k: ∀(b:Nat) (sp:Nat->Bool) (hd:Bool),DataW.TrodAll enc P n b sp hd f.resultTypes.toList (v.resultList f.resultTypes.size) (s.fn H (ds++gs)).results [])
  (e: ∀sp:Nat->Bool,(∀p∈a,sp p.block=true)->DataW.TrodAll enc P n 0 sp true f.params.toList args.toList (s.fn H (ds++gs)).args pa)
  (c: ∀sp:Nat->Bool,(∀p∈a,sp p.block=true)->DataW.TrodVars enc P n sp s.vars (s.fn H (ds++gs)).vars pv)
  (i:a=pa++pv) (x:Below W.heap.size W n)
  (u: ∀(j:Nat) (t:TypeId) (r:Value),f.resultTypes[j]? =some t->(v.resultList f.resultTypes.size)[j]? =some r->Value.okWide P n .any 0 t r):
  s.post enc P f h fresh d m W args v n:=by
 have o: ∀p∈a,p.block<W.heap.size:=λp g=>w.lt p g
 have l: ∀p∈a,(λb=>decide (b<W.heap.size)) p.block=true:=λp g=>by simpa using o p g
 refine⟨ds,gs,a, [],pa,pv,w,k _ _ _,e _ l,c _ l,World.keptBut_mono (λp g=>⟨g,?_⟩) (x.frame (· ∈a)),λ_=>?_⟩
 ·rw[i,sP] at g
  exact Or.inr g
 ·obtain⟨_,_,_,_,_,y,z⟩:=w
  refine⟨u,_,_,([]++pa)++pv,⟨[]++pa,pv,trodAll_append (e _ (λ_ _=>rfl)) (k _ _ _),c _ (λ_ _=>rfl),rfl,?_,?_⟩,?_⟩
  ·intro b q g
   have l:MemPlace.cell b q∈a:=by rw[i];simpa using g
   rw[x.frozen (o _ l)]
   exact y b q l
  ·intro l
   have:=z l
   rw[i] at this
   simpa using this
  ·intro p g _
   rw[i]
   simpa using g
theorem Un {f:Func}{s:ChangeSpec}{e fresh d h:Bool}{W r:World}{args:Array Value}{ds gs:List (DataW H)}{c:List MemPlace}{tb:TypeId}
  (v:laidOutB P=true) (g:s.vars= []) (l:f.params.toList.all (λt=>P.readableRec t&&decide (t<P.types.size))=true)
  (j:f.resultTypes= #[tb]) (k:P.underlying tb=some .bool)
  (n:DataW.Whole enc P f.params.toList s.vars e W args.toList ds gs c)
  (a:(s.fn H (ds++gs))={results:= [.lit (.bool true)],args:=ds})
  (m:Below W.heap.size W r):s.post enc P f e fresh d h W args (.bool true) r:=by
 have i:=n
 obtain⟨p,q,u,o,b,p,p⟩:=n
 rw[g] at o
 obtain⟨rfl,rfl⟩:=trodVars_none o
 rw[pN] at b
 subst b
 rw[pN] at a
 refine Ch (pa:=c) (pv:= []) i (λb sp b=>?_) (λsp b=>?_) (λsp _=>?_) (by simp) m ?_
 ·rw[pN,a,j]
  exact trodAll_mk1 (shut_bool k true)
 ·rw[pN,a]
  refine tJ v m _ _ _ _ (λt p=>?_) (λx o=>⟨?_,b x o⟩) u
  ·have:=yQ.1 l t p
   simpa using this
  ·exact i.lt x o
 ·rw[pN,a,g];rfl
 ·exact ok_one j rfl (okWide_bool_mk k true)
end
end Go.Ay
