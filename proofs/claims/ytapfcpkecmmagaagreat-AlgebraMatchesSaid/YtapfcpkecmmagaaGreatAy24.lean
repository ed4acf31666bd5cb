/- From an answer of the abstract machine to the row's statement. -/
import Derived.Test.YtapfcpkecmmagaaGreatAy25
import Derived.Test.YtapfcpkecmmagaaGreatAy21
import Derived.ProofKit
import Derived.Carry
namespace Go.Ay
open Go Go.RowKit Go.WideShapes Go.ChangeShapes Go.ChangeAt
section
variable {P:Program}
theorem Ho:Xr P (find []):=λ_ _ h=>by cases h
theorem Dc {k:Nat}{c:Fn}{l:List (Nat×Fn)}{pv:List Nat}{F:Func}(b:P.funcs[k]? =some F)(h2:Hq P pv F=some c)(h3:(F.body.isSome&&F.name != "runtime.NumGoroutine")=true)(h:Xr P (find l)):Xr P (find ((k,c)::l)):=by
 intro g f a;simp only[find] at a
 cases hb:Nat.beq k g with
 |true=>
  rw[hb] at a;have:k=g:=Nat.beq_eq.mp hb;subst this;simp only[cond_true,Option.some.injEq] at a;subst a;exact⟨pv,F,b,h2,by simp only[enters,b,Option.any_some];exact h3⟩
 |false=>
  rw[hb] at a;exact h g f a
def H.iT (os:List Ob):H:=os.foldl H.new ⟨.lf,0⟩
theorem wW: ∀(os:List Ob) (h:H),(os.foldl H.new h).next=h.next+os.length/\ ∀k,(os.foldl H.new h).get k=if k<h.next then h.get k else if h.next+os.length<=k then h.get k else os[k-h.next]?
 | [],h=>⟨rfl,λk=>by
  simp only[List.foldl_nil,List.length_nil,Nat.add_zero]
  by_cases c:k<h.next
  ·rw[aV c]
  ·rw[aZ c,aV om]⟩
 |o::os,h=>by
  obtain⟨f,e⟩:=wW os (h.new o);refine⟨by rw[List.foldl_cons,f,H.aX,List.length_cons];omega,λk=>?_⟩;rw[List.foldl_cons,e,H.aX,H.iQ]
  by_cases a:k<h.next
  ·rw[aV om,aZ om,aV a]
  ·rw[aZ a]
   by_cases b:k=h.next
   ·subst b
    rw[aV om,aV rfl,aZ (by simp)];simp
   ·rw[aZ om]
    by_cases d:h.next+1+os.length<=k
    ·rw[aV d,aZ b,aV (by simp;omega)]
    ·rw[aZ d,aZ (by simp;omega)]
     rw[show k-h.next=(k-(h.next+1))+1 by omega,List.getElem?_cons_succ]
theorem kB (a:List Ob):(H.iT a).next=a.length:=by
 rw[H.iT,(wW a _).1];exact Nat.zero_add _
theorem kG (a:List Ob)(k:Nat):(H.iT a).get k=a[k]? :=by
 rw[H.iT,(wW a _).2];rw[aZ (Nat.not_lt_zero _)]
 by_cases h:a.length<=k
 ·have:(H.get ⟨.lf,0⟩ k)=none:=rfl
  rw[aV (show 0+a.length<=k by omega),this,List.getElem?_eq_none h]
 ·rw[aZ (show ¬0+a.length<=k by omega)];rfl
theorem Ve {w:World}{c:List Ob}{a:List (Nat×Nat×Nat)}(g:c.length=a.length)(h: ∀(i:Nat) (o:Ob) (p:Nat×Nat×Nat),c[i]? =some o->a[i]? =some p->o.rw=false/\OR P (λ(id:Nat)=>a[id]?) o p w):
  HR P (λ(id:Nat)=>a[id]?) (H.iT c) w/\Cx (λ(id:Nat)=>a[id]?) (H.iT c).next:=by
 refine⟨⟨λid o e=>?_,λi j j f f f f hi f b _ _=>?_⟩,λid d=>?_⟩
 ·rw[kG] at e
  have f:=(xI.1 e).1
  exact⟨a[id]'om,eV _,(h id o _ e (eV om)).2⟩
 ·rw[kG] at hi
  have f:=(xI.1 hi).1
  rw[(h i j _ hi (eV om)).1] at b
  cases b
 ·rw[kB] at d
  exact List.getElem?_eq_none om
theorem fY.below {m d:M}{h h':H}{w w':World}(a:fY P m h w d h' w')(c: ∀id o,h.get id=some o->o.rw=false):Below w.heap.size w w':=
 ⟨a.kept.os,a.kept.tape,a.kept.output,a.kept.size,λb e=>a.kept.block b e λ⟨id,o,p,ho,hrw,_⟩=>by rw[c id o ho] at hrw;cases hrw⟩
theorem Uq {b:List Ob}(h: ∀o∈b,o.rw=false): ∀id o,(H.iT b).get id=some o->o.rw=false:=λid o a=>by
 rw[kG] at a;exact h o (Sg a)
variable {H:Type} {enc:TypeId×Value->H}
theorem tL (b:laidOutB P=true){W e:World}(c:Below W.heap.size W e){sp:Nat->Bool}: ∀(ts:List TypeId) (vs:List Value) (ds:List (DataW H)) (ps:List MemPlace),(∀t∈ts,P.readableRec t=true/\t<P.types.size)->(∀x∈ps,x.block<W.heap.size/\sp x.block=true)->
  DataW.TrodAll enc P W 0 (λ_=>true) true ts vs ds ps->DataW.TrodAll enc P e 0 sp true ts vs ds ps
 | [], [], [],_,_,_,h=>h
 |t::ts,v::vs,d::ds,ps,ht,hlt,h=>by
  obtain⟨p,q,f,g,rfl⟩:=h
  exact⟨p,q,WideElems.Trod_stays b (ht t (zJ ..)).1 (ht t (zJ ..)).2 f (λx a=>c.same (hlt x (List.mem_append_left _ a)).1) (λx a=>(hlt x (List.mem_append_left _ a)).2),
   tL b c ts vs ds q (λt h=>ht t (yK _ h)) (λx a=>hlt x (List.mem_append_right _ a)) g,rfl⟩
 | [], [],_::_,_,_,_,h=>h.elim
 | [],_::_,_,_,_,_,h=>h.elim
 |_::_, [],_,_,_,_,h=>h.elim
 |_::_,_::_, [],_,_,_,h=>h.elim
theorem Cz {f:Func}{s:ChangeSpec}{c fresh d m:Bool}{W n:World}{args:Array Value}{v:Value}{ds gs:List (DataW H)}{a pa pv:List MemPlace}
  (w:DataW.Whole enc P f.params.toList s.vars c W args.toList ds gs a)
  (k: ∀(b:Nat) (sp:Nat->Bool) (hd:Bool),DataW.TrodAll enc P n b sp hd f.resultTypes.toList (v.resultList f.resultTypes.size) (s.fn H (ds++gs)).results [])
  (g: ∀sp:Nat->Bool,(∀p∈a,sp p.block=true)->DataW.TrodAll enc P n 0 sp true f.params.toList args.toList (s.fn H (ds++gs)).args pa)
  (h: ∀sp:Nat->Bool,(∀p∈a,sp p.block=true)->DataW.TrodVars enc P n sp s.vars (s.fn H (ds++gs)).vars pv)
  (i:a=pa++pv) (x:Below W.heap.size W n)
  (u: ∀(j:Nat) (t:TypeId) (r:Value),f.resultTypes[j]? =some t->(v.resultList f.resultTypes.size)[j]? =some r->Value.okWide P n .any 0 t r):
  s.post enc P f c fresh d m W args v n:=by
 have q: ∀p∈a,p.block<W.heap.size:=λp e=>w.lt p e
 have l: ∀p∈a,(λb=>decide (b<W.heap.size)) p.block=true:=λp e=>by simpa using q p e
 refine⟨ds,gs,a, [],pa,pv,w,k _ _ _,g _ l,h _ l,World.keptBut_mono (λp e=>⟨e,?_⟩) (x.frame (· ∈a)),λ_=>?_⟩
 ·rw[i,sZ] at e
  exact Or.inr e
 ·obtain⟨_,_,_,_,_,y,z⟩:=w
  refine⟨u,_,_,([]++pa)++pv,⟨[]++pa,pv,trodAll_append (g _ (λ_ _=>rfl)) (k _ _ _),h _ (λ_ _=>rfl),rfl,?_,?_⟩,?_⟩
  ·intro b l e
   have o:MemPlace.cell b l∈a:=by rw[i];simpa using e
   rw[x.frozen (q _ o)]
   exact y b l o
  ·intro l
   have:=z l
   rw[i] at this
   simpa using this
  ·intro p e _
   rw[i]
   simpa using e
theorem Yr {f:Func}{s:ChangeSpec}{d fresh e h:Bool}{W m:World}{args:Array Value}{ds gs:List (DataW H)}{c:List MemPlace}{tb:TypeId}
  (v:laidOutB P=true) (g:s.vars= []) (k:f.params.toList.all (λt=>P.readableRec t&&decide (t<P.types.size))=true)
  (j:f.resultTypes= #[tb]) (i:P.underlying tb=some .bool)
  (o:DataW.Whole enc P f.params.toList s.vars d W args.toList ds gs c)
  (a:(s.fn H (ds++gs))={results:= [.lit (.bool true)],args:=ds})
  (r:Below W.heap.size W m):s.post enc P f d fresh e h W args (.bool true) m:=by
 have l:=o
 obtain⟨p,q,u,n,b,p,p⟩:=o
 rw[g] at n
 obtain⟨rfl,rfl⟩:=trodVars_none n
 rw[qA] at b
 subst b
 rw[qA] at a
 refine Cz (pa:=c) (pv:= []) l (λb sp b=>?_) (λsp b=>?_) (λsp _=>?_) (by simp) r ?_
 ·rw[qA,a,j]
  exact trodAll_mk1 (shut_bool i true)
 ·rw[qA,a]
  refine tL v r _ _ _ _ (λt p=>?_) (λx n=>⟨?_,b x n⟩) u
  ·have:=zE.1 k t p
   simpa using this
  ·exact l.lt x n
 ·rw[qA,a,g];rfl
 ·exact ok_one j rfl (okWide_bool_mk i true)
end
end Go.Ay
