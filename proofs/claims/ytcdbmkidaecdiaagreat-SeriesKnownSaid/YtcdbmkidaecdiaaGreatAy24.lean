/- From an answer of the abstract machine to the row's statement. -/
import Derived.Test.YtcdbmkidaecdiaaGreatAy25
import Derived.Test.YtcdbmkidaecdiaaGreatAy21
import Derived.ProofKit
import Derived.Carry
namespace Go.Ay
open Go Go.RowKit Go.WideShapes Go.ChangeShapes Go.ChangeAt
section
variable {P:Program}
def H.Dp (os:List Ob):H:=os.foldl H.new ⟨.lf,0⟩
theorem Ix: ∀(os:List Ob) (h:H),(os.foldl H.new h).next=h.next+os.length/\ ∀k,(os.foldl H.new h).get k=if k<h.next then h.get k else if h.next+os.length<=k then h.get k else os[k-h.next]?
 | [],h=>⟨rfl,λk=>by
  simp only[List.foldl_nil,List.length_nil,Nat.add_zero]
  by_cases c:k<h.next
  ·rw[bF c]
  ·rw[bI c,bF om]⟩
 |o::os,h=>by
  obtain⟨e,f⟩:=Ix os (h.new o);refine⟨by rw[List.foldl_cons,e,H.aU,List.length_cons];omega,λk=>?_⟩;rw[List.foldl_cons,f,H.aU,H.kF]
  by_cases a:k<h.next
  ·rw[bF om,bI om,bF a]
  ·rw[bI a]
   by_cases d:k=h.next
   ·subst d
    rw[bF om,bF rfl,bI (by simp)];simp
   ·rw[bI om]
    by_cases b:h.next+1+os.length<=k
    ·rw[bF b,bI d,bF (by simp;omega)]
    ·rw[bI b,bI (by simp;omega)]
     rw[show k-h.next=(k-(h.next+1))+1 by omega,List.getElem?_cons_succ]
theorem xU (a:List Ob):(H.Dp a).next=a.length:=by
 rw[H.Dp,(Ix a _).1];exact Nat.zero_add _
theorem wY (a:List Ob)(k:Nat):(H.Dp a).get k=a[k]? :=by
 rw[H.Dp,(Ix a _).2];rw[bI (Nat.not_lt_zero _)]
 by_cases h:a.length<=k
 ·have:(H.get ⟨.lf,0⟩ k)=none:=rfl
  rw[bF (show 0+a.length<=k by omega),this,List.getElem?_eq_none h]
 ·rw[bI (show ¬0+a.length<=k by omega)];rfl
theorem WE {w:World}{b:List Ob}{ps:List (Nat×Nat×Nat)}(f:b.length=ps.length)(h: ∀(i:Nat) (o:Ob) (p:Nat×Nat×Nat),b[i]? =some o->ps[i]? =some p->o.rw=false/\OR P (λ(id:Nat)=>ps[id]?) o p w):
  HR P (λ(id:Nat)=>ps[id]?) (H.Dp b) w/\Qk (λ(id:Nat)=>ps[id]?) (H.Dp b).next:=by
 refine⟨⟨λid o c=>?_,λi j k q m l g hi n a _ _=>?_⟩,λid d=>?_⟩
 ·rw[wY] at c
  have e:=(Ax.1 c).1
  exact⟨ps[id]'om,dD _,(h id o _ c (dD om)).2⟩
 ·rw[wY] at hi
  have e:=(Ax.1 hi).1
  rw[(h i k _ hi (dD om)).1] at a
  cases a
 ·rw[xU] at d
  exact List.getElem?_eq_none om
theorem iO.below {m e:M}{h h':H}{w w':World}(a:iO P m h w e h' w')(c: ∀id o,h.get id=some o->o.rw=false):Below w.heap.size w w':=
 ⟨a.kept.os,a.kept.tape,a.kept.output,a.kept.size,λb d=>a.kept.block b d λ⟨id,o,p,ho,hrw,_⟩=>by rw[c id o ho] at hrw;cases hrw⟩
theorem UH {a:List Ob}(h: ∀o∈a,o.rw=false): ∀id o,(H.Dp a).get id=some o->o.rw=false:=λid o b=>by
 rw[wY] at b;exact h o (AW b)
variable {H:Type} {enc:TypeId×Value->H}
theorem Di (b:laidOutB P=true){W W':World}(c:Below W.heap.size W W'){sp:Nat->Bool}: ∀(ts:List TypeId) (vs:List Value) (ds:List (DataW H)) (ps:List MemPlace),(∀t∈ts,P.readableRec t=true/\t<P.types.size)->(∀x∈ps,x.block<W.heap.size/\sp x.block=true)->
  DataW.TrodAll enc P W 0 (λ_=>true) true ts vs ds ps->DataW.TrodAll enc P W' 0 sp true ts vs ds ps
 | [], [], [],_,_,_,h=>h
 |t::ts,v::vs,d::ds,ps,ht,hlt,h=>by
  obtain⟨p,q,f,e,rfl⟩:=h
  exact⟨p,q,WideElems.Trod_stays b (ht t (Ab ..)).1 (ht t (Ab ..)).2 f (λx a=>c.same (hlt x (List.mem_append_left _ a)).1) (λx a=>(hlt x (List.mem_append_left _ a)).2),
   Di b c ts vs ds q (λt h=>ht t (Cu _ h)) (λx a=>hlt x (List.mem_append_right _ a)) e,rfl⟩
 | [], [],_::_,_,_,_,h=>h.elim
 | [],_::_,_,_,_,_,h=>h.elim
 |_::_, [],_,_,_,_,h=>h.elim
 |_::_,_::_, [],_,_,_,h=>h.elim
theorem Qj {f:Func}{s:ChangeSpec}{e fresh g m:Bool}{W W':World}{args:Array Value}{v:Value}{ds n:List (DataW H)}{a pa pv:List MemPlace}
  (x:DataW.Whole enc P f.params.toList s.vars e W args.toList ds n a)
  (k: ∀(b:Nat) (sp:Nat->Bool) (hd:Bool),DataW.TrodAll enc P W' b sp hd f.resultTypes.toList (v.resultList f.resultTypes.size) (s.fn H (ds++n)).results [])
  (d: ∀sp:Nat->Bool,(∀p∈a,sp p.block=true)->DataW.TrodAll enc P W' 0 sp true f.params.toList args.toList (s.fn H (ds++n)).args pa)
  (h: ∀sp:Nat->Bool,(∀p∈a,sp p.block=true)->DataW.TrodVars enc P W' sp s.vars (s.fn H (ds++n)).vars pv)
  (i:a=pa++pv) (y:Below W.heap.size W W')
  (w: ∀(j:Nat) (t:TypeId) (r:Value),f.resultTypes[j]? =some t->(v.resultList f.resultTypes.size)[j]? =some r->Value.okWide P W' .any 0 t r):
  s.post enc P f e fresh g m W args v W':=by
 have o: ∀p∈a,p.block<W.heap.size:=λp c=>x.lt p c
 have l: ∀p∈a,(λb=>decide (b<W.heap.size)) p.block=true:=λp c=>by simpa using o p c
 refine⟨ds,n,a, [],pa,pv,x,k _ _ _,d _ l,h _ l,World.keptBut_mono (λp c=>⟨c,?_⟩) (y.frame (· ∈a)),λ_=>?_⟩
 ·rw[i,pH] at c
  exact Or.inr c
 ·obtain⟨_,_,_,_,_,B,A⟩:=x
  refine⟨w,_,_,([]++pa)++pv,⟨[]++pa,pv,trodAll_append (d _ (λ_ _=>rfl)) (k _ _ _),h _ (λ_ _=>rfl),rfl,?_,?_⟩,?_⟩
  ·intro b u c
   have q:MemPlace.cell b u∈a:=by rw[i];simpa using c
   rw[y.frozen (o _ q)]
   exact B b u q
  ·intro z
   have:=A z
   rw[i] at this
   simpa using this
  ·intro p c _
   rw[i]
   simpa using c
theorem OL {f:Func}{s:ChangeSpec}{d fresh e h:Bool}{W W':World}{args:Array Value}{ds o:List (DataW H)}{c:List MemPlace}{tb:TypeId}
  (F:laidOutB P=true) (g:s.vars= []) (i:f.params.toList.all (λt=>P.readableRec t&&decide (t<P.types.size))=true)
  (l:f.resultTypes= #[tb]) (m:P.underlying tb=some .bool)
  (w:DataW.Whole enc P f.params.toList s.vars d W args.toList ds o c)
  (a:(s.fn H (ds++o))={results:= [.lit (.bool true)],args:=ds})
  (v:Below W.heap.size W W'):s.post enc P f d fresh e h W args (.bool true) W':=by
 have j:=w
 obtain⟨p,q,z,u,k,y,A⟩:=w
 rw[g] at u
 obtain⟨rfl,rfl⟩:=trodVars_none u
 rw[vF] at k
 subst k
 rw[vF] at a
 refine Qj (pa:=c) (pv:= []) j (λb sp G=>?_) (λsp n=>?_) (λsp _=>?_) (by simp) v ?_
 ·rw[vF,a,l]
  exact trodAll_mk1 (shut_bool m true)
 ·rw[vF,a]
  refine Di F v _ _ _ _ (λt B=>?_) (λx r=>⟨?_,n x r⟩) z
  ·have:=Kv.1 i t B
   simpa using this
  ·exact j.lt x r
 ·rw[vF,a,g];rfl
 ·exact ok_one l rfl (okWide_bool_mk m true)
end
end Go.Ay
