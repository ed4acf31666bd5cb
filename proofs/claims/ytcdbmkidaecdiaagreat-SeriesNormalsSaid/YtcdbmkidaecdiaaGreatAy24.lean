/- From an answer of the abstract machine to the row's statement. -/
import Derived.Test.YtcdbmkidaecdiaaGreatAy25
import Derived.Test.YtcdbmkidaecdiaaGreatAy21
import Derived.ProofKit
import Derived.Carry
namespace Go.Ay
open Go Go.RowKit Go.WideShapes Go.ChangeShapes Go.ChangeAt
section
variable {P:Program}
def H.yH (os:List Ob):H:=os.foldl H.new ⟨lf,0⟩
theorem Ko: ∀(os:List Ob) (h:H),(os.foldl H.new h).next=h.next+os.length/\ ∀k,(os.foldl H.new h).get k=if k<h.next then h.get k else if h.next+os.length<=k then h.get k else os[k-h.next]?
 | [],h=>⟨rfl,λk=>by
  simp only[List.foldl_nil,List.length_nil,Nat.add_zero]
  by_cases c:k<h.next
  ·rw[bJ c]
  ·rw[bU c,bJ om]⟩
 |o::os,h=>by
  obtain⟨e,f⟩:=Ko os (h.new o);refine⟨by rw[List.foldl_cons,e,H.aW,List.length_cons];omega,λk=>?_⟩;rw[List.foldl_cons,f,H.aW,H.kL]
  by_cases d:k<h.next
  ·rw[bJ om,bU om,bJ d]
  ·rw[bU d]
   by_cases a:k=h.next
   ·subst a
    rw[bJ om,bJ rfl,bU (by simp)];simp
   ·rw[bU om]
    by_cases b:h.next+1+os.length<=k
    ·rw[bJ b,bU a,bJ (by simp;omega)]
    ·rw[bU b,bU (by simp;omega)]
     rw[show k-h.next=(k-(h.next+1))+1 by omega,List.getElem?_cons_succ]
theorem uT (a:List Ob):(H.yH a).next=a.length:=by
 rw[H.yH,(Ko a _).1];exact Nat.zero_add _
theorem tV (a:List Ob)(k:Nat):(H.yH a).get k=a[k]? :=by
 rw[H.yH,(Ko a _).2];rw[bU (Nat.not_lt_zero _)]
 by_cases h:a.length<=k
 ·have:(H.get ⟨lf,0⟩ k)=none:=rfl
  rw[bJ (show 0+a.length<=k by omega),this,List.getElem?_eq_none h]
 ·rw[bU (show ¬0+a.length<=k by omega)];rfl
theorem SK {w:World}{b:List Ob}{ps:List (Nat×Nat×Nat)}(f:b.length=ps.length)(h: ∀(i:Nat) (o:Ob) (p:Nat×Nat×Nat),b[i]? =some o->ps[i]? =some p->o.rw=false/\OR P (λ(id:Nat)=>ps[id]?) o p w):
  HR P (λ(id:Nat)=>ps[id]?) (H.yH b) w/\Vz (λ(id:Nat)=>ps[id]?) (H.yH b).next:=by
 refine⟨⟨λid o e=>?_,λi j k m n q g hi l a _ _=>?_⟩,λid d=>?_⟩
 ·rw[tV] at e
  have c:=(vJ.1 e).1
  exact⟨ps[id]'om,dD _,(h id o _ e (dD om)).2⟩
 ·rw[tV] at hi
  have c:=(vJ.1 hi).1
  rw[(h i k _ hi (dD om)).1] at a
  cases a
 ·rw[uT] at d
  exact List.getElem?_eq_none om
theorem jR.below {m d:M}{h h':H}{w w':World}(a:jR P m h w d h' w')(c: ∀id o,h.get id=some o->o.rw=false):Below w.heap.size w w':=
 ⟨a.kept.os,a.kept.tape,a.kept.output,a.kept.size,λb e=>a.kept.block b e λ⟨id,o,p,ho,hrw,_⟩=>by rw[c id o ho] at hrw;cases hrw⟩
theorem VU {a:List Ob}(h: ∀o∈a,o.rw=false): ∀id o,(H.yH a).get id=some o->o.rw=false:=λid o b=>by
 rw[tV] at b;exact h o (Xu b)
variable {H:Type} {enc:TypeId×Value->H}
theorem Ek (b:laidOutB P=true){W W':World}(c:Below W.heap.size W W'){sp:Nat->Bool}: ∀(ts:List TypeId) (vs:List Value) (ds:List (DataW H)) (ps:List MemPlace),(∀t∈ts,P.readableRec t=true/\t<P.types.size)->(∀x∈ps,x.block<W.heap.size/\sp x.block=true)->
  DataW.TrodAll enc P W 0 (λ_=>true) true ts vs ds ps->DataW.TrodAll enc P W' 0 sp true ts vs ds ps
 | [], [], [],_,_,_,h=>h
 |t::ts,v::vs,d::ds,ps,ht,hlt,h=>by
  obtain⟨p,q,e,f,rfl⟩:=h
  exact⟨p,q,WideElems.Trod_stays b (ht t (tQ ..)).1 (ht t (tQ ..)).2 e (λx a=>c.same (hlt x (List.mem_append_left _ a)).1) (λx a=>(hlt x (List.mem_append_left _ a)).2),
   Ek b c ts vs ds q (λt h=>ht t (wI _ h)) (λx a=>hlt x (List.mem_append_right _ a)) f,rfl⟩
 | [], [],_::_,_,_,_,h=>h.elim
 | [],_::_,_,_,_,_,h=>h.elim
 |_::_, [],_,_,_,_,h=>h.elim
 |_::_,_::_, [],_,_,_,h=>h.elim
theorem Rt {f:Func}{s:ChangeSpec}{d fresh g m:Bool}{W W':World}{args:Array Value}{v:Value}{ds o:List (DataW H)}{a pa pv:List MemPlace}
  (w:DataW.Whole enc P f.params.toList s.vars d W args.toList ds o a)
  (l: ∀(b:Nat) (sp:Nat->Bool) (hd:Bool),DataW.TrodAll enc P W' b sp hd f.resultTypes.toList (v.resultList f.resultTypes.size) (s.fn H (ds++o)).results [])
  (h: ∀sp:Nat->Bool,(∀p∈a,sp p.block=true)->DataW.TrodAll enc P W' 0 sp true f.params.toList args.toList (s.fn H (ds++o)).args pa)
  (e: ∀sp:Nat->Bool,(∀p∈a,sp p.block=true)->DataW.TrodVars enc P W' sp s.vars (s.fn H (ds++o)).vars pv)
  (i:a=pa++pv) (y:Below W.heap.size W W')
  (x: ∀(j:Nat) (t:TypeId) (r:Value),f.resultTypes[j]? =some t->(v.resultList f.resultTypes.size)[j]? =some r->Value.okWide P W' .any 0 t r):
  s.post enc P f d fresh g m W args v W':=by
 have n: ∀p∈a,p.block<W.heap.size:=λp c=>w.lt p c
 have k: ∀p∈a,(λb=>decide (b<W.heap.size)) p.block=true:=λp c=>by simpa using n p c
 refine⟨ds,o,a, [],pa,pv,w,l _ _ _,h _ k,e _ k,World.keptBut_mono (λp c=>⟨c,?_⟩) (y.frame (· ∈a)),λ_=>?_⟩
 ·rw[i,oD] at c
  exact Or.inr c
 ·obtain⟨_,_,_,_,_,B,z⟩:=w
  refine⟨x,_,_,([]++pa)++pv,⟨[]++pa,pv,trodAll_append (h _ (λ_ _=>rfl)) (l _ _ _),e _ (λ_ _=>rfl),rfl,?_,?_⟩,?_⟩
  ·intro b u c
   have q:MemPlace.cell b u∈a:=by rw[i];simpa using c
   rw[y.frozen (n _ q)]
   exact B b u q
  ·intro A
   have:=z A
   rw[i] at this
   simpa using this
  ·intro p c _
   rw[i]
   simpa using c
theorem XX {f:Func}{s:ChangeSpec}{d fresh e h:Bool}{W W':World}{args:Array Value}{ds o:List (DataW H)}{c:List MemPlace}{tb:TypeId}
  (B:laidOutB P=true) (g:s.vars= []) (i:f.params.toList.all (λt=>P.readableRec t&&decide (t<P.types.size))=true)
  (l:f.resultTypes= #[tb]) (m:P.underlying tb=some .bool)
  (u:DataW.Whole enc P f.params.toList s.vars d W args.toList ds o c)
  (a:(s.fn H (ds++o))={results:= [.lit (.bool true)],args:=ds})
  (w:Below W.heap.size W W'):s.post enc P f d fresh e h W args (.bool true) W':=by
 have j:=u
 obtain⟨p,q,z,v,k,F,y⟩:=u
 rw[g] at v
 obtain⟨rfl,rfl⟩:=trodVars_none v
 rw[tZ] at k
 subst k
 rw[tZ] at a
 refine Rt (pa:=c) (pv:= []) j (λb sp G=>?_) (λsp n=>?_) (λsp _=>?_) (by simp) w ?_
 ·rw[tZ,a,l]
  exact trodAll_mk1 (shut_bool m true)
 ·rw[tZ,a]
  refine Ek B w _ _ _ _ (λt A=>?_) (λx r=>⟨?_,n x r⟩) z
  ·have:=zP.1 i t A
   simpa using this
  ·exact j.lt x r
 ·rw[tZ,a,g];rfl
 ·exact ok_one l rfl (okWide_bool_mk m true)
end
end Go.Ay
