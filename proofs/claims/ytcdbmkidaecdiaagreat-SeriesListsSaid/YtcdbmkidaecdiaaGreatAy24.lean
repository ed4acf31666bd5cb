/- From an answer of the abstract machine to the row's statement. -/
import Derived.Test.YtcdbmkidaecdiaaGreatAy25
import Derived.Test.YtcdbmkidaecdiaaGreatAy21
import Derived.ProofKit
import Derived.Carry
namespace Go.Ay
open Go Go.RowKit Go.WideShapes Go.ChangeShapes Go.ChangeAt
section
variable {P:Program}
def H.mE (os:List Ob):H:=os.foldl H.new ⟨.lf,0⟩
theorem Ji: ∀(os:List Ob) (h:H),(os.foldl H.new h).next=h.next+os.length/\ ∀k,(os.foldl H.new h).get k=if k<h.next then h.get k else if h.next+os.length<=k then h.get k else os[k-h.next]?
 | [],h=>⟨rfl,λk=>by
  simp only[List.foldl_nil,List.length_nil,Nat.add_zero]
  by_cases c:k<h.next
  ·rw[bJ c]
  ·rw[bL c,bJ om]⟩
 |o::os,h=>by
  obtain⟨e,f⟩:=Ji os (h.new o);refine⟨by rw[List.foldl_cons,e,H.aU,List.length_cons];omega,λk=>?_⟩;rw[List.foldl_cons,f,H.aU,H.jQ]
  by_cases d:k<h.next
  ·rw[bJ om,bL om,bJ d]
  ·rw[bL d]
   by_cases b:k=h.next
   ·subst b
    rw[bJ om,bJ rfl,bL (by simp)];simp
   ·rw[bL om]
    by_cases a:h.next+1+os.length<=k
    ·rw[bJ a,bL b,bJ (by simp;omega)]
    ·rw[bL a,bL (by simp;omega)]
     rw[show k-h.next=(k-(h.next+1))+1 by omega,List.getElem?_cons_succ]
theorem pW (a:List Ob):(H.mE a).next=a.length:=by
 rw[H.mE,(Ji a _).1];exact Nat.zero_add _
theorem qC (a:List Ob)(k:Nat):(H.mE a).get k=a[k]? :=by
 rw[H.mE,(Ji a _).2];rw[bL (Nat.not_lt_zero _)]
 by_cases h:a.length<=k
 ·have:(H.get ⟨.lf,0⟩ k)=none:=rfl
  rw[bJ (show 0+a.length<=k by omega),this,List.getElem?_eq_none h]
 ·rw[bL (show ¬0+a.length<=k by omega)];rfl
theorem XE {w:World}{b:List Ob}{ps:List (Nat×Nat×Nat)}(f:b.length=ps.length)(h: ∀(i:Nat) (o:Ob) (p:Nat×Nat×Nat),b[i]? =some o->ps[i]? =some p->o.rw=false/\OR P (λ(id:Nat)=>ps[id]?) o p w):
  HR P (λ(id:Nat)=>ps[id]?) (H.mE b) w/\Qx (λ(id:Nat)=>ps[id]?) (H.mE b).next:=by
 refine⟨⟨λid o d=>?_,λi j k q l n g hi m a _ _=>?_⟩,λid c=>?_⟩
 ·rw[qC] at d
  have e:=(zG.1 d).1
  exact⟨ps[id]'om,dF _,(h id o _ d (dF om)).2⟩
 ·rw[qC] at hi
  have e:=(zG.1 hi).1
  rw[(h i k _ hi (dF om)).1] at a
  cases a
 ·rw[pW] at c
  exact List.getElem?_eq_none om
theorem iC.below {m e:M}{h h':H}{w w':World}(a:iC P m h w e h' w')(c: ∀id o,h.get id=some o->o.rw=false):Below w.heap.size w w':=
 ⟨a.kept.os,a.kept.tape,a.kept.output,a.kept.size,λb d=>a.kept.block b d λ⟨id,o,p,ho,hrw,_⟩=>by rw[c id o ho] at hrw;cases hrw⟩
theorem SF {a:List Ob}(h: ∀o∈a,o.rw=false): ∀id o,(H.mE a).get id=some o->o.rw=false:=λid o b=>by
 rw[qC] at b;exact h o (EV b)
variable {H:Type} {enc:TypeId×Value->H}
theorem Di (b:laidOutB P=true){W W':World}(c:Below W.heap.size W W'){sp:Nat->Bool}: ∀(ts:List TypeId) (vs:List Value) (ds:List (DataW H)) (ps:List MemPlace),(∀t∈ts,P.readableRec t=true/\t<P.types.size)->(∀x∈ps,x.block<W.heap.size/\sp x.block=true)->
  DataW.TrodAll enc P W 0 (λ_=>true) true ts vs ds ps->DataW.TrodAll enc P W' 0 sp true ts vs ds ps
 | [], [], [],_,_,_,h=>h
 |t::ts,v::vs,d::ds,ps,ht,hlt,h=>by
  obtain⟨p,q,e,f,rfl⟩:=h
  exact⟨p,q,WideElems.Trod_stays b (ht t (Co ..)).1 (ht t (Co ..)).2 e (λx a=>c.same (hlt x (List.mem_append_left _ a)).1) (λx a=>(hlt x (List.mem_append_left _ a)).2),
   Di b c ts vs ds q (λt h=>ht t (Cu _ h)) (λx a=>hlt x (List.mem_append_right _ a)) f,rfl⟩
 | [], [],_::_,_,_,_,h=>h.elim
 | [],_::_,_,_,_,_,h=>h.elim
 |_::_, [],_,_,_,_,h=>h.elim
 |_::_,_::_, [],_,_,_,h=>h.elim
theorem Qw {f:Func}{s:ChangeSpec}{d fresh c m:Bool}{W W':World}{args:Array Value}{v:Value}{ds n:List (DataW H)}{a pa pv:List MemPlace}
  (w:DataW.Whole enc P f.params.toList s.vars d W args.toList ds n a)
  (l: ∀(b:Nat) (sp:Nat->Bool) (hd:Bool),DataW.TrodAll enc P W' b sp hd f.resultTypes.toList (v.resultList f.resultTypes.size) (s.fn H (ds++n)).results [])
  (g: ∀sp:Nat->Bool,(∀p∈a,sp p.block=true)->DataW.TrodAll enc P W' 0 sp true f.params.toList args.toList (s.fn H (ds++n)).args pa)
  (h: ∀sp:Nat->Bool,(∀p∈a,sp p.block=true)->DataW.TrodVars enc P W' sp s.vars (s.fn H (ds++n)).vars pv)
  (i:a=pa++pv) (y:Below W.heap.size W W')
  (x: ∀(j:Nat) (t:TypeId) (r:Value),f.resultTypes[j]? =some t->(v.resultList f.resultTypes.size)[j]? =some r->Value.okWide P W' .any 0 t r):
  s.post enc P f d fresh c m W args v W':=by
 have u: ∀p∈a,p.block<W.heap.size:=λp e=>w.lt p e
 have k: ∀p∈a,(λb=>decide (b<W.heap.size)) p.block=true:=λp e=>by simpa using u p e
 refine⟨ds,n,a, [],pa,pv,w,l _ _ _,g _ k,h _ k,World.keptBut_mono (λp e=>⟨e,?_⟩) (y.frame (· ∈a)),λ_=>?_⟩
 ·rw[i,kT] at e
  exact Or.inr e
 ·obtain⟨_,_,_,_,_,A,B⟩:=w
  refine⟨x,_,_,([]++pa)++pv,⟨[]++pa,pv,trodAll_append (g _ (λ_ _=>rfl)) (l _ _ _),h _ (λ_ _=>rfl),rfl,?_,?_⟩,?_⟩
  ·intro b q e
   have o:MemPlace.cell b q∈a:=by rw[i];simpa using e
   rw[y.frozen (u _ o)]
   exact A b q o
  ·intro z
   have:=B z
   rw[i] at this
   simpa using this
  ·intro p e _
   rw[i]
   simpa using e
theorem TR {f:Func}{s:ChangeSpec}{e fresh d h:Bool}{W W':World}{args:Array Value}{ds o:List (DataW H)}{c:List MemPlace}{tb:TypeId}
  (y:laidOutB P=true) (g:s.vars= []) (j:f.params.toList.all (λt=>P.readableRec t&&decide (t<P.types.size))=true)
  (m:f.resultTypes= #[tb]) (l:P.underlying tb=some .bool)
  (v:DataW.Whole enc P f.params.toList s.vars e W args.toList ds o c)
  (a:(s.fn H (ds++o))={results:= [.lit (.bool true)],args:=ds})
  (r:Below W.heap.size W W'):s.post enc P f e fresh d h W args (.bool true) W':=by
 have i:=v
 obtain⟨p,q,B,u,k,z,A⟩:=v
 rw[g] at u
 obtain⟨rfl,rfl⟩:=trodVars_none u
 rw[tD] at k
 subst k
 rw[tD] at a
 refine Qw (pa:=c) (pv:= []) i (λb sp G=>?_) (λsp n=>?_) (λsp _=>?_) (by simp) r ?_
 ·rw[tD,a,m]
  exact trodAll_mk1 (shut_bool l true)
 ·rw[tD,a]
  refine Di y r _ _ _ _ (λt F=>?_) (λx w=>⟨?_,n x w⟩) B
  ·have:=Lw.1 j t F
   simpa using this
  ·exact i.lt x w
 ·rw[tD,a,g];rfl
 ·exact ok_one m rfl (okWide_bool_mk l true)
end
end Go.Ay
