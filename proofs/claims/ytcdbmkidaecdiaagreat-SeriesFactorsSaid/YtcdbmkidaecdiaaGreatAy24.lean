/- From an answer of the abstract machine to the row's statement. -/
import Derived.Test.YtcdbmkidaecdiaaGreatAy25
import Derived.Test.YtcdbmkidaecdiaaGreatAy21
import Derived.ProofKit
import Derived.Carry
namespace Go.Ay
open Go Go.RowKit Go.WideShapes Go.ChangeShapes Go.ChangeAt
section
variable {P:Program}
def H.Dp (os:List Ob):H:=os.foldl H.new ⟨.lf,0⟩
theorem Ix: ∀(os:List Ob) (h:H),(os.foldl H.new h).next=h.next+os.length/\ ∀k,(os.foldl H.new h).get k=if k<h.next then h.get k else if h.next+os.length<=k then h.get k else os[k-h.next]?
 | [],h=>⟨rfl,λk=>by
  simp only[List.foldl_nil,List.length_nil,Nat.add_zero]
  by_cases c:k<h.next
  ·rw[bF c]
  ·rw[bI c,bF om]⟩
 |o::os,h=>by
  obtain⟨i,f⟩:=Ix os (h.new o);refine⟨by rw[List.foldl_cons,i,H.aU,List.length_cons];omega,λk=>?_⟩;rw[List.foldl_cons,f,H.aU,H.kF]
  by_cases a:k<h.next
  ·rw[bF om,bI om,bF a]
  ·rw[bI a]
   by_cases b:k=h.next
   ·subst b
    rw[bF om,bF rfl,bI (by simp)];simp
   ·rw[bI om]
    by_cases d:h.next+1+os.length<=k
    ·rw[bF d,bI b,bF (by simp;omega)]
    ·rw[bI d,bI (by simp;omega)]
     rw[show k-h.next=(k-(h.next+1))+1 by omega,List.getElem?_cons_succ]
theorem xU (a:List Ob):(H.Dp a).next=a.length:=by
 rw[H.Dp,(Ix a _).1];exact Nat.zero_add _
theorem wY (a:List Ob)(k:Nat):(H.Dp a).get k=a[k]? :=by
 rw[H.Dp,(Ix a _).2];rw[bI (Nat.not_lt_zero _)]
 by_cases h:a.length<=k
 ·have:(H.get ⟨.lf,0⟩ k)=none:=rfl
  rw[bF (show 0+a.length<=k by omega),this,List.getElem?_eq_none h]
 ·rw[bI (show ¬0+a.length<=k by omega)];rfl
theorem WE {w:World}{b:List Ob}{ps:List (Nat×Nat×Nat)}(k:b.length=ps.length)(h: ∀(i:Nat) (o:Ob) (p:Nat×Nat×Nat),b[i]? =some o->ps[i]? =some p->o.rw=false/\OR P (λ(id:Nat)=>ps[id]?) o p w):
  HR P (λ(id:Nat)=>ps[id]?) (H.Dp b) w/\Qk (λ(id:Nat)=>ps[id]?) (H.Dp b).next:=by
 refine⟨⟨λid o d=>?_,λi j m n s r l hi q a _ _=>?_⟩,λid f=>?_⟩
 ·rw[wY] at d
  have c:=(Ax.1 d).1
  exact⟨ps[id]'om,dD _,(h id o _ d (dD om)).2⟩
 ·rw[wY] at hi
  have c:=(Ax.1 hi).1
  rw[(h i m _ hi (dD om)).1] at a
  cases a
 ·rw[xU] at f
  exact List.getElem?_eq_none om
theorem iO.below {m d:M}{h h':H}{w w':World}(a:iO P m h w d h' w')(c: ∀id o,h.get id=some o->o.rw=false):Below w.heap.size w w':=
 ⟨a.kept.os,a.kept.tape,a.kept.output,a.kept.size,λb f=>a.kept.block b f λ⟨id,o,p,ho,hrw,_⟩=>by rw[c id o ho] at hrw;cases hrw⟩
theorem UH {a:List Ob}(h: ∀o∈a,o.rw=false): ∀id o,(H.Dp a).get id=some o->o.rw=false:=λid o b=>by
 rw[wY] at b;exact h o (AW b)
variable {H:Type} {enc:TypeId×Value->H}
theorem Di (c:laidOutB P=true){W W':World}(b:Below W.heap.size W W'){sp:Nat->Bool}: ∀(ts:List TypeId) (vs:List Value) (ds:List (DataW H)) (ps:List MemPlace),(∀t∈ts,P.readableRec t=true/\t<P.types.size)->(∀x∈ps,x.block<W.heap.size/\sp x.block=true)->
  DataW.TrodAll enc P W 0 (λ_=>true) true ts vs ds ps->DataW.TrodAll enc P W' 0 sp true ts vs ds ps
 | [], [], [],_,_,_,h=>h
 |t::ts,v::vs,d::ds,ps,ht,hlt,h=>by
  obtain⟨p,q,i,f,rfl⟩:=h
  exact⟨p,q,WideElems.Trod_stays c (ht t (Ab ..)).1 (ht t (Ab ..)).2 i (λx a=>b.same (hlt x (List.mem_append_left _ a)).1) (λx a=>(hlt x (List.mem_append_left _ a)).2),
   Di c b ts vs ds q (λt h=>ht t (Cu _ h)) (λx a=>hlt x (List.mem_append_right _ a)) f,rfl⟩
 | [], [],_::_,_,_,_,h=>h.elim
 | [],_::_,_,_,_,_,h=>h.elim
 |_::_, [],_,_,_,_,h=>h.elim
 |_::_,_::_, [],_,_,_,h=>h.elim
theorem Qj {f:Func}{s:ChangeSpec}{h fresh i o:Bool}{W W':World}{args:Array Value}{v:Value}{ds w:List (DataW H)}{a pa pv:List MemPlace}
  (y:DataW.Whole enc P f.params.toList s.vars h W args.toList ds w a)
  (n: ∀(b:Nat) (sp:Nat->Bool) (hd:Bool),DataW.TrodAll enc P W' b sp hd f.resultTypes.toList (v.resultList f.resultTypes.size) (s.fn H (ds++w)).results [])
  (d: ∀sp:Nat->Bool,(∀p∈a,sp p.block=true)->DataW.TrodAll enc P W' 0 sp true f.params.toList args.toList (s.fn H (ds++w)).args pa)
  (k: ∀sp:Nat->Bool,(∀p∈a,sp p.block=true)->DataW.TrodVars enc P W' sp s.vars (s.fn H (ds++w)).vars pv)
  (l:a=pa++pv) (A:Below W.heap.size W W')
  (z: ∀(j:Nat) (t:TypeId) (r:Value),f.resultTypes[j]? =some t->(v.resultList f.resultTypes.size)[j]? =some r->Value.okWide P W' .any 0 t r):
  s.post enc P f h fresh i o W args v W':=by
 have x: ∀p∈a,p.block<W.heap.size:=λp c=>y.lt p c
 have m: ∀p∈a,(λb=>decide (b<W.heap.size)) p.block=true:=λp c=>by simpa using x p c
 refine⟨ds,w,a, [],pa,pv,y,n _ _ _,d _ m,k _ m,World.keptBut_mono (λp c=>⟨c,?_⟩) (A.frame (· ∈a)),λ_=>?_⟩
 ·rw[l,pH] at c
  exact Or.inr c
 ·obtain⟨_,_,_,_,_,B,G⟩:=y
  refine⟨z,_,_,([]++pa)++pv,⟨[]++pa,pv,trodAll_append (d _ (λ_ _=>rfl)) (n _ _ _),k _ (λ_ _=>rfl),rfl,?_,?_⟩,?_⟩
  ·intro b u c
   have q:MemPlace.cell b u∈a:=by rw[l];simpa using c
   rw[A.frozen (x _ q)]
   exact B b u q
  ·intro F
   have:=G F
   rw[l] at this
   simpa using this
  ·intro p c _
   rw[l]
   simpa using c
theorem OL {f:Func}{s:ChangeSpec}{d fresh h j:Bool}{W W':World}{args:Array Value}{ds w:List (DataW H)}{c:List MemPlace}{tb:TypeId}
  (A:laidOutB P=true) (i:s.vars= []) (n:f.params.toList.all (λt=>P.readableRec t&&decide (t<P.types.size))=true)
  (l:f.resultTypes= #[tb]) (k:P.underlying tb=some .bool)
  (v:DataW.Whole enc P f.params.toList s.vars d W args.toList ds w c)
  (a:(s.fn H (ds++w))={results:= [.lit (.bool true)],args:=ds})
  (u:Below W.heap.size W W'):s.post enc P f d fresh h j W args (.bool true) W':=by
 have m:=v
 obtain⟨p,q,J,z,o,B,G⟩:=v
 rw[i] at z
 obtain⟨rfl,rfl⟩:=trodVars_none z
 rw[vF] at o
 subst o
 rw[vF] at a
 refine Qj (pa:=c) (pv:= []) m (λb sp K=>?_) (λsp r=>?_) (λsp _=>?_) (by simp) u ?_
 ·rw[vF,a,l]
  exact trodAll_mk1 (shut_bool k true)
 ·rw[vF,a]
  refine Di A u _ _ _ _ (λt F=>?_) (λx y=>⟨?_,r x y⟩) J
  ·have:=Kv.1 n t F
   simpa using this
  ·exact m.lt x y
 ·rw[vF,a,i];rfl
 ·exact ok_one l rfl (okWide_bool_mk k true)
end
end Go.Ay
