/- From an answer of the abstract machine to the row's statement. -/
import Derived.Test.YtcdbmkidaecdiaaGreatAy25
import Derived.Test.YtcdbmkidaecdiaaGreatAy21
import Derived.ProofKit
import Derived.Carry
namespace Go.Ay
open Go Go.RowKit Go.WideShapes Go.ChangeShapes Go.ChangeAt
section
variable {P:Program}
def H.Dp (os:List Ob):H:=os.foldl H.new ⟨.lf,0⟩
theorem Ix: ∀(os:List Ob) (h:H),(os.foldl H.new h).next=h.next+os.length/\ ∀k,(os.foldl H.new h).get k=if k<h.next then h.get k else if h.next+os.length<=k then h.get k else os[k-h.next]?
 | [],h=>⟨rfl,λk=>by
  simp only[List.foldl_nil,List.length_nil,Nat.add_zero]
  by_cases c:k<h.next
  ·rw[bF c]
  ·rw[bI c,bF om]⟩
 |o::os,h=>by
  obtain⟨f,i⟩:=Ix os (h.new o);refine⟨by rw[List.foldl_cons,f,H.aU,List.length_cons];omega,λk=>?_⟩;rw[List.foldl_cons,i,H.aU,H.kF]
  by_cases a:k<h.next
  ·rw[bF om,bI om,bF a]
  ·rw[bI a]
   by_cases d:k=h.next
   ·subst d
    rw[bF om,bF rfl,bI (by simp)];simp
   ·rw[bI om]
    by_cases b:h.next+1+os.length<=k
    ·rw[bF b,bI d,bF (by simp;omega)]
    ·rw[bI b,bI (by simp;omega)]
     rw[show k-h.next=(k-(h.next+1))+1 by omega,List.getElem?_cons_succ]
theorem xU (a:List Ob):(H.Dp a).next=a.length:=by
 rw[H.Dp,(Ix a _).1];exact Nat.zero_add _
theorem wY (a:List Ob)(k:Nat):(H.Dp a).get k=a[k]? :=by
 rw[H.Dp,(Ix a _).2];rw[bI (Nat.not_lt_zero _)]
 by_cases h:a.length<=k
 ·have:(H.get ⟨.lf,0⟩ k)=none:=rfl
  rw[bF (show 0+a.length<=k by omega),this,List.getElem?_eq_none h]
 ·rw[bI (show ¬0+a.length<=k by omega)];rfl
theorem WE {w:World}{b:List Ob}{ps:List (Nat×Nat×Nat)}(k:b.length=ps.length)(h: ∀(i:Nat) (o:Ob) (p:Nat×Nat×Nat),b[i]? =some o->ps[i]? =some p->o.rw=false/\OR P (λ(id:Nat)=>ps[id]?) o p w):
  HR P (λ(id:Nat)=>ps[id]?) (H.Dp b) w/\Qk (λ(id:Nat)=>ps[id]?) (H.Dp b).next:=by
 refine⟨⟨λid o f=>?_,λi j l n s q m hi r a _ _=>?_⟩,λid d=>?_⟩
 ·rw[wY] at f
  have c:=(Ax.1 f).1
  exact⟨ps[id]'om,dD _,(h id o _ f (dD om)).2⟩
 ·rw[wY] at hi
  have c:=(Ax.1 hi).1
  rw[(h i l _ hi (dD om)).1] at a
  cases a
 ·rw[xU] at d
  exact List.getElem?_eq_none om
theorem iO.below {m f:M}{h h':H}{w w':World}(a:iO P m h w f h' w')(c: ∀id o,h.get id=some o->o.rw=false):Below w.heap.size w w':=
 ⟨a.kept.os,a.kept.tape,a.kept.output,a.kept.size,λb d=>a.kept.block b d λ⟨id,o,p,ho,hrw,_⟩=>by rw[c id o ho] at hrw;cases hrw⟩
theorem UH {a:List Ob}(h: ∀o∈a,o.rw=false): ∀id o,(H.Dp a).get id=some o->o.rw=false:=λid o b=>by
 rw[wY] at b;exact h o (AW b)
variable {H:Type} {enc:TypeId×Value->H}
theorem Di (b:laidOutB P=true){W W':World}(c:Below W.heap.size W W'){sp:Nat->Bool}: ∀(ts:List TypeId) (vs:List Value) (ds:List (DataW H)) (ps:List MemPlace),(∀t∈ts,P.readableRec t=true/\t<P.types.size)->(∀x∈ps,x.block<W.heap.size/\sp x.block=true)->
  DataW.TrodAll enc P W 0 (λ_=>true) true ts vs ds ps->DataW.TrodAll enc P W' 0 sp true ts vs ds ps
 | [], [], [],_,_,_,h=>h
 |t::ts,v::vs,d::ds,ps,ht,hlt,h=>by
  obtain⟨p,q,f,i,rfl⟩:=h
  exact⟨p,q,WideElems.Trod_stays b (ht t (Ab ..)).1 (ht t (Ab ..)).2 f (λx a=>c.same (hlt x (List.mem_append_left _ a)).1) (λx a=>(hlt x (List.mem_append_left _ a)).2),
   Di b c ts vs ds q (λt h=>ht t (Cu _ h)) (λx a=>hlt x (List.mem_append_right _ a)) i,rfl⟩
 | [], [],_::_,_,_,_,h=>h.elim
 | [],_::_,_,_,_,_,h=>h.elim
 |_::_, [],_,_,_,_,h=>h.elim
 |_::_,_::_, [],_,_,_,h=>h.elim
theorem Qj {f:Func}{s:ChangeSpec}{h fresh d o:Bool}{W W':World}{args:Array Value}{v:Value}{ds x:List (DataW H)}{a pa pv:List MemPlace}
  (y:DataW.Whole enc P f.params.toList s.vars h W args.toList ds x a)
  (n: ∀(b:Nat) (sp:Nat->Bool) (hd:Bool),DataW.TrodAll enc P W' b sp hd f.resultTypes.toList (v.resultList f.resultTypes.size) (s.fn H (ds++x)).results [])
  (i: ∀sp:Nat->Bool,(∀p∈a,sp p.block=true)->DataW.TrodAll enc P W' 0 sp true f.params.toList args.toList (s.fn H (ds++x)).args pa)
  (k: ∀sp:Nat->Bool,(∀p∈a,sp p.block=true)->DataW.TrodVars enc P W' sp s.vars (s.fn H (ds++x)).vars pv)
  (l:a=pa++pv) (A:Below W.heap.size W W')
  (z: ∀(j:Nat) (t:TypeId) (r:Value),f.resultTypes[j]? =some t->(v.resultList f.resultTypes.size)[j]? =some r->Value.okWide P W' .any 0 t r):
  s.post enc P f h fresh d o W args v W':=by
 have q: ∀p∈a,p.block<W.heap.size:=λp c=>y.lt p c
 have m: ∀p∈a,(λb=>decide (b<W.heap.size)) p.block=true:=λp c=>by simpa using q p c
 refine⟨ds,x,a, [],pa,pv,y,n _ _ _,i _ m,k _ m,World.keptBut_mono (λp c=>⟨c,?_⟩) (A.frame (· ∈a)),λ_=>?_⟩
 ·rw[l,pH] at c
  exact Or.inr c
 ·obtain⟨_,_,_,_,_,F,G⟩:=y
  refine⟨z,_,_,([]++pa)++pv,⟨[]++pa,pv,trodAll_append (i _ (λ_ _=>rfl)) (n _ _ _),k _ (λ_ _=>rfl),rfl,?_,?_⟩,?_⟩
  ·intro b u c
   have w:MemPlace.cell b u∈a:=by rw[l];simpa using c
   rw[A.frozen (q _ w)]
   exact F b u w
  ·intro B
   have:=G B
   rw[l] at this
   simpa using this
  ·intro p c _
   rw[l]
   simpa using c
theorem OL {f:Func}{s:ChangeSpec}{h fresh d j:Bool}{W W':World}{args:Array Value}{ds v:List (DataW H)}{c:List MemPlace}{tb:TypeId}
  (J:laidOutB P=true) (i:s.vars= []) (l:f.params.toList.all (λt=>P.readableRec t&&decide (t<P.types.size))=true)
  (n:f.resultTypes= #[tb]) (o:P.underlying tb=some .bool)
  (w:DataW.Whole enc P f.params.toList s.vars h W args.toList ds v c)
  (a:(s.fn H (ds++v))={results:= [.lit (.bool true)],args:=ds})
  (z:Below W.heap.size W W'):s.post enc P f h fresh d j W args (.bool true) W':=by
 have k:=w
 obtain⟨p,q,B,y,m,F,A⟩:=w
 rw[i] at y
 obtain⟨rfl,rfl⟩:=trodVars_none y
 rw[vF] at m
 subst m
 rw[vF] at a
 refine Qj (pa:=c) (pv:= []) k (λb sp K=>?_) (λsp r=>?_) (λsp _=>?_) (by simp) z ?_
 ·rw[vF,a,n]
  exact trodAll_mk1 (shut_bool o true)
 ·rw[vF,a]
  refine Di J z _ _ _ _ (λt G=>?_) (λx u=>⟨?_,r x u⟩) B
  ·have:=Kv.1 l t G
   simpa using this
  ·exact k.lt x u
 ·rw[vF,a,i];rfl
 ·exact ok_one n rfl (okWide_bool_mk o true)
end
end Go.Ay
