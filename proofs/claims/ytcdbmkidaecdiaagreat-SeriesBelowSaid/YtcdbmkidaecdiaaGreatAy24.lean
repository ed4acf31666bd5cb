/- From an answer of the abstract machine to the row's statement. -/
import Derived.Test.YtcdbmkidaecdiaaGreatAy25
import Derived.Test.YtcdbmkidaecdiaaGreatAy21
import Derived.ProofKit
import Derived.Carry
namespace Go.Ay
open Go Go.RowKit Go.WideShapes Go.ChangeShapes Go.ChangeAt
section
variable {P:Program}
def H.yH (os:List Ob):H:=os.foldl H.new ⟨lf,0⟩
theorem Ko: ∀(os:List Ob) (h:H),(os.foldl H.new h).next=h.next+os.length/\ ∀k,(os.foldl H.new h).get k=if k<h.next then h.get k else if h.next+os.length<=k then h.get k else os[k-h.next]?
 | [],h=>⟨rfl,λk=>by
  simp only[List.foldl_nil,List.length_nil,Nat.add_zero]
  by_cases c:k<h.next
  ·rw[bJ c]
  ·rw[bU c,bJ om]⟩
 |o::os,h=>by
  obtain⟨f,i⟩:=Ko os (h.new o);refine⟨by rw[List.foldl_cons,f,H.aW,List.length_cons];omega,λk=>?_⟩;rw[List.foldl_cons,i,H.aW,H.kL]
  by_cases d:k<h.next
  ·rw[bJ om,bU om,bJ d]
  ·rw[bU d]
   by_cases a:k=h.next
   ·subst a
    rw[bJ om,bJ rfl,bU (by simp)];simp
   ·rw[bU om]
    by_cases b:h.next+1+os.length<=k
    ·rw[bJ b,bU a,bJ (by simp;omega)]
    ·rw[bU b,bU (by simp;omega)]
     rw[show k-h.next=(k-(h.next+1))+1 by omega,List.getElem?_cons_succ]
theorem uT (a:List Ob):(H.yH a).next=a.length:=by
 rw[H.yH,(Ko a _).1];exact Nat.zero_add _
theorem tV (a:List Ob)(k:Nat):(H.yH a).get k=a[k]? :=by
 rw[H.yH,(Ko a _).2];rw[bU (Nat.not_lt_zero _)]
 by_cases h:a.length<=k
 ·have:(H.get ⟨lf,0⟩ k)=none:=rfl
  rw[bJ (show 0+a.length<=k by omega),this,List.getElem?_eq_none h]
 ·rw[bU (show ¬0+a.length<=k by omega)];rfl
theorem SK {w:World}{b:List Ob}{ps:List (Nat×Nat×Nat)}(k:b.length=ps.length)(h: ∀(i:Nat) (o:Ob) (p:Nat×Nat×Nat),b[i]? =some o->ps[i]? =some p->o.rw=false/\OR P (λ(id:Nat)=>ps[id]?) o p w):
  HR P (λ(id:Nat)=>ps[id]?) (H.yH b) w/\Vz (λ(id:Nat)=>ps[id]?) (H.yH b).next:=by
 refine⟨⟨λid o c=>?_,λi j m q n r l hi s a _ _=>?_⟩,λid d=>?_⟩
 ·rw[tV] at c
  have f:=(vJ.1 c).1
  exact⟨ps[id]'om,dD _,(h id o _ c (dD om)).2⟩
 ·rw[tV] at hi
  have f:=(vJ.1 hi).1
  rw[(h i m _ hi (dD om)).1] at a
  cases a
 ·rw[uT] at d
  exact List.getElem?_eq_none om
theorem jR.below {m d:M}{h h':H}{w w':World}(a:jR P m h w d h' w')(c: ∀id o,h.get id=some o->o.rw=false):Below w.heap.size w w':=
 ⟨a.kept.os,a.kept.tape,a.kept.output,a.kept.size,λb f=>a.kept.block b f λ⟨id,o,p,ho,hrw,_⟩=>by rw[c id o ho] at hrw;cases hrw⟩
theorem VU {b:List Ob}(h: ∀o∈b,o.rw=false): ∀id o,(H.yH b).get id=some o->o.rw=false:=λid o a=>by
 rw[tV] at a;exact h o (Xu a)
variable {H:Type} {enc:TypeId×Value->H}
theorem Ek (c:laidOutB P=true){W W':World}(b:Below W.heap.size W W'){sp:Nat->Bool}: ∀(ts:List TypeId) (vs:List Value) (ds:List (DataW H)) (ps:List MemPlace),(∀t∈ts,P.readableRec t=true/\t<P.types.size)->(∀x∈ps,x.block<W.heap.size/\sp x.block=true)->
  DataW.TrodAll enc P W 0 (λ_=>true) true ts vs ds ps->DataW.TrodAll enc P W' 0 sp true ts vs ds ps
 | [], [], [],_,_,_,h=>h
 |t::ts,v::vs,d::ds,ps,ht,hlt,h=>by
  obtain⟨p,q,f,i,rfl⟩:=h
  exact⟨p,q,WideElems.Trod_stays c (ht t (tQ ..)).1 (ht t (tQ ..)).2 f (λx a=>b.same (hlt x (List.mem_append_left _ a)).1) (λx a=>(hlt x (List.mem_append_left _ a)).2),
   Ek c b ts vs ds q (λt h=>ht t (wI _ h)) (λx a=>hlt x (List.mem_append_right _ a)) i,rfl⟩
 | [], [],_::_,_,_,_,h=>h.elim
 | [],_::_,_,_,_,_,h=>h.elim
 |_::_, [],_,_,_,_,h=>h.elim
 |_::_,_::_, [],_,_,_,h=>h.elim
theorem Rt {f:Func}{s:ChangeSpec}{h fresh i o:Bool}{W W':World}{args:Array Value}{v:Value}{ds w:List (DataW H)}{a pa pv:List MemPlace}
  (y:DataW.Whole enc P f.params.toList s.vars h W args.toList ds w a)
  (m: ∀(b:Nat) (sp:Nat->Bool) (hd:Bool),DataW.TrodAll enc P W' b sp hd f.resultTypes.toList (v.resultList f.resultTypes.size) (s.fn H (ds++w)).results [])
  (k: ∀sp:Nat->Bool,(∀p∈a,sp p.block=true)->DataW.TrodAll enc P W' 0 sp true f.params.toList args.toList (s.fn H (ds++w)).args pa)
  (c: ∀sp:Nat->Bool,(∀p∈a,sp p.block=true)->DataW.TrodVars enc P W' sp s.vars (s.fn H (ds++w)).vars pv)
  (l:a=pa++pv) (A:Below W.heap.size W W')
  (z: ∀(j:Nat) (t:TypeId) (r:Value),f.resultTypes[j]? =some t->(v.resultList f.resultTypes.size)[j]? =some r->Value.okWide P W' .any 0 t r):
  s.post enc P f h fresh i o W args v W':=by
 have x: ∀p∈a,p.block<W.heap.size:=λp d=>y.lt p d
 have n: ∀p∈a,(λb=>decide (b<W.heap.size)) p.block=true:=λp d=>by simpa using x p d
 refine⟨ds,w,a, [],pa,pv,y,m _ _ _,k _ n,c _ n,World.keptBut_mono (λp d=>⟨d,?_⟩) (A.frame (· ∈a)),λ_=>?_⟩
 ·rw[l,oD] at d
  exact Or.inr d
 ·obtain⟨_,_,_,_,_,F,B⟩:=y
  refine⟨z,_,_,([]++pa)++pv,⟨[]++pa,pv,trodAll_append (k _ (λ_ _=>rfl)) (m _ _ _),c _ (λ_ _=>rfl),rfl,?_,?_⟩,?_⟩
  ·intro b q d
   have u:MemPlace.cell b q∈a:=by rw[l];simpa using d
   rw[A.frozen (x _ u)]
   exact F b q u
  ·intro G
   have:=B G
   rw[l] at this
   simpa using this
  ·intro p d _
   rw[l]
   simpa using d
theorem XX {f:Func}{s:ChangeSpec}{d fresh h j:Bool}{W W':World}{args:Array Value}{ds w:List (DataW H)}{c:List MemPlace}{tb:TypeId}
  (F:laidOutB P=true) (i:s.vars= []) (n:f.params.toList.all (λt=>P.readableRec t&&decide (t<P.types.size))=true)
  (l:f.resultTypes= #[tb]) (o:P.underlying tb=some .bool)
  (v:DataW.Whole enc P f.params.toList s.vars d W args.toList ds w c)
  (a:(s.fn H (ds++w))={results:= [.lit (.bool true)],args:=ds})
  (y:Below W.heap.size W W'):s.post enc P f d fresh h j W args (.bool true) W':=by
 have k:=v
 obtain⟨p,q,A,u,m,G,J⟩:=v
 rw[i] at u
 obtain⟨rfl,rfl⟩:=trodVars_none u
 rw[tZ] at m
 subst m
 rw[tZ] at a
 refine Rt (pa:=c) (pv:= []) k (λb sp K=>?_) (λsp r=>?_) (λsp _=>?_) (by simp) y ?_
 ·rw[tZ,a,l]
  exact trodAll_mk1 (shut_bool o true)
 ·rw[tZ,a]
  refine Ek F y _ _ _ _ (λt B=>?_) (λx z=>⟨?_,r x z⟩) A
  ·have:=zP.1 n t B
   simpa using this
  ·exact k.lt x z
 ·rw[tZ,a,i];rfl
 ·exact ok_one l rfl (okWide_bool_mk o true)
end
end Go.Ay
