/- The relation between the abstract machine's states and the model's worlds, and how it moves. -/
import Derived.Test.YtcdbmkidaecdiaaGreatAy2
import Derived.RangeFuncLeaves
import Derived.RangeFuncRecord
import Derived.Laws.AppendOwn
import Derived.OwnWalkIn
namespace Go.Ay
section
variable {a vars loc:List V} {c:List Value} {v:V} {x:Value} {nt s t k id:Nat} {pv defs:List Nat} {tmps:Array Value} {P:Program} {p:Nat×Nat×Nat} {w w':World} {h:H}
abbrev M:=Nat->Option (Nat×Nat×Nat)
mutual
def VR (m:M):V->Value->Prop
 | .int k n,x=>x= .int k n
 | .bool b,x=>x= .bool b
 | .ptr id o,x=> ∃p,m id=some p/\x= .pointer (some ⟨p.1,p.2.1+o,none⟩)
 | .nilp,x=>x= .pointer none
 | .sl id o len cap,x=> ∃p c o',m id=some p/\x= .slice (some ⟨p.1,p.2.1+o',none⟩) len c/\len<=c/\(0<len->o'=o)/\
   (match cap with| .kn k=>c=k/\o'=o| .un e=>p.2.1+o'+c*e<=p.2.2)
 | .aE,x=>x= .slice none 0 0
 | .emp a,x=>x= .slice (some a) 0 0
 | .str l,x=>x= .string ⟨(l.map UInt8.ofNat).toArray⟩
 | .ifc t v,x=> ∃y,x= .iface t y/\VR m v y
 | .mp id,x=> ∃p,m id=some p/\x= .map (some p.1)
 | .nilm,x=>x= .map none
 | .fn f fs cs,x=> ∃xs ys,x= .func (.func f) xs ys/\gZ m fs xs.toList/\gZ m cs ys.toList
 | .yl id,x=> ∃p,m id=some p/\x= .func (.yield p.1) #[] #[]
 | .nilf,x=>x= .nilFunc
 | .agg vs,x=> ∃xs,x= .agg xs/\gZ m vs xs.toList
 | .tup vs,x=> ∃xs,x= .tuple xs/\gZ m vs xs.toList
 | .unk,_=>True
def gZ (m:M):List V->List Value->Prop
 | [], []=>True
 |v::vs,x::xs=>VR m v x/\gZ m vs xs
 |_,_=>False
end
def Ext (m m':M):Prop:= ∀id p,m id=some p->m' id=some p
theorem Ext.refl (m:M):Ext m m:=λ_ _ h=>h
theorem Ext.trans {a b c:M}(h:Ext a b)(k:Ext b c):Ext a c:=λ_ _ x=>k _ _ (h _ _ x)
mutual
theorem VR.mono {m f:M}(e:Ext m f): ∀(v:V) (x:Value),VR m v x->VR f v x
 | .int ..,_,h=>by simpa [VR] using h
 | .bool _,_,h=>by simpa [VR] using h
 | .ptr ..,_,h=>by obtain⟨p,d,b⟩:=h;exact⟨p,e _ _ d,b⟩
 | .nilp,_,h=>by simpa [VR] using h
 | .sl _ _ _ _,_,h=>by obtain⟨p,c,g,d,b⟩:=h;exact⟨p,c,g,e _ _ d,b⟩
 | .aE,_,h=>by simpa [VR] using h
 | .emp _,_,h=>by simpa [VR] using h
 | .str _,_,h=>by simpa [VR] using h
 | .ifc _ v,_,h=>by obtain⟨y,d,b⟩:=h;exact⟨y,d,VR.mono e v _ b⟩
 | .mp _,_,h=>by obtain⟨p,d,b⟩:=h;exact⟨p,e _ _ d,b⟩
 | .nilm,_,h=>by simpa [VR] using h
 | .fn _ fs cs,_,h=>by obtain⟨xs,j,d,b,i⟩:=h;exact⟨xs,j,d,gZ.mono e fs _ b,gZ.mono e cs _ i⟩
 | .yl _,_,h=>by obtain⟨p,d,b⟩:=h;exact⟨p,e _ _ d,b⟩
 | .nilf,_,h=>by simpa [VR] using h
 | .agg vs,_,h=>by obtain⟨xs,d,b⟩:=h;exact⟨xs,d,gZ.mono e vs _ b⟩
 | .tup vs,_,h=>by obtain⟨xs,d,b⟩:=h;exact⟨xs,d,gZ.mono e vs _ b⟩
 | .unk,_,_=>by simp [VR]
theorem gZ.mono {m b:M}(e:Ext m b): ∀(vs:List V) (xs:List Value),gZ m vs xs->gZ b vs xs
 | [], [],_=>trivial
 |v::vs,x::xs,h=>⟨VR.mono e v x h.1,gZ.mono e vs xs h.2⟩
 | [],_::_,h=>h.elim
 |_::_, [],h=>h.elim
end
theorem gZ.length {m:M}: ∀{vs:List V} {xs:List Value},gZ m vs xs->vs.length=xs.length
 | [], [],_=>rfl
 |_::vs,_::xs,h=>by simp [gZ.length h.2]
 | [],_::_,h=>h.elim
 |_::_, [],h=>h.elim
theorem gZ.get {m:M}: ∀{vs:List V} {xs:List Value},gZ m vs xs-> ∀{i:Nat} {v:V},vs[i]? =some v-> ∃x,xs[i]? =some x/\VR m v x
 | [], [],_,i,v,h=>by simp at h
 |v::vs,x::xs,h,0,u,hu=>by simp at hu;subst hu;exact⟨x,rfl,h.1⟩
 |v::vs,x::xs,h,i+1,u,hu=>by simpa using gZ.get h.2 (by simpa using hu)
 | [],_::_,h,_,_,_=>h.elim
 |_::_, [],h,_,_,_=>h.elim
theorem gZ.mQ {m:M}: ∀{vs:List V} {xs:List Value},vs.length=xs.length->(∀(i:Nat) (v:V),vs[i]? =some v-> ∃x,xs[i]? =some x/\VR m v x)->gZ m vs xs
 | [], [],_,_=>trivial
 |v::vs,x::xs,hl,h=>by
  refine⟨?_,gZ.mQ (by simpa using hl) (λi u e=>by simpa using h (i+1) u (by simpa using e))⟩;obtain⟨y,b,d⟩:=h 0 v rfl;simp at b;subst b;exact d
 | [],_::_,hl,_=>by simp at hl
 |_::_, [],hl,_=>by simp at hl
theorem gZ.append {m:M}{b:List V}{d:List Value}(h:gZ m a c)(k:gZ m b d):gZ m (a++b) (c++d):=by
 induction a generalizing c with
 |nil=>cases c with
  |nil=>exact k
  |cons _ _=>exact h.elim
 |cons x xs ih=>cases c with
  |nil=>exact h.elim
  |cons _ _=>exact⟨h.1,ih h.2⟩
theorem gZ.take {m:M}(h:gZ m a c)(n:Nat):gZ m (a.take n) (c.take n):=by
 induction n generalizing a c with
 |zero=>exact trivial
 |succ n ih=>
  cases a<;>cases c<;>first|exact trivial|exact h.elim|exact⟨h.1,ih h.2⟩
theorem gZ.drop {m:M}(h:gZ m a c)(n:Nat):gZ m (a.drop n) (c.drop n):=by
 induction n generalizing a c with
 |zero=>exact h
 |succ n ih=>
  cases a<;>cases c<;>first|exact trivial|exact h.elim|exact ih h.2
theorem VR.undef (m:M):VR m V.undef undef:=⟨#[],rfl,trivial⟩
theorem VR.one {m:M}(h:VR m v x)(b:v.one=true):x.oneCell'=true:=by
 cases v with
 |int|bool|nilp|aE|emp|nilm|nilf|str=>simp [VR] at h;subst h;rfl
 |ifc=>obtain⟨y,rfl,_⟩:=h;rfl
 |ptr|mp|yl=>obtain⟨p,_,rfl⟩:=h;rfl
 |sl=>obtain⟨p,c,d,_,rfl,_⟩:=h;rfl
 |fn=>obtain⟨_,_,rfl,_⟩:=h;rfl
 |agg|tup|unk=>simp [V.one] at b
theorem VR.cells {m:M}(h:VR m v x)(j:v.cells.all V.one=true):gZ m v.cells x.cells.toList:=by
 cases v with
 |unk=>simp [V.cells,V.one] at j
 |agg vs=>obtain⟨xs,rfl,g⟩:=h;exact g
 |int=>simp [VR] at h;subst h;exact⟨rfl,trivial⟩
 |bool=>simp [VR] at h;subst h;exact⟨rfl,trivial⟩
 |nilp=>simp [VR] at h;subst h;exact⟨rfl,trivial⟩
 |aE=>simp [VR] at h;subst h;exact⟨rfl,trivial⟩
 |emp=>simp [VR] at h;subst h;exact⟨rfl,trivial⟩
 |str=>simp [VR] at h;subst h;exact⟨rfl,trivial⟩
 |ifc=>obtain⟨y,rfl,i⟩:=h;exact⟨⟨y,rfl,i⟩,trivial⟩
 |nilm=>simp [VR] at h;subst h;exact⟨rfl,trivial⟩
 |nilf=>simp [VR] at h;subst h;exact⟨rfl,trivial⟩
 |ptr|mp|yl=>obtain⟨p,e,rfl⟩:=h;exact⟨⟨p,e,rfl⟩,trivial⟩
 |sl=>obtain⟨p,c,f,e,rfl,d⟩:=h;exact⟨⟨p,c,f,e,rfl,d⟩,trivial⟩
 |fn=>obtain⟨a,b,rfl,d⟩:=h;exact⟨⟨a,b,rfl,d⟩,trivial⟩
 |tup=>obtain⟨a,rfl,d⟩:=h;exact⟨⟨a,rfl,d⟩,trivial⟩
structure jM (m:M)(nt:Nat)(pv:List Nat)(vars:List V)(tmps:Array Value):Prop where
 size:tmps.size=nt
 len:vars.length=pv.length
 lt: ∀s∈pv,s<nt
 val: ∀s k,idx s pv=some k->VR m (vars.getD k .undef) (tmps.getD s undef)
structure xZ (m:M)(pv defs:List Nat)(loc:List V)(tmps:Array Value):Prop where
 apart: ∀s k,idx s defs=some k->idx s pv=none
 val: ∀s k,idx s defs=some k->VR m (loc.getD k .undef) (tmps.getD s undef)
theorem xZ.nil (m:M)(pv:List Nat)(tmps:Array Value):xZ m pv [] [] tmps:=
 ⟨λ_ _ h=>by simp [idx] at h,λ_ _ h=>by simp [idx] at h⟩
theorem jM.mono {m b:M}(e:Ext m b)(h:jM m nt pv vars tmps):jM b nt pv vars tmps:=
 ⟨h.size,h.len,h.lt,λs k d=>VR.mono e _ _ (h.val s k d)⟩
theorem xZ.mono {m b:M}(e:Ext m b)(h:xZ m pv defs loc tmps):xZ b pv defs loc tmps:=
 ⟨h.apart,λs k d=>VR.mono e _ _ (h.val s k d)⟩
theorem GM {s t k:Nat}: ∀{l:List Nat},idx s l=some k->idx t l=some k->s=t
 | [],h,_=>by simp [idx] at h
 |a::l,h,h'=>by
  simp only[idx] at h h'
  by_cases d:a=s
  ·by_cases b:a=t
   ·exact d.symm.trans b
   ·simp [d] at h;subst h;simp [b] at h'
  ·by_cases b:a=t
   ·simp [b] at h';subst h';simp [d] at h
   ·simp [d] at h;simp [b] at h'
    obtain⟨e,g,rfl⟩:=h;obtain⟨i,f,j⟩:=h';have:e=i:=om
    subst this;exact GM g f
theorem Mx {s k:Nat}: ∀{l:List Nat},idx s l=some k->k<l.length
 | [],h=>by simp [idx] at h
 |a::l,h=>by
  simp only[idx] at h
  by_cases b:a=s
  ·simp [b] at h;subst h;simp
  ·simp [b] at h
   obtain⟨e,d,rfl⟩:=h;have:=Mx d;simp;omega
theorem GB {s k:Nat}: ∀{l:List Nat},idx s l=some k->s∈l
 | [],h=>by simp [idx] at h
 |a::l,h=>by
  simp only[idx] at h
  by_cases b:a=s
  ·simp [b]
  ·simp [b] at h
   obtain⟨e,d,rfl⟩:=h;exact Cu _ (GB d)
theorem yO {a:Array Value}{d:Value}(h:t<a.size):(a.setIfInBounds t x).getD t d=x:=by
 simp [Array.getD,h]
theorem qS {a:Array Value}{d:Value}(h:t≠s):(a.setIfInBounds t x).getD s d=a.getD s d:=by
 simp only[ND];rw[Array.getElem?_setIfInBounds_ne h]
theorem jM.set {m:M}(h:jM m nt pv vars tmps)(b:idx t pv=some k)
    (l:VR m v x):jM m nt pv (vars.set k v) (tmps.setIfInBounds t x):=by
 have f:t<tmps.size:=by rw[h.size];exact h.lt t (GB b)
 refine⟨by simpa using h.size,by simpa using h.len,h.lt,λs j d=>?_⟩
 by_cases iP:s=t
 ·subst iP
  have:j=k:=by rw[b] at d;exact (Option.some.inj d).symm
  subst this
  have i:j<vars.length:=by rw[h.len];exact Mx b
  rw[yO f]
  simp [List.getD,i]
  exact l
 ·have g:j≠k:=λe=>iP (GM (e▸d) b)
  rw[qS (Ne.symm iP)]
  have:=h.val s j d
  simpa [List.getD,List.getElem?_set_ne (Ne.symm g)] using this
theorem xZ.afF {m:M}(h:xZ m pv defs loc tmps)(b:idx t pv=some k)(x:Value):
  xZ m pv defs loc (tmps.setIfInBounds t x):=by
 refine⟨h.apart,λs j d=>?_⟩
 have:t≠s:=λe=>by subst e;rw[h.apart t j d] at b;cases b
 rw[qS this]
 exact h.val s j d
theorem jM.adS {m:M}(h:jM m nt pv vars tmps)(b:idx t pv=none)(x:Value):
  jM m nt pv vars (tmps.setIfInBounds t x):=by
 refine⟨by simpa using h.size,h.len,h.lt,λs j d=>?_⟩
 have:t≠s:=λe=>by subst e;rw[d] at b;cases b
 rw[qS this]
 exact h.val s j d
theorem xZ.push {m:M}{nt:Nat}(h:xZ m pv defs loc tmps)(i:idx t pv=none)(g:t<tmps.size)
    (l:VR m v x):xZ m pv (t::defs) (v::loc) (tmps.setIfInBounds t x):=by
 have _:=nt
 refine⟨λs j d=>?_,λs j d=>?_⟩
 ·simp only[idx] at d
  by_cases b:t=s
  ·subst b;exact i
  ·simp [b] at d
   obtain⟨f,e,rfl⟩:=d
   exact h.apart s f e
 ·simp only[idx] at d
  by_cases b:t=s
  ·subst b
   simp at d;subst d
   rw[yO g]
   exact l
  ·simp [b] at d
   obtain⟨f,e,rfl⟩:=d
   rw[qS b]
   exact h.val s f e
def Ob.rw:Ob->Bool
 | .cells ro _=>!ro
 |_=>true
def TS:E->Option Code
 | .norm=>none
 | .ret=>some .ret
 | .exit n=>some (.exit n)
def ahC:LSt->LoopState
 | .ready=> .ready
 | .busy=> .busy
 | .done=> .done
 | .out=> .exhausted
structure CV (P:Program)(m:M)(r:eH)(q:Loop):Prop where
 vars: ∃nt pv,jM m nt pv r.vars q.tmps/\jL P nt pv q.assign=some r.assign/\jL P nt pv q.body=some r.body/\
  cH (q.params.toList.map λt=>idx t pv)=some r.pars
 st:q.state=ahC r.st
 pend:q.pending=r.pend.bind TS
 nn:r.pend≠some .norm
def OR (P:Program)(m:M)(o:Ob)(p:Nat×Nat×Nat)(w:World):Prop:=
 match o with
 | .cells ro vs=> ∃c elem fr,w.heap[p.1]? =some (.cells c elem fr)/\c.size=p.2.2/\p.2.1+vs.length<=p.2.2/\
   (∀(i:Nat) (v:V),vs[i]? =some v->v.one=true/\ ∃x,c[p.2.1+i]? =some x/\VR m v x)/\(ro=false->fr=(0,0))
 | .map es=> ∃es' clock,w.heap[p.1]? =some (.map es' clock)/\es.length=es'.size/\
   ∀(i:Nat) (k v:V),es[i]? =some (k,v)-> ∃e:MapEntry,es'[i]? =some e/\VR m k e.key/\VR m v e.val
 | .wmap sh es=>(∀(i j:Nat) (a b:V×V),es[i]? =some a->es[j]? =some b->dE a.1 b.1=true->i=j)/\ ∃es' clock,w.heap[p.1]? =some (.map es' clock)/\es.length=es'.size/\clock=es'.size/\
   ∀(i:Nat) (k v:V),es[i]? =some (k,v)->isKey sh k=true/\ ∃e:MapEntry,es'[i]? =some e/\e.born=i/\VR m k e.key/\VR m v e.val
 | .loop r=> ∃q,w.heap[p.1]? =some (.loop q)/\CV P m r q
theorem CV.mono {m b:M}{r:eH}{q:Loop}(e:Ext m b)(h:CV P m r q):CV P b r q:=by
 obtain⟨⟨nt,pv,f,i⟩,g,j,d⟩:=h;exact⟨⟨nt,pv,f.mono e,i⟩,g,j,d⟩
theorem OR.mono {m B:M}{o:Ob}(e:Ext m B)(z:w'.heap[p.1]? =w.heap[p.1]?)(h:OR P m o p w):OR P B o p w':=by
 cases o with
 |cells ro vs=>
  obtain⟨c,el,fr,l,j,u,A,F⟩:=h;exact⟨c,el,fr,z.trans l,j,u,λi v y=>let ⟨a,x,b,c⟩:=A i v y;⟨a,x,b,VR.mono e _ _ c⟩,F⟩
 |map es=>
  obtain⟨n,f,l,j,u⟩:=h;exact⟨n,f,z.trans l,j,λi k v y=>let ⟨x,a,b,c⟩:=u i k v y;⟨x,a,VR.mono e _ _ b,VR.mono e _ _ c⟩⟩
 |wmap sh es=>
  obtain⟨G,n,f,l,j,u,A⟩:=h;exact⟨G,n,f,z.trans l,j,u,λi k v y=>let ⟨g,x,a,b,c,d⟩:=A i k v y;⟨g,x,a,b,VR.mono e _ _ c,VR.mono e _ _ d⟩⟩
 |loop r=>
  obtain⟨q,l,j⟩:=h;exact⟨q,z.trans l,j.mono e⟩
theorem OR.lt {m:M}{o:Ob}(h:OR P m o p w):p.1<w.heap.size:=by
 cases o with
 |cells ro vs=>obtain⟨c,el,fr,b,_⟩:=h;exact (AS.1 b).1
 |map es=>obtain⟨c,el,b,_⟩:=h;exact (AS.1 b).1
 |wmap sh es=>obtain⟨_,c,el,b,_⟩:=h;exact (AS.1 b).1
 |loop r=>obtain⟨q,b,_⟩:=h;exact (AS.1 b).1
structure HR (P:Program)(m:M)(h:H)(w:World):Prop where
 live: ∀id o,h.get id=some o-> ∃p,m id=some p/\OR P m o p w
 inj: ∀i j oi oj pi pj,i≠j->h.get i=some oi->h.get j=some oj->oi.rw=true->m i=some pi->m j=some pj->pi.1≠pj.1
def gK (m:M)(n:Nat):Prop:=m n=none
def Qk (m:M)(n:Nat):Prop:= ∀id,n<=id->m id=none
theorem Qk.fresh {m:M}{n:Nat}(h:Qk m n):gK m n:=h n (fM _)
def LB (m:M)(h:H)(b:Nat):Prop:= ∃id o p,h.get id=some o/\m id=some p/\p.1=b
def FP (m:M)(h:H)(b:Nat):Prop:= ∃id o p,h.get id=some o/\o.rw=true/\m id=some p/\p.1=b
structure Kept (m:M)(h:H)(w w':World):Prop where
 os:w'.os=w.os
 tape:w'.tape=w.tape
 output:w'.output=w.output
 size:w.heap.size<=w'.heap.size
 block: ∀b,b<w.heap.size-> ¬FP m h b->w'.heap[b]? =w.heap[b]?
structure iO (P:Program)(m:M)(h:H)(w:World)(m':M)(h':H)(w':World):Prop where
 ext:Ext m m'
 rel:HR P m' h' w'
 fresh: ∀id p,m' id=some p->m id=some p∨(h.next<=id/\id<h'.next)
 kept:Kept m h w w'
 fp: ∀b,FP m' h' b->FP m h b∨w.heap.size<=b
 next:h.next<=h'.next
 lb: ∀b,LB m' h' b->LB m h b∨w.heap.size<=b
 old: ∀id,id<h.next->h.get id=none->h'.get id=none
theorem iO.low {m:M}{d:M}{h':H}(a:iO P m h w d h' w')(l:Qk m h.next):Qk d h'.next:=λid e=>by
 cases hm:d id with
 |none=>rfl
 |some p=>
  exfalso;have f:=a.next;rcases a.fresh id p hm with b|⟨_,b⟩
  ·rw[l id om] at b;cases b
  ·omega
theorem iO.Rn {m:M}(b:HR P m h w):iO P m h w m h w:=
 ⟨Ext.refl m,b,λ_ _ h=> .inl h,⟨rfl,rfl,rfl,fM _,λ_ _ _=>rfl⟩,λ_ h=> .inl h,fM _,λ_ h=> .inl h,λ_ _ h=>h⟩
theorem iO.refl {m:M}(b:HR P m h w)(_:gK m h.next):iO P m h w m h w:=iO.Rn b
theorem iO.trans {m r f:M}{h' e:H}{i:World}(a:iO P m h w r h' w')(b:iO P r h' w' f e i):iO P m h w f e i where
 ext:=a.ext.trans b.ext
 rel:=b.rel
 fresh:=λid p z=>by
  have u:=a.next;have q:=b.next;rcases b.fresh id p z with l|l
  ·rcases a.fresh id p l with n|n
   ·exact .inl n
   ·exact .inr ⟨n.1,om⟩
  ·exact .inr ⟨om,l.2⟩
 kept:={
  os:=b.kept.os.trans a.kept.os
  tape:=b.kept.tape.trans a.kept.tape
  output:=b.kept.output.trans a.kept.output
  size:=mT a.kept.size b.kept.size
  block:=λx d j=>by
   have u:=a.kept.block x d j;have q:=b.kept.block x (iW d a.kept.size) (λo=>(a.fp x o).elim j (λy=>om))
   exact q.trans u}
 fp:=λx d=>(b.fp x d).elim (λh=>a.fp x h) (λh=> .inr (mT a.kept.size h))
 next:=mT a.next b.next
 lb:=λx d=>(b.lb x d).elim (λh=>a.lb x h) (λh=> .inr (mT a.kept.size h))
 old:=λid g j=>b.old id (iW g a.next) (a.old id g j)
theorem iO.drawn {P:Program}{m:M}{h:H}{w:World}(d:HR P m h w)(_:gK m h.next)(n:Nat):iO P m h w m h {w with drawn:=n}:=
 ⟨Ext.refl m,⟨λid o e=>let ⟨p,a,b⟩:=d.live id o e;⟨p,a,OR.mono (w:=w) (Ext.refl m) rfl b⟩,d.inj⟩,λ_ _ h=> .inl h,⟨rfl,rfl,rfl,fM _,λ_ _ _=>rfl⟩,λ_ h=> .inl h,fM _,λ_ h=> .inl h,λ_ _ h=>h⟩
def M.set (m:M)(id:Nat)(p:Nat×Nat×Nat):M:=λi=>if i=id then some p else m i
theorem Ext.set {m:M}(h:m id=none):Ext m (m.set id p):=λi q b=>by
 unfold M.set;split
 ·rename_i e;subst e;rw[h] at b;cases b
 ·exact b
theorem iO.new {m:M}(N:HR P m h w)(hf:gK m h.next)(o:Ob)(c:Obj)(q:Nat×Nat)
  (ho: ∀m',Ext m m'->m' h.next=some (w.heap.size,q)->OR P m' o (w.heap.size,q) (w.alloc c)):
  iO P m h w (m.set h.next (w.heap.size,q)) (h.new o) (w.alloc c):=by
 have hn:m h.next=none:=hf
 have Q:Ext m (m.set h.next (w.heap.size,q)):=Ext.set hn
 have g:(m.set h.next (w.heap.size,q)) h.next=some (w.heap.size,q):=by simp [M.set]
 have l: ∀id y,(h.new o).get id=some y->(id=h.next/\y=o)∨(id≠h.next/\h.get id=some y):=λid y f=>by
  simp only[H.kF,H.aU] at f
  by_cases hi:id=h.next
  ·simp [hi] at f;exact .inl ⟨hi,f.symm⟩
  ·simp [hi] at f;exact .inr ⟨hi,f⟩
 have d: ∀id,id≠h.next->(m.set h.next (w.heap.size,q)) id=m id:=λid hi=>by simp [M.set,hi]
 refine⟨Q,⟨λid y f=>?_,λi j U O pi Y K hi J W A r=>?_⟩,?_,⟨rfl,rfl,rfl,by simp,λb L _=>heap_alloc_old w c _ L⟩,λb L=>?_,by simp [H.kF,H.aU],λb L=>?_,λid f R=>by
  simp only[H.kF,H.aU]
  rw[bI om];exact R⟩
 ·rcases l id y f with ⟨rfl,rfl⟩|⟨n,f⟩
  ·exact⟨_,g,ho _ Q g⟩
  ·obtain⟨p,B,u⟩:=N.live id y f
   exact⟨p,by rw[d id n];exact B,OR.mono Q (heap_alloc_old w c _ u.lt) u⟩
 ·rcases l i U hi with ⟨rfl,rfl⟩|⟨n,hi⟩
  ·rcases l j O J with ⟨rfl,rfl⟩|⟨z,J⟩
   ·exact absurd rfl K
   ·rw[g] at A;cases A
    rw[d j z] at r
    obtain⟨p,B,u⟩:=N.live j O J
    rw[r] at B;cases B
    have:=u.lt
    exact Nat.ne_of_gt this
  ·rw[d i n] at A
   obtain⟨p,B,u⟩:=N.live i U hi
   rw[A] at B;cases B
   rcases l j O J with ⟨rfl,rfl⟩|⟨z,J⟩
   ·rw[g] at r;cases r
    exact Nat.ne_of_lt u.lt
   ·rw[d j z] at r
    exact N.inj i j U O pi Y K hi J W A r
 ·intro id p B
  by_cases e:id=h.next
  ·subst e;exact .inr ⟨fM _,by simp [H.kF,H.aU]⟩
  ·rw[d id e] at B;exact .inl B
 ·obtain⟨id,y,p,G,Z,F,rfl⟩:=L
  rcases l id y G with ⟨rfl,rfl⟩|⟨n,G⟩
  ·rw[g] at F;cases F;exact .inr (fM _)
  ·rw[d id n] at F
   exact .inl ⟨id,y,p,G,Z,F,rfl⟩
 ·obtain⟨id,y,p,G,F,rfl⟩:=L
  rcases l id y G with ⟨rfl,rfl⟩|⟨n,G⟩
  ·rw[g] at F;cases F;exact .inr (fM _)
  ·rw[d id n] at F
   exact .inl ⟨id,y,p,G,F,rfl⟩
theorem iO.put {m:M}(L:HR P m h w)(_:gK m h.next){o A:Ob}
  (g:h.get id=some o) (r:o.rw=true) (a4:A.rw=true) (y:m id=some p) (ho:OR P m A p w')
  (h1:w'.os=w.os) (h2:w'.tape=w.tape) (h3:w'.output=w.output) (h4:w'.heap.size=w.heap.size) (h5: ∀b,b≠p.1->w'.heap[b]? =w.heap[b]?):
  iO P m h w m (h.set id (some A)) w':=by
 have d: ∀i f,(h.set id (some A)).get i=some f->(i=id/\f=A)∨(i≠id/\h.get i=some f):=λi f hi=>by
  simp only[H.jB,H.bY] at hi
  by_cases e:i=id
  ·simp [e] at hi;exact .inl ⟨e,hi.symm⟩
  ·simp [e] at hi;exact .inr ⟨e,hi⟩
 have a0: ∀b,FP m (h.set id (some A)) b->FP m h b:=λb J=>by
  obtain⟨i,f,q,G,a2,z,rfl⟩:=J;rcases d i f G with ⟨rfl,rfl⟩|⟨_,G⟩
  ·rw[y] at z;cases z;exact⟨i,o,_,g,r,y,rfl⟩
  ·exact⟨i,f,q,G,a2,z,rfl⟩
 have W: ∀b,LB m (h.set id (some A)) b->LB m h b:=λb J=>by
  obtain⟨i,f,q,G,z,rfl⟩:=J;rcases d i f G with ⟨rfl,rfl⟩|⟨_,G⟩
  ·rw[y] at z;cases z;exact⟨i,o,_,g,y,rfl⟩
  ·exact⟨i,f,q,G,z,rfl⟩
 refine⟨Ext.refl m,⟨λi f hi=>?_,λi j f R Z U n hi hj Q B u=>?_⟩,λ_ _ h=> .inl h,⟨h1,h2,h3,om,λb _ O=>h5 b (λe=>O ⟨id,o,p,g,r,y,e.symm⟩)⟩,λb J=> .inl (a0 b J),fM _,λb J=> .inl (W b J),λi _ O=>by
  simp only[H.jB,H.bY];split
  ·rename_i e;subst e;rw[g] at O;cases O
  ·exact O⟩
 ·rcases d i f hi with ⟨rfl,rfl⟩|⟨K,l⟩
  ·exact⟨p,y,ho⟩
  ·obtain⟨q,hq,Y⟩:=L.live i f l
   refine⟨q,hq,OR.mono (Ext.refl m) (h5 q.1 ?_) Y⟩
   exact (L.inj id i o f p q (Ne.symm K) g l r y hq).symm
 ·rcases d i f hi with ⟨rfl,rfl⟩|⟨K,l⟩
  ·rcases d j R hj with ⟨rfl,rfl⟩|⟨N,F⟩
   ·exact absurd rfl n
   ·exact L.inj i j o R Z U n g F r B u
  ·rcases d j R hj with ⟨rfl,rfl⟩|⟨N,F⟩
   ·exact L.inj i j f o Z U n l g Q B u
   ·exact L.inj i j f R Z U n l F Q B u
theorem iO.ahW {m:M}(R:HR P m h w)(hf:gK m h.next){o U:Ob}{q:Nat×Nat×Nat}
  (u:h.get id=some o) (A:o.rw=true) (a7:U.rw=true) (F:m id=some p) (Z:q.1=p.1) (ho: ∀m',Ext m m'->OR P m' U q w')
  (h1:w'.os=w.os) (h2:w'.tape=w.tape) (h3:w'.output=w.output) (h4:w'.heap.size=w.heap.size) (h5: ∀b,b≠p.1->w'.heap[b]? =w.heap[b]?):
  iO P m h w (m.set h.next q) ((h.set id none).new U) w':=by
 have hn:m h.next=none:=hf
 have he:Ext m (m.set h.next q):=Ext.set hn
 have G:id≠h.next:=λe=>by subst e;rw[hn] at F;cases F
 have d: ∀i,i≠h.next->(m.set h.next q) i=m i:=λi hi=>by simp [M.set,hi]
 have l:(m.set h.next q) h.next=some q:=by simp [M.set]
 have f: ∀i g,((h.set id none).new U).get i=some g->(i=h.next/\g=U)∨(i≠h.next/\i≠id/\h.get i=some g):=λi g hi=>by
  simp only[H.jB,H.bY,H.kF,H.aU] at hi
  by_cases e:i=h.next
  ·simp [e] at hi;exact .inl ⟨e,hi.symm⟩
  ·by_cases e':i=id
   ·simp [e',G] at hi
   ·simp [e,e'] at hi;exact .inr ⟨e,e',hi⟩
 refine⟨he,⟨λi g hi=>?_,λi j g oj pi pj O hi hj a5 y n=>?_⟩,?_,⟨h1,h2,h3,om,λb _ a6=>h5 b (λe=>a6 ⟨id,o,p,u,A,F,e.symm⟩)⟩,λb hb=>?_,by simp [H.kF,H.aU,H.jB,H.bY],λb hb=>?_,λi W a0=>by
  have e:i≠h.next:=Nat.ne_of_lt W
  by_cases J:i=id
  ·simp [H.kF,H.aU,H.jB,H.bY,J,G]
  ·simp [H.kF,H.aU,H.jB,H.bY,e,J,a0]⟩
 ·rcases f i g hi with ⟨rfl,rfl⟩|⟨N,J,z⟩
  ·exact⟨q,l,ho _ he⟩
  ·obtain⟨r,Y,a4⟩:=R.live i g z
   refine⟨r,by rw[d i N];exact Y,OR.mono he (h5 r.1 ?_) a4⟩
   exact (R.inj id i o g p r (Ne.symm J) u z A F Y).symm
 ·rcases f i g hi with ⟨rfl,rfl⟩|⟨N,J,z⟩
  ·rcases f j oj hj with ⟨rfl,rfl⟩|⟨e3,e4,K⟩
   ·exact absurd rfl O
   ·rw[l] at y;cases y
    rw[d j e3] at n
    rw[Z]
    exact R.inj id j o oj p pj (Ne.symm e4) u K A F n
  ·rw[d i N] at y
   rcases f j oj hj with ⟨rfl,rfl⟩|⟨e3,e4,K⟩
   ·rw[l] at n;cases n
    rw[Z]
    exact (R.inj id i o g p pi (Ne.symm J) u z A F y).symm
   ·rw[d j e3] at n
    exact R.inj i j g oj pi pj O z K a5 y n
 ·intro i p Q
  by_cases e:i=h.next
  ·subst e;exact .inr ⟨fM _,by simp [H.kF,H.aU,H.jB,H.bY]⟩
  ·rw[d i e] at Q;exact .inl Q
 ·obtain⟨i,g,r,L,a2,B,rfl⟩:=hb
  rcases f i g L with ⟨rfl,rfl⟩|⟨N,J,L⟩
  ·rw[l] at B;cases B;exact .inl ⟨id,o,p,u,A,F,Z.symm⟩
  ·rw[d i N] at B;exact .inl ⟨i,g,r,L,a2,B,rfl⟩
 ·obtain⟨i,g,r,L,B,rfl⟩:=hb
  rcases f i g L with ⟨rfl,rfl⟩|⟨N,J,L⟩
  ·rw[l] at B;cases B;exact .inl ⟨id,o,p,u,F,Z.symm⟩
  ·rw[d i N] at B;exact .inl ⟨i,g,r,L,B,rfl⟩
end
end Go.Ay
