/- The relation between the abstract machine's states and the model's worlds, and how it moves. -/
import Derived.Test.YtcdbmkidaecdiaaGreatAy2
import Derived.RangeFuncLeaves
import Derived.RangeFuncRecord
import Derived.Laws.AppendOwn
import Derived.OwnWalkIn
namespace Go.Ay
section
variable {a vars loc:List V} {c:List Value} {v:V} {x:Value} {nt s t k id:Nat} {pv defs:List Nat} {tmps:Array Value} {P:Program} {p:Nat×Nat×Nat} {w w':World} {h:H}
abbrev M:=Nat->Option (Nat×Nat×Nat)
mutual
def VR (m:M):V->Value->Prop
 | .int k n,x=>x= .int k n
 | .bool b,x=>x= .bool b
 | .ptr id o,x=> ∃p,m id=some p/\x= .pointer (some ⟨p.1,p.2.1+o,none⟩)
 | .nilp,x=>x= .pointer none
 | .sl id o len cap,x=> ∃p c o',m id=some p/\x= .slice (some ⟨p.1,p.2.1+o',none⟩) len c/\len<=c/\(0<len->o'=o)/\
   (match cap with| .kn k=>c=k/\o'=o| .un e=>p.2.1+o'+c*e<=p.2.2)
 | .aE,x=>x= .slice none 0 0
 | .emp a,x=>x= .slice (some a) 0 0
 | .str l,x=>x= .string ⟨(l.map UInt8.ofNat).toArray⟩
 | .ifc t v,x=> ∃y,x= .iface t y/\VR m v y
 | .mp id,x=> ∃p,m id=some p/\x= .map (some p.1)
 | .nilm,x=>x= .map none
 | .fn f fs cs,x=> ∃xs ys,x= .func (.func f) xs ys/\gZ m fs xs.toList/\gZ m cs ys.toList
 | .yl id,x=> ∃p,m id=some p/\x= .func (.yield p.1) #[] #[]
 | .nilf,x=>x= .nilFunc
 | .agg vs,x=> ∃xs,x= .agg xs/\gZ m vs xs.toList
 | .tup vs,x=> ∃xs,x= .tuple xs/\gZ m vs xs.toList
 | .unk,_=>True
def gZ (m:M):List V->List Value->Prop
 | [], []=>True
 |v::vs,x::xs=>VR m v x/\gZ m vs xs
 |_,_=>False
end
def Ext (m m':M):Prop:= ∀id p,m id=some p->m' id=some p
theorem Ext.refl (m:M):Ext m m:=λ_ _ h=>h
theorem Ext.trans {a b c:M}(h:Ext a b)(k:Ext b c):Ext a c:=λ_ _ x=>k _ _ (h _ _ x)
mutual
theorem VR.mono {m f:M}(e:Ext m f): ∀(v:V) (x:Value),VR m v x->VR f v x
 | .int ..,_,h=>by simpa [VR] using h
 | .bool _,_,h=>by simpa [VR] using h
 | .ptr ..,_,h=>by obtain⟨p,d,b⟩:=h;exact⟨p,e _ _ d,b⟩
 | .nilp,_,h=>by simpa [VR] using h
 | .sl _ _ _ _,_,h=>by obtain⟨p,c,j,d,b⟩:=h;exact⟨p,c,j,e _ _ d,b⟩
 | .aE,_,h=>by simpa [VR] using h
 | .emp _,_,h=>by simpa [VR] using h
 | .str _,_,h=>by simpa [VR] using h
 | .ifc _ v,_,h=>by obtain⟨y,d,b⟩:=h;exact⟨y,d,VR.mono e v _ b⟩
 | .mp _,_,h=>by obtain⟨p,d,b⟩:=h;exact⟨p,e _ _ d,b⟩
 | .nilm,_,h=>by simpa [VR] using h
 | .fn _ fs cs,_,h=>by obtain⟨xs,l,d,b,i⟩:=h;exact⟨xs,l,d,gZ.mono e fs _ b,gZ.mono e cs _ i⟩
 | .yl _,_,h=>by obtain⟨p,d,b⟩:=h;exact⟨p,e _ _ d,b⟩
 | .nilf,_,h=>by simpa [VR] using h
 | .agg vs,_,h=>by obtain⟨xs,d,b⟩:=h;exact⟨xs,d,gZ.mono e vs _ b⟩
 | .tup vs,_,h=>by obtain⟨xs,d,b⟩:=h;exact⟨xs,d,gZ.mono e vs _ b⟩
 | .unk,_,_=>by simp [VR]
theorem gZ.mono {m b:M}(e:Ext m b): ∀(vs:List V) (xs:List Value),gZ m vs xs->gZ b vs xs
 | [], [],_=>trivial
 |v::vs,x::xs,h=>⟨VR.mono e v x h.1,gZ.mono e vs xs h.2⟩
 | [],_::_,h=>h.elim
 |_::_, [],h=>h.elim
end
theorem gZ.length {m:M}: ∀{vs:List V} {xs:List Value},gZ m vs xs->vs.length=xs.length
 | [], [],_=>rfl
 |_::vs,_::xs,h=>by simp [gZ.length h.2]
 | [],_::_,h=>h.elim
 |_::_, [],h=>h.elim
theorem gZ.get {m:M}: ∀{vs:List V} {xs:List Value},gZ m vs xs-> ∀{i:Nat} {v:V},vs[i]? =some v-> ∃x,xs[i]? =some x/\VR m v x
 | [], [],_,i,v,h=>by simp at h
 |v::vs,x::xs,h,0,u,hu=>by simp at hu;subst hu;exact⟨x,rfl,h.1⟩
 |v::vs,x::xs,h,i+1,u,hu=>by simpa using gZ.get h.2 (by simpa using hu)
 | [],_::_,h,_,_,_=>h.elim
 |_::_, [],h,_,_,_=>h.elim
theorem gZ.mQ {m:M}: ∀{vs:List V} {xs:List Value},vs.length=xs.length->(∀(i:Nat) (v:V),vs[i]? =some v-> ∃x,xs[i]? =some x/\VR m v x)->gZ m vs xs
 | [], [],_,_=>trivial
 |v::vs,x::xs,hl,h=>by
  refine⟨?_,gZ.mQ (by simpa using hl) (λi u d=>by simpa using h (i+1) u (by simpa using d))⟩;obtain⟨y,b,f⟩:=h 0 v rfl;simp at b;subst b;exact f
 | [],_::_,hl,_=>by simp at hl
 |_::_, [],hl,_=>by simp at hl
theorem gZ.append {m:M}{b:List V}{d:List Value}(h:gZ m a c)(k:gZ m b d):gZ m (a++b) (c++d):=by
 induction a generalizing c with
 |nil=>cases c with
  |nil=>exact k
  |cons _ _=>exact h.elim
 |cons x xs ih=>cases c with
  |nil=>exact h.elim
  |cons _ _=>exact⟨h.1,ih h.2⟩
theorem gZ.take {m:M}(h:gZ m a c)(n:Nat):gZ m (a.take n) (c.take n):=by
 induction n generalizing a c with
 |zero=>exact trivial
 |succ n ih=>
  cases a<;>cases c<;>first|exact trivial|exact h.elim|exact⟨h.1,ih h.2⟩
theorem gZ.drop {m:M}(h:gZ m a c)(n:Nat):gZ m (a.drop n) (c.drop n):=by
 induction n generalizing a c with
 |zero=>exact h
 |succ n ih=>
  cases a<;>cases c<;>first|exact trivial|exact h.elim|exact ih h.2
theorem VR.undef (m:M):VR m V.undef undef:=⟨#[],rfl,trivial⟩
theorem VR.one {m:M}(h:VR m v x)(b:v.one=true):x.oneCell'=true:=by
 cases v with
 |int|bool|nilp|aE|emp|nilm|nilf|str=>simp [VR] at h;subst h;rfl
 |ifc=>obtain⟨y,rfl,_⟩:=h;rfl
 |ptr|mp|yl=>obtain⟨p,_,rfl⟩:=h;rfl
 |sl=>obtain⟨p,c,d,_,rfl,_⟩:=h;rfl
 |fn=>obtain⟨_,_,rfl,_⟩:=h;rfl
 |agg|tup|unk=>simp [V.one] at b
theorem VR.cells {m:M}(h:VR m v x)(n:v.cells.all V.one=true):gZ m v.cells x.cells.toList:=by
 cases v with
 |unk=>simp [V.cells,V.one] at n
 |agg vs=>obtain⟨xs,rfl,j⟩:=h;exact j
 |int=>simp [VR] at h;subst h;exact⟨rfl,trivial⟩
 |bool=>simp [VR] at h;subst h;exact⟨rfl,trivial⟩
 |nilp=>simp [VR] at h;subst h;exact⟨rfl,trivial⟩
 |aE=>simp [VR] at h;subst h;exact⟨rfl,trivial⟩
 |emp=>simp [VR] at h;subst h;exact⟨rfl,trivial⟩
 |str=>simp [VR] at h;subst h;exact⟨rfl,trivial⟩
 |ifc=>obtain⟨y,rfl,i⟩:=h;exact⟨⟨y,rfl,i⟩,trivial⟩
 |nilm=>simp [VR] at h;subst h;exact⟨rfl,trivial⟩
 |nilf=>simp [VR] at h;subst h;exact⟨rfl,trivial⟩
 |ptr|mp|yl=>obtain⟨p,f,rfl⟩:=h;exact⟨⟨p,f,rfl⟩,trivial⟩
 |sl=>obtain⟨p,c,l,f,rfl,d⟩:=h;exact⟨⟨p,c,l,f,rfl,d⟩,trivial⟩
 |fn=>obtain⟨a,b,rfl,d⟩:=h;exact⟨⟨a,b,rfl,d⟩,trivial⟩
 |tup=>obtain⟨a,rfl,d⟩:=h;exact⟨⟨a,rfl,d⟩,trivial⟩
structure jM (m:M)(nt:Nat)(pv:List Nat)(vars:List V)(tmps:Array Value):Prop where
 size:tmps.size=nt
 len:vars.length=pv.length
 lt: ∀s∈pv,s<nt
 val: ∀s k,idx s pv=some k->VR m (vars.getD k .undef) (tmps.getD s undef)
structure xZ (m:M)(pv defs:List Nat)(loc:List V)(tmps:Array Value):Prop where
 apart: ∀s k,idx s defs=some k->idx s pv=none
 val: ∀s k,idx s defs=some k->VR m (loc.getD k .undef) (tmps.getD s undef)
theorem xZ.nil (m:M)(pv:List Nat)(tmps:Array Value):xZ m pv [] [] tmps:=
 ⟨λ_ _ h=>by simp [idx] at h,λ_ _ h=>by simp [idx] at h⟩
theorem jM.mono {m b:M}(e:Ext m b)(h:jM m nt pv vars tmps):jM b nt pv vars tmps:=
 ⟨h.size,h.len,h.lt,λs k d=>VR.mono e _ _ (h.val s k d)⟩
theorem xZ.mono {m b:M}(e:Ext m b)(h:xZ m pv defs loc tmps):xZ b pv defs loc tmps:=
 ⟨h.apart,λs k d=>VR.mono e _ _ (h.val s k d)⟩
theorem GM {s t k:Nat}: ∀{l:List Nat},idx s l=some k->idx t l=some k->s=t
 | [],h,_=>by simp [idx] at h
 |a::l,h,h'=>by
  simp only[idx] at h h'
  by_cases d:a=s
  ·by_cases b:a=t
   ·exact d.symm.trans b
   ·simp [d] at h;subst h;simp [b] at h'
  ·by_cases b:a=t
   ·simp [b] at h';subst h';simp [d] at h
   ·simp [d] at h;simp [b] at h'
    obtain⟨j,f,rfl⟩:=h;obtain⟨m,i,n⟩:=h';have:j=m:=om
    subst this;exact GM f i
theorem Mx {s k:Nat}: ∀{l:List Nat},idx s l=some k->k<l.length
 | [],h=>by simp [idx] at h
 |a::l,h=>by
  simp only[idx] at h
  by_cases b:a=s
  ·simp [b] at h;subst h;simp
  ·simp [b] at h
   obtain⟨f,d,rfl⟩:=h;have:=Mx d;simp;omega
theorem GB {s k:Nat}: ∀{l:List Nat},idx s l=some k->s∈l
 | [],h=>by simp [idx] at h
 |a::l,h=>by
  simp only[idx] at h
  by_cases b:a=s
  ·simp [b]
  ·simp [b] at h
   obtain⟨f,d,rfl⟩:=h;exact Cu _ (GB d)
theorem aiQ {a:Array Value}{d:Value}(h:t<a.size):(a.setIfInBounds t x).getD t d=x:=by
 simp [Array.getD,h]
theorem qS {a:Array Value}{d:Value}(h:t≠s):(a.setIfInBounds t x).getD s d=a.getD s d:=by
 simp only[ND];rw[Array.getElem?_setIfInBounds_ne h]
theorem jM.set {m:M}(h:jM m nt pv vars tmps)(b:idx t pv=some k)
    (l:VR m v x):jM m nt pv (vars.set k v) (tmps.setIfInBounds t x):=by
 have i:t<tmps.size:=by rw[h.size];exact h.lt t (GB b)
 refine⟨by simpa using h.size,by simpa using h.len,h.lt,λs j d=>?_⟩
 by_cases iP:s=t
 ·subst iP
  have:j=k:=by rw[b] at d;exact (Option.some.inj d).symm
  subst this
  have n:j<vars.length:=by rw[h.len];exact Mx b
  rw[aiQ i]
  simp [List.getD,n]
  exact l
 ·have f:j≠k:=λe=>iP (GM (e▸d) b)
  rw[qS (Ne.symm iP)]
  have:=h.val s j d
  simpa [List.getD,List.getElem?_set_ne (Ne.symm f)] using this
theorem xZ.afF {m:M}(h:xZ m pv defs loc tmps)(b:idx t pv=some k)(x:Value):
  xZ m pv defs loc (tmps.setIfInBounds t x):=by
 refine⟨h.apart,λs j d=>?_⟩
 have:t≠s:=λe=>by subst e;rw[h.apart t j d] at b;cases b
 rw[qS this]
 exact h.val s j d
theorem jM.adS {m:M}(h:jM m nt pv vars tmps)(b:idx t pv=none)(x:Value):
  jM m nt pv vars (tmps.setIfInBounds t x):=by
 refine⟨by simpa using h.size,h.len,h.lt,λs j d=>?_⟩
 have:t≠s:=λe=>by subst e;rw[d] at b;cases b
 rw[qS this]
 exact h.val s j d
theorem xZ.push {m:M}{nt:Nat}(h:xZ m pv defs loc tmps)(o:idx t pv=none)(l:t<tmps.size)
    (n:VR m v x):xZ m pv (t::defs) (v::loc) (tmps.setIfInBounds t x):=by
 have _:=nt
 refine⟨λs j d=>?_,λs j d=>?_⟩
 ·simp only[idx] at d
  by_cases b:t=s
  ·subst b;exact o
  ·simp [b] at d
   obtain⟨i,f,rfl⟩:=d
   exact h.apart s i f
 ·simp only[idx] at d
  by_cases b:t=s
  ·subst b
   simp at d;subst d
   rw[aiQ l]
   exact n
  ·simp [b] at d
   obtain⟨i,f,rfl⟩:=d
   rw[qS b]
   exact h.val s i f
def Ob.rw:Ob->Bool
 | .cells ro _=>!ro
 |_=>true
def TS:E->Option Code
 | .norm=>none
 | .ret=>some .ret
 | .exit n=>some (.exit n)
def ahC:LSt->LoopState
 | .ready=> .ready
 | .busy=> .busy
 | .done=> .done
 | .out=> .exhausted
structure CV (P:Program)(m:M)(r:eH)(q:Loop):Prop where
 vars: ∃nt pv,jM m nt pv r.vars q.tmps/\jL P nt pv q.assign=some r.assign/\jL P nt pv q.body=some r.body/\
  cH (q.params.toList.map λt=>idx t pv)=some r.pars
 st:q.state=ahC r.st
 pend:q.pending=r.pend.bind TS
 nn:r.pend≠some .norm
def OR (P:Program)(m:M)(o:Ob)(p:Nat×Nat×Nat)(w:World):Prop:=
 match o with
 | .cells ro vs=> ∃c elem fr,w.heap[p.1]? =some (.cells c elem fr)/\c.size=p.2.2/\p.2.1+vs.length<=p.2.2/\
   (∀(i:Nat) (v:V),vs[i]? =some v->v.one=true/\ ∃x,c[p.2.1+i]? =some x/\VR m v x)/\(ro=false->fr=(0,0))
 | .map es=> ∃es' clock,w.heap[p.1]? =some (.map es' clock)/\es.length=es'.size/\
   ∀(i:Nat) (k v:V),es[i]? =some (k,v)-> ∃e:MapEntry,es'[i]? =some e/\VR m k e.key/\VR m v e.val
 | .wmap sh es=>(∀(i j:Nat) (a b:V×V),es[i]? =some a->es[j]? =some b->dE a.1 b.1=true->i=j)/\ ∃es' clock,w.heap[p.1]? =some (.map es' clock)/\es.length=es'.size/\clock=es'.size/\
   ∀(i:Nat) (k v:V),es[i]? =some (k,v)->isKey sh k=true/\ ∃e:MapEntry,es'[i]? =some e/\e.born=i/\VR m k e.key/\VR m v e.val
 | .loop r=> ∃q,w.heap[p.1]? =some (.loop q)/\CV P m r q
theorem CV.mono {m b:M}{r:eH}{q:Loop}(e:Ext m b)(h:CV P m r q):CV P b r q:=by
 obtain⟨⟨nt,pv,l,d⟩,j,f,i⟩:=h;exact⟨⟨nt,pv,l.mono e,d⟩,j,f,i⟩
theorem OR.mono {m B:M}{o:Ob}(e:Ext m B)(z:w'.heap[p.1]? =w.heap[p.1]?)(h:OR P m o p w):OR P B o p w':=by
 cases o with
 |cells ro vs=>
  obtain⟨c,el,fr,n,j,y,A,G⟩:=h;exact⟨c,el,fr,z.trans n,j,y,λi v u=>let ⟨a,x,b,c⟩:=A i v u;⟨a,x,b,VR.mono e _ _ c⟩,G⟩
 |map es=>
  obtain⟨l,f,n,j,y⟩:=h;exact⟨l,f,z.trans n,j,λi k v u=>let ⟨x,a,b,c⟩:=y i k v u;⟨x,a,VR.mono e _ _ b,VR.mono e _ _ c⟩⟩
 |wmap sh es=>
  obtain⟨F,l,f,n,j,y,A⟩:=h;exact⟨F,l,f,z.trans n,j,y,λi k v u=>let ⟨g,x,a,b,c,d⟩:=A i k v u;⟨g,x,a,b,VR.mono e _ _ c,VR.mono e _ _ d⟩⟩
 |loop r=>
  obtain⟨q,n,j⟩:=h;exact⟨q,z.trans n,j.mono e⟩
theorem OR.lt {m:M}{o:Ob}(h:OR P m o p w):p.1<w.heap.size:=by
 cases o with
 |cells ro vs=>obtain⟨c,el,fr,b,_⟩:=h;exact (AS.1 b).1
 |map es=>obtain⟨c,el,b,_⟩:=h;exact (AS.1 b).1
 |wmap sh es=>obtain⟨_,c,el,b,_⟩:=h;exact (AS.1 b).1
 |loop r=>obtain⟨q,b,_⟩:=h;exact (AS.1 b).1
structure HR (P:Program)(m:M)(h:H)(w:World):Prop where
 live: ∀id o,h.get id=some o-> ∃p,m id=some p/\OR P m o p w
 inj: ∀i j oi oj pi pj,i≠j->h.get i=some oi->h.get j=some oj->oi.rw=true->m i=some pi->m j=some pj->pi.1≠pj.1
def Al (m:M)(n:Nat):Prop:=m n=none
def Qk (m:M)(n:Nat):Prop:= ∀id,n<=id->m id=none
theorem Qk.fresh {m:M}{n:Nat}(h:Qk m n):Al m n:=h n (fM _)
def LB (m:M)(h:H)(b:Nat):Prop:= ∃id o p,h.get id=some o/\m id=some p/\p.1=b
def FP (m:M)(h:H)(b:Nat):Prop:= ∃id o p,h.get id=some o/\o.rw=true/\m id=some p/\p.1=b
structure Kept (m:M)(h:H)(w w':World):Prop where
 os:w'.os=w.os
 tape:w'.tape=w.tape
 output:w'.output=w.output
 size:w.heap.size<=w'.heap.size
 block: ∀b,b<w.heap.size-> ¬FP m h b->w'.heap[b]? =w.heap[b]?
structure iO (P:Program)(m:M)(h:H)(w:World)(m':M)(h':H)(w':World):Prop where
 ext:Ext m m'
 rel:HR P m' h' w'
 fresh: ∀id p,m' id=some p->m id=some p∨(h.next<=id/\id<h'.next)
 kept:Kept m h w w'
 fp: ∀b,FP m' h' b->FP m h b∨w.heap.size<=b
 next:h.next<=h'.next
 lb: ∀b,LB m' h' b->LB m h b∨w.heap.size<=b
 old: ∀id,id<h.next->h.get id=none->h'.get id=none
theorem iO.low {m:M}{b:M}{h':H}(a:iO P m h w b h' w')(l:Qk m h.next):Qk b h'.next:=λid f=>by
 cases hm:b id with
 |none=>rfl
 |some p=>
  exfalso;have i:=a.next;rcases a.fresh id p hm with d|⟨_,d⟩
  ·rw[l id om] at d;cases d
  ·omega
theorem iO.Rn {m:M}(b:HR P m h w):iO P m h w m h w:=
 ⟨Ext.refl m,b,λ_ _ h=> .inl h,⟨rfl,rfl,rfl,fM _,λ_ _ _=>rfl⟩,λ_ h=> .inl h,fM _,λ_ h=> .inl h,λ_ _ h=>h⟩
theorem iO.refl {m:M}(b:HR P m h w)(_:Al m h.next):iO P m h w m h w:=iO.Rn b
theorem iO.trans {m y j:M}{h' i:H}{f:World}(a:iO P m h w y h' w')(b:iO P y h' w' j i f):iO P m h w j i f where
 ext:=a.ext.trans b.ext
 rel:=b.rel
 fresh:=λid p A=>by
  have z:=a.next;have u:=b.next;rcases b.fresh id p A with r|r
  ·rcases a.fresh id p r with o|o
   ·exact .inl o
   ·exact .inr ⟨o.1,om⟩
  ·exact .inr ⟨om,r.2⟩
 kept:={
  os:=b.kept.os.trans a.kept.os
  tape:=b.kept.tape.trans a.kept.tape
  output:=b.kept.output.trans a.kept.output
  size:=mT a.kept.size b.kept.size
  block:=λx d n=>by
   have z:=a.kept.block x d n;have u:=b.kept.block x (iW d a.kept.size) (λq=>(a.fp x q).elim n (λB=>om))
   exact u.trans z}
 fp:=λx d=>(b.fp x d).elim (λh=>a.fp x h) (λh=> .inr (mT a.kept.size h))
 next:=mT a.next b.next
 lb:=λx d=>(b.lb x d).elim (λh=>a.lb x h) (λh=> .inr (mT a.kept.size h))
 old:=λid l n=>b.old id (iW l a.next) (a.old id l n)
theorem iO.drawn {P:Program}{m:M}{h:H}{w:World}(d:HR P m h w)(_:Al m h.next)(n:Nat):iO P m h w m h {w with drawn:=n}:=
 ⟨Ext.refl m,⟨λid o f=>let ⟨p,a,b⟩:=d.live id o f;⟨p,a,OR.mono (w:=w) (Ext.refl m) rfl b⟩,d.inj⟩,λ_ _ h=> .inl h,⟨rfl,rfl,rfl,fM _,λ_ _ _=>rfl⟩,λ_ h=> .inl h,fM _,λ_ h=> .inl h,λ_ _ h=>h⟩
def M.set (m:M)(id:Nat)(p:Nat×Nat×Nat):M:=λi=>if i=id then some p else m i
theorem Ext.set {m:M}(h:m id=none):Ext m (m.set id p):=λi q b=>by
 unfold M.set;split
 ·rename_i e;subst e;rw[h] at b;cases b
 ·exact b
theorem iO.new {m:M}(Q:HR P m h w)(hf:Al m h.next)(o:Ob)(c:Obj)(q:Nat×Nat)
  (ho: ∀m',Ext m m'->m' h.next=some (w.heap.size,q)->OR P m' o (w.heap.size,q) (w.alloc c)):
  iO P m h w (m.set h.next (w.heap.size,q)) (h.new o) (w.alloc c):=by
 have hn:m h.next=none:=hf
 have U:Ext m (m.set h.next (w.heap.size,q)):=Ext.set hn
 have l:(m.set h.next (w.heap.size,q)) h.next=some (w.heap.size,q):=by simp [M.set]
 have n: ∀id y,(h.new o).get id=some y->(id=h.next/\y=o)∨(id≠h.next/\h.get id=some y):=λid y f=>by
  simp only[H.kF,H.aU] at f
  by_cases hi:id=h.next
  ·simp [hi] at f;exact .inl ⟨hi,f.symm⟩
  ·simp [hi] at f;exact .inr ⟨hi,f⟩
 have d: ∀id,id≠h.next->(m.set h.next (w.heap.size,q)) id=m id:=λid hi=>by simp [M.set,hi]
 refine⟨U,⟨λid y f=>?_,λi j Y O pi pj N hi K W A z=>?_⟩,?_,⟨rfl,rfl,rfl,by simp,λb L _=>heap_alloc_old w c _ L⟩,λb L=>?_,by simp [H.kF,H.aU],λb L=>?_,λid f R=>by
  simp only[H.kF,H.aU]
  rw[bI om];exact R⟩
 ·rcases n id y f with ⟨rfl,rfl⟩|⟨r,f⟩
  ·exact⟨_,l,ho _ U l⟩
  ·obtain⟨p,F,u⟩:=Q.live id y f
   exact⟨p,by rw[d id r];exact F,OR.mono U (heap_alloc_old w c _ u.lt) u⟩
 ·rcases n i Y hi with ⟨rfl,rfl⟩|⟨r,hi⟩
  ·rcases n j O K with ⟨rfl,rfl⟩|⟨B,K⟩
   ·exact absurd rfl N
   ·rw[l] at A;cases A
    rw[d j B] at z
    obtain⟨p,F,u⟩:=Q.live j O K
    rw[z] at F;cases F
    have:=u.lt
    exact Nat.ne_of_gt this
  ·rw[d i r] at A
   obtain⟨p,F,u⟩:=Q.live i Y hi
   rw[A] at F;cases F
   rcases n j O K with ⟨rfl,rfl⟩|⟨B,K⟩
   ·rw[l] at z;cases z
    exact Nat.ne_of_lt u.lt
   ·rw[d j B] at z
    exact Q.inj i j Y O pi pj N hi K W A z
 ·intro id p F
  by_cases e:id=h.next
  ·subst e;exact .inr ⟨fM _,by simp [H.kF,H.aU]⟩
  ·rw[d id e] at F;exact .inl F
 ·obtain⟨id,y,p,J,Z,G,rfl⟩:=L
  rcases n id y J with ⟨rfl,rfl⟩|⟨r,J⟩
  ·rw[l] at G;cases G;exact .inr (fM _)
  ·rw[d id r] at G
   exact .inl ⟨id,y,p,J,Z,G,rfl⟩
 ·obtain⟨id,y,p,J,G,rfl⟩:=L
  rcases n id y J with ⟨rfl,rfl⟩|⟨r,J⟩
  ·rw[l] at G;cases G;exact .inr (fM _)
  ·rw[d id r] at G
   exact .inl ⟨id,y,p,J,G,rfl⟩
theorem iO.put {m:M}(R:HR P m h w)(_:Al m h.next){o F:Ob}
  (l:h.get id=some o) (r:o.rw=true) (a4:F.rw=true) (G:m id=some p) (ho:OR P m F p w')
  (h1:w'.os=w.os) (h2:w'.tape=w.tape) (h3:w'.output=w.output) (h4:w'.heap.size=w.heap.size) (h5: ∀b,b≠p.1->w'.heap[b]? =w.heap[b]?):
  iO P m h w m (h.set id (some F)) w':=by
 have d: ∀i f,(h.set id (some F)).get i=some f->(i=id/\f=F)∨(i≠id/\h.get i=some f):=λi f hi=>by
  simp only[H.jB,H.bY] at hi
  by_cases e:i=id
  ·simp [e] at hi;exact .inl ⟨e,hi.symm⟩
  ·simp [e] at hi;exact .inr ⟨e,hi⟩
 have W: ∀b,FP m (h.set id (some F)) b->FP m h b:=λb B=>by
  obtain⟨i,f,q,y,a2,J,rfl⟩:=B;rcases d i f y with ⟨rfl,rfl⟩|⟨_,y⟩
  ·rw[G] at J;cases J;exact⟨i,o,_,l,r,G,rfl⟩
  ·exact⟨i,f,q,y,a2,J,rfl⟩
 have a0: ∀b,LB m (h.set id (some F)) b->LB m h b:=λb B=>by
  obtain⟨i,f,q,y,J,rfl⟩:=B;rcases d i f y with ⟨rfl,rfl⟩|⟨_,y⟩
  ·rw[G] at J;cases J;exact⟨i,o,_,l,G,rfl⟩
  ·exact⟨i,f,q,y,J,rfl⟩
 refine⟨Ext.refl m,⟨λi f hi=>?_,λi j f U Y pj u hi hj Q A K=>?_⟩,λ_ _ h=> .inl h,⟨h1,h2,h3,om,λb _ L=>h5 b (λe=>L ⟨id,o,p,l,r,G,e.symm⟩)⟩,λb B=> .inl (W b B),fM _,λb B=> .inl (a0 b B),λi _ L=>by
  simp only[H.jB,H.bY];split
  ·rename_i e;subst e;rw[l] at L;cases L
  ·exact L⟩
 ·rcases d i f hi with ⟨rfl,rfl⟩|⟨N,n⟩
  ·exact⟨p,G,ho⟩
  ·obtain⟨q,hq,Z⟩:=R.live i f n
   refine⟨q,hq,OR.mono (Ext.refl m) (h5 q.1 ?_) Z⟩
   exact (R.inj id i o f p q (Ne.symm N) l n r G hq).symm
 ·rcases d i f hi with ⟨rfl,rfl⟩|⟨N,n⟩
  ·rcases d j U hj with ⟨rfl,rfl⟩|⟨O,z⟩
   ·exact absurd rfl u
   ·exact R.inj i j o U Y pj u l z r A K
  ·rcases d j U hj with ⟨rfl,rfl⟩|⟨O,z⟩
   ·exact R.inj i j f o Y pj u n l Q A K
   ·exact R.inj i j f U Y pj u n z Q A K
theorem iO.ahW {m:M}(Z:HR P m h w)(hf:Al m h.next){o U:Ob}{q:Nat×Nat×Nat}
  (u:h.get id=some o) (z:o.rw=true) (a7:U.rw=true) (K:m id=some p) (hq:q.1=p.1) (ho: ∀m',Ext m m'->OR P m' U q w')
  (h1:w'.os=w.os) (h2:w'.tape=w.tape) (h3:w'.output=w.output) (h4:w'.heap.size=w.heap.size) (h5: ∀b,b≠p.1->w'.heap[b]? =w.heap[b]?):
  iO P m h w (m.set h.next q) ((h.set id none).new U) w':=by
 have hn:m h.next=none:=hf
 have he:Ext m (m.set h.next q):=Ext.set hn
 have J:id≠h.next:=λe=>by subst e;rw[hn] at K;cases K
 have d: ∀i,i≠h.next->(m.set h.next q) i=m i:=λi hi=>by simp [M.set,hi]
 have n:(m.set h.next q) h.next=some q:=by simp [M.set]
 have f: ∀i l,((h.set id none).new U).get i=some l->(i=h.next/\l=U)∨(i≠h.next/\i≠id/\h.get i=some l):=λi l hi=>by
  simp only[H.jB,H.bY,H.kF,H.aU] at hi
  by_cases e:i=h.next
  ·simp [e] at hi;exact .inl ⟨e,hi.symm⟩
  ·by_cases e':i=id
   ·simp [e',J] at hi
   ·simp [e,e'] at hi;exact .inr ⟨e,e',hi⟩
 refine⟨he,⟨λi l hi=>?_,λi j l oj pi pj Y hi hj a6 A y=>?_⟩,?_,⟨h1,h2,h3,om,λb _ a0=>h5 b (λe=>a0 ⟨id,o,p,u,z,K,e.symm⟩)⟩,λb hb=>?_,by simp [H.kF,H.aU,H.jB,H.bY],λb hb=>?_,λi R a4=>by
  have e:i≠h.next:=Nat.ne_of_lt R
  by_cases G:i=id
  ·simp [H.kF,H.aU,H.jB,H.bY,G,J]
  ·simp [H.kF,H.aU,H.jB,H.bY,e,G,a4]⟩
 ·rcases f i l hi with ⟨rfl,rfl⟩|⟨O,G,B⟩
  ·exact⟨q,n,ho _ he⟩
  ·obtain⟨r,Q,a5⟩:=Z.live i l B
   refine⟨r,by rw[d i O];exact Q,OR.mono he (h5 r.1 ?_) a5⟩
   exact (Z.inj id i o l p r (Ne.symm G) u B z K Q).symm
 ·rcases f i l hi with ⟨rfl,rfl⟩|⟨O,G,B⟩
  ·rcases f j oj hj with ⟨rfl,rfl⟩|⟨e3,e4,N⟩
   ·exact absurd rfl Y
   ·rw[n] at A;cases A
    rw[d j e3] at y
    rw[hq]
    exact Z.inj id j o oj p pj (Ne.symm e4) u N z K y
  ·rw[d i O] at A
   rcases f j oj hj with ⟨rfl,rfl⟩|⟨e3,e4,N⟩
   ·rw[n] at y;cases y
    rw[hq]
    exact (Z.inj id i o l p pi (Ne.symm G) u B z K A).symm
   ·rw[d j e3] at y
    exact Z.inj i j l oj pi pj Y B N a6 A y
 ·intro i p W
  by_cases e:i=h.next
  ·subst e;exact .inr ⟨fM _,by simp [H.kF,H.aU,H.jB,H.bY]⟩
  ·rw[d i e] at W;exact .inl W
 ·obtain⟨i,l,r,L,a2,F,rfl⟩:=hb
  rcases f i l L with ⟨rfl,rfl⟩|⟨O,G,L⟩
  ·rw[n] at F;cases F;exact .inl ⟨id,o,p,u,z,K,hq.symm⟩
  ·rw[d i O] at F;exact .inl ⟨i,l,r,L,a2,F,rfl⟩
 ·obtain⟨i,l,r,L,F,rfl⟩:=hb
  rcases f i l L with ⟨rfl,rfl⟩|⟨O,G,L⟩
  ·rw[n] at F;cases F;exact .inl ⟨id,o,p,u,K,hq.symm⟩
  ·rw[d i O] at F;exact .inl ⟨i,l,r,L,F,rfl⟩
end
end Go.Ay
