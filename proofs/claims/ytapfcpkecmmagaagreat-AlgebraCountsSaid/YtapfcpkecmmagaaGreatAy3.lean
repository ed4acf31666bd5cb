/- The relation between the abstract machine's states and the model's worlds, and how it moves. -/
import Derived.Test.YtapfcpkecmmagaaGreatAy2
import Derived.RangeFuncLeaves
import Derived.RangeFuncRecord
import Derived.Laws.AppendOwn
import Derived.OwnWalkIn
namespace Go.Ay
section
variable {a vars loc:List V} {c:List Value} {v:V} {x:Value} {nt s t k id:Nat} {pv defs:List Nat} {tmps:Array Value} {P:Program} {p:Nat×Nat×Nat} {w w':World} {h:H}
abbrev M:=Nat->Option (Nat×Nat×Nat)
mutual
def VR (m:M):V->Value->Prop
 | .int k n,x=>x= .int k n
 | .bool b,x=>x= .bool b
 | .ptr id o,x=> ∃p,m id=some p/\x= .pointer (some ⟨p.1,p.2.1+o,none⟩)
 | .nilp,x=>x= .pointer none
 | .sl id o len cap,x=> ∃p c o',m id=some p/\x= .slice (some ⟨p.1,p.2.1+o',none⟩) len c/\len<=c/\(0<len->o'=o)/\
   (match cap with| .kn k=>c=k/\o'=o| .un e=>p.2.1+o'+c*e<=p.2.2)
 | .aD,x=>x= .slice none 0 0
 | .emp a,x=>x= .slice (some a) 0 0
 | .str l,x=>x= .string ⟨(l.map UInt8.ofNat).toArray⟩
 | .ifc t v,x=> ∃y,x= .iface t y/\VR m v y
 | .mp id,x=> ∃p,m id=some p/\x= .map (some p.1)
 | .nilm,x=>x= .map none
 | .fn f fs cs,x=> ∃xs ys,x= .func (.func f) xs ys/\fL m fs xs.toList/\fL m cs ys.toList
 | .yl id,x=> ∃p,m id=some p/\x= .func (.yield p.1) #[] #[]
 | .nilf,x=>x= .nilFunc
 | .agg vs,x=> ∃xs,x= .agg xs/\fL m vs xs.toList
 | .tup vs,x=> ∃xs,x= .tuple xs/\fL m vs xs.toList
 | .unk,_=>True
def fL (m:M):List V->List Value->Prop
 | [], []=>True
 |v::vs,x::xs=>VR m v x/\fL m vs xs
 |_,_=>False
end
def Ext (m m':M):Prop:= ∀id p,m id=some p->m' id=some p
theorem Ext.refl (m:M):Ext m m:=λ_ _ h=>h
theorem Ext.trans {a b c:M}(h:Ext a b)(k:Ext b c):Ext a c:=λ_ _ x=>k _ _ (h _ _ x)
mutual
theorem VR.mono {m f:M}(e:Ext m f): ∀(v:V) (x:Value),VR m v x->VR f v x
 | .int ..,_,h=>by simpa [VR] using h
 | .bool _,_,h=>by simpa [VR] using h
 | .ptr ..,_,h=>by obtain⟨p,b,d⟩:=h;exact⟨p,e _ _ b,d⟩
 | .nilp,_,h=>by simpa [VR] using h
 | .sl _ _ _ _,_,h=>by obtain⟨p,c,i,b,d⟩:=h;exact⟨p,c,i,e _ _ b,d⟩
 | .aD,_,h=>by simpa [VR] using h
 | .emp _,_,h=>by simpa [VR] using h
 | .str _,_,h=>by simpa [VR] using h
 | .ifc _ v,_,h=>by obtain⟨y,b,d⟩:=h;exact⟨y,b,VR.mono e v _ d⟩
 | .mp _,_,h=>by obtain⟨p,b,d⟩:=h;exact⟨p,e _ _ b,d⟩
 | .nilm,_,h=>by simpa [VR] using h
 | .fn _ fs cs,_,h=>by obtain⟨xs,g,b,d,j⟩:=h;exact⟨xs,g,b,fL.mono e fs _ d,fL.mono e cs _ j⟩
 | .yl _,_,h=>by obtain⟨p,b,d⟩:=h;exact⟨p,e _ _ b,d⟩
 | .nilf,_,h=>by simpa [VR] using h
 | .agg vs,_,h=>by obtain⟨xs,b,d⟩:=h;exact⟨xs,b,fL.mono e vs _ d⟩
 | .tup vs,_,h=>by obtain⟨xs,b,d⟩:=h;exact⟨xs,b,fL.mono e vs _ d⟩
 | .unk,_,_=>by simp [VR]
theorem fL.mono {m b:M}(e:Ext m b): ∀(vs:List V) (xs:List Value),fL m vs xs->fL b vs xs
 | [], [],_=>trivial
 |v::vs,x::xs,h=>⟨VR.mono e v x h.1,fL.mono e vs xs h.2⟩
 | [],_::_,h=>h.elim
 |_::_, [],h=>h.elim
end
theorem fL.length {m:M}: ∀{vs:List V} {xs:List Value},fL m vs xs->vs.length=xs.length
 | [], [],_=>rfl
 |_::vs,_::xs,h=>by simp [fL.length h.2]
 | [],_::_,h=>h.elim
 |_::_, [],h=>h.elim
theorem fL.get {m:M}: ∀{vs:List V} {xs:List Value},fL m vs xs-> ∀{i:Nat} {v:V},vs[i]? =some v-> ∃x,xs[i]? =some x/\VR m v x
 | [], [],_,i,v,h=>by simp at h
 |v::vs,x::xs,h,0,u,hu=>by simp at hu;subst hu;exact⟨x,rfl,h.1⟩
 |v::vs,x::xs,h,i+1,u,hu=>by simpa using fL.get h.2 (by simpa using hu)
 | [],_::_,h,_,_,_=>h.elim
 |_::_, [],h,_,_,_=>h.elim
theorem fL.iC {m:M}: ∀{vs:List V} {xs:List Value},vs.length=xs.length->(∀(i:Nat) (v:V),vs[i]? =some v-> ∃x,xs[i]? =some x/\VR m v x)->fL m vs xs
 | [], [],_,_=>trivial
 |v::vs,x::xs,hl,h=>by
  refine⟨?_,fL.iC (by simpa using hl) (λi u d=>by simpa using h (i+1) u (by simpa using d))⟩;obtain⟨y,b,e⟩:=h 0 v rfl;simp at b;subst b;exact e
 | [],_::_,hl,_=>by simp at hl
 |_::_, [],hl,_=>by simp at hl
theorem fL.append {m:M}{b:List V}{d:List Value}(h:fL m a c)(k:fL m b d):fL m (a++b) (c++d):=by
 induction a generalizing c with
 |nil=>cases c with
  |nil=>exact k
  |cons _ _=>exact h.elim
 |cons x xs ih=>cases c with
  |nil=>exact h.elim
  |cons _ _=>exact⟨h.1,ih h.2⟩
theorem fL.take {m:M}(h:fL m a c)(n:Nat):fL m (a.take n) (c.take n):=by
 induction n generalizing a c with
 |zero=>exact trivial
 |succ n ih=>
  cases a<;>cases c<;>first|exact trivial|exact h.elim|exact⟨h.1,ih h.2⟩
theorem fL.drop {m:M}(h:fL m a c)(n:Nat):fL m (a.drop n) (c.drop n):=by
 induction n generalizing a c with
 |zero=>exact h
 |succ n ih=>
  cases a<;>cases c<;>first|exact trivial|exact h.elim|exact ih h.2
theorem VR.undef (m:M):VR m V.undef undef:=⟨#[],rfl,trivial⟩
theorem VR.one {m:M}(h:VR m v x)(b:v.one=true):x.oneCell'=true:=by
 cases v with
 |int|bool|nilp|aD|emp|nilm|nilf|str=>simp [VR] at h;subst h;rfl
 |ifc=>obtain⟨y,rfl,_⟩:=h;rfl
 |ptr|mp|yl=>obtain⟨p,_,rfl⟩:=h;rfl
 |sl=>obtain⟨p,c,d,_,rfl,_⟩:=h;rfl
 |fn=>obtain⟨_,_,rfl,_⟩:=h;rfl
 |agg|tup|unk=>simp [V.one] at b
theorem VR.cells {m:M}(h:VR m v x)(g:v.cells.all V.one=true):fL m v.cells x.cells.toList:=by
 cases v with
 |unk=>simp [V.cells,V.one] at g
 |agg vs=>obtain⟨xs,rfl,i⟩:=h;exact i
 |int=>simp [VR] at h;subst h;exact⟨rfl,trivial⟩
 |bool=>simp [VR] at h;subst h;exact⟨rfl,trivial⟩
 |nilp=>simp [VR] at h;subst h;exact⟨rfl,trivial⟩
 |aD=>simp [VR] at h;subst h;exact⟨rfl,trivial⟩
 |emp=>simp [VR] at h;subst h;exact⟨rfl,trivial⟩
 |str=>simp [VR] at h;subst h;exact⟨rfl,trivial⟩
 |ifc=>obtain⟨y,rfl,f⟩:=h;exact⟨⟨y,rfl,f⟩,trivial⟩
 |nilm=>simp [VR] at h;subst h;exact⟨rfl,trivial⟩
 |nilf=>simp [VR] at h;subst h;exact⟨rfl,trivial⟩
 |ptr|mp|yl=>obtain⟨p,e,rfl⟩:=h;exact⟨⟨p,e,rfl⟩,trivial⟩
 |sl=>obtain⟨p,c,j,e,rfl,d⟩:=h;exact⟨⟨p,c,j,e,rfl,d⟩,trivial⟩
 |fn=>obtain⟨a,b,rfl,d⟩:=h;exact⟨⟨a,b,rfl,d⟩,trivial⟩
 |tup=>obtain⟨a,rfl,d⟩:=h;exact⟨⟨a,rfl,d⟩,trivial⟩
structure iG (m:M)(nt:Nat)(pv:List Nat)(vars:List V)(tmps:Array Value):Prop where
 size:tmps.size=nt
 len:vars.length=pv.length
 lt: ∀s∈pv,s<nt
 val: ∀s k,idx s pv=some k->VR m (vars.getD k .undef) (tmps.getD s undef)
structure qK (m:M)(pv defs:List Nat)(loc:List V)(tmps:Array Value):Prop where
 apart: ∀s k,idx s defs=some k->idx s pv=none
 val: ∀s k,idx s defs=some k->VR m (loc.getD k .undef) (tmps.getD s undef)
theorem qK.nil (m:M)(pv:List Nat)(tmps:Array Value):qK m pv [] [] tmps:=
 ⟨λ_ _ h=>by simp [idx] at h,λ_ _ h=>by simp [idx] at h⟩
theorem iG.mono {m b:M}(e:Ext m b)(h:iG m nt pv vars tmps):iG b nt pv vars tmps:=
 ⟨h.size,h.len,h.lt,λs k d=>VR.mono e _ _ (h.val s k d)⟩
theorem qK.mono {m b:M}(e:Ext m b)(h:qK m pv defs loc tmps):qK b pv defs loc tmps:=
 ⟨h.apart,λs k d=>VR.mono e _ _ (h.val s k d)⟩
theorem Pb {s t k:Nat}: ∀{l:List Nat},idx s l=some k->idx t l=some k->s=t
 | [],h,_=>by simp [idx] at h
 |a::l,h,h'=>by
  simp only[idx] at h h'
  by_cases d:a=s
  ·by_cases b:a=t
   ·exact d.symm.trans b
   ·simp [d] at h;subst h;simp [b] at h'
  ·by_cases b:a=t
   ·simp [b] at h';subst h';simp [d] at h
   ·simp [d] at h;simp [b] at h'
    obtain⟨g,f,rfl⟩:=h;obtain⟨i,e,j⟩:=h';have:g=i:=om
    subst this;exact Pb f e
theorem Bc {s k:Nat}: ∀{l:List Nat},idx s l=some k->k<l.length
 | [],h=>by simp [idx] at h
 |a::l,h=>by
  simp only[idx] at h
  by_cases b:a=s
  ·simp [b] at h;subst h;simp
  ·simp [b] at h
   obtain⟨e,d,rfl⟩:=h;have:=Bc d;simp;omega
theorem Nm {s k:Nat}: ∀{l:List Nat},idx s l=some k->s∈l
 | [],h=>by simp [idx] at h
 |a::l,h=>by
  simp only[idx] at h
  by_cases b:a=s
  ·simp [b]
  ·simp [b] at h
   obtain⟨e,d,rfl⟩:=h;exact xS _ (Nm d)
theorem qM {a:Array Value}{d:Value}(h:t<a.size):(a.setIfInBounds t x).getD t d=x:=by
 simp [Array.getD,h]
theorem lP {a:Array Value}{d:Value}(h:t≠s):(a.setIfInBounds t x).getD s d=a.getD s d:=by
 simp only[Ta];rw[Array.getElem?_setIfInBounds_ne h]
theorem iG.set {m:M}(h:iG m nt pv vars tmps)(d:idx t pv=some k)
    (g:VR m v x):iG m nt pv (vars.set k v) (tmps.setIfInBounds t x):=by
 have e:t<tmps.size:=by rw[h.size];exact h.lt t (Nm d)
 refine⟨by simpa using h.size,by simpa using h.len,h.lt,λs j b=>?_⟩
 by_cases gY:s=t
 ·subst gY
  have:j=k:=by rw[d] at b;exact (Option.some.inj b).symm
  subst this
  have f:j<vars.length:=by rw[h.len];exact Bc d
  rw[qM e]
  simp [List.getD,f]
  exact g
 ·have f:j≠k:=λe=>gY (Pb (e▸b) d)
  rw[lP (Ne.symm gY)]
  have:=h.val s j b
  simpa [List.getD,List.getElem?_set_ne (Ne.symm f)] using this
theorem qK.DE {m:M}(h:qK m pv defs loc tmps)(b:idx t pv=some k)(x:Value):
  qK m pv defs loc (tmps.setIfInBounds t x):=by
 refine⟨h.apart,λs j d=>?_⟩
 have:t≠s:=λe=>by subst e;rw[h.apart t j d] at b;cases b
 rw[lP this]
 exact h.val s j d
theorem iG.EO {m:M}(h:iG m nt pv vars tmps)(b:idx t pv=none)(x:Value):
  iG m nt pv vars (tmps.setIfInBounds t x):=by
 refine⟨by simpa using h.size,h.len,h.lt,λs j d=>?_⟩
 have:t≠s:=λe=>by subst e;rw[d] at b;cases b
 rw[lP this]
 exact h.val s j d
theorem qK.push {m:M}{nt:Nat}(h:qK m pv defs loc tmps)(i:idx t pv=none)(f:t<tmps.size)
    (l:VR m v x):qK m pv (t::defs) (v::loc) (tmps.setIfInBounds t x):=by
 have _:=nt
 refine⟨λs j d=>?_,λs j d=>?_⟩
 ·simp only[idx] at d
  by_cases b:t=s
  ·subst b;exact i
  ·simp [b] at d
   obtain⟨g,e,rfl⟩:=d
   exact h.apart s g e
 ·simp only[idx] at d
  by_cases b:t=s
  ·subst b
   simp at d;subst d
   rw[qM f]
   exact l
  ·simp [b] at d
   obtain⟨g,e,rfl⟩:=d
   rw[lP b]
   exact h.val s g e
def Ob.rw:Ob->Bool
 | .cells ro _=>!ro
 |_=>true
def Wa:E->Option Code
 | .norm=>none
 | .ret=>some .ret
 | .exit n=>some (.exit n)
def FO:HT->LoopState
 | .ready=> .ready
 | .busy=> .busy
 | .done=> .done
 | .out=> .exhausted
structure Lr (P:Program)(m:M)(r:fM)(q:Loop):Prop where
 vars: ∃nt pv,iG m nt pv r.vars q.tmps/\iE P nt pv q.assign=some r.assign/\iE P nt pv q.body=some r.body/\
  cU (q.params.toList.map λt=>idx t pv)=some r.pars
 st:q.state=FO r.st
 pend:q.pending=r.pend.bind Wa
 nn:r.pend≠some .norm
def OR (P:Program)(m:M)(o:Ob)(p:Nat×Nat×Nat)(w:World):Prop:=
 match o with
 | .cells ro vs=> ∃c elem fr,w.heap[p.1]? =some (.cells c elem fr)/\c.size=p.2.2/\p.2.1+vs.length<=p.2.2/\
   (∀(i:Nat) (v:V),vs[i]? =some v->v.one=true/\ ∃x,c[p.2.1+i]? =some x/\VR m v x)/\(ro=false->fr=(0,0))
 | .map es=> ∃es' clock,w.heap[p.1]? =some (.map es' clock)/\es.length=es'.size/\
   ∀(i:Nat) (k v:V),es[i]? =some (k,v)-> ∃e:MapEntry,es'[i]? =some e/\VR m k e.key/\VR m v e.val
 | .wmap sh es=>(∀(i j:Nat) (a b:V×V),es[i]? =some a->es[j]? =some b->dJ a.1 b.1=true->i=j)/\ ∃es' clock,w.heap[p.1]? =some (.map es' clock)/\es.length=es'.size/\clock=es'.size/\
   ∀(i:Nat) (k v:V),es[i]? =some (k,v)->isKey sh k=true/\ ∃e:MapEntry,es'[i]? =some e/\e.born=i/\VR m k e.key/\VR m v e.val
 | .loop r=> ∃q,w.heap[p.1]? =some (.loop q)/\Lr P m r q
theorem Lr.mono {m b:M}{r:fM}{q:Loop}(e:Ext m b)(h:Lr P m r q):Lr P b r q:=by
 obtain⟨⟨nt,pv,f,i⟩,j,d,g⟩:=h;exact⟨⟨nt,pv,f.mono e,i⟩,j,d,g⟩
theorem OR.mono {m B:M}{o:Ob}(e:Ext m B)(z:w'.heap[p.1]? =w.heap[p.1]?)(h:OR P m o p w):OR P B o p w':=by
 cases o with
 |cells ro vs=>
  obtain⟨c,el,fr,j,l,y,A,F⟩:=h;exact⟨c,el,fr,z.trans j,l,y,λi v u=>let ⟨a,x,b,c⟩:=A i v u;⟨a,x,b,VR.mono e _ _ c⟩,F⟩
 |map es=>
  obtain⟨n,f,j,l,y⟩:=h;exact⟨n,f,z.trans j,l,λi k v u=>let ⟨x,a,b,c⟩:=y i k v u;⟨x,a,VR.mono e _ _ b,VR.mono e _ _ c⟩⟩
 |wmap sh es=>
  obtain⟨G,n,f,j,l,y,A⟩:=h;exact⟨G,n,f,z.trans j,l,y,λi k v u=>let ⟨g,x,a,b,c,d⟩:=A i k v u;⟨g,x,a,b,VR.mono e _ _ c,VR.mono e _ _ d⟩⟩
 |loop r=>
  obtain⟨q,j,l⟩:=h;exact⟨q,z.trans j,l.mono e⟩
theorem OR.lt {m:M}{o:Ob}(h:OR P m o p w):p.1<w.heap.size:=by
 cases o with
 |cells ro vs=>obtain⟨c,el,fr,b,_⟩:=h;exact (Gu.1 b).1
 |map es=>obtain⟨c,el,b,_⟩:=h;exact (Gu.1 b).1
 |wmap sh es=>obtain⟨_,c,el,b,_⟩:=h;exact (Gu.1 b).1
 |loop r=>obtain⟨q,b,_⟩:=h;exact (Gu.1 b).1
structure HR (P:Program)(m:M)(h:H)(w:World):Prop where
 live: ∀id o,h.get id=some o-> ∃p,m id=some p/\OR P m o p w
 inj: ∀i j oi oj pi pj,i≠j->h.get i=some oi->h.get j=some oj->oi.rw=true->m i=some pi->m j=some pj->pi.1≠pj.1
def fK (m:M)(n:Nat):Prop:=m n=none
def Cq (m:M)(n:Nat):Prop:= ∀id,n<=id->m id=none
theorem Cq.fresh {m:M}{n:Nat}(h:Cq m n):fK m n:=h n (fH _)
def LB (m:M)(h:H)(b:Nat):Prop:= ∃id o p,h.get id=some o/\m id=some p/\p.1=b
def FP (m:M)(h:H)(b:Nat):Prop:= ∃id o p,h.get id=some o/\o.rw=true/\m id=some p/\p.1=b
structure Kept (m:M)(h:H)(w w':World):Prop where
 os:w'.os=w.os
 tape:w'.tape=w.tape
 output:w'.output=w.output
 size:w.heap.size<=w'.heap.size
 block: ∀b,b<w.heap.size-> ¬FP m h b->w'.heap[b]? =w.heap[b]?
structure fU (P:Program)(m:M)(h:H)(w:World)(m':M)(h':H)(w':World):Prop where
 ext:Ext m m'
 rel:HR P m' h' w'
 fresh: ∀id p,m' id=some p->m id=some p∨(h.next<=id/\id<h'.next)
 kept:Kept m h w w'
 fp: ∀b,FP m' h' b->FP m h b∨w.heap.size<=b
 next:h.next<=h'.next
 lb: ∀b,LB m' h' b->LB m h b∨w.heap.size<=b
 old: ∀id,id<h.next->h.get id=none->h'.get id=none
theorem fU.low {m:M}{b:M}{h':H}(a:fU P m h w b h' w')(l:Cq m h.next):Cq b h'.next:=λid e=>by
 cases hm:b id with
 |none=>rfl
 |some p=>
  exfalso;have f:=a.next;rcases a.fresh id p hm with d|⟨_,d⟩
  ·rw[l id om] at d;cases d
  ·omega
theorem fU.Dz {m:M}(b:HR P m h w):fU P m h w m h w:=
 ⟨Ext.refl m,b,λ_ _ h=> .inl h,⟨rfl,rfl,rfl,fH _,λ_ _ _=>rfl⟩,λ_ h=> .inl h,fH _,λ_ h=> .inl h,λ_ _ h=>h⟩
theorem fU.refl {m:M}(b:HR P m h w)(_:fK m h.next):fU P m h w m h w:=fU.Dz b
theorem fU.trans {m o g:M}{h' e:H}{f:World}(a:fU P m h w o h' w')(b:fU P o h' w' g e f):fU P m h w g e f where
 ext:=a.ext.trans b.ext
 rel:=b.rel
 fresh:=λid p d=>by
  have l:=a.next;have n:=b.next;rcases b.fresh id p d with i|i
  ·rcases a.fresh id p i with d|d
   ·exact .inl d
   ·exact .inr ⟨d.1,om⟩
  ·exact .inr ⟨om,i.2⟩
 kept:={
  os:=b.kept.os.trans a.kept.os
  tape:=b.kept.tape.trans a.kept.tape
  output:=b.kept.output.trans a.kept.output
  size:=jC a.kept.size b.kept.size
  block:=λx d i=>by
   have l:=a.kept.block x d i;have n:=b.kept.block x (iO d a.kept.size) (λj=>(a.fp x j).elim i (λj=>om))
   exact n.trans l}
 fp:=λx d=>(b.fp x d).elim (λh=>a.fp x h) (λh=> .inr (jC a.kept.size h))
 next:=jC a.next b.next
 lb:=λx d=>(b.lb x d).elim (λh=>a.lb x h) (λh=> .inr (jC a.kept.size h))
 old:=λid d i=>b.old id (iO d a.next) (a.old id d i)
theorem fU.drawn {P:Program}{m:M}{h:H}{w:World}(d:HR P m h w)(_:fK m h.next)(n:Nat):fU P m h w m h {w with drawn:=n}:=
 ⟨Ext.refl m,⟨λid o e=>let ⟨p,a,b⟩:=d.live id o e;⟨p,a,OR.mono (w:=w) (Ext.refl m) rfl b⟩,d.inj⟩,λ_ _ h=> .inl h,⟨rfl,rfl,rfl,fH _,λ_ _ _=>rfl⟩,λ_ h=> .inl h,fH _,λ_ h=> .inl h,λ_ _ h=>h⟩
def M.set (m:M)(id:Nat)(p:Nat×Nat×Nat):M:=λi=>if i=id then some p else m i
theorem Ext.set {m:M}(h:m id=none):Ext m (m.set id p):=λi q b=>by
 unfold M.set;split
 ·rename_i e;subst e;rw[h] at b;cases b
 ·exact b
theorem fU.new {m:M}(N:HR P m h w)(Z:fK m h.next)(o:Ob)(c:Obj)(q:Nat×Nat)
  (Y: ∀m',Ext m m'->m' h.next=some (w.heap.size,q)->OR P m' o (w.heap.size,q) (w.alloc c)):
  fU P m h w (m.set h.next (w.heap.size,q)) (h.new o) (w.alloc c):=by
 have b:m h.next=none:=Z
 have U:Ext m (m.set h.next (w.heap.size,q)):=Ext.set b
 have l:(m.set h.next (w.heap.size,q)) h.next=some (w.heap.size,q):=by simp [M.set]
 have g: ∀id u,(h.new o).get id=some u->(id=h.next/\u=o)∨(id≠h.next/\h.get id=some u):=λid u f=>by
  simp only[H.iN,H.aY] at f
  by_cases hi:id=h.next
  ·simp [hi] at f;exact .inl ⟨hi,f.symm⟩
  ·simp [hi] at f;exact .inr ⟨hi,f⟩
 have d: ∀id,id≠h.next->(m.set h.next (w.heap.size,q)) id=m id:=λid hi=>by simp [M.set,hi]
 refine⟨U,⟨λid u f=>?_,λi j R O pi pj L hi J Q z y=>?_⟩,?_,⟨rfl,rfl,rfl,by simp,λb K _=>heap_alloc_old w c _ K⟩,λb K=>?_,by simp [H.iN,H.aY],λb K=>?_,λid f b=>by
  simp only[H.iN,H.aY]
  rw[aZ om];exact b⟩
 ·rcases g id u f with ⟨rfl,rfl⟩|⟨n,f⟩
  ·exact⟨_,l,Y _ U l⟩
  ·obtain⟨p,B,r⟩:=N.live id u f
   exact⟨p,by rw[d id n];exact B,OR.mono U (heap_alloc_old w c _ r.lt) r⟩
 ·rcases g i R hi with ⟨rfl,rfl⟩|⟨n,hi⟩
  ·rcases g j O J with ⟨rfl,rfl⟩|⟨A,J⟩
   ·exact absurd rfl L
   ·rw[l] at z;cases z
    rw[d j A] at y
    obtain⟨p,B,r⟩:=N.live j O J
    rw[y] at B;cases B
    have:=r.lt
    exact Nat.ne_of_gt this
  ·rw[d i n] at z
   obtain⟨p,B,r⟩:=N.live i R hi
   rw[z] at B;cases B
   rcases g j O J with ⟨rfl,rfl⟩|⟨A,J⟩
   ·rw[l] at y;cases y
    exact Nat.ne_of_lt r.lt
   ·rw[d j A] at y
    exact N.inj i j R O pi pj L hi J Q z y
 ·intro id p B
  by_cases e:id=h.next
  ·subst e;exact .inr ⟨fH _,by simp [H.iN,H.aY]⟩
  ·rw[d id e] at B;exact .inl B
 ·obtain⟨id,u,p,G,W,F,rfl⟩:=K
  rcases g id u G with ⟨rfl,rfl⟩|⟨n,G⟩
  ·rw[l] at F;cases F;exact .inr (fH _)
  ·rw[d id n] at F
   exact .inl ⟨id,u,p,G,W,F,rfl⟩
 ·obtain⟨id,u,p,G,F,rfl⟩:=K
  rcases g id u G with ⟨rfl,rfl⟩|⟨n,G⟩
  ·rw[l] at F;cases F;exact .inr (fH _)
  ·rw[d id n] at F
   exact .inl ⟨id,u,p,G,F,rfl⟩
theorem fU.put {m:M}(K:HR P m h w)(_:fK m h.next){o B:Ob}
  (g:h.get id=some o) (r:o.rw=true) (a4:B.rw=true) (y:m id=some p) (ho:OR P m B p w')
  (h1:w'.os=w.os) (h2:w'.tape=w.tape) (h3:w'.output=w.output) (h4:w'.heap.size=w.heap.size) (h5: ∀b,b≠p.1->w'.heap[b]? =w.heap[b]?):
  fU P m h w m (h.set id (some B)) w':=by
 have d: ∀i f,(h.set id (some B)).get i=some f->(i=id/\f=B)∨(i≠id/\h.get i=some f):=λi f hi=>by
  simp only[H.gJ,H.cZ] at hi
  by_cases e:i=id
  ·simp [e] at hi;exact .inl ⟨e,hi.symm⟩
  ·simp [e] at hi;exact .inr ⟨e,hi⟩
 have a0: ∀b,FP m (h.set id (some B)) b->FP m h b:=λb u=>by
  obtain⟨i,f,q,G,a2,F,rfl⟩:=u;rcases d i f G with ⟨rfl,rfl⟩|⟨_,G⟩
  ·rw[y] at F;cases F;exact⟨i,o,_,g,r,y,rfl⟩
  ·exact⟨i,f,q,G,a2,F,rfl⟩
 have U: ∀b,LB m (h.set id (some B)) b->LB m h b:=λb u=>by
  obtain⟨i,f,q,G,F,rfl⟩:=u;rcases d i f G with ⟨rfl,rfl⟩|⟨_,G⟩
  ·rw[y] at F;cases F;exact⟨i,o,_,g,y,rfl⟩
  ·exact⟨i,f,q,G,F,rfl⟩
 refine⟨Ext.refl m,⟨λi f hi=>?_,λi j f R W Z n hi hj O A J=>?_⟩,λ_ _ h=> .inl h,⟨h1,h2,h3,om,λb _ L=>h5 b (λe=>L ⟨id,o,p,g,r,y,e.symm⟩)⟩,λb u=> .inl (a0 b u),fH _,λb u=> .inl (U b u),λi _ L=>by
  simp only[H.gJ,H.cZ];split
  ·rename_i e;subst e;rw[g] at L;cases L
  ·exact L⟩
 ·rcases d i f hi with ⟨rfl,rfl⟩|⟨N,l⟩
  ·exact⟨p,y,ho⟩
  ·obtain⟨q,hq,Y⟩:=K.live i f l
   refine⟨q,hq,OR.mono (Ext.refl m) (h5 q.1 ?_) Y⟩
   exact (K.inj id i o f p q (Ne.symm N) g l r y hq).symm
 ·rcases d i f hi with ⟨rfl,rfl⟩|⟨N,l⟩
  ·rcases d j R hj with ⟨rfl,rfl⟩|⟨Q,z⟩
   ·exact absurd rfl n
   ·exact K.inj i j o R W Z n g z r A J
  ·rcases d j R hj with ⟨rfl,rfl⟩|⟨Q,z⟩
   ·exact K.inj i j f o W Z n l g O A J
   ·exact K.inj i j f R W Z n l z O A J
theorem fU.GU {m:M}(Q:HR P m h w)(hf:fK m h.next){o U:Ob}{q:Nat×Nat×Nat}
  (n:h.get id=some o) (A:o.rw=true) (a5:U.rw=true) (G:m id=some p) (Z:q.1=p.1) (ho: ∀m',Ext m m'->OR P m' U q w')
  (h1:w'.os=w.os) (h2:w'.tape=w.tape) (h3:w'.output=w.output) (h4:w'.heap.size=w.heap.size) (h5: ∀b,b≠p.1->w'.heap[b]? =w.heap[b]?):
  fU P m h w (m.set h.next q) ((h.set id none).new U) w':=by
 have R:m h.next=none:=hf
 have he:Ext m (m.set h.next q):=Ext.set R
 have F:id≠h.next:=λe=>by subst e;rw[R] at G;cases G
 have d: ∀i,i≠h.next->(m.set h.next q) i=m i:=λi hi=>by simp [M.set,hi]
 have l:(m.set h.next q) h.next=some q:=by simp [M.set]
 have f: ∀i g,((h.set id none).new U).get i=some g->(i=h.next/\g=U)∨(i≠h.next/\i≠id/\h.get i=some g):=λi g hi=>by
  simp only[H.gJ,H.cZ,H.iN,H.aY] at hi
  by_cases e:i=h.next
  ·simp [e] at hi;exact .inl ⟨e,hi.symm⟩
  ·by_cases R:i=id
   ·simp [R,F] at hi
   ·simp [e,R] at hi;exact .inr ⟨e,R,hi⟩
 refine⟨he,⟨λi g hi=>?_,λi j g Y pi pj W hi hj a0 z u=>?_⟩,?_,⟨h1,h2,h3,om,λb _ R=>h5 b (λe=>R ⟨id,o,p,n,A,G,e.symm⟩)⟩,λb hb=>?_,by simp [H.iN,H.aY,H.gJ,H.cZ],λb hb=>?_,λi R a4=>by
  have e:i≠h.next:=Nat.ne_of_lt R
  by_cases J:i=id
  ·simp [H.iN,H.aY,H.gJ,H.cZ,J,F]
  ·simp [H.iN,H.aY,H.gJ,H.cZ,e,J,a4]⟩
 ·rcases f i g hi with ⟨rfl,rfl⟩|⟨K,J,y⟩
  ·exact⟨q,l,ho _ he⟩
  ·obtain⟨r,F,R⟩:=Q.live i g y
   refine⟨r,by rw[d i K];exact F,OR.mono he (h5 r.1 ?_) R⟩
   exact (Q.inj id i o g p r (Ne.symm J) n y A G F).symm
 ·rcases f i g hi with ⟨rfl,rfl⟩|⟨K,J,y⟩
  ·rcases f j Y hj with ⟨rfl,rfl⟩|⟨e3,e4,L⟩
   ·exact absurd rfl W
   ·rw[l] at z;cases z
    rw[d j e3] at u
    rw[Z]
    exact Q.inj id j o Y p pj (Ne.symm e4) n L A G u
  ·rw[d i K] at z
   rcases f j Y hj with ⟨rfl,rfl⟩|⟨e3,e4,L⟩
   ·rw[l] at u;cases u
    rw[Z]
    exact (Q.inj id i o g p pi (Ne.symm J) n y A G z).symm
   ·rw[d j e3] at u
    exact Q.inj i j g Y pi pj W y L a0 z u
 ·intro i p O
  by_cases e:i=h.next
  ·subst e;exact .inr ⟨fH _,by simp [H.iN,H.aY,H.gJ,H.cZ]⟩
  ·rw[d i e] at O;exact .inl O
 ·obtain⟨i,g,r,N,a2,B,rfl⟩:=hb
  rcases f i g N with ⟨rfl,rfl⟩|⟨K,J,N⟩
  ·rw[l] at B;cases B;exact .inl ⟨id,o,p,n,A,G,Z.symm⟩
  ·rw[d i K] at B;exact .inl ⟨i,g,r,N,a2,B,rfl⟩
 ·obtain⟨i,g,r,N,B,rfl⟩:=hb
  rcases f i g N with ⟨rfl,rfl⟩|⟨K,J,N⟩
  ·rw[l] at B;cases B;exact .inl ⟨id,o,p,n,G,Z.symm⟩
  ·rw[d i K] at B;exact .inl ⟨i,g,r,N,B,rfl⟩
end
end Go.Ay
