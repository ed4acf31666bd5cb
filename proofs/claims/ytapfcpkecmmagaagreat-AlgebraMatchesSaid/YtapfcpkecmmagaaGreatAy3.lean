/- The relation between the abstract machine's states and the model's worlds, and how it moves. -/
import Derived.Test.YtapfcpkecmmagaaGreatAy2
import Derived.RangeFuncLeaves
import Derived.RangeFuncRecord
import Derived.Laws.AppendOwn
import Derived.OwnWalkIn
namespace Go.Ay
section
variable {a vars loc:List V} {c:List Value} {v:V} {x:Value} {nt s t k id:Nat} {pv defs:List Nat} {tmps:Array Value} {P:Program} {p:Nat×Nat×Nat} {w w':World} {h:H}
abbrev M:=Nat->Option (Nat×Nat×Nat)
mutual
def VR (m:M):V->Value->Prop
 | .int k n,x=>x= .int k n
 | .bool b,x=>x= .bool b
 | .ptr id o,x=> ∃p,m id=some p/\x= .pointer (some ⟨p.1,p.2.1+o,none⟩)
 | .nilp,x=>x= .pointer none
 | .sl id o len cap,x=> ∃p c o',m id=some p/\x= .slice (some ⟨p.1,p.2.1+o',none⟩) len c/\len<=c/\(0<len->o'=o)/\
   (match cap with| .kn k=>c=k/\o'=o| .un e=>p.2.1+o'+c*e<=p.2.2)
 | .aD,x=>x= .slice none 0 0
 | .emp a,x=>x= .slice (some a) 0 0
 | .str l,x=>x= .string ⟨(l.map UInt8.ofNat).toArray⟩
 | .ifc t v,x=> ∃y,x= .iface t y/\VR m v y
 | .mp id,x=> ∃p,m id=some p/\x= .map (some p.1)
 | .nilm,x=>x= .map none
 | .fn f fs cs,x=> ∃xs ys,x= .func (.func f) xs ys/\fP m fs xs.toList/\fP m cs ys.toList
 | .yl id,x=> ∃p,m id=some p/\x= .func (.yield p.1) #[] #[]
 | .nilf,x=>x= .nilFunc
 | .agg vs,x=> ∃xs,x= .agg xs/\fP m vs xs.toList
 | .tup vs,x=> ∃xs,x= .tuple xs/\fP m vs xs.toList
 | .unk,_=>True
def fP (m:M):List V->List Value->Prop
 | [], []=>True
 |v::vs,x::xs=>VR m v x/\fP m vs xs
 |_,_=>False
end
def Ext (m m':M):Prop:= ∀id p,m id=some p->m' id=some p
theorem Ext.refl (m:M):Ext m m:=λ_ _ h=>h
theorem Ext.trans {a b c:M}(h:Ext a b)(k:Ext b c):Ext a c:=λ_ _ x=>k _ _ (h _ _ x)
mutual
theorem VR.mono {m f:M}(e:Ext m f): ∀(v:V) (x:Value),VR m v x->VR f v x
 | .int ..,_,h=>by simpa [VR] using h
 | .bool _,_,h=>by simpa [VR] using h
 | .ptr ..,_,h=>by obtain⟨p,b,d⟩:=h;exact⟨p,e _ _ b,d⟩
 | .nilp,_,h=>by simpa [VR] using h
 | .sl _ _ _ _,_,h=>by obtain⟨p,c,j,b,d⟩:=h;exact⟨p,c,j,e _ _ b,d⟩
 | .aD,_,h=>by simpa [VR] using h
 | .emp _,_,h=>by simpa [VR] using h
 | .str _,_,h=>by simpa [VR] using h
 | .ifc _ v,_,h=>by obtain⟨y,b,d⟩:=h;exact⟨y,b,VR.mono e v _ d⟩
 | .mp _,_,h=>by obtain⟨p,b,d⟩:=h;exact⟨p,e _ _ b,d⟩
 | .nilm,_,h=>by simpa [VR] using h
 | .fn _ fs cs,_,h=>by obtain⟨xs,i,b,d,g⟩:=h;exact⟨xs,i,b,fP.mono e fs _ d,fP.mono e cs _ g⟩
 | .yl _,_,h=>by obtain⟨p,b,d⟩:=h;exact⟨p,e _ _ b,d⟩
 | .nilf,_,h=>by simpa [VR] using h
 | .agg vs,_,h=>by obtain⟨xs,b,d⟩:=h;exact⟨xs,b,fP.mono e vs _ d⟩
 | .tup vs,_,h=>by obtain⟨xs,b,d⟩:=h;exact⟨xs,b,fP.mono e vs _ d⟩
 | .unk,_,_=>by simp [VR]
theorem fP.mono {m b:M}(e:Ext m b): ∀(vs:List V) (xs:List Value),fP m vs xs->fP b vs xs
 | [], [],_=>trivial
 |v::vs,x::xs,h=>⟨VR.mono e v x h.1,fP.mono e vs xs h.2⟩
 | [],_::_,h=>h.elim
 |_::_, [],h=>h.elim
end
theorem fP.length {m:M}: ∀{vs:List V} {xs:List Value},fP m vs xs->vs.length=xs.length
 | [], [],_=>rfl
 |_::vs,_::xs,h=>by simp [fP.length h.2]
 | [],_::_,h=>h.elim
 |_::_, [],h=>h.elim
theorem fP.get {m:M}: ∀{vs:List V} {xs:List Value},fP m vs xs-> ∀{i:Nat} {v:V},vs[i]? =some v-> ∃x,xs[i]? =some x/\VR m v x
 | [], [],_,i,v,h=>by simp at h
 |v::vs,x::xs,h,0,u,hu=>by simp at hu;subst hu;exact⟨x,rfl,h.1⟩
 |v::vs,x::xs,h,i+1,u,hu=>by simpa using fP.get h.2 (by simpa using hu)
 | [],_::_,h,_,_,_=>h.elim
 |_::_, [],h,_,_,_=>h.elim
theorem fP.iC {m:M}: ∀{vs:List V} {xs:List Value},vs.length=xs.length->(∀(i:Nat) (v:V),vs[i]? =some v-> ∃x,xs[i]? =some x/\VR m v x)->fP m vs xs
 | [], [],_,_=>trivial
 |v::vs,x::xs,hl,h=>by
  refine⟨?_,fP.iC (by simpa using hl) (λi u e=>by simpa using h (i+1) u (by simpa using e))⟩;obtain⟨y,b,d⟩:=h 0 v rfl;simp at b;subst b;exact d
 | [],_::_,hl,_=>by simp at hl
 |_::_, [],hl,_=>by simp at hl
theorem fP.append {m:M}{b:List V}{d:List Value}(h:fP m a c)(k:fP m b d):fP m (a++b) (c++d):=by
 induction a generalizing c with
 |nil=>cases c with
  |nil=>exact k
  |cons _ _=>exact h.elim
 |cons x xs ih=>cases c with
  |nil=>exact h.elim
  |cons _ _=>exact⟨h.1,ih h.2⟩
theorem fP.take {m:M}(h:fP m a c)(n:Nat):fP m (a.take n) (c.take n):=by
 induction n generalizing a c with
 |zero=>exact trivial
 |succ n ih=>
  cases a<;>cases c<;>first|exact trivial|exact h.elim|exact⟨h.1,ih h.2⟩
theorem fP.drop {m:M}(h:fP m a c)(n:Nat):fP m (a.drop n) (c.drop n):=by
 induction n generalizing a c with
 |zero=>exact h
 |succ n ih=>
  cases a<;>cases c<;>first|exact trivial|exact h.elim|exact ih h.2
theorem VR.undef (m:M):VR m V.undef undef:=⟨#[],rfl,trivial⟩
theorem VR.one {m:M}(h:VR m v x)(b:v.one=true):x.oneCell'=true:=by
 cases v with
 |int|bool|nilp|aD|emp|nilm|nilf|str=>simp [VR] at h;subst h;rfl
 |ifc=>obtain⟨y,rfl,_⟩:=h;rfl
 |ptr|mp|yl=>obtain⟨p,_,rfl⟩:=h;rfl
 |sl=>obtain⟨p,c,d,_,rfl,_⟩:=h;rfl
 |fn=>obtain⟨_,_,rfl,_⟩:=h;rfl
 |agg|tup|unk=>simp [V.one] at b
theorem VR.cells {m:M}(h:VR m v x)(j:v.cells.all V.one=true):fP m v.cells x.cells.toList:=by
 cases v with
 |unk=>simp [V.cells,V.one] at j
 |agg vs=>obtain⟨xs,rfl,g⟩:=h;exact g
 |int=>simp [VR] at h;subst h;exact⟨rfl,trivial⟩
 |bool=>simp [VR] at h;subst h;exact⟨rfl,trivial⟩
 |nilp=>simp [VR] at h;subst h;exact⟨rfl,trivial⟩
 |aD=>simp [VR] at h;subst h;exact⟨rfl,trivial⟩
 |emp=>simp [VR] at h;subst h;exact⟨rfl,trivial⟩
 |str=>simp [VR] at h;subst h;exact⟨rfl,trivial⟩
 |ifc=>obtain⟨y,rfl,i⟩:=h;exact⟨⟨y,rfl,i⟩,trivial⟩
 |nilm=>simp [VR] at h;subst h;exact⟨rfl,trivial⟩
 |nilf=>simp [VR] at h;subst h;exact⟨rfl,trivial⟩
 |ptr|mp|yl=>obtain⟨p,e,rfl⟩:=h;exact⟨⟨p,e,rfl⟩,trivial⟩
 |sl=>obtain⟨p,c,f,e,rfl,d⟩:=h;exact⟨⟨p,c,f,e,rfl,d⟩,trivial⟩
 |fn=>obtain⟨a,b,rfl,d⟩:=h;exact⟨⟨a,b,rfl,d⟩,trivial⟩
 |tup=>obtain⟨a,rfl,d⟩:=h;exact⟨⟨a,rfl,d⟩,trivial⟩
structure iG (m:M)(nt:Nat)(pv:List Nat)(vars:List V)(tmps:Array Value):Prop where
 size:tmps.size=nt
 len:vars.length=pv.length
 lt: ∀s∈pv,s<nt
 val: ∀s k,idx s pv=some k->VR m (vars.getD k .undef) (tmps.getD s undef)
structure qS (m:M)(pv defs:List Nat)(loc:List V)(tmps:Array Value):Prop where
 apart: ∀s k,idx s defs=some k->idx s pv=none
 val: ∀s k,idx s defs=some k->VR m (loc.getD k .undef) (tmps.getD s undef)
theorem qS.nil (m:M)(pv:List Nat)(tmps:Array Value):qS m pv [] [] tmps:=
 ⟨λ_ _ h=>by simp [idx] at h,λ_ _ h=>by simp [idx] at h⟩
theorem iG.mono {m b:M}(e:Ext m b)(h:iG m nt pv vars tmps):iG b nt pv vars tmps:=
 ⟨h.size,h.len,h.lt,λs k d=>VR.mono e _ _ (h.val s k d)⟩
theorem qS.mono {m b:M}(e:Ext m b)(h:qS m pv defs loc tmps):qS b pv defs loc tmps:=
 ⟨h.apart,λs k d=>VR.mono e _ _ (h.val s k d)⟩
theorem Ny {s t k:Nat}: ∀{l:List Nat},idx s l=some k->idx t l=some k->s=t
 | [],h,_=>by simp [idx] at h
 |a::l,h,h'=>by
  simp only[idx] at h h'
  by_cases d:a=s
  ·by_cases b:a=t
   ·exact d.symm.trans b
   ·simp [d] at h;subst h;simp [b] at h'
  ·by_cases b:a=t
   ·simp [b] at h';subst h';simp [d] at h
   ·simp [d] at h;simp [b] at h'
    obtain⟨e,f,rfl⟩:=h;obtain⟨i,g,j⟩:=h';have:e=i:=om
    subst this;exact Ny f g
theorem Cg {s k:Nat}: ∀{l:List Nat},idx s l=some k->k<l.length
 | [],h=>by simp [idx] at h
 |a::l,h=>by
  simp only[idx] at h
  by_cases b:a=s
  ·simp [b] at h;subst h;simp
  ·simp [b] at h
   obtain⟨e,d,rfl⟩:=h;have:=Cg d;simp;omega
theorem Pk {s k:Nat}: ∀{l:List Nat},idx s l=some k->s∈l
 | [],h=>by simp [idx] at h
 |a::l,h=>by
  simp only[idx] at h
  by_cases b:a=s
  ·simp [b]
  ·simp [b] at h
   obtain⟨e,d,rfl⟩:=h;exact yK _ (Pk d)
theorem qX {a:Array Value}{d:Value}(h:t<a.size):(a.setIfInBounds t x).getD t d=x:=by
 simp [Array.getD,h]
theorem lV {a:Array Value}{d:Value}(h:t≠s):(a.setIfInBounds t x).getD s d=a.getD s d:=by
 simp only[Tu];rw[Array.getElem?_setIfInBounds_ne h]
theorem iG.set {m:M}(h:iG m nt pv vars tmps)(d:idx t pv=some k)
    (g:VR m v x):iG m nt pv (vars.set k v) (tmps.setIfInBounds t x):=by
 have e:t<tmps.size:=by rw[h.size];exact h.lt t (Pk d)
 refine⟨by simpa using h.size,by simpa using h.len,h.lt,λs j b=>?_⟩
 by_cases iA:s=t
 ·subst iA
  have:j=k:=by rw[d] at b;exact (Option.some.inj b).symm
  subst this
  have f:j<vars.length:=by rw[h.len];exact Cg d
  rw[qX e]
  simp [List.getD,f]
  exact g
 ·have f:j≠k:=λe=>iA (Ny (e▸b) d)
  rw[lV (Ne.symm iA)]
  have:=h.val s j b
  simpa [List.getD,List.getElem?_set_ne (Ne.symm f)] using this
theorem qS.EI {m:M}(h:qS m pv defs loc tmps)(b:idx t pv=some k)(x:Value):
  qS m pv defs loc (tmps.setIfInBounds t x):=by
 refine⟨h.apart,λs j d=>?_⟩
 have:t≠s:=λe=>by subst e;rw[h.apart t j d] at b;cases b
 rw[lV this]
 exact h.val s j d
theorem iG.FM {m:M}(h:iG m nt pv vars tmps)(b:idx t pv=none)(x:Value):
  iG m nt pv vars (tmps.setIfInBounds t x):=by
 refine⟨by simpa using h.size,h.len,h.lt,λs j d=>?_⟩
 have:t≠s:=λe=>by subst e;rw[d] at b;cases b
 rw[lV this]
 exact h.val s j d
theorem qS.push {m:M}{nt:Nat}(h:qS m pv defs loc tmps)(i:idx t pv=none)(f:t<tmps.size)
    (l:VR m v x):qS m pv (t::defs) (v::loc) (tmps.setIfInBounds t x):=by
 have _:=nt
 refine⟨λs j d=>?_,λs j d=>?_⟩
 ·simp only[idx] at d
  by_cases b:t=s
  ·subst b;exact i
  ·simp [b] at d
   obtain⟨g,e,rfl⟩:=d
   exact h.apart s g e
 ·simp only[idx] at d
  by_cases b:t=s
  ·subst b
   simp at d;subst d
   rw[qX f]
   exact l
  ·simp [b] at d
   obtain⟨g,e,rfl⟩:=d
   rw[lV b]
   exact h.val s g e
def Ob.rw:Ob->Bool
 | .cells ro _=>!ro
 |_=>true
def Yi:E->Option Code
 | .norm=>none
 | .ret=>some .ret
 | .exit n=>some (.exit n)
def HF:IY->LoopState
 | .ready=> .ready
 | .busy=> .busy
 | .done=> .done
 | .out=> .exhausted
structure Mc (P:Program)(m:M)(r:fQ)(q:Loop):Prop where
 vars: ∃nt pv,iG m nt pv r.vars q.tmps/\iF P nt pv q.assign=some r.assign/\iF P nt pv q.body=some r.body/\
  cV (q.params.toList.map λt=>idx t pv)=some r.pars
 st:q.state=HF r.st
 pend:q.pending=r.pend.bind Yi
 nn:r.pend≠some .norm
def OR (P:Program)(m:M)(o:Ob)(p:Nat×Nat×Nat)(w:World):Prop:=
 match o with
 | .cells ro vs=> ∃c elem fr,w.heap[p.1]? =some (.cells c elem fr)/\c.size=p.2.2/\p.2.1+vs.length<=p.2.2/\
   (∀(i:Nat) (v:V),vs[i]? =some v->v.one=true/\ ∃x,c[p.2.1+i]? =some x/\VR m v x)/\(ro=false->fr=(0,0))
 | .map es=> ∃es' clock,w.heap[p.1]? =some (.map es' clock)/\es.length=es'.size/\
   ∀(i:Nat) (k v:V),es[i]? =some (k,v)-> ∃e:MapEntry,es'[i]? =some e/\VR m k e.key/\VR m v e.val
 | .wmap sh es=>(∀(i j:Nat) (a b:V×V),es[i]? =some a->es[j]? =some b->dJ a.1 b.1=true->i=j)/\ ∃es' clock,w.heap[p.1]? =some (.map es' clock)/\es.length=es'.size/\clock=es'.size/\
   ∀(i:Nat) (k v:V),es[i]? =some (k,v)->isKey sh k=true/\ ∃e:MapEntry,es'[i]? =some e/\e.born=i/\VR m k e.key/\VR m v e.val
 | .loop r=> ∃q,w.heap[p.1]? =some (.loop q)/\Mc P m r q
theorem Mc.mono {m b:M}{r:fQ}{q:Loop}(e:Ext m b)(h:Mc P m r q):Mc P b r q:=by
 obtain⟨⟨nt,pv,i,g⟩,j,f,d⟩:=h;exact⟨⟨nt,pv,i.mono e,g⟩,j,f,d⟩
theorem OR.mono {m B:M}{o:Ob}(e:Ext m B)(z:w'.heap[p.1]? =w.heap[p.1]?)(h:OR P m o p w):OR P B o p w':=by
 cases o with
 |cells ro vs=>
  obtain⟨c,el,fr,j,n,u,A,F⟩:=h;exact⟨c,el,fr,z.trans j,n,u,λi v y=>let ⟨a,x,b,c⟩:=A i v y;⟨a,x,b,VR.mono e _ _ c⟩,F⟩
 |map es=>
  obtain⟨l,f,j,n,u⟩:=h;exact⟨l,f,z.trans j,n,λi k v y=>let ⟨x,a,b,c⟩:=u i k v y;⟨x,a,VR.mono e _ _ b,VR.mono e _ _ c⟩⟩
 |wmap sh es=>
  obtain⟨G,l,f,j,n,u,A⟩:=h;exact⟨G,l,f,z.trans j,n,u,λi k v y=>let ⟨g,x,a,b,c,d⟩:=A i k v y;⟨g,x,a,b,VR.mono e _ _ c,VR.mono e _ _ d⟩⟩
 |loop r=>
  obtain⟨q,j,n⟩:=h;exact⟨q,z.trans j,n.mono e⟩
theorem OR.lt {m:M}{o:Ob}(h:OR P m o p w):p.1<w.heap.size:=by
 cases o with
 |cells ro vs=>obtain⟨c,el,fr,b,_⟩:=h;exact (Er.1 b).1
 |map es=>obtain⟨c,el,b,_⟩:=h;exact (Er.1 b).1
 |wmap sh es=>obtain⟨_,c,el,b,_⟩:=h;exact (Er.1 b).1
 |loop r=>obtain⟨q,b,_⟩:=h;exact (Er.1 b).1
structure HR (P:Program)(m:M)(h:H)(w:World):Prop where
 live: ∀id o,h.get id=some o-> ∃p,m id=some p/\OR P m o p w
 inj: ∀i j oi oj pi pj,i≠j->h.get i=some oi->h.get j=some oj->oi.rw=true->m i=some pi->m j=some pj->pi.1≠pj.1
def fL (m:M)(n:Nat):Prop:=m n=none
def Cx (m:M)(n:Nat):Prop:= ∀id,n<=id->m id=none
theorem Cx.fresh {m:M}{n:Nat}(h:Cx m n):fL m n:=h n (eS _)
def LB (m:M)(h:H)(b:Nat):Prop:= ∃id o p,h.get id=some o/\m id=some p/\p.1=b
def FP (m:M)(h:H)(b:Nat):Prop:= ∃id o p,h.get id=some o/\o.rw=true/\m id=some p/\p.1=b
structure Kept (m:M)(h:H)(w w':World):Prop where
 os:w'.os=w.os
 tape:w'.tape=w.tape
 output:w'.output=w.output
 size:w.heap.size<=w'.heap.size
 block: ∀b,b<w.heap.size-> ¬FP m h b->w'.heap[b]? =w.heap[b]?
structure fY (P:Program)(m:M)(h:H)(w:World)(m':M)(h':H)(w':World):Prop where
 ext:Ext m m'
 rel:HR P m' h' w'
 fresh: ∀id p,m' id=some p->m id=some p∨(h.next<=id/\id<h'.next)
 kept:Kept m h w w'
 fp: ∀b,FP m' h' b->FP m h b∨w.heap.size<=b
 next:h.next<=h'.next
 lb: ∀b,LB m' h' b->LB m h b∨w.heap.size<=b
 old: ∀id,id<h.next->h.get id=none->h'.get id=none
theorem fY.low {m:M}{b:M}{h':H}(a:fY P m h w b h' w')(l:Cx m h.next):Cx b h'.next:=λid e=>by
 cases hm:b id with
 |none=>rfl
 |some p=>
  exfalso;have f:=a.next;rcases a.fresh id p hm with d|⟨_,d⟩
  ·rw[l id om] at d;cases d
  ·omega
theorem fY.Df {m:M}(b:HR P m h w):fY P m h w m h w:=
 ⟨Ext.refl m,b,λ_ _ h=> .inl h,⟨rfl,rfl,rfl,eS _,λ_ _ _=>rfl⟩,λ_ h=> .inl h,eS _,λ_ h=> .inl h,λ_ _ h=>h⟩
theorem fY.refl {m:M}(b:HR P m h w)(_:fL m h.next):fY P m h w m h w:=fY.Df b
theorem fY.trans {m l f:M}{h' e:H}{g:World}(a:fY P m h w l h' w')(b:fY P l h' w' f e g):fY P m h w f e g where
 ext:=a.ext.trans b.ext
 rel:=b.rel
 fresh:=λid p d=>by
  have n:=a.next;have o:=b.next;rcases b.fresh id p d with d|d
  ·rcases a.fresh id p d with i|i
   ·exact .inl i
   ·exact .inr ⟨i.1,om⟩
  ·exact .inr ⟨om,d.2⟩
 kept:={
  os:=b.kept.os.trans a.kept.os
  tape:=b.kept.tape.trans a.kept.tape
  output:=b.kept.output.trans a.kept.output
  size:=jK a.kept.size b.kept.size
  block:=λx d i=>by
   have n:=a.kept.block x d i;have o:=b.kept.block x (iP d a.kept.size) (λj=>(a.fp x j).elim i (λj=>om))
   exact o.trans n}
 fp:=λx d=>(b.fp x d).elim (λh=>a.fp x h) (λh=> .inr (jK a.kept.size h))
 next:=jK a.next b.next
 lb:=λx d=>(b.lb x d).elim (λh=>a.lb x h) (λh=> .inr (jK a.kept.size h))
 old:=λid d i=>b.old id (iP d a.next) (a.old id d i)
theorem fY.drawn {P:Program}{m:M}{h:H}{w:World}(d:HR P m h w)(_:fL m h.next)(n:Nat):fY P m h w m h {w with drawn:=n}:=
 ⟨Ext.refl m,⟨λid o e=>let ⟨p,a,b⟩:=d.live id o e;⟨p,a,OR.mono (w:=w) (Ext.refl m) rfl b⟩,d.inj⟩,λ_ _ h=> .inl h,⟨rfl,rfl,rfl,eS _,λ_ _ _=>rfl⟩,λ_ h=> .inl h,eS _,λ_ h=> .inl h,λ_ _ h=>h⟩
def M.set (m:M)(id:Nat)(p:Nat×Nat×Nat):M:=λi=>if i=id then some p else m i
theorem Ext.set {m:M}(h:m id=none):Ext m (m.set id p):=λi q b=>by
 unfold M.set;split
 ·rename_i e;subst e;rw[h] at b;cases b
 ·exact b
theorem fY.new {m:M}(O:HR P m h w)(W:fL m h.next)(o:Ob)(c:Obj)(q:Nat×Nat)
  (Z: ∀m',Ext m m'->m' h.next=some (w.heap.size,q)->OR P m' o (w.heap.size,q) (w.alloc c)):
  fY P m h w (m.set h.next (w.heap.size,q)) (h.new o) (w.alloc c):=by
 have b:m h.next=none:=W
 have U:Ext m (m.set h.next (w.heap.size,q)):=Ext.set b
 have l:(m.set h.next (w.heap.size,q)) h.next=some (w.heap.size,q):=by simp [M.set]
 have g: ∀id u,(h.new o).get id=some u->(id=h.next/\u=o)∨(id≠h.next/\h.get id=some u):=λid u f=>by
  simp only[H.iQ,H.aX] at f
  by_cases hi:id=h.next
  ·simp [hi] at f;exact .inl ⟨hi,f.symm⟩
  ·simp [hi] at f;exact .inr ⟨hi,f⟩
 have d: ∀id,id≠h.next->(m.set h.next (w.heap.size,q)) id=m id:=λid hi=>by simp [M.set,hi]
 refine⟨U,⟨λid u f=>?_,λi j Q N Y pj K hi J R z r=>?_⟩,?_,⟨rfl,rfl,rfl,by simp,λb L _=>heap_alloc_old w c _ L⟩,λb L=>?_,by simp [H.iQ,H.aX],λb L=>?_,λid f b=>by
  simp only[H.iQ,H.aX]
  rw[aZ om];exact b⟩
 ·rcases g id u f with ⟨rfl,rfl⟩|⟨n,f⟩
  ·exact⟨_,l,Z _ U l⟩
  ·obtain⟨p,B,y⟩:=O.live id u f
   exact⟨p,by rw[d id n];exact B,OR.mono U (heap_alloc_old w c _ y.lt) y⟩
 ·rcases g i Q hi with ⟨rfl,rfl⟩|⟨n,hi⟩
  ·rcases g j N J with ⟨rfl,rfl⟩|⟨A,J⟩
   ·exact absurd rfl K
   ·rw[l] at z;cases z
    rw[d j A] at r
    obtain⟨p,B,y⟩:=O.live j N J
    rw[r] at B;cases B
    have:=y.lt
    exact Nat.ne_of_gt this
  ·rw[d i n] at z
   obtain⟨p,B,y⟩:=O.live i Q hi
   rw[z] at B;cases B
   rcases g j N J with ⟨rfl,rfl⟩|⟨A,J⟩
   ·rw[l] at r;cases r
    exact Nat.ne_of_lt y.lt
   ·rw[d j A] at r
    exact O.inj i j Q N Y pj K hi J R z r
 ·intro id p B
  by_cases e:id=h.next
  ·subst e;exact .inr ⟨eS _,by simp [H.iQ,H.aX]⟩
  ·rw[d id e] at B;exact .inl B
 ·obtain⟨id,u,p,G,h2,F,rfl⟩:=L
  rcases g id u G with ⟨rfl,rfl⟩|⟨n,G⟩
  ·rw[l] at F;cases F;exact .inr (eS _)
  ·rw[d id n] at F
   exact .inl ⟨id,u,p,G,h2,F,rfl⟩
 ·obtain⟨id,u,p,G,F,rfl⟩:=L
  rcases g id u G with ⟨rfl,rfl⟩|⟨n,G⟩
  ·rw[l] at F;cases F;exact .inr (eS _)
  ·rw[d id n] at F
   exact .inl ⟨id,u,p,G,F,rfl⟩
theorem fY.put {m:M}(K:HR P m h w)(_:fL m h.next){o y:Ob}
  (g:h.get id=some o) (r:o.rw=true) (a0:y.rw=true) (z:m id=some p) (ho:OR P m y p w')
  (h1:w'.os=w.os) (h2:w'.tape=w.tape) (h3:w'.output=w.output) (h4:w'.heap.size=w.heap.size) (h5: ∀b,b≠p.1->w'.heap[b]? =w.heap[b]?):
  fY P m h w m (h.set id (some y)) w':=by
 have d: ∀i f,(h.set id (some y)).get i=some f->(i=id/\f=y)∨(i≠id/\h.get i=some f):=λi f hi=>by
  simp only[H.gK,H.dE] at hi
  by_cases e:i=id
  ·simp [e] at hi;exact .inl ⟨e,hi.symm⟩
  ·simp [e] at hi;exact .inr ⟨e,hi⟩
 have Z: ∀b,FP m (h.set id (some y)) b->FP m h b:=λb J=>by
  obtain⟨i,f,q,A,a2,B,rfl⟩:=J;rcases d i f A with ⟨rfl,rfl⟩|⟨_,A⟩
  ·rw[z] at B;cases B;exact⟨i,o,_,g,r,z,rfl⟩
  ·exact⟨i,f,q,A,a2,B,rfl⟩
 have U: ∀b,LB m (h.set id (some y)) b->LB m h b:=λb J=>by
  obtain⟨i,f,q,A,B,rfl⟩:=J;rcases d i f A with ⟨rfl,rfl⟩|⟨_,A⟩
  ·rw[z] at B;cases B;exact⟨i,o,_,g,z,rfl⟩
  ·exact⟨i,f,q,A,B,rfl⟩
 refine⟨Ext.refl m,⟨λi f hi=>?_,λi j f R Y pj n hi hj O G u=>?_⟩,λ_ _ h=> .inl h,⟨h1,h2,h3,om,λb _ N=>h5 b (λe=>N ⟨id,o,p,g,r,z,e.symm⟩)⟩,λb J=> .inl (Z b J),eS _,λb J=> .inl (U b J),λi _ N=>by
  simp only[H.gK,H.dE];split
  ·rename_i e;subst e;rw[g] at N;cases N
  ·exact N⟩
 ·rcases d i f hi with ⟨rfl,rfl⟩|⟨L,l⟩
  ·exact⟨p,z,ho⟩
  ·obtain⟨q,hq,W⟩:=K.live i f l
   refine⟨q,hq,OR.mono (Ext.refl m) (h5 q.1 ?_) W⟩
   exact (K.inj id i o f p q (Ne.symm L) g l r z hq).symm
 ·rcases d i f hi with ⟨rfl,rfl⟩|⟨L,l⟩
  ·rcases d j R hj with ⟨rfl,rfl⟩|⟨Q,F⟩
   ·exact absurd rfl n
   ·exact K.inj i j o R Y pj n g F r G u
  ·rcases d j R hj with ⟨rfl,rfl⟩|⟨Q,F⟩
   ·exact K.inj i j f o Y pj n l g O G u
   ·exact K.inj i j f R Y pj n l F O G u
theorem fY.II {m:M}(W:HR P m h w)(hf:fL m h.next){o R:Ob}{q:Nat×Nat×Nat}
  (u:h.get id=some o) (y:o.rw=true) (a5:R.rw=true) (G:m id=some p) (Z:q.1=p.1) (ho: ∀m',Ext m m'->OR P m' R q w')
  (h1:w'.os=w.os) (h2:w'.tape=w.tape) (h3:w'.output=w.output) (h4:w'.heap.size=w.heap.size) (h5: ∀b,b≠p.1->w'.heap[b]? =w.heap[b]?):
  fY P m h w (m.set h.next q) ((h.set id none).new R) w':=by
 have O:m h.next=none:=hf
 have he:Ext m (m.set h.next q):=Ext.set O
 have J:id≠h.next:=λe=>by subst e;rw[O] at G;cases G
 have d: ∀i,i≠h.next->(m.set h.next q) i=m i:=λi hi=>by simp [M.set,hi]
 have l:(m.set h.next q) h.next=some q:=by simp [M.set]
 have f: ∀i g,((h.set id none).new R).get i=some g->(i=h.next/\g=R)∨(i≠h.next/\i≠id/\h.get i=some g):=λi g hi=>by
  simp only[H.gK,H.dE,H.iQ,H.aX] at hi
  by_cases e:i=h.next
  ·simp [e] at hi;exact .inl ⟨e,hi.symm⟩
  ·by_cases O:i=id
   ·simp [O,J] at hi
   ·simp [e,O] at hi;exact .inr ⟨e,O,hi⟩
 refine⟨he,⟨λi g hi=>?_,λi j g Y pi pj Q hi hj a0 A n=>?_⟩,?_,⟨h1,h2,h3,om,λb _ O=>h5 b (λe=>O ⟨id,o,p,u,y,G,e.symm⟩)⟩,λb hb=>?_,by simp [H.iQ,H.aX,H.gK,H.dE],λb hb=>?_,λi O a4=>by
  have e:i≠h.next:=Nat.ne_of_lt O
  by_cases F:i=id
  ·simp [H.iQ,H.aX,H.gK,H.dE,F,J]
  ·simp [H.iQ,H.aX,H.gK,H.dE,e,F,a4]⟩
 ·rcases f i g hi with ⟨rfl,rfl⟩|⟨L,F,z⟩
  ·exact⟨q,l,ho _ he⟩
  ·obtain⟨r,J,O⟩:=W.live i g z
   refine⟨r,by rw[d i L];exact J,OR.mono he (h5 r.1 ?_) O⟩
   exact (W.inj id i o g p r (Ne.symm F) u z y G J).symm
 ·rcases f i g hi with ⟨rfl,rfl⟩|⟨L,F,z⟩
  ·rcases f j Y hj with ⟨rfl,rfl⟩|⟨e3,e4,N⟩
   ·exact absurd rfl Q
   ·rw[l] at A;cases A
    rw[d j e3] at n
    rw[Z]
    exact W.inj id j o Y p pj (Ne.symm e4) u N y G n
  ·rw[d i L] at A
   rcases f j Y hj with ⟨rfl,rfl⟩|⟨e3,e4,N⟩
   ·rw[l] at n;cases n
    rw[Z]
    exact (W.inj id i o g p pi (Ne.symm F) u z y G A).symm
   ·rw[d j e3] at n
    exact W.inj i j g Y pi pj Q z N a0 A n
 ·intro i p U
  by_cases e:i=h.next
  ·subst e;exact .inr ⟨eS _,by simp [H.iQ,H.aX,H.gK,H.dE]⟩
  ·rw[d i e] at U;exact .inl U
 ·obtain⟨i,g,r,K,a2,B,rfl⟩:=hb
  rcases f i g K with ⟨rfl,rfl⟩|⟨L,F,K⟩
  ·rw[l] at B;cases B;exact .inl ⟨id,o,p,u,y,G,Z.symm⟩
  ·rw[d i L] at B;exact .inl ⟨i,g,r,K,a2,B,rfl⟩
 ·obtain⟨i,g,r,K,B,rfl⟩:=hb
  rcases f i g K with ⟨rfl,rfl⟩|⟨L,F,K⟩
  ·rw[l] at B;cases B;exact .inl ⟨id,o,p,u,G,Z.symm⟩
  ·rw[d i L] at B;exact .inl ⟨i,g,r,K,B,rfl⟩
end
end Go.Ay
