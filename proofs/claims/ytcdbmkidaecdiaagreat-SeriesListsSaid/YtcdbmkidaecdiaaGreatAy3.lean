/- The relation between the abstract machine's states and the model's worlds, and how it moves. -/
import Derived.Test.YtcdbmkidaecdiaaGreatAy2
import Derived.RangeFuncLeaves
import Derived.RangeFuncRecord
import Derived.Laws.AppendOwn
import Derived.OwnWalkIn
namespace Go.Ay
section
variable {a vars loc:List V} {c:List Value} {v:V} {x:Value} {nt s t k id:Nat} {pv defs:List Nat} {tmps:Array Value} {P:Program} {p:Nat×Nat×Nat} {w w':World} {h:H}
abbrev M:=Nat->Option (Nat×Nat×Nat)
mutual
def VR (m:M):V->Value->Prop
 | .int k n,x=>x= .int k n
 | .bool b,x=>x= .bool b
 | .ptr id o,x=> ∃p,m id=some p/\x= .pointer (some ⟨p.1,p.2.1+o,none⟩)
 | .nilp,x=>x= .pointer none
 | .sl id o len cap,x=> ∃p c o',m id=some p/\x= .slice (some ⟨p.1,p.2.1+o',none⟩) len c/\len<=c/\(0<len->o'=o)/\
   (match cap with| .kn k=>c=k/\o'=o| .un e=>p.2.1+o'+c*e<=p.2.2)
 | .aE,x=>x= .slice none 0 0
 | .emp a,x=>x= .slice (some a) 0 0
 | .str l,x=>x= .string ⟨(l.map UInt8.ofNat).toArray⟩
 | .ifc t v,x=> ∃y,x= .iface t y/\VR m v y
 | .mp id,x=> ∃p,m id=some p/\x= .map (some p.1)
 | .nilm,x=>x= .map none
 | .fn f fs cs,x=> ∃xs ys,x= .func (.func f) xs ys/\gJ m fs xs.toList/\gJ m cs ys.toList
 | .yl id,x=> ∃p,m id=some p/\x= .func (.yield p.1) #[] #[]
 | .nilf,x=>x= .nilFunc
 | .agg vs,x=> ∃xs,x= .agg xs/\gJ m vs xs.toList
 | .tup vs,x=> ∃xs,x= .tuple xs/\gJ m vs xs.toList
 | .unk,_=>True
def gJ (m:M):List V->List Value->Prop
 | [], []=>True
 |v::vs,x::xs=>VR m v x/\gJ m vs xs
 |_,_=>False
end
def Ext (m m':M):Prop:= ∀id p,m id=some p->m' id=some p
theorem Ext.refl (m:M):Ext m m:=λ_ _ h=>h
theorem Ext.trans {a b c:M}(h:Ext a b)(k:Ext b c):Ext a c:=λ_ _ x=>k _ _ (h _ _ x)
mutual
theorem VR.mono {m f:M}(e:Ext m f): ∀(v:V) (x:Value),VR m v x->VR f v x
 | .int ..,_,h=>by simpa [VR] using h
 | .bool _,_,h=>by simpa [VR] using h
 | .ptr ..,_,h=>by obtain⟨p,b,d⟩:=h;exact⟨p,e _ _ b,d⟩
 | .nilp,_,h=>by simpa [VR] using h
 | .sl _ _ _ _,_,h=>by obtain⟨p,c,j,b,d⟩:=h;exact⟨p,c,j,e _ _ b,d⟩
 | .aE,_,h=>by simpa [VR] using h
 | .emp _,_,h=>by simpa [VR] using h
 | .str _,_,h=>by simpa [VR] using h
 | .ifc _ v,_,h=>by obtain⟨y,b,d⟩:=h;exact⟨y,b,VR.mono e v _ d⟩
 | .mp _,_,h=>by obtain⟨p,b,d⟩:=h;exact⟨p,e _ _ b,d⟩
 | .nilm,_,h=>by simpa [VR] using h
 | .fn _ fs cs,_,h=>by obtain⟨xs,g,b,d,i⟩:=h;exact⟨xs,g,b,gJ.mono e fs _ d,gJ.mono e cs _ i⟩
 | .yl _,_,h=>by obtain⟨p,b,d⟩:=h;exact⟨p,e _ _ b,d⟩
 | .nilf,_,h=>by simpa [VR] using h
 | .agg vs,_,h=>by obtain⟨xs,b,d⟩:=h;exact⟨xs,b,gJ.mono e vs _ d⟩
 | .tup vs,_,h=>by obtain⟨xs,b,d⟩:=h;exact⟨xs,b,gJ.mono e vs _ d⟩
 | .unk,_,_=>by simp [VR]
theorem gJ.mono {m b:M}(e:Ext m b): ∀(vs:List V) (xs:List Value),gJ m vs xs->gJ b vs xs
 | [], [],_=>trivial
 |v::vs,x::xs,h=>⟨VR.mono e v x h.1,gJ.mono e vs xs h.2⟩
 | [],_::_,h=>h.elim
 |_::_, [],h=>h.elim
end
theorem gJ.length {m:M}: ∀{vs:List V} {xs:List Value},gJ m vs xs->vs.length=xs.length
 | [], [],_=>rfl
 |_::vs,_::xs,h=>by simp [gJ.length h.2]
 | [],_::_,h=>h.elim
 |_::_, [],h=>h.elim
theorem gJ.get {m:M}: ∀{vs:List V} {xs:List Value},gJ m vs xs-> ∀{i:Nat} {v:V},vs[i]? =some v-> ∃x,xs[i]? =some x/\VR m v x
 | [], [],_,i,v,h=>by simp at h
 |v::vs,x::xs,h,0,u,hu=>by simp at hu;subst hu;exact⟨x,rfl,h.1⟩
 |v::vs,x::xs,h,i+1,u,hu=>by simpa using gJ.get h.2 (by simpa using hu)
 | [],_::_,h,_,_,_=>h.elim
 |_::_, [],h,_,_,_=>h.elim
theorem gJ.kH {m:M}: ∀{vs:List V} {xs:List Value},vs.length=xs.length->(∀(i:Nat) (v:V),vs[i]? =some v-> ∃x,xs[i]? =some x/\VR m v x)->gJ m vs xs
 | [], [],_,_=>trivial
 |v::vs,x::xs,hl,h=>by
  refine⟨?_,gJ.kH (by simpa using hl) (λi u e=>by simpa using h (i+1) u (by simpa using e))⟩;obtain⟨y,b,d⟩:=h 0 v rfl;simp at b;subst b;exact d
 | [],_::_,hl,_=>by simp at hl
 |_::_, [],hl,_=>by simp at hl
theorem gJ.append {m:M}{b:List V}{d:List Value}(h:gJ m a c)(k:gJ m b d):gJ m (a++b) (c++d):=by
 induction a generalizing c with
 |nil=>cases c with
  |nil=>exact k
  |cons _ _=>exact h.elim
 |cons x xs ih=>cases c with
  |nil=>exact h.elim
  |cons _ _=>exact⟨h.1,ih h.2⟩
theorem gJ.take {m:M}(h:gJ m a c)(n:Nat):gJ m (a.take n) (c.take n):=by
 induction n generalizing a c with
 |zero=>exact trivial
 |succ n ih=>
  cases a<;>cases c<;>first|exact trivial|exact h.elim|exact⟨h.1,ih h.2⟩
theorem gJ.drop {m:M}(h:gJ m a c)(n:Nat):gJ m (a.drop n) (c.drop n):=by
 induction n generalizing a c with
 |zero=>exact h
 |succ n ih=>
  cases a<;>cases c<;>first|exact trivial|exact h.elim|exact ih h.2
theorem VR.undef (m:M):VR m V.undef undef:=⟨#[],rfl,trivial⟩
theorem VR.one {m:M}(h:VR m v x)(b:v.one=true):x.oneCell'=true:=by
 cases v with
 |int|bool|nilp|aE|emp|nilm|nilf|str=>simp [VR] at h;subst h;rfl
 |ifc=>obtain⟨y,rfl,_⟩:=h;rfl
 |ptr|mp|yl=>obtain⟨p,_,rfl⟩:=h;rfl
 |sl=>obtain⟨p,c,d,_,rfl,_⟩:=h;rfl
 |fn=>obtain⟨_,_,rfl,_⟩:=h;rfl
 |agg|tup|unk=>simp [V.one] at b
theorem VR.cells {m:M}(h:VR m v x)(i:v.cells.all V.one=true):gJ m v.cells x.cells.toList:=by
 cases v with
 |unk=>simp [V.cells,V.one] at i
 |agg vs=>obtain⟨xs,rfl,g⟩:=h;exact g
 |int=>simp [VR] at h;subst h;exact⟨rfl,trivial⟩
 |bool=>simp [VR] at h;subst h;exact⟨rfl,trivial⟩
 |nilp=>simp [VR] at h;subst h;exact⟨rfl,trivial⟩
 |aE=>simp [VR] at h;subst h;exact⟨rfl,trivial⟩
 |emp=>simp [VR] at h;subst h;exact⟨rfl,trivial⟩
 |str=>simp [VR] at h;subst h;exact⟨rfl,trivial⟩
 |ifc=>obtain⟨y,rfl,f⟩:=h;exact⟨⟨y,rfl,f⟩,trivial⟩
 |nilm=>simp [VR] at h;subst h;exact⟨rfl,trivial⟩
 |nilf=>simp [VR] at h;subst h;exact⟨rfl,trivial⟩
 |ptr|mp|yl=>obtain⟨p,e,rfl⟩:=h;exact⟨⟨p,e,rfl⟩,trivial⟩
 |sl=>obtain⟨p,c,j,e,rfl,d⟩:=h;exact⟨⟨p,c,j,e,rfl,d⟩,trivial⟩
 |fn=>obtain⟨a,b,rfl,d⟩:=h;exact⟨⟨a,b,rfl,d⟩,trivial⟩
 |tup=>obtain⟨a,rfl,d⟩:=h;exact⟨⟨a,rfl,d⟩,trivial⟩
structure jA (m:M)(nt:Nat)(pv:List Nat)(vars:List V)(tmps:Array Value):Prop where
 size:tmps.size=nt
 len:vars.length=pv.length
 lt: ∀s∈pv,s<nt
 val: ∀s k,idx s pv=some k->VR m (vars.getD k .undef) (tmps.getD s undef)
structure xT (m:M)(pv defs:List Nat)(loc:List V)(tmps:Array Value):Prop where
 apart: ∀s k,idx s defs=some k->idx s pv=none
 val: ∀s k,idx s defs=some k->VR m (loc.getD k .undef) (tmps.getD s undef)
theorem xT.nil (m:M)(pv:List Nat)(tmps:Array Value):xT m pv [] [] tmps:=
 ⟨λ_ _ h=>by simp [idx] at h,λ_ _ h=>by simp [idx] at h⟩
theorem jA.mono {m b:M}(e:Ext m b)(h:jA m nt pv vars tmps):jA b nt pv vars tmps:=
 ⟨h.size,h.len,h.lt,λs k d=>VR.mono e _ _ (h.val s k d)⟩
theorem xT.mono {m b:M}(e:Ext m b)(h:xT m pv defs loc tmps):xT b pv defs loc tmps:=
 ⟨h.apart,λs k d=>VR.mono e _ _ (h.val s k d)⟩
theorem HU {s t k:Nat}: ∀{l:List Nat},idx s l=some k->idx t l=some k->s=t
 | [],h,_=>by simp [idx] at h
 |a::l,h,h'=>by
  simp only[idx] at h h'
  by_cases d:a=s
  ·by_cases b:a=t
   ·exact d.symm.trans b
   ·simp [d] at h;subst h;simp [b] at h'
  ·by_cases b:a=t
   ·simp [b] at h';subst h';simp [d] at h
   ·simp [d] at h;simp [b] at h'
    obtain⟨g,i,rfl⟩:=h;obtain⟨e,f,j⟩:=h';have:g=e:=om
    subst this;exact HU i f
theorem Oe {s k:Nat}: ∀{l:List Nat},idx s l=some k->k<l.length
 | [],h=>by simp [idx] at h
 |a::l,h=>by
  simp only[idx] at h
  by_cases b:a=s
  ·simp [b] at h;subst h;simp
  ·simp [b] at h
   obtain⟨e,d,rfl⟩:=h;have:=Oe d;simp;omega
theorem IV {s k:Nat}: ∀{l:List Nat},idx s l=some k->s∈l
 | [],h=>by simp [idx] at h
 |a::l,h=>by
  simp only[idx] at h
  by_cases b:a=s
  ·simp [b]
  ·simp [b] at h
   obtain⟨e,d,rfl⟩:=h;exact Cu _ (IV d)
theorem zB {a:Array Value}{d:Value}(h:t<a.size):(a.setIfInBounds t x).getD t d=x:=by
 simp [Array.getD,h]
theorem qJ {a:Array Value}{d:Value}(h:t≠s):(a.setIfInBounds t x).getD s d=a.getD s d:=by
 simp only[OQ];rw[Array.getElem?_setIfInBounds_ne h]
theorem jA.set {m:M}(h:jA m nt pv vars tmps)(d:idx t pv=some k)
    (i:VR m v x):jA m nt pv (vars.set k v) (tmps.setIfInBounds t x):=by
 have f:t<tmps.size:=by rw[h.size];exact h.lt t (IV d)
 refine⟨by simpa using h.size,by simpa using h.len,h.lt,λs j b=>?_⟩
 by_cases iB:s=t
 ·subst iB
  have:j=k:=by rw[d] at b;exact (Option.some.inj b).symm
  subst this
  have l:j<vars.length:=by rw[h.len];exact Oe d
  rw[zB f]
  simp [List.getD,l]
  exact i
 ·have g:j≠k:=λe=>iB (HU (e▸b) d)
  rw[qJ (Ne.symm iB)]
  have:=h.val s j b
  simpa [List.getD,List.getElem?_set_ne (Ne.symm g)] using this
theorem xT.aiD {m:M}(h:xT m pv defs loc tmps)(b:idx t pv=some k)(x:Value):
  xT m pv defs loc (tmps.setIfInBounds t x):=by
 refine⟨h.apart,λs j d=>?_⟩
 have:t≠s:=λe=>by subst e;rw[h.apart t j d] at b;cases b
 rw[qJ this]
 exact h.val s j d
theorem jA.afY {m:M}(h:jA m nt pv vars tmps)(d:idx t pv=none)(x:Value):
  jA m nt pv vars (tmps.setIfInBounds t x):=by
 refine⟨by simpa using h.size,h.len,h.lt,λs j b=>?_⟩
 have:t≠s:=λe=>by subst e;rw[b] at d;cases d
 rw[qJ this]
 exact h.val s j b
theorem xT.push {m:M}{nt:Nat}(h:xT m pv defs loc tmps)(l:idx t pv=none)(f:t<tmps.size)
    (i:VR m v x):xT m pv (t::defs) (v::loc) (tmps.setIfInBounds t x):=by
 have _:=nt
 refine⟨λs j d=>?_,λs j d=>?_⟩
 ·simp only[idx] at d
  by_cases b:t=s
  ·subst b;exact l
  ·simp [b] at d
   obtain⟨g,e,rfl⟩:=d
   exact h.apart s g e
 ·simp only[idx] at d
  by_cases b:t=s
  ·subst b
   simp at d;subst d
   rw[zB f]
   exact i
  ·simp [b] at d
   obtain⟨g,e,rfl⟩:=d
   rw[qJ b]
   exact h.val s g e
def Ob.rw:Ob->Bool
 | .cells ro _=>!ro
 |_=>true
def RX:E->Option Code
 | .norm=>none
 | .ret=>some .ret
 | .exit n=>some (.exit n)
def aiH:LSt->LoopState
 | .ready=> .ready
 | .busy=> .busy
 | .done=> .done
 | .out=> .exhausted
structure EX (P:Program)(m:M)(r:dY)(q:Loop):Prop where
 vars: ∃nt pv,jA m nt pv r.vars q.tmps/\iZ P nt pv q.assign=some r.assign/\iZ P nt pv q.body=some r.body/\
  cI (q.params.toList.map λt=>idx t pv)=some r.pars
 st:q.state=aiH r.st
 pend:q.pending=r.pend.bind RX
 nn:r.pend≠some .norm
def OR (P:Program)(m:M)(o:Ob)(p:Nat×Nat×Nat)(w:World):Prop:=
 match o with
 | .cells ro vs=> ∃c elem fr,w.heap[p.1]? =some (.cells c elem fr)/\c.size=p.2.2/\p.2.1+vs.length<=p.2.2/\
   (∀(i:Nat) (v:V),vs[i]? =some v->v.one=true/\ ∃x,c[p.2.1+i]? =some x/\VR m v x)/\(ro=false->fr=(0,0))
 | .map es=> ∃es' clock,w.heap[p.1]? =some (.map es' clock)/\es.length=es'.size/\
   ∀(i:Nat) (k v:V),es[i]? =some (k,v)-> ∃e:MapEntry,es'[i]? =some e/\VR m k e.key/\VR m v e.val
 | .wmap sh es=>(∀(i j:Nat) (a b:V×V),es[i]? =some a->es[j]? =some b->dB a.1 b.1=true->i=j)/\ ∃es' clock,w.heap[p.1]? =some (.map es' clock)/\es.length=es'.size/\clock=es'.size/\
   ∀(i:Nat) (k v:V),es[i]? =some (k,v)->isKey sh k=true/\ ∃e:MapEntry,es'[i]? =some e/\e.born=i/\VR m k e.key/\VR m v e.val
 | .loop r=> ∃q,w.heap[p.1]? =some (.loop q)/\EX P m r q
theorem EX.mono {m b:M}{r:dY}{q:Loop}(e:Ext m b)(h:EX P m r q):EX P b r q:=by
 obtain⟨⟨nt,pv,d,f⟩,i,j,g⟩:=h;exact⟨⟨nt,pv,d.mono e,f⟩,i,j,g⟩
theorem OR.mono {m B:M}{o:Ob}(e:Ext m B)(z:w'.heap[p.1]? =w.heap[p.1]?)(h:OR P m o p w):OR P B o p w':=by
 cases o with
 |cells ro vs=>
  obtain⟨c,el,fr,l,n,u,A,G⟩:=h;exact⟨c,el,fr,z.trans l,n,u,λi v y=>let ⟨a,x,b,c⟩:=A i v y;⟨a,x,b,VR.mono e _ _ c⟩,G⟩
 |map es=>
  obtain⟨j,f,l,n,u⟩:=h;exact⟨j,f,z.trans l,n,λi k v y=>let ⟨x,a,b,c⟩:=u i k v y;⟨x,a,VR.mono e _ _ b,VR.mono e _ _ c⟩⟩
 |wmap sh es=>
  obtain⟨F,j,f,l,n,u,A⟩:=h;exact⟨F,j,f,z.trans l,n,u,λi k v y=>let ⟨g,x,a,b,c,d⟩:=A i k v y;⟨g,x,a,b,VR.mono e _ _ c,VR.mono e _ _ d⟩⟩
 |loop r=>
  obtain⟨q,l,n⟩:=h;exact⟨q,z.trans l,n.mono e⟩
theorem OR.lt {m:M}{o:Ob}(h:OR P m o p w):p.1<w.heap.size:=by
 cases o with
 |cells ro vs=>obtain⟨c,el,fr,b,_⟩:=h;exact (Wi.1 b).1
 |map es=>obtain⟨c,el,b,_⟩:=h;exact (Wi.1 b).1
 |wmap sh es=>obtain⟨_,c,el,b,_⟩:=h;exact (Wi.1 b).1
 |loop r=>obtain⟨q,b,_⟩:=h;exact (Wi.1 b).1
structure HR (P:Program)(m:M)(h:H)(w:World):Prop where
 live: ∀id o,h.get id=some o-> ∃p,m id=some p/\OR P m o p w
 inj: ∀i j oi oj pi pj,i≠j->h.get i=some oi->h.get j=some oj->oi.rw=true->m i=some pi->m j=some pj->pi.1≠pj.1
def fW (m:M)(n:Nat):Prop:=m n=none
def Qx (m:M)(n:Nat):Prop:= ∀id,n<=id->m id=none
theorem Qx.fresh {m:M}{n:Nat}(h:Qx m n):fW m n:=h n (eH _)
def LB (m:M)(h:H)(b:Nat):Prop:= ∃id o p,h.get id=some o/\m id=some p/\p.1=b
def FP (m:M)(h:H)(b:Nat):Prop:= ∃id o p,h.get id=some o/\o.rw=true/\m id=some p/\p.1=b
structure Kept (m:M)(h:H)(w w':World):Prop where
 os:w'.os=w.os
 tape:w'.tape=w.tape
 output:w'.output=w.output
 size:w.heap.size<=w'.heap.size
 block: ∀b,b<w.heap.size-> ¬FP m h b->w'.heap[b]? =w.heap[b]?
structure iC (P:Program)(m:M)(h:H)(w:World)(m':M)(h':H)(w':World):Prop where
 ext:Ext m m'
 rel:HR P m' h' w'
 fresh: ∀id p,m' id=some p->m id=some p∨(h.next<=id/\id<h'.next)
 kept:Kept m h w w'
 fp: ∀b,FP m' h' b->FP m h b∨w.heap.size<=b
 next:h.next<=h'.next
 lb: ∀b,LB m' h' b->LB m h b∨w.heap.size<=b
 old: ∀id,id<h.next->h.get id=none->h'.get id=none
theorem iC.low {m:M}{b:M}{h':H}(a:iC P m h w b h' w')(l:Qx m h.next):Qx b h'.next:=λid e=>by
 cases hm:b id with
 |none=>rfl
 |some p=>
  exfalso;have f:=a.next;rcases a.fresh id p hm with d|⟨_,d⟩
  ·rw[l id om] at d;cases d
  ·omega
theorem iC.Ts {m:M}(b:HR P m h w):iC P m h w m h w:=
 ⟨Ext.refl m,b,λ_ _ h=> .inl h,⟨rfl,rfl,rfl,eH _,λ_ _ _=>rfl⟩,λ_ h=> .inl h,eH _,λ_ h=> .inl h,λ_ _ h=>h⟩
theorem iC.refl {m:M}(b:HR P m h w)(_:fW m h.next):iC P m h w m h w:=iC.Ts b
theorem iC.trans {m q e:M}{h' f:H}{g:World}(a:iC P m h w q h' w')(b:iC P q h' w' e f g):iC P m h w e f g where
 ext:=a.ext.trans b.ext
 rel:=b.rel
 fresh:=λid p y=>by
  have r:=a.next;have u:=b.next;rcases b.fresh id p y with l|l
  ·rcases a.fresh id p l with n|n
   ·exact .inl n
   ·exact .inr ⟨n.1,om⟩
  ·exact .inr ⟨om,l.2⟩
 kept:={
  os:=b.kept.os.trans a.kept.os
  tape:=b.kept.tape.trans a.kept.tape
  output:=b.kept.output.trans a.kept.output
  size:=lX a.kept.size b.kept.size
  block:=λx d j=>by
   have r:=a.kept.block x d j;have u:=b.kept.block x (jB d a.kept.size) (λo=>(a.fp x o).elim j (λz=>om))
   exact u.trans r}
 fp:=λx d=>(b.fp x d).elim (λh=>a.fp x h) (λh=> .inr (lX a.kept.size h))
 next:=lX a.next b.next
 lb:=λx d=>(b.lb x d).elim (λh=>a.lb x h) (λh=> .inr (lX a.kept.size h))
 old:=λid i j=>b.old id (jB i a.next) (a.old id i j)
theorem iC.drawn {P:Program}{m:M}{h:H}{w:World}(d:HR P m h w)(_:fW m h.next)(n:Nat):iC P m h w m h {w with drawn:=n}:=
 ⟨Ext.refl m,⟨λid o e=>let ⟨p,a,b⟩:=d.live id o e;⟨p,a,OR.mono (w:=w) (Ext.refl m) rfl b⟩,d.inj⟩,λ_ _ h=> .inl h,⟨rfl,rfl,rfl,eH _,λ_ _ _=>rfl⟩,λ_ h=> .inl h,eH _,λ_ h=> .inl h,λ_ _ h=>h⟩
def M.set (m:M)(id:Nat)(p:Nat×Nat×Nat):M:=λi=>if i=id then some p else m i
theorem Ext.set {m:M}(h:m id=none):Ext m (m.set id p):=λi q b=>by
 unfold M.set;split
 ·rename_i e;subst e;rw[h] at b;cases b
 ·exact b
theorem iC.new {m:M}(O:HR P m h w)(hf:fW m h.next)(o:Ob)(c:Obj)(q:Nat×Nat)
  (ho: ∀m',Ext m m'->m' h.next=some (w.heap.size,q)->OR P m' o (w.heap.size,q) (w.alloc c)):
  iC P m h w (m.set h.next (w.heap.size,q)) (h.new o) (w.alloc c):=by
 have Z:m h.next=none:=hf
 have U:Ext m (m.set h.next (w.heap.size,q)):=Ext.set Z
 have g:(m.set h.next (w.heap.size,q)) h.next=some (w.heap.size,q):=by simp [M.set]
 have l: ∀id u,(h.new o).get id=some u->(id=h.next/\u=o)∨(id≠h.next/\h.get id=some u):=λid u f=>by
  simp only[H.jQ,H.aU] at f
  by_cases hi:id=h.next
  ·simp [hi] at f;exact .inl ⟨hi,f.symm⟩
  ·simp [hi] at f;exact .inr ⟨hi,f⟩
 have d: ∀id,id≠h.next->(m.set h.next (w.heap.size,q)) id=m id:=λid hi=>by simp [M.set,hi]
 refine⟨U,⟨λid u f=>?_,λi j R N Y pj L hi J Q A r=>?_⟩,?_,⟨rfl,rfl,rfl,by simp,λb K _=>heap_alloc_old w c _ K⟩,λb K=>?_,by simp [H.jQ,H.aU],λb K=>?_,λid f W=>by
  simp only[H.jQ,H.aU]
  rw[bL om];exact W⟩
 ·rcases l id u f with ⟨rfl,rfl⟩|⟨n,f⟩
  ·exact⟨_,g,ho _ U g⟩
  ·obtain⟨p,B,y⟩:=O.live id u f
   exact⟨p,by rw[d id n];exact B,OR.mono U (heap_alloc_old w c _ y.lt) y⟩
 ·rcases l i R hi with ⟨rfl,rfl⟩|⟨n,hi⟩
  ·rcases l j N J with ⟨rfl,rfl⟩|⟨z,J⟩
   ·exact absurd rfl L
   ·rw[g] at A;cases A
    rw[d j z] at r
    obtain⟨p,B,y⟩:=O.live j N J
    rw[r] at B;cases B
    have:=y.lt
    exact Nat.ne_of_gt this
  ·rw[d i n] at A
   obtain⟨p,B,y⟩:=O.live i R hi
   rw[A] at B;cases B
   rcases l j N J with ⟨rfl,rfl⟩|⟨z,J⟩
   ·rw[g] at r;cases r
    exact Nat.ne_of_lt y.lt
   ·rw[d j z] at r
    exact O.inj i j R N Y pj L hi J Q A r
 ·intro id p B
  by_cases e:id=h.next
  ·subst e;exact .inr ⟨eH _,by simp [H.jQ,H.aU]⟩
  ·rw[d id e] at B;exact .inl B
 ·obtain⟨id,u,p,G,h2,F,rfl⟩:=K
  rcases l id u G with ⟨rfl,rfl⟩|⟨n,G⟩
  ·rw[g] at F;cases F;exact .inr (eH _)
  ·rw[d id n] at F
   exact .inl ⟨id,u,p,G,h2,F,rfl⟩
 ·obtain⟨id,u,p,G,F,rfl⟩:=K
  rcases l id u G with ⟨rfl,rfl⟩|⟨n,G⟩
  ·rw[g] at F;cases F;exact .inr (eH _)
  ·rw[d id n] at F
   exact .inl ⟨id,u,p,G,F,rfl⟩
theorem iC.put {m:M}(Q:HR P m h w)(_:fW m h.next){o B:Ob}
  (g:h.get id=some o) (r:o.rw=true) (a4:B.rw=true) (z:m id=some p) (ho:OR P m B p w')
  (h1:w'.os=w.os) (h2:w'.tape=w.tape) (h3:w'.output=w.output) (h4:w'.heap.size=w.heap.size) (h5: ∀b,b≠p.1->w'.heap[b]? =w.heap[b]?):
  iC P m h w m (h.set id (some B)) w':=by
 have d: ∀i f,(h.set id (some B)).get i=some f->(i=id/\f=B)∨(i≠id/\h.get i=some f):=λi f hi=>by
  simp only[H.iW,H.cH] at hi
  by_cases e:i=id
  ·simp [e] at hi;exact .inl ⟨e,hi.symm⟩
  ·simp [e] at hi;exact .inr ⟨e,hi⟩
 have Y: ∀b,FP m (h.set id (some B)) b->FP m h b:=λb u=>by
  obtain⟨i,f,q,G,a2,F,rfl⟩:=u;rcases d i f G with ⟨rfl,rfl⟩|⟨_,G⟩
  ·rw[z] at F;cases F;exact⟨i,o,_,g,r,z,rfl⟩
  ·exact⟨i,f,q,G,a2,F,rfl⟩
 have W: ∀b,LB m (h.set id (some B)) b->LB m h b:=λb u=>by
  obtain⟨i,f,q,G,F,rfl⟩:=u;rcases d i f G with ⟨rfl,rfl⟩|⟨_,G⟩
  ·rw[z] at F;cases F;exact⟨i,o,_,g,z,rfl⟩
  ·exact⟨i,f,q,G,F,rfl⟩
 refine⟨Ext.refl m,⟨λi f hi=>?_,λi j f R U Z n hi hj L J A=>?_⟩,λ_ _ h=> .inl h,⟨h1,h2,h3,om,λb _ N=>h5 b (λe=>N ⟨id,o,p,g,r,z,e.symm⟩)⟩,λb u=> .inl (Y b u),eH _,λb u=> .inl (W b u),λi _ N=>by
  simp only[H.iW,H.cH];split
  ·rename_i e;subst e;rw[g] at N;cases N
  ·exact N⟩
 ·rcases d i f hi with ⟨rfl,rfl⟩|⟨O,l⟩
  ·exact⟨p,z,ho⟩
  ·obtain⟨q,hq,a0⟩:=Q.live i f l
   refine⟨q,hq,OR.mono (Ext.refl m) (h5 q.1 ?_) a0⟩
   exact (Q.inj id i o f p q (Ne.symm O) g l r z hq).symm
 ·rcases d i f hi with ⟨rfl,rfl⟩|⟨O,l⟩
  ·rcases d j R hj with ⟨rfl,rfl⟩|⟨K,y⟩
   ·exact absurd rfl n
   ·exact Q.inj i j o R U Z n g y r J A
  ·rcases d j R hj with ⟨rfl,rfl⟩|⟨K,y⟩
   ·exact Q.inj i j f o U Z n l g L J A
   ·exact Q.inj i j f R U Z n l y L J A
theorem iC.ajH {m:M}(Y:HR P m h w)(hf:fW m h.next){o R:Ob}{q:Nat×Nat×Nat}
  (n:h.get id=some o) (A:o.rw=true) (a7:R.rw=true) (G:m id=some p) (hq:q.1=p.1) (ho: ∀m',Ext m m'->OR P m' R q w')
  (h1:w'.os=w.os) (h2:w'.tape=w.tape) (h3:w'.output=w.output) (h4:w'.heap.size=w.heap.size) (h5: ∀b,b≠p.1->w'.heap[b]? =w.heap[b]?):
  iC P m h w (m.set h.next q) ((h.set id none).new R) w':=by
 have hn:m h.next=none:=hf
 have he:Ext m (m.set h.next q):=Ext.set hn
 have J:id≠h.next:=λe=>by subst e;rw[hn] at G;cases G
 have d: ∀i,i≠h.next->(m.set h.next q) i=m i:=λi hi=>by simp [M.set,hi]
 have l:(m.set h.next q) h.next=some q:=by simp [M.set]
 have f: ∀i g,((h.set id none).new R).get i=some g->(i=h.next/\g=R)∨(i≠h.next/\i≠id/\h.get i=some g):=λi g hi=>by
  simp only[H.iW,H.cH,H.jQ,H.aU] at hi
  by_cases e:i=h.next
  ·simp [e] at hi;exact .inl ⟨e,hi.symm⟩
  ·by_cases e':i=id
   ·simp [e',J] at hi
   ·simp [e,e'] at hi;exact .inr ⟨e,e',hi⟩
 refine⟨he,⟨λi g hi=>?_,λi j g Z pi pj U hi hj a0 z u=>?_⟩,?_,⟨h1,h2,h3,om,λb _ a4=>h5 b (λe=>a4 ⟨id,o,p,n,A,G,e.symm⟩)⟩,λb hb=>?_,by simp [H.jQ,H.aU,H.iW,H.cH],λb hb=>?_,λi Q a6=>by
  have e:i≠h.next:=Nat.ne_of_lt Q
  by_cases F:i=id
  ·simp [H.jQ,H.aU,H.iW,H.cH,F,J]
  ·simp [H.jQ,H.aU,H.iW,H.cH,e,F,a6]⟩
 ·rcases f i g hi with ⟨rfl,rfl⟩|⟨K,F,y⟩
  ·exact⟨q,l,ho _ he⟩
  ·obtain⟨r,W,a5⟩:=Y.live i g y
   refine⟨r,by rw[d i K];exact W,OR.mono he (h5 r.1 ?_) a5⟩
   exact (Y.inj id i o g p r (Ne.symm F) n y A G W).symm
 ·rcases f i g hi with ⟨rfl,rfl⟩|⟨K,F,y⟩
  ·rcases f j Z hj with ⟨rfl,rfl⟩|⟨e3,e4,L⟩
   ·exact absurd rfl U
   ·rw[l] at z;cases z
    rw[d j e3] at u
    rw[hq]
    exact Y.inj id j o Z p pj (Ne.symm e4) n L A G u
  ·rw[d i K] at z
   rcases f j Z hj with ⟨rfl,rfl⟩|⟨e3,e4,L⟩
   ·rw[l] at u;cases u
    rw[hq]
    exact (Y.inj id i o g p pi (Ne.symm F) n y A G z).symm
   ·rw[d j e3] at u
    exact Y.inj i j g Z pi pj U y L a0 z u
 ·intro i p O
  by_cases e:i=h.next
  ·subst e;exact .inr ⟨eH _,by simp [H.jQ,H.aU,H.iW,H.cH]⟩
  ·rw[d i e] at O;exact .inl O
 ·obtain⟨i,g,r,N,a2,B,rfl⟩:=hb
  rcases f i g N with ⟨rfl,rfl⟩|⟨K,F,N⟩
  ·rw[l] at B;cases B;exact .inl ⟨id,o,p,n,A,G,hq.symm⟩
  ·rw[d i K] at B;exact .inl ⟨i,g,r,N,a2,B,rfl⟩
 ·obtain⟨i,g,r,N,B,rfl⟩:=hb
  rcases f i g N with ⟨rfl,rfl⟩|⟨K,F,N⟩
  ·rw[l] at B;cases B;exact .inl ⟨id,o,p,n,G,hq.symm⟩
  ·rw[d i K] at B;exact .inl ⟨i,g,r,N,B,rfl⟩
end
end Go.Ay
