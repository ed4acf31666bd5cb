/- The relation between the abstract machine's states and the model's worlds, and how it moves. -/
import Derived.Test.YtcdbmkidaecdiaaGreatAy2
import Derived.RangeFuncLeaves
import Derived.RangeFuncRecord
import Derived.Laws.AppendOwn
import Derived.OwnWalkIn
namespace Go.Ay
section
variable {a vars loc:List V} {c:List Value} {v:V} {x:Value} {nt s t k id:Nat} {pv defs:List Nat} {tmps:Array Value} {P:Program} {p:Nat×Nat×Nat} {w w':World} {h:H}
abbrev M:=Nat->Option (Nat×Nat×Nat)
mutual
def VR (m:M):V->Value->Prop
 | .int k n,x=>x= .int k n
 | .bool b,x=>x= .bool b
 | .ptr id o,x=> ∃p,m id=some p/\x= .pointer (some ⟨p.1,p.2.1+o,none⟩)
 | .nilp,x=>x= .pointer none
 | .sl id o len cap,x=> ∃p c o',m id=some p/\x= .slice (some ⟨p.1,p.2.1+o',none⟩) len c/\len<=c/\(0<len->o'=o)/\
   (match cap with| .kn k=>c=k/\o'=o| .un e=>p.2.1+o'+c*e<=p.2.2)
 | .aD,x=>x= .slice none 0 0
 | .emp a,x=>x= .slice (some a) 0 0
 | .str l,x=>x= .string ⟨(l.map UInt8.ofNat).toArray⟩
 | .ifc t v,x=> ∃y,x= .iface t y/\VR m v y
 | .mp id,x=> ∃p,m id=some p/\x= .map (some p.1)
 | .nilm,x=>x= .map none
 | .fn f fs cs,x=> ∃xs ys,x= .func (.func f) xs ys/\iR m fs xs.toList/\iR m cs ys.toList
 | .yl id,x=> ∃p,m id=some p/\x= .func (.yield p.1) #[] #[]
 | .nilf,x=>x= .nilFunc
 | .agg vs,x=> ∃xs,x= .agg xs/\iR m vs xs.toList
 | .tup vs,x=> ∃xs,x= .tuple xs/\iR m vs xs.toList
 | .unk,_=>True
def iR (m:M):List V->List Value->Prop
 | [], []=>True
 |v::vs,x::xs=>VR m v x/\iR m vs xs
 |_,_=>False
end
def Ext (m m':M):Prop:= ∀id p,m id=some p->m' id=some p
theorem Ext.refl (m:M):Ext m m:=λ_ _ h=>h
theorem Ext.trans {a b c:M}(h:Ext a b)(k:Ext b c):Ext a c:=λ_ _ x=>k _ _ (h _ _ x)
mutual
theorem VR.mono {m f:M}(e:Ext m f): ∀(v:V) (x:Value),VR m v x->VR f v x
 | .int ..,_,h=>by simpa [VR] using h
 | .bool _,_,h=>by simpa [VR] using h
 | .ptr ..,_,h=>by obtain⟨p,b,d⟩:=h;exact⟨p,e _ _ b,d⟩
 | .nilp,_,h=>by simpa [VR] using h
 | .sl _ _ _ _,_,h=>by obtain⟨p,c,i,b,d⟩:=h;exact⟨p,c,i,e _ _ b,d⟩
 | .aD,_,h=>by simpa [VR] using h
 | .emp _,_,h=>by simpa [VR] using h
 | .str _,_,h=>by simpa [VR] using h
 | .ifc _ v,_,h=>by obtain⟨y,b,d⟩:=h;exact⟨y,b,VR.mono e v _ d⟩
 | .mp _,_,h=>by obtain⟨p,b,d⟩:=h;exact⟨p,e _ _ b,d⟩
 | .nilm,_,h=>by simpa [VR] using h
 | .fn _ fs cs,_,h=>by obtain⟨xs,j,b,d,g⟩:=h;exact⟨xs,j,b,iR.mono e fs _ d,iR.mono e cs _ g⟩
 | .yl _,_,h=>by obtain⟨p,b,d⟩:=h;exact⟨p,e _ _ b,d⟩
 | .nilf,_,h=>by simpa [VR] using h
 | .agg vs,_,h=>by obtain⟨xs,b,d⟩:=h;exact⟨xs,b,iR.mono e vs _ d⟩
 | .tup vs,_,h=>by obtain⟨xs,b,d⟩:=h;exact⟨xs,b,iR.mono e vs _ d⟩
 | .unk,_,_=>by simp [VR]
theorem iR.mono {m b:M}(e:Ext m b): ∀(vs:List V) (xs:List Value),iR m vs xs->iR b vs xs
 | [], [],_=>trivial
 |v::vs,x::xs,h=>⟨VR.mono e v x h.1,iR.mono e vs xs h.2⟩
 | [],_::_,h=>h.elim
 |_::_, [],h=>h.elim
end
theorem iR.length {m:M}: ∀{vs:List V} {xs:List Value},iR m vs xs->vs.length=xs.length
 | [], [],_=>rfl
 |_::vs,_::xs,h=>by simp [iR.length h.2]
 | [],_::_,h=>h.elim
 |_::_, [],h=>h.elim
theorem iR.get {m:M}: ∀{vs:List V} {xs:List Value},iR m vs xs-> ∀{i:Nat} {v:V},vs[i]? =some v-> ∃x,xs[i]? =some x/\VR m v x
 | [], [],_,i,v,h=>by simp at h
 |v::vs,x::xs,h,0,u,hu=>by simp at hu;subst hu;exact⟨x,rfl,h.1⟩
 |v::vs,x::xs,h,i+1,u,hu=>by simpa using iR.get h.2 (by simpa using hu)
 | [],_::_,h,_,_,_=>h.elim
 |_::_, [],h,_,_,_=>h.elim
theorem iR.eM {m:M}: ∀{vs:List V} {xs:List Value},vs.length=xs.length->(∀(i:Nat) (v:V),vs[i]? =some v-> ∃x,xs[i]? =some x/\VR m v x)->iR m vs xs
 | [], [],_,_=>trivial
 |v::vs,x::xs,hl,h=>by
  refine⟨?_,iR.eM (by simpa using hl) (λi u e=>by simpa using h (i+1) u (by simpa using e))⟩;obtain⟨y,b,d⟩:=h 0 v rfl;simp at b;subst b;exact d
 | [],_::_,hl,_=>by simp at hl
 |_::_, [],hl,_=>by simp at hl
theorem iR.append {m:M}{b:List V}{d:List Value}(h:iR m a c)(k:iR m b d):iR m (a++b) (c++d):=by
 induction a generalizing c with
 |nil=>cases c with
  |nil=>exact k
  |cons _ _=>exact h.elim
 |cons x xs ih=>cases c with
  |nil=>exact h.elim
  |cons _ _=>exact⟨h.1,ih h.2⟩
theorem iR.take {m:M}(h:iR m a c)(n:Nat):iR m (a.take n) (c.take n):=by
 induction n generalizing a c with
 |zero=>exact trivial
 |succ n ih=>
  cases a<;>cases c<;>first|exact trivial|exact h.elim|exact⟨h.1,ih h.2⟩
theorem iR.drop {m:M}(h:iR m a c)(n:Nat):iR m (a.drop n) (c.drop n):=by
 induction n generalizing a c with
 |zero=>exact h
 |succ n ih=>
  cases a<;>cases c<;>first|exact trivial|exact h.elim|exact ih h.2
theorem VR.undef (m:M):VR m V.undef undef:=⟨#[],rfl,trivial⟩
theorem VR.one {m:M}(h:VR m v x)(b:v.one=true):x.oneCell'=true:=by
 cases v with
 |int|bool|nilp|aD|emp|nilm|nilf|str=>simp [VR] at h;subst h;rfl
 |ifc=>obtain⟨y,rfl,_⟩:=h;rfl
 |ptr|mp|yl=>obtain⟨p,_,rfl⟩:=h;rfl
 |sl=>obtain⟨p,c,d,_,rfl,_⟩:=h;rfl
 |fn=>obtain⟨_,_,rfl,_⟩:=h;rfl
 |agg|tup|unk=>simp [V.one] at b
theorem VR.cells {m:M}(h:VR m v x)(i:v.cells.all V.one=true):iR m v.cells x.cells.toList:=by
 cases v with
 |unk=>simp [V.cells,V.one] at i
 |agg vs=>obtain⟨xs,rfl,j⟩:=h;exact j
 |int=>simp [VR] at h;subst h;exact⟨rfl,trivial⟩
 |bool=>simp [VR] at h;subst h;exact⟨rfl,trivial⟩
 |nilp=>simp [VR] at h;subst h;exact⟨rfl,trivial⟩
 |aD=>simp [VR] at h;subst h;exact⟨rfl,trivial⟩
 |emp=>simp [VR] at h;subst h;exact⟨rfl,trivial⟩
 |str=>simp [VR] at h;subst h;exact⟨rfl,trivial⟩
 |ifc=>obtain⟨y,rfl,f⟩:=h;exact⟨⟨y,rfl,f⟩,trivial⟩
 |nilm=>simp [VR] at h;subst h;exact⟨rfl,trivial⟩
 |nilf=>simp [VR] at h;subst h;exact⟨rfl,trivial⟩
 |ptr|mp|yl=>obtain⟨p,e,rfl⟩:=h;exact⟨⟨p,e,rfl⟩,trivial⟩
 |sl=>obtain⟨p,c,g,e,rfl,d⟩:=h;exact⟨⟨p,c,g,e,rfl,d⟩,trivial⟩
 |fn=>obtain⟨a,b,rfl,d⟩:=h;exact⟨⟨a,b,rfl,d⟩,trivial⟩
 |tup=>obtain⟨a,rfl,d⟩:=h;exact⟨⟨a,rfl,d⟩,trivial⟩
structure jW (m:M)(nt:Nat)(pv:List Nat)(vars:List V)(tmps:Array Value):Prop where
 size:tmps.size=nt
 len:vars.length=pv.length
 lt: ∀s∈pv,s<nt
 val: ∀s k,idx s pv=some k->VR m (vars.getD k .undef) (tmps.getD s undef)
structure Dy (m:M)(pv defs:List Nat)(loc:List V)(tmps:Array Value):Prop where
 apart: ∀s k,idx s defs=some k->idx s pv=none
 val: ∀s k,idx s defs=some k->VR m (loc.getD k .undef) (tmps.getD s undef)
theorem Dy.nil (m:M)(pv:List Nat)(tmps:Array Value):Dy m pv [] [] tmps:=
 ⟨λ_ _ h=>by simp [idx] at h,λ_ _ h=>by simp [idx] at h⟩
theorem jW.mono {m b:M}(e:Ext m b)(h:jW m nt pv vars tmps):jW b nt pv vars tmps:=
 ⟨h.size,h.len,h.lt,λs k d=>VR.mono e _ _ (h.val s k d)⟩
theorem Dy.mono {m b:M}(e:Ext m b)(h:Dy m pv defs loc tmps):Dy b pv defs loc tmps:=
 ⟨h.apart,λs k d=>VR.mono e _ _ (h.val s k d)⟩
theorem JJ {s t k:Nat}: ∀{l:List Nat},idx s l=some k->idx t l=some k->s=t
 | [],h,_=>by simp [idx] at h
 |a::l,h,h'=>by
  simp only[idx] at h h'
  by_cases d:a=s
  ·by_cases b:a=t
   ·exact d.symm.trans b
   ·simp [d] at h;subst h;simp [b] at h'
  ·by_cases b:a=t
   ·simp [b] at h';subst h';simp [d] at h
   ·simp [d] at h;simp [b] at h'
    obtain⟨i,e,rfl⟩:=h;obtain⟨g,f,j⟩:=h';have:i=g:=om
    subst this;exact JJ e f
theorem Qr {s k:Nat}: ∀{l:List Nat},idx s l=some k->k<l.length
 | [],h=>by simp [idx] at h
 |a::l,h=>by
  simp only[idx] at h
  by_cases b:a=s
  ·simp [b] at h;subst h;simp
  ·simp [b] at h
   obtain⟨e,d,rfl⟩:=h;have:=Qr d;simp;omega
theorem JF {s k:Nat}: ∀{l:List Nat},idx s l=some k->s∈l
 | [],h=>by simp [idx] at h
 |a::l,h=>by
  simp only[idx] at h
  by_cases b:a=s
  ·simp [b]
  ·simp [b] at h
   obtain⟨e,d,rfl⟩:=h;exact wI _ (JF d)
theorem Ac {a:Array Value}{d:Value}(h:t<a.size):(a.setIfInBounds t x).getD t d=x:=by
 simp [Array.getD,h]
theorem rF {a:Array Value}{d:Value}(h:t≠s):(a.setIfInBounds t x).getD s d=a.getD s d:=by
 simp only[OV];rw[Array.getElem?_setIfInBounds_ne h]
theorem jW.set {m:M}(h:jW m nt pv vars tmps)(b:idx t pv=some k)
    (l:VR m v x):jW m nt pv (vars.set k v) (tmps.setIfInBounds t x):=by
 have f:t<tmps.size:=by rw[h.size];exact h.lt t (JF b)
 refine⟨by simpa using h.size,by simpa using h.len,h.lt,λs j d=>?_⟩
 by_cases jI:s=t
 ·subst jI
  have:j=k:=by rw[b] at d;exact (Option.some.inj d).symm
  subst this
  have i:j<vars.length:=by rw[h.len];exact Qr b
  rw[Ac f]
  simp [List.getD,i]
  exact l
 ·have g:j≠k:=λe=>jI (JJ (e▸d) b)
  rw[rF (Ne.symm jI)]
  have:=h.val s j d
  simpa [List.getD,List.getElem?_set_ne (Ne.symm g)] using this
theorem Dy.agW {m:M}(h:Dy m pv defs loc tmps)(b:idx t pv=some k)(x:Value):
  Dy m pv defs loc (tmps.setIfInBounds t x):=by
 refine⟨h.apart,λs j d=>?_⟩
 have:t≠s:=λe=>by subst e;rw[h.apart t j d] at b;cases b
 rw[rF this]
 exact h.val s j d
theorem jW.afY {m:M}(h:jW m nt pv vars tmps)(d:idx t pv=none)(x:Value):
  jW m nt pv vars (tmps.setIfInBounds t x):=by
 refine⟨by simpa using h.size,h.len,h.lt,λs j b=>?_⟩
 have:t≠s:=λe=>by subst e;rw[b] at d;cases d
 rw[rF this]
 exact h.val s j b
theorem Dy.push {m:M}{nt:Nat}(h:Dy m pv defs loc tmps)(l:idx t pv=none)(f:t<tmps.size)
    (i:VR m v x):Dy m pv (t::defs) (v::loc) (tmps.setIfInBounds t x):=by
 have _:=nt
 refine⟨λs j d=>?_,λs j d=>?_⟩
 ·simp only[idx] at d
  by_cases b:t=s
  ·subst b;exact l
  ·simp [b] at d
   obtain⟨g,e,rfl⟩:=d
   exact h.apart s g e
 ·simp only[idx] at d
  by_cases b:t=s
  ·subst b
   simp at d;subst d
   rw[Ac f]
   exact i
  ·simp [b] at d
   obtain⟨g,e,rfl⟩:=d
   rw[rF b]
   exact h.val s g e
def Ob.rw:Ob->Bool
 | .cells ro _=>!ro
 |_=>true
def PH:E->Option Code
 | .norm=>none
 | .ret=>some .ret
 | .exit n=>some (.exit n)
def aiR:LSt->LoopState
 | .ready=> .ready
 | .busy=> .busy
 | .done=> .done
 | .out=> .exhausted
structure DD (P:Program)(m:M)(r:fK)(q:Loop):Prop where
 vars: ∃nt pv,jW m nt pv r.vars q.tmps/\lC P nt pv q.assign=some r.assign/\lC P nt pv q.body=some r.body/\
  dG (q.params.toList.map λt=>idx t pv)=some r.pars
 st:q.state=aiR r.st
 pend:q.pending=r.pend.bind PH
 nn:r.pend≠some .norm
def OR (P:Program)(m:M)(o:Ob)(p:Nat×Nat×Nat)(w:World):Prop:=
 match o with
 | .cells ro vs=> ∃c elem fr,w.heap[p.1]? =some (.cells c elem fr)/\c.size=p.2.2/\p.2.1+vs.length<=p.2.2/\
   (∀(i:Nat) (v:V),vs[i]? =some v->v.one=true/\ ∃x,c[p.2.1+i]? =some x/\VR m v x)/\(ro=false->fr=(0,0))
 | .wmap sh es=>(∀(i j:Nat) (a b:V×V),es[i]? =some a->es[j]? =some b->dI a.1 b.1=true->i=j)/\ ∃es' clock,w.heap[p.1]? =some (.map es' clock)/\es.length=es'.size/\clock=es'.size/\
   ∀(i:Nat) (k v:V),es[i]? =some (k,v)->isKey sh k=true/\ ∃e:MapEntry,es'[i]? =some e/\e.born=i/\VR m k e.key/\VR m v e.val
 | .loop r=> ∃q,w.heap[p.1]? =some (.loop q)/\DD P m r q
theorem DD.mono {m b:M}{r:fK}{q:Loop}(e:Ext m b)(h:DD P m r q):DD P b r q:=by
 obtain⟨⟨nt,pv,d,i⟩,f,j,g⟩:=h;exact⟨⟨nt,pv,d.mono e,i⟩,f,j,g⟩
theorem OR.mono {m B:M}{o:Ob}(e:Ext m B)(z:w'.heap[p.1]? =w.heap[p.1]?)(h:OR P m o p w):OR P B o p w':=by
 cases o with
 |cells ro vs=>
  obtain⟨c,el,fr,j,l,n,A,G⟩:=h;exact⟨c,el,fr,z.trans j,l,n,λi v y=>let ⟨a,x,b,c⟩:=A i v y;⟨a,x,b,VR.mono e _ _ c⟩,G⟩
 |wmap sh es=>
  obtain⟨F,u,f,j,l,n,A⟩:=h;exact⟨F,u,f,z.trans j,l,n,λi k v y=>let ⟨g,x,a,b,c,d⟩:=A i k v y;⟨g,x,a,b,VR.mono e _ _ c,VR.mono e _ _ d⟩⟩
 |loop r=>
  obtain⟨q,j,l⟩:=h;exact⟨q,z.trans j,l.mono e⟩
theorem OR.lt {m:M}{o:Ob}(h:OR P m o p w):p.1<w.heap.size:=by
 cases o with
 |cells ro vs=>obtain⟨c,el,fr,b,_⟩:=h;exact (HF.1 b).1
 |wmap sh es=>obtain⟨_,c,el,b,_⟩:=h;exact (HF.1 b).1
 |loop r=>obtain⟨q,b,_⟩:=h;exact (HF.1 b).1
structure HR (P:Program)(m:M)(h:H)(w:World):Prop where
 live: ∀id o,h.get id=some o-> ∃p,m id=some p/\OR P m o p w
 inj: ∀i j oi oj pi pj,i≠j->h.get i=some oi->h.get j=some oj->oi.rw=true->m i=some pi->m j=some pj->pi.1≠pj.1
def iY (m:M)(n:Nat):Prop:=m n=none
def Vz (m:M)(n:Nat):Prop:= ∀id,n<=id->m id=none
theorem Vz.fresh {m:M}{n:Nat}(h:Vz m n):iY m n:=h n (dT _)
def LB (m:M)(h:H)(b:Nat):Prop:= ∃id o p,h.get id=some o/\m id=some p/\p.1=b
def FP (m:M)(h:H)(b:Nat):Prop:= ∃id o p,h.get id=some o/\o.rw=true/\m id=some p/\p.1=b
structure Kept (m:M)(h:H)(w w':World):Prop where
 os:w'.os=w.os
 tape:w'.tape=w.tape
 output:w'.output=w.output
 size:w.heap.size<=w'.heap.size
 block: ∀b,b<w.heap.size-> ¬FP m h b->w'.heap[b]? =w.heap[b]?
structure jR (P:Program)(m:M)(h:H)(w:World)(m':M)(h':H)(w':World):Prop where
 ext:Ext m m'
 rel:HR P m' h' w'
 fresh: ∀id p,m' id=some p->m id=some p∨(h.next<=id/\id<h'.next)
 kept:Kept m h w w'
 fp: ∀b,FP m' h' b->FP m h b∨w.heap.size<=b
 next:h.next<=h'.next
 lb: ∀b,LB m' h' b->LB m h b∨w.heap.size<=b
 old: ∀id,id<h.next->h.get id=none->h'.get id=none
theorem jR.low {m:M}{d:M}{h':H}(a:jR P m h w d h' w')(l:Vz m h.next):Vz d h'.next:=λid e=>by
 cases hm:d id with
 |none=>rfl
 |some p=>
  exfalso;have f:=a.next;rcases a.fresh id p hm with b|⟨_,b⟩
  ·rw[l id om] at b;cases b
  ·omega
theorem jR.Sa {m:M}(b:HR P m h w):jR P m h w m h w:=
 ⟨Ext.refl m,b,λ_ _ h=> .inl h,⟨rfl,rfl,rfl,dT _,λ_ _ _=>rfl⟩,λ_ h=> .inl h,dT _,λ_ h=> .inl h,λ_ _ h=>h⟩
theorem jR.refl {m:M}(b:HR P m h w)(_:iY m h.next):jR P m h w m h w:=jR.Sa b
theorem jR.trans {m u e:M}{h' g:H}{i:World}(a:jR P m h w u h' w')(b:jR P u h' w' e g i):jR P m h w e g i where
 ext:=a.ext.trans b.ext
 rel:=b.rel
 fresh:=λid p y=>by
  have q:=a.next;have r:=b.next;rcases b.fresh id p y with l|l
  ·rcases a.fresh id p l with o|o
   ·exact .inl o
   ·exact .inr ⟨o.1,om⟩
  ·exact .inr ⟨om,l.2⟩
 kept:={
  os:=b.kept.os.trans a.kept.os
  tape:=b.kept.tape.trans a.kept.tape
  output:=b.kept.output.trans a.kept.output
  size:=mY a.kept.size b.kept.size
  block:=λx d j=>by
   have q:=a.kept.block x d j;have r:=b.kept.block x (jM d a.kept.size) (λn=>(a.fp x n).elim j (λz=>om))
   exact r.trans q}
 fp:=λx d=>(b.fp x d).elim (λh=>a.fp x h) (λh=> .inr (mY a.kept.size h))
 next:=mY a.next b.next
 lb:=λx d=>(b.lb x d).elim (λh=>a.lb x h) (λh=> .inr (mY a.kept.size h))
 old:=λid f j=>b.old id (jM f a.next) (a.old id f j)
theorem jR.drawn {P:Program}{m:M}{h:H}{w:World}(d:HR P m h w)(_:iY m h.next)(n:Nat):jR P m h w m h {w with drawn:=n}:=
 ⟨Ext.refl m,⟨λid o e=>let ⟨p,a,b⟩:=d.live id o e;⟨p,a,OR.mono (w:=w) (Ext.refl m) rfl b⟩,d.inj⟩,λ_ _ h=> .inl h,⟨rfl,rfl,rfl,dT _,λ_ _ _=>rfl⟩,λ_ h=> .inl h,dT _,λ_ h=> .inl h,λ_ _ h=>h⟩
def M.set (m:M)(id:Nat)(p:Nat×Nat×Nat):M:=λi=>if i=id then some p else m i
theorem Ext.set {m:M}(h:m id=none):Ext m (m.set id p):=λi q b=>by
 unfold M.set;split
 ·rename_i e;subst e;rw[h] at b;cases b
 ·exact b
theorem jR.new {m:M}(N:HR P m h w)(Z:iY m h.next)(o:Ob)(c:Obj)(q:Nat×Nat)
  (ho: ∀m',Ext m m'->m' h.next=some (w.heap.size,q)->OR P m' o (w.heap.size,q) (w.alloc c)):
  jR P m h w (m.set h.next (w.heap.size,q)) (h.new o) (w.alloc c):=by
 have hn:m h.next=none:=Z
 have U:Ext m (m.set h.next (w.heap.size,q)):=Ext.set hn
 have g:(m.set h.next (w.heap.size,q)) h.next=some (w.heap.size,q):=by simp [M.set]
 have l: ∀id y,(h.new o).get id=some y->(id=h.next/\y=o)∨(id≠h.next/\h.get id=some y):=λid y f=>by
  simp only[H.kL,H.aW] at f
  by_cases hi:id=h.next
  ·simp [hi] at f;exact .inl ⟨hi,f.symm⟩
  ·simp [hi] at f;exact .inr ⟨hi,f⟩
 have d: ∀id,id≠h.next->(m.set h.next (w.heap.size,q)) id=m id:=λid hi=>by simp [M.set,hi]
 refine⟨U,⟨λid y f=>?_,λi j W O pi pj K hi J Q z u=>?_⟩,?_,⟨rfl,rfl,rfl,by simp,λb L _=>heap_alloc_old w c _ L⟩,λb L=>?_,by simp [H.kL,H.aW],λb L=>?_,λid f R=>by
  simp only[H.kL,H.aW]
  rw[bU om];exact R⟩
 ·rcases l id y f with ⟨rfl,rfl⟩|⟨n,f⟩
  ·exact⟨_,g,ho _ U g⟩
  ·obtain⟨p,B,r⟩:=N.live id y f
   exact⟨p,by rw[d id n];exact B,OR.mono U (heap_alloc_old w c _ r.lt) r⟩
 ·rcases l i W hi with ⟨rfl,rfl⟩|⟨n,hi⟩
  ·rcases l j O J with ⟨rfl,rfl⟩|⟨A,J⟩
   ·exact absurd rfl K
   ·rw[g] at z;cases z
    rw[d j A] at u
    obtain⟨p,B,r⟩:=N.live j O J
    rw[u] at B;cases B
    have:=r.lt
    exact Nat.ne_of_gt this
  ·rw[d i n] at z
   obtain⟨p,B,r⟩:=N.live i W hi
   rw[z] at B;cases B
   rcases l j O J with ⟨rfl,rfl⟩|⟨A,J⟩
   ·rw[g] at u;cases u
    exact Nat.ne_of_lt r.lt
   ·rw[d j A] at u
    exact N.inj i j W O pi pj K hi J Q z u
 ·intro id p B
  by_cases e:id=h.next
  ·subst e;exact .inr ⟨dT _,by simp [H.kL,H.aW]⟩
  ·rw[d id e] at B;exact .inl B
 ·obtain⟨id,y,p,G,Y,F,rfl⟩:=L
  rcases l id y G with ⟨rfl,rfl⟩|⟨n,G⟩
  ·rw[g] at F;cases F;exact .inr (dT _)
  ·rw[d id n] at F
   exact .inl ⟨id,y,p,G,Y,F,rfl⟩
 ·obtain⟨id,y,p,G,F,rfl⟩:=L
  rcases l id y G with ⟨rfl,rfl⟩|⟨n,G⟩
  ·rw[g] at F;cases F;exact .inr (dT _)
  ·rw[d id n] at F
   exact .inl ⟨id,y,p,G,F,rfl⟩
theorem jR.put {m:M}(L:HR P m h w)(_:iY m h.next){o o':Ob}
  (g:h.get id=some o) (r:o.rw=true) (a0:o'.rw=true) (u:m id=some p) (ho:OR P m o' p w')
  (h1:w'.os=w.os) (h2:w'.tape=w.tape) (h3:w'.output=w.output) (h4:w'.heap.size=w.heap.size) (h5: ∀b,b≠p.1->w'.heap[b]? =w.heap[b]?):
  jR P m h w m (h.set id (some o')) w':=by
 have d: ∀i f,(h.set id (some o')).get i=some f->(i=id/\f=o')∨(i≠id/\h.get i=some f):=λi f hi=>by
  simp only[H.jB,H.cV] at hi
  by_cases e:i=id
  ·simp [e] at hi;exact .inl ⟨e,hi.symm⟩
  ·simp [e] at hi;exact .inr ⟨e,hi⟩
 have Z: ∀b,FP m (h.set id (some o')) b->FP m h b:=λb F=>by
  obtain⟨i,f,q,G,a2,A,rfl⟩:=F;rcases d i f G with ⟨rfl,rfl⟩|⟨_,G⟩
  ·rw[u] at A;cases A;exact⟨i,o,_,g,r,u,rfl⟩
  ·exact⟨i,f,q,G,a2,A,rfl⟩
 have W: ∀b,LB m (h.set id (some o')) b->LB m h b:=λb F=>by
  obtain⟨i,f,q,G,A,rfl⟩:=F;rcases d i f G with ⟨rfl,rfl⟩|⟨_,G⟩
  ·rw[u] at A;cases A;exact⟨i,o,_,g,u,rfl⟩
  ·exact⟨i,f,q,G,A,rfl⟩
 refine⟨Ext.refl m,⟨λi f hi=>?_,λi j f Q U Y n hi hj J B y=>?_⟩,λ_ _ h=> .inl h,⟨h1,h2,h3,om,λb _ K=>h5 b (λe=>K ⟨id,o,p,g,r,u,e.symm⟩)⟩,λb F=> .inl (Z b F),dT _,λb F=> .inl (W b F),λi _ K=>by
  simp only[H.jB,H.cV];split
  ·rename_i e;subst e;rw[g] at K;cases K
  ·exact K⟩
 ·rcases d i f hi with ⟨rfl,rfl⟩|⟨N,l⟩
  ·exact⟨p,u,ho⟩
  ·obtain⟨q,hq,R⟩:=L.live i f l
   refine⟨q,hq,OR.mono (Ext.refl m) (h5 q.1 ?_) R⟩
   exact (L.inj id i o f p q (Ne.symm N) g l r u hq).symm
 ·rcases d i f hi with ⟨rfl,rfl⟩|⟨N,l⟩
  ·rcases d j Q hj with ⟨rfl,rfl⟩|⟨O,z⟩
   ·exact absurd rfl n
   ·exact L.inj i j o Q U Y n g z r B y
  ·rcases d j Q hj with ⟨rfl,rfl⟩|⟨O,z⟩
   ·exact L.inj i j f o U Y n l g J B y
   ·exact L.inj i j f Q U Y n l z J B y
theorem jR.akH {m:M}(Q:HR P m h w)(hf:iY m h.next){o o':Ob}{q:Nat×Nat×Nat}
  (u:h.get id=some o) (z:o.rw=true) (a7:o'.rw=true) (F:m id=some p) (Z:q.1=p.1) (ho: ∀m',Ext m m'->OR P m' o' q w')
  (h1:w'.os=w.os) (h2:w'.tape=w.tape) (h3:w'.output=w.output) (h4:w'.heap.size=w.heap.size) (h5: ∀b,b≠p.1->w'.heap[b]? =w.heap[b]?):
  jR P m h w (m.set h.next q) ((h.set id none).new o') w':=by
 have hn:m h.next=none:=hf
 have he:Ext m (m.set h.next q):=Ext.set hn
 have G:id≠h.next:=λe=>by subst e;rw[hn] at F;cases F
 have d: ∀i,i≠h.next->(m.set h.next q) i=m i:=λi hi=>by simp [M.set,hi]
 have l:(m.set h.next q) h.next=some q:=by simp [M.set]
 have f: ∀i g,((h.set id none).new o').get i=some g->(i=h.next/\g=o')∨(i≠h.next/\i≠id/\h.get i=some g):=λi g hi=>by
  simp only[H.jB,H.cV,H.kL,H.aW] at hi
  by_cases e:i=h.next
  ·simp [e] at hi;exact .inl ⟨e,hi.symm⟩
  ·by_cases e':i=id
   ·simp [e',G] at hi
   ·simp [e,e'] at hi;exact .inr ⟨e,e',hi⟩
 refine⟨he,⟨λi g hi=>?_,λi j g Y pi pj O hi hj a0 A n=>?_⟩,?_,⟨h1,h2,h3,om,λb _ a5=>h5 b (λe=>a5 ⟨id,o,p,u,z,F,e.symm⟩)⟩,λb hb=>?_,by simp [H.kL,H.aW,H.jB,H.cV],λb hb=>?_,λi R a6=>by
  have e:i≠h.next:=Nat.ne_of_lt R
  by_cases J:i=id
  ·simp [H.kL,H.aW,H.jB,H.cV,J,G]
  ·simp [H.kL,H.aW,H.jB,H.cV,e,J,a6]⟩
 ·rcases f i g hi with ⟨rfl,rfl⟩|⟨K,J,y⟩
  ·exact⟨q,l,ho _ he⟩
  ·obtain⟨r,W,a4⟩:=Q.live i g y
   refine⟨r,by rw[d i K];exact W,OR.mono he (h5 r.1 ?_) a4⟩
   exact (Q.inj id i o g p r (Ne.symm J) u y z F W).symm
 ·rcases f i g hi with ⟨rfl,rfl⟩|⟨K,J,y⟩
  ·rcases f j Y hj with ⟨rfl,rfl⟩|⟨e3,e4,L⟩
   ·exact absurd rfl O
   ·rw[l] at A;cases A
    rw[d j e3] at n
    rw[Z]
    exact Q.inj id j o Y p pj (Ne.symm e4) u L z F n
  ·rw[d i K] at A
   rcases f j Y hj with ⟨rfl,rfl⟩|⟨e3,e4,L⟩
   ·rw[l] at n;cases n
    rw[Z]
    exact (Q.inj id i o g p pi (Ne.symm J) u y z F A).symm
   ·rw[d j e3] at n
    exact Q.inj i j g Y pi pj O y L a0 A n
 ·intro i p U
  by_cases e:i=h.next
  ·subst e;exact .inr ⟨dT _,by simp [H.kL,H.aW,H.jB,H.cV]⟩
  ·rw[d i e] at U;exact .inl U
 ·obtain⟨i,g,r,N,a2,B,rfl⟩:=hb
  rcases f i g N with ⟨rfl,rfl⟩|⟨K,J,N⟩
  ·rw[l] at B;cases B;exact .inl ⟨id,o,p,u,z,F,Z.symm⟩
  ·rw[d i K] at B;exact .inl ⟨i,g,r,N,a2,B,rfl⟩
 ·obtain⟨i,g,r,N,B,rfl⟩:=hb
  rcases f i g N with ⟨rfl,rfl⟩|⟨K,J,N⟩
  ·rw[l] at B;cases B;exact .inl ⟨id,o,p,u,F,Z.symm⟩
  ·rw[d i K] at B;exact .inl ⟨i,g,r,N,B,rfl⟩
end
end Go.Ay
