/- The relation between the abstract machine's states and the model's worlds, and how it moves. -/
import Derived.Test.YtapfcpkecmmagaaGreatAy2
import Derived.RangeFuncLeaves
import Derived.RangeFuncRecord
import Derived.Laws.AppendOwn
import Derived.OwnWalkIn
namespace Go.Ay
section
variable {a vars loc:List V} {c:List Value} {v:V} {x:Value} {nt s t k id:Nat} {pv defs:List Nat} {tmps:Array Value} {P:Program} {p:Nat×Nat×Nat} {w w':World} {h:H}
abbrev M:=Nat->Option (Nat×Nat×Nat)
mutual
def VR (m:M):V->Value->Prop
 | .int k n,x=>x= .int k n
 | .bool b,x=>x= .bool b
 | .ptr id o,x=> ∃p,m id=some p/\x= .pointer (some ⟨p.1,p.2.1+o,none⟩)
 | .nilp,x=>x= .pointer none
 | .sl id o len cap,x=> ∃p c o',m id=some p/\x= .slice (some ⟨p.1,p.2.1+o',none⟩) len c/\len<=c/\(0<len->o'=o)/\
   (match cap with| .kn k=>c=k/\o'=o| .un e=>p.2.1+o'+c*e<=p.2.2)
 | .aB,x=>x= .slice none 0 0
 | .emp a,x=>x= .slice (some a) 0 0
 | .str l,x=>x= .string ⟨(l.map UInt8.ofNat).toArray⟩
 | .ifc t v,x=> ∃y,x= .iface t y/\VR m v y
 | .mp id,x=> ∃p,m id=some p/\x= .map (some p.1)
 | .nilm,x=>x= .map none
 | .fn f fs cs,x=> ∃xs ys,x= .func (.func f) xs ys/\eG m fs xs.toList/\eG m cs ys.toList
 | .yl id,x=> ∃p,m id=some p/\x= .func (.yield p.1) #[] #[]
 | .nilf,x=>x= .nilFunc
 | .agg vs,x=> ∃xs,x= .agg xs/\eG m vs xs.toList
 | .tup vs,x=> ∃xs,x= .tuple xs/\eG m vs xs.toList
 | .unk,_=>True
def eG (m:M):List V->List Value->Prop
 | [], []=>True
 |v::vs,x::xs=>VR m v x/\eG m vs xs
 |_,_=>False
end
def Ext (m m':M):Prop:= ∀id p,m id=some p->m' id=some p
theorem Ext.refl (m:M):Ext m m:=λ_ _ h=>h
theorem Ext.trans {a b c:M}(h:Ext a b)(k:Ext b c):Ext a c:=λ_ _ x=>k _ _ (h _ _ x)
mutual
theorem VR.mono {m m':M}(e:Ext m m'): ∀(v:V) (x:Value),VR m v x->VR m' v x
 | .int ..,_,h=>by simpa [VR] using h
 | .bool _,_,h=>by simpa [VR] using h
 | .ptr ..,_,h=>by obtain⟨p,h1,h2⟩:=h;exact⟨p,e _ _ h1,h2⟩
 | .nilp,_,h=>by simpa [VR] using h
 | .sl _ _ _ _,_,h=>by obtain⟨p,c,o',h1,h2⟩:=h;exact⟨p,c,o',e _ _ h1,h2⟩
 | .aB,_,h=>by simpa [VR] using h
 | .emp _,_,h=>by simpa [VR] using h
 | .str _,_,h=>by simpa [VR] using h
 | .ifc _ v,_,h=>by obtain⟨y,h1,h2⟩:=h;exact⟨y,h1,VR.mono e v _ h2⟩
 | .mp _,_,h=>by obtain⟨p,h1,h2⟩:=h;exact⟨p,e _ _ h1,h2⟩
 | .nilm,_,h=>by simpa [VR] using h
 | .fn _ fs cs,_,h=>by obtain⟨xs,ys,h1,h2,h3⟩:=h;exact⟨xs,ys,h1,eG.mono e fs _ h2,eG.mono e cs _ h3⟩
 | .yl _,_,h=>by obtain⟨p,h1,h2⟩:=h;exact⟨p,e _ _ h1,h2⟩
 | .nilf,_,h=>by simpa [VR] using h
 | .agg vs,_,h=>by obtain⟨xs,h1,h2⟩:=h;exact⟨xs,h1,eG.mono e vs _ h2⟩
 | .tup vs,_,h=>by obtain⟨xs,h1,h2⟩:=h;exact⟨xs,h1,eG.mono e vs _ h2⟩
 | .unk,_,_=>by simp [VR]
theorem eG.mono {m m':M}(e:Ext m m'): ∀(vs:List V) (xs:List Value),eG m vs xs->eG m' vs xs
 | [], [],_=>trivial
 |v::vs,x::xs,h=>⟨VR.mono e v x h.1,eG.mono e vs xs h.2⟩
 | [],_::_,h=>h.elim
 |_::_, [],h=>h.elim
end
theorem eG.length {m:M}: ∀{vs:List V} {xs:List Value},eG m vs xs->vs.length=xs.length
 | [], [],_=>rfl
 |_::vs,_::xs,h=>by simp [eG.length h.2]
 | [],_::_,h=>h.elim
 |_::_, [],h=>h.elim
theorem eG.get {m:M}: ∀{vs:List V} {xs:List Value},eG m vs xs-> ∀{i:Nat} {v:V},vs[i]? =some v-> ∃x,xs[i]? =some x/\VR m v x
 | [], [],_,i,v,h=>by simp at h
 |v::vs,x::xs,h,0,u,hu=>by simp at hu;subst hu;exact⟨x,rfl,h.1⟩
 |v::vs,x::xs,h,i+1,u,hu=>by simpa using eG.get h.2 (by simpa using hu)
 | [],_::_,h,_,_,_=>h.elim
 |_::_, [],h,_,_,_=>h.elim
theorem eG.iS {m:M}: ∀{vs:List V} {xs:List Value},vs.length=xs.length->(∀(i:Nat) (v:V),vs[i]? =some v-> ∃x,xs[i]? =some x/\VR m v x)->eG m vs xs
 | [], [],_,_=>trivial
 |v::vs,x::xs,hl,h=>by
  refine⟨?_,eG.iS (by simpa using hl) (λi u hu=>by simpa using h (i+1) u (by simpa using hu))⟩;obtain⟨y,hy,hv⟩:=h 0 v rfl;simp at hy;subst hy;exact hv
 | [],_::_,hl,_=>by simp at hl
 |_::_, [],hl,_=>by simp at hl
theorem eG.append {m:M}{b:List V}{d:List Value}(h:eG m a c)(k:eG m b d):eG m (a++b) (c++d):=by
 induction a generalizing c with
 |nil=>cases c with
  |nil=>exact k
  |cons _ _=>exact h.elim
 |cons x xs ih=>cases c with
  |nil=>exact h.elim
  |cons _ _=>exact⟨h.1,ih h.2⟩
theorem eG.take {m:M}(h:eG m a c)(n:Nat):eG m (a.take n) (c.take n):=by
 induction n generalizing a c with
 |zero=>exact trivial
 |succ n ih=>
  cases a<;>cases c<;>first|exact trivial|exact h.elim|exact⟨h.1,ih h.2⟩
theorem eG.drop {m:M}(h:eG m a c)(n:Nat):eG m (a.drop n) (c.drop n):=by
 induction n generalizing a c with
 |zero=>exact h
 |succ n ih=>
  cases a<;>cases c<;>first|exact trivial|exact h.elim|exact ih h.2
theorem VR.undef (m:M):VR m V.undef undef:=⟨#[],rfl,trivial⟩
theorem VR.one {m:M}(h:VR m v x)(hv:v.one=true):x.oneCell'=true:=by
 cases v with
 |int|bool|nilp|aB|emp|nilm|nilf|str=>simp [VR] at h;subst h;rfl
 |ifc=>obtain⟨y,rfl,_⟩:=h;rfl
 |ptr|mp|yl=>obtain⟨p,_,rfl⟩:=h;rfl
 |sl=>obtain⟨p,c,o',_,rfl,_⟩:=h;rfl
 |fn=>obtain⟨_,_,rfl,_⟩:=h;rfl
 |agg|tup|unk=>simp [V.one] at hv
theorem VR.cells {m:M}(h:VR m v x)(hu:v.cells.all V.one=true):eG m v.cells x.cells.toList:=by
 cases v with
 |unk=>simp [V.cells,V.one] at hu
 |agg vs=>obtain⟨xs,rfl,hx⟩:=h;exact hx
 |int=>simp [VR] at h;subst h;exact⟨rfl,trivial⟩
 |bool=>simp [VR] at h;subst h;exact⟨rfl,trivial⟩
 |nilp=>simp [VR] at h;subst h;exact⟨rfl,trivial⟩
 |aB=>simp [VR] at h;subst h;exact⟨rfl,trivial⟩
 |emp=>simp [VR] at h;subst h;exact⟨rfl,trivial⟩
 |str=>simp [VR] at h;subst h;exact⟨rfl,trivial⟩
 |ifc=>obtain⟨y,rfl,h2⟩:=h;exact⟨⟨y,rfl,h2⟩,trivial⟩
 |nilm=>simp [VR] at h;subst h;exact⟨rfl,trivial⟩
 |nilf=>simp [VR] at h;subst h;exact⟨rfl,trivial⟩
 |ptr|mp|yl=>obtain⟨p,hp,rfl⟩:=h;exact⟨⟨p,hp,rfl⟩,trivial⟩
 |sl=>obtain⟨p,c,o',hp,rfl,h1⟩:=h;exact⟨⟨p,c,o',hp,rfl,h1⟩,trivial⟩
 |fn=>obtain⟨a,b,rfl,h1⟩:=h;exact⟨⟨a,b,rfl,h1⟩,trivial⟩
 |tup=>obtain⟨a,rfl,h1⟩:=h;exact⟨⟨a,rfl,h1⟩,trivial⟩
structure fL (m:M)(nt:Nat)(pv:List Nat)(vars:List V)(tmps:Array Value):Prop where
 size:tmps.size=nt
 len:vars.length=pv.length
 lt: ∀s∈pv,s<nt
 val: ∀s k,idx s pv=some k->VR m (vars.getD k .undef) (tmps.getD s undef)
structure nW (m:M)(pv defs:List Nat)(loc:List V)(tmps:Array Value):Prop where
 apart: ∀s k,idx s defs=some k->idx s pv=none
 val: ∀s k,idx s defs=some k->VR m (loc.getD k .undef) (tmps.getD s undef)
theorem nW.nil (m:M)(pv:List Nat)(tmps:Array Value):nW m pv [] [] tmps:=
 ⟨λ_ _ h=>by simp [idx] at h,λ_ _ h=>by simp [idx] at h⟩
theorem fL.mono {m m':M}(e:Ext m m')(h:fL m nt pv vars tmps):fL m' nt pv vars tmps:=
 ⟨h.size,h.len,h.lt,λs k hk=>VR.mono e _ _ (h.val s k hk)⟩
theorem nW.mono {m m':M}(e:Ext m m')(h:nW m pv defs loc tmps):nW m' pv defs loc tmps:=
 ⟨h.apart,λs k hk=>VR.mono e _ _ (h.val s k hk)⟩
theorem Hy {s t k:Nat}: ∀{l:List Nat},idx s l=some k->idx t l=some k->s=t
 | [],h,_=>by simp [idx] at h
 |a::l,h,h'=>by
  simp only[idx] at h h'
  by_cases h1:a=s
  ·by_cases h2:a=t
   ·exact h1.symm.trans h2
   ·simp [h1] at h;subst h;simp [h2] at h'
  ·by_cases h2:a=t
   ·simp [h2] at h';subst h';simp [h1] at h
   ·simp [h1] at h;simp [h2] at h'
    obtain⟨a1,b1,rfl⟩:=h;obtain⟨a2,b2,h3⟩:=h';have:a1=a2:=by omega
    subst this;exact Hy b1 b2
theorem vT {s k:Nat}: ∀{l:List Nat},idx s l=some k->k<l.length
 | [],h=>by simp [idx] at h
 |a::l,h=>by
  simp only[idx] at h
  by_cases h1:a=s
  ·simp [h1] at h;subst h;simp
  ·simp [h1] at h
   obtain⟨k',hk,rfl⟩:=h;have:=vT hk;simp;omega
theorem Hl {s k:Nat}: ∀{l:List Nat},idx s l=some k->s∈l
 | [],h=>by simp [idx] at h
 |a::l,h=>by
  simp only[idx] at h
  by_cases h1:a=s
  ·simp [h1]
  ·simp [h1] at h
   obtain⟨k',hk,rfl⟩:=h;exact List.mem_cons_of_mem _ (Hl hk)
theorem oH {a:Array Value}{d:Value}(h:t<a.size):(a.setIfInBounds t x).getD t d=x:=by
 simp [Array.getD,h]
theorem jX {a:Array Value}{d:Value}(h:t≠s):(a.setIfInBounds t x).getD s d=a.getD s d:=by
 simp only[Array.getD_eq_getD_getElem?];rw[Array.getElem?_setIfInBounds_ne h]
theorem fL.set {m:M}(h:fL m nt pv vars tmps)(hk:idx t pv=some k)
    (hv:VR m v x):fL m nt pv (vars.set k v) (tmps.setIfInBounds t x):=by
 have htl:t<tmps.size:=by rw[h.size];exact h.lt t (Hl hk)
 refine⟨by simpa using h.size,by simpa using h.len,h.lt,λs j hj=>?_⟩
 by_cases fG:s=t
 ·subst fG
  have:j=k:=by rw[hk] at hj;exact (Option.some.inj hj).symm
  subst this
  have hl:j<vars.length:=by rw[h.len];exact vT hk
  rw[oH htl]
  simp [List.getD,hl]
  exact hv
 ·have hjk:j≠k:=λe=>fG (Hy (e▸hj) hk)
  rw[jX (Ne.symm fG)]
  have:=h.val s j hj
  simpa [List.getD,List.getElem?_set_ne (Ne.symm hjk)] using this
theorem nW.Wh {m:M}(h:nW m pv defs loc tmps)(hk:idx t pv=some k)(x:Value):
  nW m pv defs loc (tmps.setIfInBounds t x):=by
 refine⟨h.apart,λs j hj=>?_⟩
 have:t≠s:=λe=>by subst e;rw[h.apart t j hj] at hk;cases hk
 rw[jX this]
 exact h.val s j hj
theorem fL.Uv {m:M}(h:fL m nt pv vars tmps)(ht:idx t pv=none)(x:Value):
  fL m nt pv vars (tmps.setIfInBounds t x):=by
 refine⟨by simpa using h.size,h.len,h.lt,λs j hj=>?_⟩
 have:t≠s:=λe=>by subst e;rw[hj] at ht;cases ht
 rw[jX this]
 exact h.val s j hj
theorem nW.push {m:M}{nt:Nat}(h:nW m pv defs loc tmps)(ht:idx t pv=none)(htl:t<tmps.size)
    (hv:VR m v x):nW m pv (t::defs) (v::loc) (tmps.setIfInBounds t x):=by
 have _:=nt
 refine⟨λs j hj=>?_,λs j hj=>?_⟩
 ·simp only[idx] at hj
  by_cases hts:t=s
  ·subst hts;exact ht
  ·simp [hts] at hj
   obtain⟨j',hj',rfl⟩:=hj
   exact h.apart s j' hj'
 ·simp only[idx] at hj
  by_cases hts:t=s
  ·subst hts
   simp at hj;subst hj
   rw[oH htl]
   exact hv
  ·simp [hts] at hj
   obtain⟨j',hj',rfl⟩:=hj
   rw[jX hts]
   exact h.val s j' hj'
def Ob.rw:Ob->Bool
 | .cells ro _=>!ro
 |_=>true
def Pg:E->Option Code
 | .norm=>none
 | .ret=>some .ret
 | .exit n=>some (.exit n)
def Yc:Zt->LoopState
 | .ready=> .ready
 | .busy=> .busy
 | .done=> .done
 | .out=> .exhausted
structure Fk (P:Program)(m:M)(r:eH)(q:Loop):Prop where
 vars: ∃nt pv,fL m nt pv r.vars q.tmps/\fM P nt pv q.assign=some r.assign/\fM P nt pv q.body=some r.body/\
  bY (q.params.toList.map λt=>idx t pv)=some r.pars
 st:q.state=Yc r.st
 pend:q.pending=r.pend.bind Pg
 nn:r.pend≠some .norm
def OR (P:Program)(m:M)(o:Ob)(p:Nat×Nat×Nat)(w:World):Prop:=
 match o with
 | .cells ro vs=> ∃c elem fr,w.heap[p.1]? =some (.cells c elem fr)/\c.size=p.2.2/\p.2.1+vs.length<=p.2.2/\
   (∀(i:Nat) (v:V),vs[i]? =some v->v.one=true/\ ∃x,c[p.2.1+i]? =some x/\VR m v x)/\(ro=false->fr=(0,0))
 | .map es=> ∃es' clock,w.heap[p.1]? =some (.map es' clock)/\es.length=es'.size/\
   ∀(i:Nat) (k v:V),es[i]? =some (k,v)-> ∃e:MapEntry,es'[i]? =some e/\VR m k e.key/\VR m v e.val
 | .wmap sh es=>(∀(i j:Nat) (a b:V×V),es[i]? =some a->es[j]? =some b->dI a.1 b.1=true->i=j)/\ ∃es' clock,w.heap[p.1]? =some (.map es' clock)/\es.length=es'.size/\clock=es'.size/\
   ∀(i:Nat) (k v:V),es[i]? =some (k,v)->isKey sh k=true/\ ∃e:MapEntry,es'[i]? =some e/\e.born=i/\VR m k e.key/\VR m v e.val
 | .loop r=> ∃q,w.heap[p.1]? =some (.loop q)/\Fk P m r q
theorem Fk.mono {m m':M}{r:eH}{q:Loop}(e:Ext m m')(h:Fk P m r q):Fk P m' r q:=by
 obtain⟨⟨nt,pv,h1,h2⟩,h3,h4,h5⟩:=h;exact⟨⟨nt,pv,h1.mono e,h2⟩,h3,h4,h5⟩
theorem OR.mono {m m':M}{o:Ob}(e:Ext m m')(hb:w'.heap[p.1]? =w.heap[p.1]?)(h:OR P m o p w):OR P m' o p w':=by
 cases o with
 |cells ro vs=>
  obtain⟨c,el,fr,h1,h2,h3,h4,h5⟩:=h;exact⟨c,el,fr,hb.trans h1,h2,h3,λi v hv=>let ⟨a,x,b,c⟩:=h4 i v hv;⟨a,x,b,VR.mono e _ _ c⟩,h5⟩
 |map es=>
  obtain⟨es',clock,h1,h2,h3⟩:=h;exact⟨es',clock,hb.trans h1,h2,λi k v hv=>let ⟨x,a,b,c⟩:=h3 i k v hv;⟨x,a,VR.mono e _ _ b,VR.mono e _ _ c⟩⟩
 |wmap sh es=>
  obtain⟨h0,es',clock,h1,h2,h3,h4⟩:=h;exact⟨h0,es',clock,hb.trans h1,h2,h3,λi k v hv=>let ⟨g,x,a,b,c,d⟩:=h4 i k v hv;⟨g,x,a,b,VR.mono e _ _ c,VR.mono e _ _ d⟩⟩
 |loop r=>
  obtain⟨q,h1,h2⟩:=h;exact⟨q,hb.trans h1,h2.mono e⟩
theorem OR.lt {m:M}{o:Ob}(h:OR P m o p w):p.1<w.heap.size:=by
 cases o with
 |cells ro vs=>obtain⟨c,el,fr,h1,_⟩:=h;exact (Array.getElem?_eq_some_iff.1 h1).1
 |map es=>obtain⟨c,el,h1,_⟩:=h;exact (Array.getElem?_eq_some_iff.1 h1).1
 |wmap sh es=>obtain⟨_,c,el,h1,_⟩:=h;exact (Array.getElem?_eq_some_iff.1 h1).1
 |loop r=>obtain⟨q,h1,_⟩:=h;exact (Array.getElem?_eq_some_iff.1 h1).1
structure HR (P:Program)(m:M)(h:H)(w:World):Prop where
 live: ∀id o,h.get id=some o-> ∃p,m id=some p/\OR P m o p w
 inj: ∀i j oi oj pi pj,i≠j->h.get i=some oi->h.get j=some oj->oi.rw=true->m i=some pi->m j=some pj->pi.1≠pj.1
def eD (m:M)(n:Nat):Prop:=m n=none
def xS (m:M)(n:Nat):Prop:= ∀id,n<=id->m id=none
theorem xS.fresh {m:M}{n:Nat}(h:xS m n):eD m n:=h n (eP _)
def LB (m:M)(h:H)(b:Nat):Prop:= ∃id o p,h.get id=some o/\m id=some p/\p.1=b
def FP (m:M)(h:H)(b:Nat):Prop:= ∃id o p,h.get id=some o/\o.rw=true/\m id=some p/\p.1=b
structure Kept (m:M)(h:H)(w w':World):Prop where
 os:w'.os=w.os
 tape:w'.tape=w.tape
 output:w'.output=w.output
 size:w.heap.size<=w'.heap.size
 block: ∀b,b<w.heap.size-> ¬FP m h b->w'.heap[b]? =w.heap[b]?
structure eS (P:Program)(m:M)(h:H)(w:World)(m':M)(h':H)(w':World):Prop where
 ext:Ext m m'
 rel:HR P m' h' w'
 fresh: ∀id p,m' id=some p->m id=some p∨(h.next<=id/\id<h'.next)
 kept:Kept m h w w'
 fp: ∀b,FP m' h' b->FP m h b∨w.heap.size<=b
 next:h.next<=h'.next
 lb: ∀b,LB m' h' b->LB m h b∨w.heap.size<=b
 old: ∀id,id<h.next->h.get id=none->h'.get id=none
theorem eS.low {m:M}{m':M}{h':H}(a:eS P m h w m' h' w')(l:xS m h.next):xS m' h'.next:=λid hid=>by
 cases hm:m' id with
 |none=>rfl
 |some p=>
  exfalso;have hn:=a.next;rcases a.fresh id p hm with h1|⟨_,h1⟩
  ·rw[l id (by omega)] at h1;cases h1
  ·omega
theorem eS.yI {m:M}(hr:HR P m h w):eS P m h w m h w:=
 ⟨Ext.refl m,hr,λ_ _ h=> .inl h,⟨rfl,rfl,rfl,eP _,λ_ _ _=>rfl⟩,λ_ h=> .inl h,eP _,λ_ h=> .inl h,λ_ _ h=>h⟩
theorem eS.refl {m:M}(hr:HR P m h w)(_:eD m h.next):eS P m h w m h w:=eS.yI hr
theorem eS.trans {m m' m'':M}{h' h'':H}{w'':World}(a:eS P m h w m' h' w')(b:eS P m' h' w' m'' h'' w''):eS P m h w m'' h'' w'' where
 ext:=a.ext.trans b.ext
 rel:=b.rel
 fresh:=λid p hp=>by
  have h1:=a.next;have h2:=b.next;rcases b.fresh id p hp with h3|h3
  ·rcases a.fresh id p h3 with h4|h4
   ·exact .inl h4
   ·exact .inr ⟨h4.1,by omega⟩
  ·exact .inr ⟨by omega,h3.2⟩
 kept:={
  os:=b.kept.os.trans a.kept.os
  tape:=b.kept.tape.trans a.kept.tape
  output:=b.kept.output.trans a.kept.output
  size:=Nat.le_trans a.kept.size b.kept.size
  block:=λx hx hn=>by
   have h1:=a.kept.block x hx hn;have h2:=b.kept.block x (gE hx a.kept.size) (λhfp=>(a.fp x hfp).elim hn (λhle=>by omega))
   exact h2.trans h1}
 fp:=λx hx=>(b.fp x hx).elim (λh=>a.fp x h) (λh=> .inr (Nat.le_trans a.kept.size h))
 next:=Nat.le_trans a.next b.next
 lb:=λx hx=>(b.lb x hx).elim (λh=>a.lb x h) (λh=> .inr (Nat.le_trans a.kept.size h))
 old:=λid hid hn=>b.old id (gE hid a.next) (a.old id hid hn)
theorem eS.drawn {P:Program}{m:M}{h:H}{w:World}(hr:HR P m h w)(_:eD m h.next)(n:Nat):eS P m h w m h {w with drawn:=n}:=
 ⟨Ext.refl m,⟨λid o ho=>let ⟨p,a,b⟩:=hr.live id o ho;⟨p,a,OR.mono (w:=w) (Ext.refl m) rfl b⟩,hr.inj⟩,λ_ _ h=> .inl h,⟨rfl,rfl,rfl,eP _,λ_ _ _=>rfl⟩,λ_ h=> .inl h,eP _,λ_ h=> .inl h,λ_ _ h=>h⟩
def M.set (m:M)(id:Nat)(p:Nat×Nat×Nat):M:=λi=>if i=id then some p else m i
theorem Ext.set {m:M}(h:m id=none):Ext m (m.set id p):=λi q hq=>by
 unfold M.set;split
 ·rename_i e;subst e;rw[h] at hq;cases hq
 ·exact hq
theorem eS.new {m:M}(hr:HR P m h w)(hf:eD m h.next)(o:Ob)(c:Obj)(q:Nat×Nat)
  (ho: ∀m',Ext m m'->m' h.next=some (w.heap.size,q)->OR P m' o (w.heap.size,q) (w.alloc c)):
  eS P m h w (m.set h.next (w.heap.size,q)) (h.new o) (w.alloc c):=by
 have hn:m h.next=none:=hf
 have he:Ext m (m.set h.next (w.heap.size,q)):=Ext.set hn
 have hnew:(m.set h.next (w.heap.size,q)) h.next=some (w.heap.size,q):=by simp [M.set]
 have hget: ∀id o',(h.new o).get id=some o'->(id=h.next/\o'=o)∨(id≠h.next/\h.get id=some o'):=λid o' hid=>by
  simp only[H.fW,H.aV] at hid
  by_cases hi:id=h.next
  ·simp [hi] at hid;exact .inl ⟨hi,hid.symm⟩
  ·simp [hi] at hid;exact .inr ⟨hi,hid⟩
 have hold: ∀id,id≠h.next->(m.set h.next (w.heap.size,q)) id=m id:=λid hi=>by simp [M.set,hi]
 refine⟨he,⟨λid o' hid=>?_,λi j oi oj pi pj hij hi hj hro hpi hpj=>?_⟩,?_,⟨rfl,rfl,rfl,by simp,λb hb _=>heap_alloc_old w c _ hb⟩,λb hb=>?_,by simp [H.fW,H.aV],λb hb=>?_,λid hid hn'=>by
  simp only[H.fW,H.aV]
  rw[if_neg (by omega)];exact hn'⟩
 ·rcases hget id o' hid with ⟨rfl,rfl⟩|⟨hne,hid⟩
  ·exact⟨_,hnew,ho _ he hnew⟩
  ·obtain⟨p,hp,hor⟩:=hr.live id o' hid
   exact⟨p,by rw[hold id hne];exact hp,OR.mono he (heap_alloc_old w c _ hor.lt) hor⟩
 ·rcases hget i oi hi with ⟨rfl,rfl⟩|⟨hne,hi⟩
  ·rcases hget j oj hj with ⟨rfl,rfl⟩|⟨hne',hj⟩
   ·exact absurd rfl hij
   ·rw[hnew] at hpi;cases hpi
    rw[hold j hne'] at hpj
    obtain⟨p,hp,hor⟩:=hr.live j oj hj
    rw[hpj] at hp;cases hp
    have:=hor.lt
    exact Nat.ne_of_gt this
  ·rw[hold i hne] at hpi
   obtain⟨p,hp,hor⟩:=hr.live i oi hi
   rw[hpi] at hp;cases hp
   rcases hget j oj hj with ⟨rfl,rfl⟩|⟨hne',hj⟩
   ·rw[hnew] at hpj;cases hpj
    exact Nat.ne_of_lt hor.lt
   ·rw[hold j hne'] at hpj
    exact hr.inj i j oi oj pi pj hij hi hj hro hpi hpj
 ·intro id p hp
  by_cases e:id=h.next
  ·subst e;exact .inr ⟨eP _,by simp [H.fW,H.aV]⟩
  ·rw[hold id e] at hp;exact .inl hp
 ·obtain⟨id,o',p,h1,h2,h3,rfl⟩:=hb
  rcases hget id o' h1 with ⟨rfl,rfl⟩|⟨hne,h1⟩
  ·rw[hnew] at h3;cases h3;exact .inr (eP _)
  ·rw[hold id hne] at h3
   exact .inl ⟨id,o',p,h1,h2,h3,rfl⟩
 ·obtain⟨id,o',p,h1,h3,rfl⟩:=hb
  rcases hget id o' h1 with ⟨rfl,rfl⟩|⟨hne,h1⟩
  ·rw[hnew] at h3;cases h3;exact .inr (eP _)
  ·rw[hold id hne] at h3
   exact .inl ⟨id,o',p,h1,h3,rfl⟩
theorem eS.put {m:M}(hr:HR P m h w)(_:eD m h.next){o o':Ob}
  (hid:h.get id=some o) (hrw:o.rw=true) (hrw':o'.rw=true) (hp:m id=some p) (ho:OR P m o' p w')
  (h1:w'.os=w.os) (h2:w'.tape=w.tape) (h3:w'.output=w.output) (h4:w'.heap.size=w.heap.size) (h5: ∀b,b≠p.1->w'.heap[b]? =w.heap[b]?):
  eS P m h w m (h.set id (some o')) w':=by
 have hget: ∀i oi,(h.set id (some o')).get i=some oi->(i=id/\oi=o')∨(i≠id/\h.get i=some oi):=λi oi hi=>by
  simp only[H.fD,H.cJ] at hi
  by_cases e:i=id
  ·simp [e] at hi;exact .inl ⟨e,hi.symm⟩
  ·simp [e] at hi;exact .inr ⟨e,hi⟩
 have hfp: ∀b,FP m (h.set id (some o')) b->FP m h b:=λb hb=>by
  obtain⟨i,oi,q,a1,a2,a3,rfl⟩:=hb;rcases hget i oi a1 with ⟨rfl,rfl⟩|⟨_,a1⟩
  ·rw[hp] at a3;cases a3;exact⟨i,o,_,hid,hrw,hp,rfl⟩
  ·exact⟨i,oi,q,a1,a2,a3,rfl⟩
 have hlb: ∀b,LB m (h.set id (some o')) b->LB m h b:=λb hb=>by
  obtain⟨i,oi,q,a1,a3,rfl⟩:=hb;rcases hget i oi a1 with ⟨rfl,rfl⟩|⟨_,a1⟩
  ·rw[hp] at a3;cases a3;exact⟨i,o,_,hid,hp,rfl⟩
  ·exact⟨i,oi,q,a1,a3,rfl⟩
 refine⟨Ext.refl m,⟨λi oi hi=>?_,λi j oi oj pi pj hij hi hj hro hpi hpj=>?_⟩,λ_ _ h=> .inl h,⟨h1,h2,h3,by omega,λb _ hn=>h5 b (λe=>hn ⟨id,o,p,hid,hrw,hp,e.symm⟩)⟩,λb hb=> .inl (hfp b hb),eP _,λb hb=> .inl (hlb b hb),λi _ hn=>by
  simp only[H.fD,H.cJ];split
  ·rename_i e;subst e;rw[hid] at hn;cases hn
  ·exact hn⟩
 ·rcases hget i oi hi with ⟨rfl,rfl⟩|⟨hne,hi2⟩
  ·exact⟨p,hp,ho⟩
  ·obtain⟨q,hq,hor⟩:=hr.live i oi hi2
   refine⟨q,hq,OR.mono (Ext.refl m) (h5 q.1 ?_) hor⟩
   exact (hr.inj id i o oi p q (Ne.symm hne) hid hi2 hrw hp hq).symm
 ·rcases hget i oi hi with ⟨rfl,rfl⟩|⟨hne,hi2⟩
  ·rcases hget j oj hj with ⟨rfl,rfl⟩|⟨hne',hj2⟩
   ·exact absurd rfl hij
   ·exact hr.inj i j o oj pi pj hij hid hj2 hrw hpi hpj
  ·rcases hget j oj hj with ⟨rfl,rfl⟩|⟨hne',hj2⟩
   ·exact hr.inj i j oi o pi pj hij hi2 hid hro hpi hpj
   ·exact hr.inj i j oi oj pi pj hij hi2 hj2 hro hpi hpj
theorem eS.Zh {m:M}(hr:HR P m h w)(hf:eD m h.next){o o':Ob}{q:Nat×Nat×Nat}
  (hid:h.get id=some o) (hrw:o.rw=true) (hrw':o'.rw=true) (hp:m id=some p) (hq:q.1=p.1) (ho: ∀m',Ext m m'->OR P m' o' q w')
  (h1:w'.os=w.os) (h2:w'.tape=w.tape) (h3:w'.output=w.output) (h4:w'.heap.size=w.heap.size) (h5: ∀b,b≠p.1->w'.heap[b]? =w.heap[b]?):
  eS P m h w (m.set h.next q) ((h.set id none).new o') w':=by
 have hn:m h.next=none:=hf
 have he:Ext m (m.set h.next q):=Ext.set hn
 have hne0:id≠h.next:=λe=>by subst e;rw[hn] at hp;cases hp
 have hold: ∀i,i≠h.next->(m.set h.next q) i=m i:=λi hi=>by simp [M.set,hi]
 have hnew:(m.set h.next q) h.next=some q:=by simp [M.set]
 have hget: ∀i oi,((h.set id none).new o').get i=some oi->(i=h.next/\oi=o')∨(i≠h.next/\i≠id/\h.get i=some oi):=λi oi hi=>by
  simp only[H.fD,H.cJ,H.fW,H.aV] at hi
  by_cases e:i=h.next
  ·simp [e] at hi;exact .inl ⟨e,hi.symm⟩
  ·by_cases e':i=id
   ·simp [e',hne0] at hi
   ·simp [e,e'] at hi;exact .inr ⟨e,e',hi⟩
 refine⟨he,⟨λi oi hi=>?_,λi j oi oj pi pj hij hi hj hro hpi hpj=>?_⟩,?_,⟨h1,h2,h3,by omega,λb _ hnn=>h5 b (λe=>hnn ⟨id,o,p,hid,hrw,hp,e.symm⟩)⟩,λb hb=>?_,by simp [H.fW,H.aV,H.fD,H.cJ],λb hb=>?_,λi hid' hn'=>by
  have e:i≠h.next:=Nat.ne_of_lt hid'
  by_cases e2:i=id
  ·simp [H.fW,H.aV,H.fD,H.cJ,e2,hne0]
  ·simp [H.fW,H.aV,H.fD,H.cJ,e,e2,hn']⟩
 ·rcases hget i oi hi with ⟨rfl,rfl⟩|⟨e1,e2,hi2⟩
  ·exact⟨q,hnew,ho _ he⟩
  ·obtain⟨r,hr1,hor⟩:=hr.live i oi hi2
   refine⟨r,by rw[hold i e1];exact hr1,OR.mono he (h5 r.1 ?_) hor⟩
   exact (hr.inj id i o oi p r (Ne.symm e2) hid hi2 hrw hp hr1).symm
 ·rcases hget i oi hi with ⟨rfl,rfl⟩|⟨e1,e2,hi2⟩
  ·rcases hget j oj hj with ⟨rfl,rfl⟩|⟨e3,e4,hj2⟩
   ·exact absurd rfl hij
   ·rw[hnew] at hpi;cases hpi
    rw[hold j e3] at hpj
    rw[hq]
    exact hr.inj id j o oj p pj (Ne.symm e4) hid hj2 hrw hp hpj
  ·rw[hold i e1] at hpi
   rcases hget j oj hj with ⟨rfl,rfl⟩|⟨e3,e4,hj2⟩
   ·rw[hnew] at hpj;cases hpj
    rw[hq]
    exact (hr.inj id i o oi p pi (Ne.symm e2) hid hi2 hrw hp hpi).symm
   ·rw[hold j e3] at hpj
    exact hr.inj i j oi oj pi pj hij hi2 hj2 hro hpi hpj
 ·intro i p hp'
  by_cases e:i=h.next
  ·subst e;exact .inr ⟨eP _,by simp [H.fW,H.aV,H.fD,H.cJ]⟩
  ·rw[hold i e] at hp';exact .inl hp'
 ·obtain⟨i,oi,r,a1,a2,a3,rfl⟩:=hb
  rcases hget i oi a1 with ⟨rfl,rfl⟩|⟨e1,e2,a1⟩
  ·rw[hnew] at a3;cases a3;exact .inl ⟨id,o,p,hid,hrw,hp,hq.symm⟩
  ·rw[hold i e1] at a3;exact .inl ⟨i,oi,r,a1,a2,a3,rfl⟩
 ·obtain⟨i,oi,r,a1,a3,rfl⟩:=hb
  rcases hget i oi a1 with ⟨rfl,rfl⟩|⟨e1,e2,a1⟩
  ·rw[hnew] at a3;cases a3;exact .inl ⟨id,o,p,hid,hp,hq.symm⟩
  ·rw[hold i e1] at a3;exact .inl ⟨i,oi,r,a1,a3,rfl⟩
end
end Go.Ay
