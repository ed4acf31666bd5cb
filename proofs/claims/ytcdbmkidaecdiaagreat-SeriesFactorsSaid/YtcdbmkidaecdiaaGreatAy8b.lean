/- Maps whose keys are strings or rows of numbers; strings of bytes. -/
import Derived.Test.YtcdbmkidaecdiaaGreatAy8
import Derived.WideKeyArr
import Derived.StringKeys
namespace Go.Ay
open Go
section
variable {k v:V} {sh:Cy} {i id:Nat} {x y:Value} {kt t et:TypeId} {es:List (V×V)} {es':List MapEntry}
mutual
theorem Io: ∀(a b:V),dE a b=true->a=b
 | .int ..,b,h=>by cases b<;>simp [dE] at h;simp [h]
 | .bool _,b,h=>by cases b<;>simp [dE] at h;simp [h]
 | .ptr ..,b,h=>by cases b<;>simp [dE] at h;simp [h]
 | .nilp,b,h=>by cases b<;>simp [dE] at h;rfl
 | .sl ..,b,h=>by cases b<;>simp [dE] at h;simp [h]
 | .aE,b,h=>by cases b<;>simp [dE] at h;rfl
 | .emp _,b,h=>by cases b<;>simp [dE] at h;rw[h]
 | .str _,b,h=>by cases b<;>simp [dE] at h;rw[h]
 | .ifc t x,b,h=>by
  cases b<;>simp [dE] at h;rw[h.1,Io x _ h.2]
 | .mp _,b,h=>by cases b<;>simp [dE] at h;simp [h]
 | .nilm,b,h=>by cases b<;>simp [dE] at h;rfl
 | .fn _ a1 a2,b,h=>by
  cases b<;>simp [dE] at h;rw[h.1.1,Hn a1 _ h.1.2,Hn a2 _ h.2]
 | .yl _,b,h=>by cases b<;>simp [dE] at h;simp [h]
 | .nilf,b,h=>by cases b<;>simp [dE] at h;rfl
 | .agg a,b,h=>by
  cases b<;>simp [dE] at h;rw[Hn a _ h]
 | .tup a,b,h=>by
  cases b<;>simp [dE] at h;rw[Hn a _ h]
 | .unk,b,h=>by simp [dE] at h
theorem Hn: ∀(a b:List V),aoW a b=true->a=b
 | [], [],_=>rfl
 |x::a,y::b,h=>by
  simp only[aoW,vN] at h;rw[Io x y h.1,Hn a b h.2]
 | [],_::_,h=>by simp [aoW] at h
 |_::_, [],h=>by simp [aoW] at h
end
def Pf (k:IntKind):V->Bool:=fun| .int j a=>decide (j=k)&&(decide (k.min<=a)&&decide (a<=k.max))|_=>false
theorem tM {k:IntKind}(h:Pf k v=true): ∃a,v= .int k a/\(Lit.int k a).wf=true:=by
 cases v<;>simp [Pf] at h;rename_i j a;obtain⟨rfl,c,b⟩:=h;exact⟨a,rfl,by simp [Lit.wf,c,b]⟩
theorem Ss {k:IntKind}: ∀{l:List V},l.all (Pf k)=true->aoW l l=true
 | [],_=>rfl
 |v::l,h=>by
  simp only[List.all_cons,vN] at h;obtain⟨a,rfl,_⟩:=tM h.1;simp only[aoW,dE,beq_self_eq_true,Bool.true_and];exact Ss h.2
theorem FO (h:isKey sh k=true):dE k k=true:=by
 cases sh<;>cases k<;>simp only[isKey,Bool.false_eq_true] at h
 ·simp [dE]
 ·rename_i n j a
  simp only[vN] at h;simp only[dE];exact Ss (k:=j) h.2
theorem YE {l:List Nat}{c:Nat}(h:l[i]? =some c):(⟨(l.map UInt8.ofNat).toArray⟩:ByteArray)[i]? =some (UInt8.ofNat c):=by
 obtain⟨a,d⟩:=Ax.1 h;have b:i<(⟨(l.map UInt8.ofNat).toArray⟩:ByteArray).size:=by show i<(l.map UInt8.ofNat).toArray.size;simpa using a
 rw[getElem?_pos _ i b];congr 1;show (l.map UInt8.ofNat).toArray[i]=_;simp [d]
section
variable {P:Program} {m:M} {h:H} {w:World}
theorem gZ.ints {k:IntKind}: ∀{l:List V} {xs:List Value},gZ m l xs->l.all (Pf k)=true-> ∀x∈xs,∃a,x= .int k a/\(Lit.int k a).wf=true
 | [], [],_,_,x,b=>by simp at b
 |v::l,y::xs,h,ha,x,b=>by
  simp only[List.all_cons,vN] at ha;rcases zH.1 b with rfl|b
  ·obtain⟨a,rfl,c⟩:=tM ha.1
   exact⟨a,h.1,c⟩
  ·exact gZ.ints h.2 ha.2 x b
 | [],_::_,h,_,_,_=>h.elim
 |_::_, [],h,_,_,_=>h.elim
theorem gZ.det {k:IntKind}: ∀{l:List V} {xs ys:List Value},l.all (Pf k)=true->gZ m l xs->gZ m l ys->xs=ys
 | [], [], [],_,_,_=>rfl
 |v::l,x::xs,y::ys,ha,h1,h2=>by
  simp only[List.all_cons,vN] at ha;obtain⟨a,rfl,_⟩:=tM ha.1;rw[show x= .int k a from h1.1,show y= .int k a from h2.1,gZ.det ha.2 h1.2 h2.2]
 | [],_::_,_,_,h,_=>h.elim
 | [], [],_::_,_,_,h=>h.elim
 |_::_, [],_,_,h,_=>h.elim
 |_::_,_::_, [],_,_,h=>h.elim
theorem gZ.inj {k:IntKind}: ∀{l l':List V} {xs:List Value},l.all (Pf k)=true->l'.all (Pf k)=true->gZ m l xs->gZ m l' xs->l=l'
 | [], [], [],_,_,_,_=>rfl
 |v::l,v'::l',x::xs,ha,hb,h1,h2=>by
  simp only[List.all_cons,vN] at ha hb;obtain⟨a,rfl,_⟩:=tM ha.1;obtain⟨b,rfl,_⟩:=tM hb.1;have:(Value.int k a)= .int k b:=(show x= .int k a from h1.1).symm.trans h2.1;cases this;rw[gZ.inj ha.2 hb.2 h1.2 h2.2]
 | [],_,_::_,_,_,h,_=>h.elim
 |_, [],_::_,_,_,_,h=>h.elim
 |_::_,_, [],_,_,h,_=>h.elim
 |_,_::_, [],_,_,_,h=>h.elim
theorem Je: ∀{l:List Nat},l.all (λn=>decide (n<256))=true->(l.map UInt8.ofNat).map UInt8.toNat=l
 | [],_=>rfl
 |n::l,h=>by
  simp only[List.all_cons,vN,decide_eq_true_eq] at h;simp only[List.map_cons,List.cons.injEq];exact⟨by simp [UInt8.toNat_ofNat];omega,Je h.2⟩
theorem aaE (a:isKey sh k=true)(b:VR m k x)(c:VR m k y):x=y:=by
 cases sh<;>cases k<;>simp only[isKey,Bool.false_eq_true] at a
 ·rename_i l
  rw[show x= .string ⟨(l.map UInt8.ofNat).toArray⟩ from b,show y= .string ⟨(l.map UInt8.ofNat).toArray⟩ from c]
 ·rename_i n j p
  simp only[vN] at a;obtain⟨xs,rfl,o⟩:=b;obtain⟨f,rfl,d⟩:=c;have:xs=f:=Array.toList_inj.1 (gZ.det (k:=j) a.2 o d);rw[this]
theorem key_inj {c:V}(b:isKey sh k=true)(a:isKey sh c=true)(o:VR m k x)(d:VR m c x):k=c:=by
 cases sh<;>cases k<;>simp only[isKey,Bool.false_eq_true] at b<;>cases c<;>simp only[isKey,Bool.false_eq_true] at a
 ·rename_i l f
  simp only[vN] at b a;have e:Value.string ⟨(l.map UInt8.ofNat).toArray⟩= .string ⟨(f.map UInt8.ofNat).toArray⟩:=(show x=_ from o).symm.trans d;simp only[Value.string.injEq,ByteArray.mk.injEq] at e;have r:l.map UInt8.ofNat=f.map UInt8.ofNat:=by simpa using e
  have p:=congrArg (List.map UInt8.toNat) r;rw[Je b.2,Je a.2] at p;rw[p]
 ·rename_i n j A s
  simp only[vN] at b a;obtain⟨xs,rfl,u⟩:=o;obtain⟨z,e,q⟩:=d;cases e;rw[gZ.inj (k:=j) b.2 a.2 u q]
theorem mapM_some {α β:Type}{f:α->Option β}: ∀(l:List α),(∀a∈l,∃b,f a=some b)-> ∃bs,l.mapM f=some bs
 | [],_=>⟨[],rfl⟩
 |a::l,h=>by
  obtain⟨b,j⟩:=h a (by simp);obtain⟨bs,d⟩:=mapM_some l (λc n=>h c (by simp [n]));exact⟨b::bs,by rw[List.mapM_cons,j,d];rfl⟩
theorem ajH (b:Nz P kt=some sh)(j:isKey sh k=true)(F:VR m k x):WideMaps.KeyLaw P kt/\ ∃l,keyOf P kt x=some l:=by
 unfold Nz at b;split at b
 ·rename_i f
  cases b;cases k<;>simp only[isKey,Bool.false_eq_true] at j;rename_i l;simp only[vN,decide_eq_true_eq] at j;refine⟨WideMaps.string_law f,.string (l.map UInt8.ofNat).toArray.toList,?_⟩;rw[show x= .string ⟨(l.map UInt8.ofNat).toArray⟩ from F];refine WideMaps.keyOf_string_mk (s:=⟨(l.map UInt8.ofNat).toArray⟩) f ?_;show (l.map UInt8.ofNat).toArray.size<=maxLen;have:maxLen=2^63- 1:=rfl;have:=j.1;simp;omega
 ·rename_i n e f
  split at b
  ·rename_i q J
   split at b
   ·rename_i B
    cases b;cases k<;>simp only[isKey,Bool.false_eq_true] at j;rename_i W;simp only[vN,decide_eq_true_eq] at j
    have A:WideMaps.ArrKey P kt e n:=⟨f,by simp [Program.plainKey,J],B.1,B.2.1⟩
    have p: ∃m,P.types.size=m+1:=⟨P.types.size- 1,om⟩
    have r:=A.keyType p;obtain⟨N,u⟩:=p;obtain⟨xs,rfl,K⟩:=F;have c:xs.size=n:=by have:=gZ.length K;simp at this;omega
    have d:=gZ.ints (k:=q) K j.2
    have O: ∃G,(List.range n).mapM (λi=>P.keyLits (N+1) e ((xs.toList.drop (i*P.cellsOf e)).take (P.cellsOf e)))=some G:=by
     refine mapM_some _ (λi hi=>?_);have Q:i<n:=by simpa using hi
     rw[B.1,uW];have o:i<xs.toList.length:=by simp;omega
     have U:(xs.toList.drop i).take 1= [xs.toList[i]]:=by rw[AR o];rfl
     rw[U];obtain⟨a,R,L⟩:=d _ (zG o);rw[R];exact⟨[.int q a],by simp [Program.keyLits,J,L]⟩
    obtain⟨G,z⟩:=O;refine⟨A.law,?_⟩;unfold keyOf;simp only[f];rw[bF (by simp [r,Value.formed,f,A.size,c]),u];unfold Program.keyLits;simp only[f,Value.cells];rw[bF (by rw[A.size];simpa using c),z];exact⟨_,rfl⟩
   ·cases b
  ·cases b
 ·cases b
theorem El {k:V}: ∀{es:List (V×V)} {q:Nat×V},gY k es=some q-> ∃k',es[q.1]? =some (k',q.2)/\dE k k'=true
 | [],q,h=>by simp [gY] at h
 |e::es,q,h=>by
  simp only[gY] at h;split at h
  ·rename_i c
   cases h;exact⟨e.1,rfl,c⟩
  ·simp only[mJ] at h
   obtain⟨r,b,rfl⟩:=h;obtain⟨k',d,a⟩:=El b;exact⟨k',by simpa using d,a⟩
theorem Ek {k:V}: ∀{es:List (V×V)},gY k es=none-> ∀e∈es,dE k e.1=false
 | [],_,e,a=>by simp at a
 |e::es,h,e',a=>by
  simp only[gY] at h;split at h
  ·cases h
  ·rename_i b
   simp only[Option.map_eq_none_iff] at h;rcases zH.1 a with rfl|a
   ·simpa using b
   ·exact Ek h e' a
structure WR (m:M)(sh:Cy)(es:List (V×V))(es':List MapEntry):Prop where
 len:es.length=es'.length
 one: ∀(i j:Nat) (a b:V×V),es[i]? =some a->es[j]? =some b->dE a.1 b.1=true->i=j
 ent: ∀(i:Nat) (k v:V),es[i]? =some (k,v)->isKey sh k=true/\ ∃e:MapEntry,es'[i]? =some e/\e.born=i/\VR m k e.key/\VR m v e.val
theorem WR.keys (W:WR m sh es es')(j:Nz P kt=some sh): ∀e∈es',∃l,keyOf P kt e.key=some l:=by
 intro e f;obtain⟨i,hi⟩:=List.mem_iff_getElem?.1 f;have a:i<es.length:=by rw[W.len];exact (Ax.1 hi).1
 obtain⟨c,n,b,_,d,_⟩:=W.ent i _ _ (dD a);rw[hi] at b;cases b;exact (ajH j c d).2
theorem Bn (W:WR m sh es es')(N:Nz P kt=some sh)(z:isKey sh k=true)(G:VR m k x):
  (∃i v e,gY k es=some (i,v)/\es[i]? =some (k,v)/\es'[i]? =some e/\e.born=i/\e.key=x/\VR m v e.val/\(Instr.findKey kt x es').run P w= .ok (some (i,e.val)) w)∨
  (gY k es=none/\(∀e∈es,dE k e.1=false)/\(Instr.findKey kt x es').run P w= .ok none w):=by
 obtain⟨K,l,U⟩:=ajH N z G
 have p: ∀(i:Nat) (d v:V),es[i]? =some (d,v)->dE k d=true-> ∃e,es'[i]? =some e/\e.key=x:=by
  intro i d v hi B;obtain⟨r,e,a,_,b,_⟩:=W.ent i d v hi;have:=Io _ _ B;subst this;exact⟨e,a,aaE z b G⟩
 have n: ∀(j:Nat) (e:MapEntry),es'[j]? =some e->e.key=x-> ∃v,es[j]? =some (k,v):=by
  intro j e L B;have o:j<es.length:=by rw[W.len];exact (Ax.1 L).1
  obtain⟨r,O,a,_,b,_⟩:=W.ent j _ _ (dD o);rw[L] at a;cases a;rw[B] at b;have:=key_inj z r G b;exact⟨es[j].2,by rw[dD o,this];rfl⟩
 rcases K.find w U es' (W.keys N) with ⟨a,f⟩|⟨j,e,a,f,b⟩
 ·refine .inr ?_
  cases hf:gY k es with
  |none=>exact⟨rfl,Ek hf,a⟩
  |some q=>
   exfalso;obtain⟨d,c,A⟩:=El hf;obtain⟨e,Q,R⟩:=p _ _ _ c A;exact f e (AW Q) R
 ·refine .inl ?_
  obtain⟨v,s⟩:=n j e f b
  cases hf:gY k es with
  |none=>exact absurd (FO z) (by rw[Ek hf _ (AW s)];simp)
  |some q=>
   obtain⟨d,c,A⟩:=El hf;have F:=Io _ _ A;subst F;have u:q.1=j:=W.one _ _ _ _ c s A;obtain⟨i,v'⟩:=q;simp only at u c;subst u;rw[s] at c;cases c;obtain⟨_,O,J,Z,g3,Y⟩:=W.ent i k v s;rw[f] at J;cases J;exact⟨i,v,e,rfl,s,f,Z,b,Y,a⟩
theorem WR.push (W:WR m sh es es')(o:isKey sh k=true)(N:VR m k x)(A:VR m v y)(q: ∀e∈es,dE k e.1=false):
  WR m sh (es++ [(k,v)]) (es'++ [{key:=x,val:=y,born:=es'.length}]):=by
 refine⟨by simp [W.len],λi j a b G s d=>?_,λi L B hi=>?_⟩
 ·have r: ∀(i:Nat) (a:V×V),(es++ [(k,v)])[i]? =some a->(i<es.length/\es[i]? =some a)∨(i=es.length/\a=(k,v)):=by
   intro i a h
   by_cases hi:i<es.length
   ·exact .inl ⟨hi,by rwa [Dv hi] at h⟩
   ·rw[Sj om] at h
    by_cases f:i-es.length=0
    ·rw[f] at h;simp at h;exact .inr ⟨om,h.symm⟩
    ·rw[List.getElem?_eq_none (by simp;omega)] at h;cases h
  rcases r i a G with ⟨K,l⟩|⟨K,rfl⟩<;>rcases r j b s with ⟨J,n⟩|⟨J,rfl⟩
  ·exact W.one i j a b l n d
  ·have:=q a (AW l)
   have p:=Io _ _ d;simp only at p;rw[p,FO o] at this;cases this
  ·have:=q b (AW n)
   simp only at d;rw[d] at this;cases this
  ·omega
 ·by_cases c:i<es.length
  ·rw[Dv c] at hi
   obtain⟨u,e,F,z⟩:=W.ent i L B hi
   exact⟨u,e,by rw[Dv (by rw[←W.len];exact c)];exact F,z⟩
  ·rw[Sj om] at hi
   by_cases f:i-es.length=0
   ·rw[f] at hi;simp at hi
    obtain⟨rfl,rfl⟩:=hi
    have:i=es'.length:=by rw[←W.len];omega
    subst this
    exact⟨o,{key:=x,val:=y,born:=es'.length},by simp,rfl,N,A⟩
   ·rw[List.getElem?_eq_none (by simp;omega)] at hi;cases hi
theorem WR.UK (W:WR m sh es es'){n:V}{e:MapEntry}(hi:es[i]? =some (k,v))(U:es'[i]? =some e)(O:VR m n y):
  WR m sh (es.set i (k,n)) (es'.set i {e with val:=y}):=by
 have f:i<es.length:=(Ax.1 hi).1
 have d:i<es'.length:=by rw[←W.len];exact f
 have A: ∀(j:Nat) (a:V×V),(es.set i (k,n))[j]? =some a-> ∃b,es[j]? =some b/\b.1=a.1/\((j=i/\a=(k,n))∨(j≠i/\b=a)):=by
  intro j a h
  by_cases c:j=i
  ·subst c
   rw[List.getElem?_set_self f] at h;cases h;exact⟨_,hi,rfl,.inl ⟨rfl,rfl⟩⟩
  ·rw[List.getElem?_set_ne (λe=>c e.symm)] at h
   exact⟨a,h,rfl,.inr ⟨c,rfl⟩⟩
 refine⟨by simp [W.len],λp q a b R L z=>?_,λj N Z c=>?_⟩
 ·obtain⟨Y,B,F,_⟩:=A p a R
  obtain⟨K,l,J,_⟩:=A q b L
  exact W.one p q Y K B l (by rw[F,J];exact z)
 ·obtain⟨b,B,F,l⟩:=A j _ c
  rcases l with ⟨rfl,l⟩|⟨r,rfl⟩
  ·cases l
   obtain⟨s,G,o,u,Q,_⟩:=W.ent j k v hi
   rw[U] at o;cases o
   exact⟨s,_,List.getElem?_set_self d,u,Q,O⟩
  ·obtain⟨s,G,o,u⟩:=W.ent j N Z B
   exact⟨s,G,by rw[List.getElem?_set_ne (λe=>r e.symm)];exact o,u⟩
theorem aiO {α:Type}(f:α->α): ∀(l:List α) (i:Nat) (a:α),l[i]? =some a->l.modify i f=l.set i (f a)
 | [],_,_,h=>by simp at h
 |b::l,0,a,h=>by simp at h;subst h;rfl
 |b::l,i+1,a,h=>by simp at h;simp [List.modify_succ_cons,aiO f l i a h]
theorem jR {α:Type}: ∀(l:List α) (i:Nat) (a:α),l[i]? =some a->l.set i a=l
 | [],_,_,h=>by simp at h
 |b::l,0,a,h=>by simp at h;subst h;rfl
 |b::l,i+1,a,h=>by simp at h;simp [jR l i a h]
theorem xA (n:HR P m h w){p:Nat×Nat×Nat}(o:m id=some p)(f:h.get id=some (.wmap sh es)):
  ∃es':Array MapEntry,w.heap[p.1]? =some (.map es' es'.size)/\WR m sh es es'.toList:=by
 obtain⟨r,a,j,es',c,l,b,q,d⟩:=n.live id _ f
 rw[o] at a;cases a
 subst q
 exact⟨es',l,by simpa using b,j,λi k v hi=>by simpa using d i k v hi⟩
theorem JH (o:HR P m h w)(u:Al m h.next){A:V}(s:P.underlying t=some (.map kt et))(G:Nz P kt=some sh)(r:lV P et=some A)
      (Q:VR m (.mp id) x) (J:VR m k y) (O:h.get id=some (.wmap sh es)) (d:isKey sh k=true) (ok:Bool):
  aT P m h w (Instr.lookup t x y ok) (match gY k es with|some e=>(if ok then .tup [e.2,.bool true] else e.2)|none=>(if ok then .tup [A,.bool false] else A)) h:=by
 obtain⟨p,N,rfl⟩:=Q
 obtain⟨es',L,W⟩:=xA o N O
 obtain⟨K,l,R⟩:=ajH G d J
 have b:(getObj p.1).run P w= .ok (.map es' es'.size) w:=by simp [getObj,Sem.run,L]
 have c:=K.check w es'.isEmpty R
 have n: ∃i z,P.info? et=some i/\i.zero=some z:=by
  unfold lV at r
  cases hi:P.info? et with
  |none=>simp [hi] at r
  |some i=>
   cases hzz:i.zero with
   |none=>simp [hi,hzz] at r
   |some z=>exact⟨i,z,rfl,hzz⟩
 obtain⟨i,z,hi,f⟩:=n
 obtain⟨_,_,q⟩:=kC m r hi f
 rcases Bn (w:=w) W G d J with ⟨j,v,e,B,_,_,_,_,F,a⟩|⟨B,_,a⟩
 ·rw[B]
  cases ok with
  |true=>
   refine aT.still o u (x:= .tuple #[e.val,.bool true]) ?_ ⟨_,rfl,F,rfl,trivial⟩;simp [Instr.lookup,run_underlying s,b,c,a]
  |false=>
   refine aT.still o u (x:=e.val) ?_ F;simp [Instr.lookup,run_underlying s,b,c,a]
 ·rw[B]
  cases ok with
  |true=>
   refine aT.still o u (x:= .tuple #[z,.bool false]) ?_ ⟨_,rfl,q,rfl,trivial⟩;simp [Instr.lookup,run_underlying s,b,c,a,zeroValue,typeInfo,hi,f]
  |false=>
   refine aT.still o u (x:=z) ?_ q;simp [Instr.lookup,run_underlying s,b,c,a,zeroValue,typeInfo,hi,f]
theorem OE (j:HR P m h w)(o:Al m h.next){a:List (V×V)}{p:Nat×Nat×Nat}(l:m id=some p)(f:h.get id=some (.wmap sh es))
  {es':Array MapEntry} (W:WR m sh a es'.toList):(setObj p.1 (.map es' es'.size)).run P w= .ok () (w.putObj p.1 (.map es' es'.size))/\
   iO P m h w m (h.set id (some (.wmap sh a))) (w.putObj p.1 (.map es' es'.size)):=by
 obtain⟨n,c,_⟩:=xA j l f
 have d:p.1<w.heap.size:=(AS.1 c).1
 refine⟨by simp [setObj,Sem.run,c,World.putObj],?_⟩
 exact iO.put j o f rfl rfl l ⟨W.one,es',es'.size,World.putObj_heap_same d,by simpa using W.len,rfl,λi k v hi=>by simpa using W.ent i k v hi⟩ rfl rfl rfl (by simp) (λb c=>World.putObj_heap_other c)
theorem IT (G:HR P m h w)(Q:Al m h.next)(U:P.underlying t=some (.map kt et))(L:Nz P kt=some sh)
     {z:Value} (hx:VR m (.mp id) x) (q:VR m k y) (N:VR m v z) (F:h.get id=some (.wmap sh es)) (b:isKey sh k=true):
  ∃w',(Instr.mapUpdate t x y z).run P w= .ok () w'/\iO P m h w m (h.set id (some (.wmap sh (match gY k es with|some e=>es.set e.1 (k,v)|none=>es++ [(k,v)])))) w':=by
 obtain⟨p,B,rfl⟩:=hx
 obtain⟨es',hb,W⟩:=xA G B F
 obtain⟨K,l,R⟩:=ajH L b q
 have c:(getObj p.1).run P w= .ok (.map es' es'.size) w:=by simp [getObj,Sem.run,hb]
 have o:=K.check w false R
 rcases Bn (w:=w) W L b q with ⟨i,u,e,A,Y,r,h4,O,_,a⟩|⟨A,Z,a⟩
 ·rw[A]
  have s:es'[i]? =some e:=by simpa using r
  have iP:=K.stays w R
  have j:(es'.modify i λe=>{e with key:=y,val:=z}).toList=es'.toList.set i {e with val:=z}:=by
   rw[Array.toList_modify,aiO _ _ _ _ r,←O]
  have J:WR m sh (es.set i (k,v)) (es'.modify i λe=>{e with key:=y,val:=z}).toList:=by
   rw[j];exact W.UK Y r N
  obtain⟨f,n⟩:=OE G Q B F J
  simp only[Array.size_modify] at f n
  refine⟨_,?_,n⟩
  have d:(Option.map MapEntry.key es'[i]?).getD y=y:=by rw[s];exact O
  simp only[Instr.mapUpdate,Sem.run_bind,run_underlying U,Result.andThen_ok,c,o,a,Sem.run_pure,d,iP,f]
 ·rw[A]
  have J:WR m sh (es++ [(k,v)]) (es'.push {key:=y,val:=z,born:=es'.size}).toList:=by
   rw[Array.toList_push];have:=W.push b q N Z;simpa using this
  obtain⟨f,n⟩:=OE G Q B F J
  simp only[Array.size_push] at f n
  refine⟨_,?_,n⟩
  simp only[Instr.mapUpdate,Sem.run_bind,run_underlying U,Result.andThen_ok,c,o,a,Sem.run_pure,f]
theorem LZ (G:HR P m h w)(N:Al m h.next){F:V}(ht:P.underlying t=some (.map kt et))(hk:Nz P kt=some sh)(A:lV P et=some F)
      (hx:VR m (.mp id) x) (J:VR m k y) (Y:h.get id=some (.wmap sh es)) (b:isKey sh k=true):
  aT P m h w (Instr.mapEntry t x y) (match gY k es with|some e=> .tup [e.2,.int .i64 (e.1:Nat)]|none=> .tup [F,.int .i64 es.length])
   (match gY k es with|some _=>h|none=>h.set id (some (.wmap sh (es++ [(k,F)])))):=by
 obtain⟨p,R,rfl⟩:=hx
 obtain⟨es',Q,W⟩:=xA G R Y
 obtain⟨K,l,hl⟩:=ajH hk b J
 have a0:p.1<w.heap.size:=(AS.1 Q).1
 have c:(getObj p.1).run P w= .ok (.map es' es'.size) w:=by simp [getObj,Sem.run,Q]
 have s:=K.check w false hl
 have d: ∃i z,P.info? et=some i/\i.zero=some z:=by
  unfold lV at A
  cases hi:P.info? et with
  |none=>simp [hi] at A
  |some i=>
   cases hzz:i.zero with
   |none=>simp [hi,hzz] at A
   |some z=>exact⟨i,z,rfl,hzz⟩
 obtain⟨i,z,hi,o⟩:=d
 obtain⟨_,_,q⟩:=kC m A hi o
 rcases Bn (w:=w) W hk b J with ⟨i,u,e,O,h2,L,h4,h5,h6,a⟩|⟨O,hn,a⟩
 ·rw[O]
  have f:es'[i]? =some e:=by simpa using L
  have iP:=K.stays w hl
  have r:(es'.modify i λe=>{e with key:=y})=es':=by
   apply Array.toList_inj.1;rw[Array.toList_modify,aiO _ _ _ _ L,←h5];exact jR _ _ _ L
  have j:(Option.map MapEntry.key es'[i]?).getD y=y:=by rw[f];exact h5
  have Z:(Option.map MapEntry.born es'[i]?).getD 0=i:=by rw[f];exact h4
  have W1:WR m sh (es.set i (k,u)) es'.toList:=by rw[jR _ _ _ h2];exact W
  obtain⟨B,U⟩:=OE G N R Y W1
  have n:w.putObj p.1 (.map es' es'.size)=w:=by
   have:w.heap.setIfInBounds p.1 (.map es' es'.size)=w.heap:=by
    apply Array.ext';simp only[Array.toList_setIfInBounds];exact jR _ _ _ (by simpa using Q)
   unfold World.putObj;rw[this]
  refine aT.still G N (x:= .tuple #[e.val,goInt (i:Nat)]) ?_ ⟨_,rfl,h6,rfl,trivial⟩
  simp only[Instr.mapEntry,Sem.run_bind,run_underlying ht,Result.andThen_ok,c,s,a,Sem.run_pure,j,iP,r,B,n]
  simp [f,h4]
 ·rw[O]
  have W2:WR m sh (es++ [(k,F)]) (es'.push {key:=y,val:=z,born:=es'.size}).toList:=by
   rw[Array.toList_push];have:=W.push b J q hn;simpa using this
  obtain⟨B,U⟩:=OE G N R Y W2
  simp only[Array.size_push] at B U
  refine⟨.tuple #[z,goInt (es'.size:Nat)],_,m,?_,⟨_,rfl,q,?_,trivial⟩,U⟩
  ·simp [Instr.mapEntry,run_underlying ht,c,s,a,zeroValue,typeInfo,hi,o,B]
  ·have:es.length=es'.size:=by simpa using W.len
   rw[this];rfl
theorem Po: ∀(l:List MapEntry) (o i:Nat),(∀(j:Nat) (e:MapEntry),l[j]? =some e->e.born=o+j)->i<l.length->l.findIdx? (λe=>((e.born:Nat):Int)==((o+i:Nat):Int))=some i
 | [],_,_,_,h=>by simp at h
 |a::l,o,0,hb,_=>by
  have:=hb 0 a rfl;simp [List.findIdx?_cons,this]
 |a::l,o,i+1,hb,hl=>by
  have n:=hb 0 a rfl;have c:=Po l (o+1) i (λj e f=>by have:=hb (j+1) e (by simpa using f);omega) (by simpa using hl)
  have b:(((a.born:Nat):Int)==((o+(i+1):Nat):Int))=false:=by
   simp only[beq_eq_false_iff_ne,ne_eq,Int.natCast_inj];omega
  rw[List.findIdx?_cons,b];have d:o+1+i=o+(i+1):=om
  rw[d] at c;rw[c];rfl
theorem KL (A:HR P m h w)(J:Al m h.next){u:V}{z:Value}(G:VR m (.mp id) x)(F:VR m v z)(r:h.get id=some (.wmap sh es))(hi:es[i]? =some (k,u)):
  ∃w',(Instr.entryStore t x (.int .i64 (i:Nat)) z).run P w= .ok () w'/\iO P m h w m (h.set id (some (.wmap sh (es.set i (k,v))))) w':=by
 obtain⟨p,q,rfl⟩:=G
 obtain⟨es',B,W⟩:=xA A q r
 have a:(getObj p.1).run P w= .ok (.map es' es'.size) w:=by simp [getObj,Sem.run,B]
 have l:i<es.length:=(Ax.1 hi).1
 obtain⟨_,e,s,_⟩:=W.ent i k u hi
 have c:es'.findIdx? (λe=>((e.born:Nat):Int)==((i:Nat):Int))=some i:=by
  have:es'.findIdx? (λe=>((e.born:Nat):Int)==((i:Nat):Int))=es'.toList.findIdx? (λe=>((e.born:Nat):Int)==((i:Nat):Int)):=by
   cases es';simp
  rw[this]
  have:=Po es'.toList 0 i (λj e o=>by
   have f:j<es.length:=by rw[W.len];exact (Ax.1 o).1
   obtain⟨_,L,d,n,_⟩:=W.ent j _ _ (dD f)
   rw[o] at d;cases d;omega) (by rw[←W.len];exact l)
  simpa using this
 have b:(es'.modify i λe=>{e with val:=z}).toList=es'.toList.set i {e with val:=z}:=by
  rw[Array.toList_modify,aiO _ _ _ _ s]
 have K:WR m sh (es.set i (k,v)) (es'.modify i λe=>{e with val:=z}).toList:=by
  rw[b];exact W.UK hi s F
 obtain⟨d,n⟩:=OE A J q r K
 simp only[Array.size_modify] at d n
 refine⟨_,?_,n⟩
 simp [Instr.entryStore,a,asInt,asIntOf,c,d]
theorem EJ (a b:List Nat):((⟨(a.map UInt8.ofNat).toArray⟩:ByteArray).toList==(⟨(b.map UInt8.ofNat).toArray⟩:ByteArray).toList)=(a.map (· %256)==b.map (· %256)):=by
 rw[ByteArray.toList_eq,ByteArray.toList_eq];simp only
 have c: ∀(a b:List Nat),(a.map UInt8.ofNat=b.map UInt8.ofNat)↔a.map (· %256)=b.map (· %256):=by
  intro a
  induction a with
  |nil=>intro b;cases b<;>simp
  |cons x a ih=>
   intro b
   cases b with
   |nil=>simp
   |cons y b=>
    simp only[List.map_cons,List.cons.injEq,ih b];constructor
    ·rintro⟨h1,h2⟩
     have:=congrArg UInt8.toNat h1;exact⟨by simpa [UInt8.toNat_ofNat] using this,h2⟩
    ·rintro⟨h1,h2⟩
     exact⟨UInt8.toNat_inj.1 (by simpa [UInt8.toNat_ofNat] using h1),h2⟩
 rw[Py];simp only[beq_iff_eq];exact c a b
theorem akO (o:HR P m h w)(p:Al m h.next){op:BinOp}(d:op= .eql∨op= .neq){x y:Operand}{a b:List Nat}{u v:Value}(n:VR m (.str a) u)(j:VR m (.str b) v){neg:Bool}(c:neg=(op matches .neq)):
  aT P m h w (do eqGuard op t x y u v;binOp op t u v) (.bool (if neg then !(a.map (· %256)==b.map (· %256)) else a.map (· %256)==b.map (· %256))) h:=by
 rw[show u= .string ⟨(a.map UInt8.ofNat).toArray⟩ from n,show v= .string ⟨(b.map UInt8.ofNat).toArray⟩ from j]
 refine aT.still o p (x:= .bool (if neg then !(a.map (· %256)==b.map (· %256)) else a.map (· %256)==b.map (· %256))) ?_ rfl
 have f:(eqGuard op t x y (.string ⟨(a.map UInt8.ofNat).toArray⟩) (.string ⟨(b.map UInt8.ofNat).toArray⟩)).run P w= .ok () w:=by
  unfold eqGuard;rcases d with rfl|rfl<;>simp
 have l:(binOp op t (.string ⟨(a.map UInt8.ofNat).toArray⟩) (.string ⟨(b.map UInt8.ofNat).toArray⟩)).run P w=(Op.stringOp op ⟨(a.map UInt8.ofNat).toArray⟩ ⟨(b.map UInt8.ofNat).toArray⟩).run P w:=by
  rcases d with rfl|rfl<;>rfl
 simp only[Sem.run_bind,f,Result.andThen_ok,l]
 subst c
 rcases d with rfl|rfl
 ·simp only[Op.stringOp,EJ,Sem.run_pure];rfl
 ·simp only[Op.stringOp,EJ,Sem.run_pure];rfl
theorem anB (p:HR P m h w)(q:Al m h.next){x y:Operand}{a b:List Nat}{u v:Value}(o:VR m (.str a) u)(l:VR m (.str b) v)(r:a.length+b.length<2^62):
  aT P m h w (do eqGuard .add t x y u v;binOp .add t u v) (.str (a++b)) h:=by
 rw[show u= .string ⟨(a.map UInt8.ofNat).toArray⟩ from o,show v= .string ⟨(b.map UInt8.ofNat).toArray⟩ from l]
 refine aT.still p q (x:= .string ⟨((a++b).map UInt8.ofNat).toArray⟩) ?_ rfl
 have j:(eqGuard .add t x y (.string ⟨(a.map UInt8.ofNat).toArray⟩) (.string ⟨(b.map UInt8.ofNat).toArray⟩)).run P w= .ok () w:=by
  unfold eqGuard;simp
 have n:(binOp .add t (.string ⟨(a.map UInt8.ofNat).toArray⟩) (.string ⟨(b.map UInt8.ofNat).toArray⟩)).run P w=(Op.stringOp .add ⟨(a.map UInt8.ofNat).toArray⟩ ⟨(b.map UInt8.ofNat).toArray⟩).run P w:=rfl
 simp only[Sem.run_bind,j,Result.andThen_ok,n]
 have f:(⟨(a.map UInt8.ofNat).toArray⟩:ByteArray).size=a.length:=by show (a.map UInt8.ofNat).toArray.size=_;simp
 have d:(⟨(b.map UInt8.ofNat).toArray⟩:ByteArray).size=b.length:=by show (b.map UInt8.ofNat).toArray.size=_;simp
 have c:IntKind.i64.max=9223372036854775807:=rfl
 unfold Op.stringOp
 simp only[f,d]
 rw[bI (by rw[c];omega)]
 simp only[Sem.run_pure]
 congr 2
 apply ByteArray.ext
 rw[ByteArray.data_append]
 simp
theorem LI (f:HR P m h w)(l:Al m h.next){a dst:TypeId}{j:IntKind}(o:P.underlying a=some (.int j))(b:P.underlying dst=some .string){k:IntKind}{n:Int}(d:VR m (.int k n) x)(p:0<=n)(q:n<128):
  aT P m h w (convert a dst x) (.str [n.toNat]) h:=by
 rw[show x= .int k n from d]
 refine aT.still f l (x:= .string ⟨#[UInt8.ofNat n.toNat]⟩) ?_ rfl
 have c:Utf8.valid n=true:=by unfold Utf8.valid;simp;omega
 simp only[convert,Sem.run_bind,run_underlying o,run_underlying b,Result.andThen_ok,Conv.intToString,Sem.run_pure,Utf8.encode,c,if_true]
 rw[bF om]
theorem Pk (body:Value->ByteArray->Sem (ForInStep ByteArray))(b: ∀n s,body (.int .u8 n) s=pure (.yield (s.push (UInt8.ofNat n.toNat)))): ∀(cs:List Value) (vs:List V) (l:List Nat) (acc:ByteArray),
  gZ m vs cs->qH vs=some l->(forIn cs acc body).run P w= .ok ⟨acc.data++(l.map UInt8.ofNat).toArray⟩ w
 | [], [],l,acc,_,hl=>by
  simp only[qH,Option.some.injEq] at hl;subst hl;simp
 |c::cs,v::vs,l,acc,hv,hl=>by
  cases v<;>try (simp only[qH,reduceCtorEq] at hl;done)
  rename_i k n;cases k<;>try (simp only[qH,reduceCtorEq] at hl;done)
  simp only[qH] at hl;split at hl
  ·simp only[mJ] at hl
   obtain⟨d,a,rfl⟩:=hl;rw[show c= .int .u8 n from hv.1,List.forIn_cons,b];simp only[Sem.run_bind,Sem.run_pure,Result.andThen_ok];rw[Pk body b cs vs d _ hv.2 a];congr 2;apply Array.toList_inj.1;simp [ByteArray.push]
  ·cases hl
 | [],_::_,_,_,h,_=>h.elim
 |_::_, [],_,_,h,_=>h.elim
theorem LD (B:HR P m h w)(J:Al m h.next){j dst e:TypeId}(hs:P.underlying j=some (.slice e))(hd:P.underlying dst=some .string)(O:P.underlying e=some (.int .u8))
  {u:V}  (G:VR m v x) (f:JA h v=some u):aT P m h w (convert j dst x) u h:=by
 have d: ∀a n c,(convert j dst (.slice a n c)).run P w=(Conv.bytesToString (.slice a n c)).run P w:=by
  intro a n c;simp [convert,run_underlying hs,run_underlying hd,run_underlying O]
 unfold JA at f
 split at f
 ·cases f
  obtain rfl:x= .slice none 0 0:=G
  refine aT.still B J (x:= .string .empty) ?_ rfl
  rw[d]
  simp [Conv.bytesToString]
 ·rename_i id a0 len Q
  obtain⟨p,c,Y,hp,rfl,_,L,_⟩:=G
  split at f
  ·rename_i z o
   simp only[mJ] at f
   obtain⟨l,N,rfl⟩:=f
   have b: ∃xs:List Value,(loadCells ⟨p.1,p.2.1+Y,none⟩ len).run P w= .ok xs.toArray w/\gZ m z xs:=by
    obtain⟨p',c',F,fr,q,U,_,A,r,_⟩:=Cn B o;rw[hp] at q;cases q
    by_cases W:len=0
    ·subst W
     have K:z= []:=by
      have:=r;simp only[List.take_zero] at this
      cases z with
      |nil=>rfl
      |cons _ _=>exact this.elim
     subst K;exact⟨[],by simp only[loadCells,loadCellsFrom];rfl,trivial⟩
    ·obtain rfl:=L om
     exact⟨_,lE U A,r⟩
   obtain⟨xs,b,R⟩:=b
   refine aT.still B J (x:= .string ⟨(l.map UInt8.ofNat).toArray⟩) ?_ rfl
   rw[d]
   simp only[Conv.bytesToString,Sem.run_bind,b,Result.andThen_ok]
   rw[←Array.forIn_toList]
   rw[Pk (m:=m) _ (λn s=>rfl) xs z l _ R N]
   simp only[Result.andThen_ok,Sem.run_pure]
   congr 2
   have Z:ByteArray.empty.data= #[]:=rfl
   rw[Z]
   simp only[Array.empty_append]
  ·cases f
 ·cases f
end
end
end Go.Ay
