/- Maps whose keys are strings or rows of numbers; strings of bytes. -/
import Derived.Test.YtcdbmkidaecdiaaGreatAy8
import Derived.WideKeyArr
import Derived.StringKeys
namespace Go.Ay
open Go
section
variable {k v:V} {sh:Cy} {i id:Nat} {x y:Value} {kt t et:TypeId} {es:List (V×V)} {es':List MapEntry}
mutual
theorem Io: ∀(a b:V),dE a b=true->a=b
 | .int ..,b,h=>by cases b<;>simp [dE] at h;simp [h]
 | .bool _,b,h=>by cases b<;>simp [dE] at h;simp [h]
 | .ptr ..,b,h=>by cases b<;>simp [dE] at h;simp [h]
 | .nilp,b,h=>by cases b<;>simp [dE] at h;rfl
 | .sl ..,b,h=>by cases b<;>simp [dE] at h;simp [h]
 | .aE,b,h=>by cases b<;>simp [dE] at h;rfl
 | .emp _,b,h=>by cases b<;>simp [dE] at h;rw[h]
 | .str _,b,h=>by cases b<;>simp [dE] at h;rw[h]
 | .ifc t x,b,h=>by
  cases b<;>simp [dE] at h;rw[h.1,Io x _ h.2]
 | .mp _,b,h=>by cases b<;>simp [dE] at h;simp [h]
 | .nilm,b,h=>by cases b<;>simp [dE] at h;rfl
 | .fn _ a1 a2,b,h=>by
  cases b<;>simp [dE] at h;rw[h.1.1,Hn a1 _ h.1.2,Hn a2 _ h.2]
 | .yl _,b,h=>by cases b<;>simp [dE] at h;simp [h]
 | .nilf,b,h=>by cases b<;>simp [dE] at h;rfl
 | .agg a,b,h=>by
  cases b<;>simp [dE] at h;rw[Hn a _ h]
 | .tup a,b,h=>by
  cases b<;>simp [dE] at h;rw[Hn a _ h]
 | .unk,b,h=>by simp [dE] at h
theorem Hn: ∀(a b:List V),sK a b=true->a=b
 | [], [],_=>rfl
 |x::a,y::b,h=>by
  simp only[sK,vN] at h;rw[Io x y h.1,Hn a b h.2]
 | [],_::_,h=>by simp [sK] at h
 |_::_, [],h=>by simp [sK] at h
end
def Pf (k:IntKind):V->Bool:=fun| .int j a=>decide (j=k)&&(decide (k.min<=a)&&decide (a<=k.max))|_=>false
theorem tM {k:IntKind}(h:Pf k v=true): ∃a,v= .int k a/\(Lit.int k a).wf=true:=by
 cases v<;>simp [Pf] at h;rename_i j a;obtain⟨rfl,b,c⟩:=h;exact⟨a,rfl,by simp [Lit.wf,b,c]⟩
theorem Ss {k:IntKind}: ∀{l:List V},l.all (Pf k)=true->sK l l=true
 | [],_=>rfl
 |v::l,h=>by
  simp only[List.all_cons,vN] at h;obtain⟨a,rfl,_⟩:=tM h.1;simp only[sK,dE,beq_self_eq_true,Bool.true_and];exact Ss h.2
theorem FO (h:isKey sh k=true):dE k k=true:=by
 cases sh<;>cases k<;>simp only[isKey,Bool.false_eq_true] at h
 ·simp [dE]
 ·rename_i n j a
  simp only[vN] at h;simp only[dE];exact Ss (k:=j) h.2
theorem YE {l:List Nat}{c:Nat}(h:l[i]? =some c):(⟨(l.map UInt8.ofNat).toArray⟩:ByteArray)[i]? =some (UInt8.ofNat c):=by
 obtain⟨a,d⟩:=Ax.1 h;have b:i<(⟨(l.map UInt8.ofNat).toArray⟩:ByteArray).size:=by show i<(l.map UInt8.ofNat).toArray.size;simpa using a
 rw[getElem?_pos _ i b];congr 1;show (l.map UInt8.ofNat).toArray[i]=_;simp [d]
section
variable {P:Program} {m:M} {h:H} {w:World}
theorem gZ.ints {k:IntKind}: ∀{l:List V} {xs:List Value},gZ m l xs->l.all (Pf k)=true-> ∀x∈xs,∃a,x= .int k a/\(Lit.int k a).wf=true
 | [], [],_,_,x,b=>by simp at b
 |v::l,y::xs,h,ha,x,b=>by
  simp only[List.all_cons,vN] at ha;rcases zH.1 b with rfl|b
  ·obtain⟨a,rfl,c⟩:=tM ha.1
   exact⟨a,h.1,c⟩
  ·exact gZ.ints h.2 ha.2 x b
 | [],_::_,h,_,_,_=>h.elim
 |_::_, [],h,_,_,_=>h.elim
theorem gZ.det {k:IntKind}: ∀{l:List V} {xs ys:List Value},l.all (Pf k)=true->gZ m l xs->gZ m l ys->xs=ys
 | [], [], [],_,_,_=>rfl
 |v::l,x::xs,y::ys,ha,h1,h2=>by
  simp only[List.all_cons,vN] at ha;obtain⟨a,rfl,_⟩:=tM ha.1;rw[show x= .int k a from h1.1,show y= .int k a from h2.1,gZ.det ha.2 h1.2 h2.2]
 | [],_::_,_,_,h,_=>h.elim
 | [], [],_::_,_,_,h=>h.elim
 |_::_, [],_,_,h,_=>h.elim
 |_::_,_::_, [],_,_,h=>h.elim
theorem gZ.inj {k:IntKind}: ∀{l l':List V} {xs:List Value},l.all (Pf k)=true->l'.all (Pf k)=true->gZ m l xs->gZ m l' xs->l=l'
 | [], [], [],_,_,_,_=>rfl
 |v::l,v'::l',x::xs,ha,hb,h1,h2=>by
  simp only[List.all_cons,vN] at ha hb;obtain⟨a,rfl,_⟩:=tM ha.1;obtain⟨b,rfl,_⟩:=tM hb.1;have:(Value.int k a)= .int k b:=(show x= .int k a from h1.1).symm.trans h2.1;cases this;rw[gZ.inj ha.2 hb.2 h1.2 h2.2]
 | [],_,_::_,_,_,h,_=>h.elim
 |_, [],_::_,_,_,_,h=>h.elim
 |_::_,_, [],_,_,h,_=>h.elim
 |_,_::_, [],_,_,_,h=>h.elim
theorem Je: ∀{l:List Nat},l.all (λn=>decide (n<256))=true->(l.map UInt8.ofNat).map UInt8.toNat=l
 | [],_=>rfl
 |n::l,h=>by
  simp only[List.all_cons,vN,decide_eq_true_eq] at h;simp only[List.map_cons,List.cons.injEq];exact⟨by simp [UInt8.toNat_ofNat];omega,Je h.2⟩
theorem aaE (a:isKey sh k=true)(c:VR m k x)(b:VR m k y):x=y:=by
 cases sh<;>cases k<;>simp only[isKey,Bool.false_eq_true] at a
 ·rename_i l
  rw[show x= .string ⟨(l.map UInt8.ofNat).toArray⟩ from c,show y= .string ⟨(l.map UInt8.ofNat).toArray⟩ from b]
 ·rename_i n j g
  simp only[vN] at a;obtain⟨xs,rfl,e⟩:=c;obtain⟨f,rfl,d⟩:=b;have:xs=f:=Array.toList_inj.1 (gZ.det (k:=j) a.2 e d);rw[this]
theorem key_inj {c:V}(b:isKey sh k=true)(a:isKey sh c=true)(d:VR m k x)(o:VR m c x):k=c:=by
 cases sh<;>cases k<;>simp only[isKey,Bool.false_eq_true] at b<;>cases c<;>simp only[isKey,Bool.false_eq_true] at a
 ·rename_i l f
  simp only[vN] at b a;have e:Value.string ⟨(l.map UInt8.ofNat).toArray⟩= .string ⟨(f.map UInt8.ofNat).toArray⟩:=(show x=_ from d).symm.trans o;simp only[Value.string.injEq,ByteArray.mk.injEq] at e;have s:l.map UInt8.ofNat=f.map UInt8.ofNat:=by simpa using e
  have g:=congrArg (List.map UInt8.toNat) s;rw[Je b.2,Je a.2] at g;rw[g]
 ·rename_i n j z q
  simp only[vN] at b a;obtain⟨xs,rfl,r⟩:=d;obtain⟨u,e,p⟩:=o;cases e;rw[gZ.inj (k:=j) b.2 a.2 r p]
theorem mapM_some {α β:Type}{f:α->Option β}: ∀(l:List α),(∀a∈l,∃b,f a=some b)-> ∃bs,l.mapM f=some bs
 | [],_=>⟨[],rfl⟩
 |a::l,h=>by
  obtain⟨b,e⟩:=h a (by simp);obtain⟨bs,d⟩:=mapM_some l (λc g=>h c (by simp [g]));exact⟨b::bs,by rw[List.mapM_cons,e,d];rfl⟩
theorem Ot (b:Nz P kt=some sh)(g:isKey sh k=true)(F:VR m k x):WideMaps.KeyLaw P kt/\ ∃l,keyOf P kt x=some l:=by
 unfold Nz at b;split at b
 ·rename_i f
  cases b;cases k<;>simp only[isKey,Bool.false_eq_true] at g;rename_i l;simp only[vN,decide_eq_true_eq] at g;refine⟨WideMaps.string_law f,.string (l.map UInt8.ofNat).toArray.toList,?_⟩;rw[show x= .string ⟨(l.map UInt8.ofNat).toArray⟩ from F];refine WideMaps.keyOf_string_mk (s:=⟨(l.map UInt8.ofNat).toArray⟩) f ?_;show (l.map UInt8.ofNat).toArray.size<=maxLen;have:maxLen=2^63- 1:=rfl;have:=g.1;simp;omega
 ·rename_i n e f
  split at b
  ·rename_i q B
   split at b
   ·rename_i r
    cases b;cases k<;>simp only[isKey,Bool.false_eq_true] at g;rename_i U;simp only[vN,decide_eq_true_eq] at g
    have A:WideMaps.ArrKey P kt e n:=⟨f,by simp [Program.plainKey,B],r.1,r.2.1⟩
    have o: ∃m,P.types.size=m+1:=⟨P.types.size- 1,om⟩
    have p:=A.keyType o;obtain⟨N,u⟩:=o;obtain⟨xs,rfl,G⟩:=F;have c:xs.size=n:=by have:=gZ.length G;simp at this;omega
    have d:=gZ.ints (k:=q) G g.2
    have Q: ∃J,(List.range n).mapM (λi=>P.keyLits (N+1) e ((xs.toList.drop (i*P.cellsOf e)).take (P.cellsOf e)))=some J:=by
     refine mapM_some _ (λi hi=>?_);have L:i<n:=by simpa using hi
     rw[r.1,uW];have j:i<xs.toList.length:=by simp;omega
     have O:(xs.toList.drop i).take 1= [xs.toList[i]]:=by rw[AR j];rfl
     rw[O];obtain⟨a,K,R⟩:=d _ (zG j);rw[K];exact⟨[.int q a],by simp [Program.keyLits,B,R]⟩
    obtain⟨J,z⟩:=Q;refine⟨A.law,?_⟩;unfold keyOf;simp only[f];rw[bF (by simp [p,Value.formed,f,A.size,c]),u];unfold Program.keyLits;simp only[f,Value.cells];rw[bF (by rw[A.size];simpa using c),z];exact⟨_,rfl⟩
   ·cases b
  ·cases b
 ·cases b
theorem El {k:V}: ∀{es:List (V×V)} {q:Nat×V},gY k es=some q-> ∃k',es[q.1]? =some (k',q.2)/\dE k k'=true
 | [],q,h=>by simp [gY] at h
 |e::es,q,h=>by
  simp only[gY] at h;split at h
  ·rename_i a
   cases h;exact⟨e.1,rfl,a⟩
  ·simp only[mJ] at h
   obtain⟨r,d,rfl⟩:=h;obtain⟨k',b,c⟩:=El d;exact⟨k',by simpa using b,c⟩
theorem Ek {k:V}: ∀{es:List (V×V)},gY k es=none-> ∀e∈es,dE k e.1=false
 | [],_,e,a=>by simp at a
 |e::es,h,e',a=>by
  simp only[gY] at h;split at h
  ·cases h
  ·rename_i b
   simp only[Option.map_eq_none_iff] at h;rcases zH.1 a with rfl|a
   ·simpa using b
   ·exact Ek h e' a
structure WR (m:M)(sh:Cy)(es:List (V×V))(es':List MapEntry):Prop where
 len:es.length=es'.length
 one: ∀(i j:Nat) (a b:V×V),es[i]? =some a->es[j]? =some b->dE a.1 b.1=true->i=j
 ent: ∀(i:Nat) (k v:V),es[i]? =some (k,v)->isKey sh k=true/\ ∃e:MapEntry,es'[i]? =some e/\e.born=i/\VR m k e.key/\VR m v e.val
theorem WR.keys (W:WR m sh es es')(f:Nz P kt=some sh): ∀e∈es',∃l,keyOf P kt e.key=some l:=by
 intro e d;obtain⟨i,hi⟩:=List.mem_iff_getElem?.1 d;have a:i<es.length:=by rw[W.len];exact (Ax.1 hi).1
 obtain⟨g,j,b,_,c,_⟩:=W.ent i _ _ (dD a);rw[hi] at b;cases b;exact (Ot f g c).2
theorem Bn (W:WR m sh es es')(J:Nz P kt=some sh)(u:isKey sh k=true)(B:VR m k x):
  (∃i v e,gY k es=some (i,v)/\es[i]? =some (k,v)/\es'[i]? =some e/\e.born=i/\e.key=x/\VR m v e.val/\(Instr.findKey kt x es').run P w= .ok (some (i,e.val)) w)∨
  (gY k es=none/\(∀e∈es,dE k e.1=false)/\(Instr.findKey kt x es').run P w= .ok none w):=by
 obtain⟨K,l,Y⟩:=Ot J u B
 have r: ∀(i:Nat) (d v:V),es[i]? =some (d,v)->dE k d=true-> ∃e,es'[i]? =some e/\e.key=x:=by
  intro i d v hi A;obtain⟨s,e,a,_,b,_⟩:=W.ent i d v hi;have:=Io _ _ A;subst this;exact⟨e,a,aaE u b B⟩
 have o: ∀(j:Nat) (e:MapEntry),es'[j]? =some e->e.key=x-> ∃v,es[j]? =some (k,v):=by
  intro j e L A;have p:j<es.length:=by rw[W.len];exact (Ax.1 L).1
  obtain⟨s,R,a,_,b,_⟩:=W.ent j _ _ (dD p);rw[L] at a;cases a;rw[A] at b;have:=key_inj u s B b;exact⟨es[j].2,by rw[dD p,this];rfl⟩
 rcases K.find w Y es' (W.keys J) with ⟨a,f⟩|⟨j,e,a,f,b⟩
 ·refine .inr ?_
  cases hf:gY k es with
  |none=>exact⟨rfl,Ek hf,a⟩
  |some q=>
   exfalso;obtain⟨d,c,z⟩:=El hf;obtain⟨e,O,Q⟩:=r _ _ _ c z;exact f e (AW O) Q
 ·refine .inl ?_
  obtain⟨v,n⟩:=o j e f b
  cases hf:gY k es with
  |none=>exact absurd (FO u) (by rw[Ek hf _ (AW n)];simp)
  |some q=>
   obtain⟨d,c,z⟩:=El hf;have F:=Io _ _ z;subst F;have g:q.1=j:=W.one _ _ _ _ c n z;obtain⟨i,v'⟩:=q;simp only at g c;subst g;rw[n] at c;cases c;obtain⟨_,R,G,U,Z,N⟩:=W.ent i k v n;rw[f] at G;cases G;exact⟨i,v,e,rfl,n,f,U,b,N,a⟩
theorem WR.push (W:WR m sh es es')(q:isKey sh k=true)(B:VR m k x)(G:VR m v y)(n: ∀e∈es,dE k e.1=false):
  WR m sh (es++ [(k,v)]) (es'++ [{key:=x,val:=y,born:=es'.length}]):=by
 refine⟨by simp [W.len],λi j a b z K d=>?_,λi A L hi=>?_⟩
 ·have o: ∀(i:Nat) (a:V×V),(es++ [(k,v)])[i]? =some a->(i<es.length/\es[i]? =some a)∨(i=es.length/\a=(k,v)):=by
   intro i a h
   by_cases hi:i<es.length
   ·exact .inl ⟨hi,by rwa [Dv hi] at h⟩
   ·rw[Kk om] at h
    by_cases f:i-es.length=0
    ·rw[f] at h;simp at h;exact .inr ⟨om,h.symm⟩
    ·rw[List.getElem?_eq_none (by simp;omega)] at h;cases h
  rcases o i a z with ⟨J,g⟩|⟨J,rfl⟩<;>rcases o j b K with ⟨u,l⟩|⟨u,rfl⟩
  ·exact W.one i j a b g l d
  ·have:=n a (AW g)
   have p:=Io _ _ d;simp only at p;rw[p,FO q] at this;cases this
  ·have:=n b (AW l)
   simp only at d;rw[d] at this;cases this
  ·omega
 ·by_cases c:i<es.length
  ·rw[Dv c] at hi
   obtain⟨F,e,r,s⟩:=W.ent i A L hi
   exact⟨F,e,by rw[Dv (by rw[←W.len];exact c)];exact r,s⟩
  ·rw[Kk om] at hi
   by_cases f:i-es.length=0
   ·rw[f] at hi;simp at hi
    obtain⟨rfl,rfl⟩:=hi
    have:i=es'.length:=by rw[←W.len];omega
    subst this
    exact⟨q,{key:=x,val:=y,born:=es'.length},by simp,rfl,B,G⟩
   ·rw[List.getElem?_eq_none (by simp;omega)] at hi;cases hi
theorem WR.UK (W:WR m sh es es'){n:V}{e:MapEntry}(hi:es[i]? =some (k,v))(L:es'[i]? =some e)(O:VR m n y):
  WR m sh (es.set i (k,n)) (es'.set i {e with val:=y}):=by
 have f:i<es.length:=(Ax.1 hi).1
 have c:i<es'.length:=by rw[←W.len];exact f
 have s: ∀(j:Nat) (a:V×V),(es.set i (k,n))[j]? =some a-> ∃b,es[j]? =some b/\b.1=a.1/\((j=i/\a=(k,n))∨(j≠i/\b=a)):=by
  intro j a h
  by_cases g:j=i
  ·subst g
   rw[List.getElem?_set_self f] at h;cases h;exact⟨_,hi,rfl,.inl ⟨rfl,rfl⟩⟩
  ·rw[List.getElem?_set_ne (λe=>g e.symm)] at h
   exact⟨a,h,rfl,.inr ⟨g,rfl⟩⟩
 refine⟨by simp [W.len],λp q a b J R r=>?_,λj Q N g=>?_⟩
 ·obtain⟨Y,A,B,_⟩:=s p a J
  obtain⟨U,d,K,_⟩:=s q b R
  exact W.one p q Y U A d (by rw[B,K];exact r)
 ·obtain⟨b,A,B,d⟩:=s j _ g
  rcases d with ⟨rfl,d⟩|⟨z,rfl⟩
  ·cases d
   obtain⟨u,F,l,o,G,_⟩:=W.ent j k v hi
   rw[L] at l;cases l
   exact⟨u,_,List.getElem?_set_self c,o,G,O⟩
  ·obtain⟨u,F,l,o⟩:=W.ent j Q N A
   exact⟨u,F,by rw[List.getElem?_set_ne (λe=>z e.symm)];exact l,o⟩
theorem xN {α:Type}(f:α->α): ∀(l:List α) (i:Nat) (a:α),l[i]? =some a->l.modify i f=l.set i (f a)
 | [],_,_,h=>by simp at h
 |b::l,0,a,h=>by simp at h;subst h;rfl
 |b::l,i+1,a,h=>by simp at h;simp [List.modify_succ_cons,xN f l i a h]
theorem jR {α:Type}: ∀(l:List α) (i:Nat) (a:α),l[i]? =some a->l.set i a=l
 | [],_,_,h=>by simp at h
 |b::l,0,a,h=>by simp at h;subst h;rfl
 |b::l,i+1,a,h=>by simp at h;simp [jR l i a h]
theorem xA (g:HR P m h w){p:Nat×Nat×Nat}(j:m id=some p)(e:h.get id=some (.wmap sh es)):
  ∃es':Array MapEntry,w.heap[p.1]? =some (.map es' es'.size)/\WR m sh es es'.toList:=by
 obtain⟨o,b,n,es',d,l,a,f,c⟩:=g.live id _ e
 rw[j] at b;cases b
 subst f
 exact⟨es',l,by simpa using a,n,λi k v hi=>by simpa using c i k v hi⟩
theorem JH (o:HR P m h w)(s:gK m h.next){A:V}(q:P.underlying t=some (.map kt et))(G:Nz P kt=some sh)(r:lV P et=some A)
      (J:VR m (.mp id) x) (B:VR m k y) (L:h.get id=some (.wmap sh es)) (d:isKey sh k=true) (ok:Bool):
  aT P m h w (Instr.lookup t x y ok) (match gY k es with|some e=>(if ok then .tup [e.2,.bool true] else e.2)|none=>(if ok then .tup [A,.bool false] else A)) h:=by
 obtain⟨p,N,rfl⟩:=J
 obtain⟨es',Q,W⟩:=xA o N L
 obtain⟨K,l,O⟩:=Ot G d B
 have b:(getObj p.1).run P w= .ok (.map es' es'.size) w:=by simp [getObj,Sem.run,Q]
 have c:=K.check w es'.isEmpty O
 have g: ∃i z,P.info? et=some i/\i.zero=some z:=by
  unfold lV at r
  cases hi:P.info? et with
  |none=>simp [hi] at r
  |some i=>
   cases hzz:i.zero with
   |none=>simp [hi,hzz] at r
   |some z=>exact⟨i,z,rfl,hzz⟩
 obtain⟨i,z,hi,f⟩:=g
 obtain⟨_,_,n⟩:=kC m r hi f
 rcases Bn (w:=w) W G d B with ⟨j,v,e,u,_,_,_,_,F,a⟩|⟨u,_,a⟩
 ·rw[u]
  cases ok with
  |true=>
   refine aT.still o s (x:= .tuple #[e.val,.bool true]) ?_ ⟨_,rfl,F,rfl,trivial⟩;simp [Instr.lookup,run_underlying q,b,c,a]
  |false=>
   refine aT.still o s (x:=e.val) ?_ F;simp [Instr.lookup,run_underlying q,b,c,a]
 ·rw[u]
  cases ok with
  |true=>
   refine aT.still o s (x:= .tuple #[z,.bool false]) ?_ ⟨_,rfl,n,rfl,trivial⟩;simp [Instr.lookup,run_underlying q,b,c,a,zeroValue,typeInfo,hi,f]
  |false=>
   refine aT.still o s (x:=z) ?_ n;simp [Instr.lookup,run_underlying q,b,c,a,zeroValue,typeInfo,hi,f]
theorem OE (f:HR P m h w)(l:gK m h.next){a:List (V×V)}{p:Nat×Nat×Nat}(g:m id=some p)(e:h.get id=some (.wmap sh es))
  {es':Array MapEntry} (W:WR m sh a es'.toList):(setObj p.1 (.map es' es'.size)).run P w= .ok () (w.putObj p.1 (.map es' es'.size))/\
   iO P m h w m (h.set id (some (.wmap sh a))) (w.putObj p.1 (.map es' es'.size)):=by
 obtain⟨j,c,_⟩:=xA f g e
 have d:p.1<w.heap.size:=(AS.1 c).1
 refine⟨by simp [setObj,Sem.run,c,World.putObj],?_⟩
 exact iO.put f l e rfl rfl g ⟨W.one,es',es'.size,World.putObj_heap_same d,by simpa using W.len,rfl,λi k v hi=>by simpa using W.ent i k v hi⟩ rfl rfl rfl (by simp) (λb c=>World.putObj_heap_other c)
theorem IT (A:HR P m h w)(N:gK m h.next)(J:P.underlying t=some (.map kt et))(O:Nz P kt=some sh)
     {z:Value} (Y:VR m (.mp id) x) (s:VR m k y) (L:VR m v z) (q:h.get id=some (.wmap sh es)) (a:isKey sh k=true):
  ∃w',(Instr.mapUpdate t x y z).run P w= .ok () w'/\iO P m h w m (h.set id (some (.wmap sh (match gY k es with|some e=>es.set e.1 (k,v)|none=>es++ [(k,v)])))) w':=by
 obtain⟨p,r,rfl⟩:=Y
 obtain⟨es',hb,W⟩:=xA A r q
 obtain⟨K,l,R⟩:=Ot O a s
 have c:(getObj p.1).run P w= .ok (.map es' es'.size) w:=by simp [getObj,Sem.run,hb]
 have j:=K.check w false R
 rcases Bn (w:=w) W O a s with ⟨i,u,e,F,U,o,h4,Q,_,b⟩|⟨F,Z,b⟩
 ·rw[F]
  have G:es'[i]? =some e:=by simpa using o
  have iP:=K.stays w R
  have n:(es'.modify i λe=>{e with key:=y,val:=z}).toList=es'.toList.set i {e with val:=z}:=by
   rw[Array.toList_modify,xN _ _ _ _ o,←Q]
  have B:WR m sh (es.set i (k,v)) (es'.modify i λe=>{e with key:=y,val:=z}).toList:=by
   rw[n];exact W.UK U o L
  obtain⟨f,g⟩:=OE A N r q B
  simp only[Array.size_modify] at f g
  refine⟨_,?_,g⟩
  have d:(Option.map MapEntry.key es'[i]?).getD y=y:=by rw[G];exact Q
  simp only[Instr.mapUpdate,Sem.run_bind,run_underlying J,Result.andThen_ok,c,j,b,Sem.run_pure,d,iP,f]
 ·rw[F]
  have B:WR m sh (es++ [(k,v)]) (es'.push {key:=y,val:=z,born:=es'.size}).toList:=by
   rw[Array.toList_push];have:=W.push a s L Z;simpa using this
  obtain⟨f,g⟩:=OE A N r q B
  simp only[Array.size_push] at f g
  refine⟨_,?_,g⟩
  simp only[Instr.mapUpdate,Sem.run_bind,run_underlying J,Result.andThen_ok,c,j,b,Sem.run_pure,f]
theorem LZ (B:HR P m h w)(O:gK m h.next){F:V}(ht:P.underlying t=some (.map kt et))(hk:Nz P kt=some sh)(A:lV P et=some F)
      (hx:VR m (.mp id) x) (N:VR m k y) (J:h.get id=some (.wmap sh es)) (a:isKey sh k=true):
  aT P m h w (Instr.mapEntry t x y) (match gY k es with|some e=> .tup [e.2,.int .i64 (e.1:Nat)]|none=> .tup [F,.int .i64 es.length])
   (match gY k es with|some _=>h|none=>h.set id (some (.wmap sh (es++ [(k,F)])))):=by
 obtain⟨p,L,rfl⟩:=hx
 obtain⟨es',Y,W⟩:=xA B L J
 obtain⟨K,l,hl⟩:=Ot hk a N
 have a0:p.1<w.heap.size:=(AS.1 Y).1
 have c:(getObj p.1).run P w= .ok (.map es' es'.size) w:=by simp [getObj,Sem.run,Y]
 have q:=K.check w false hl
 have d: ∃i z,P.info? et=some i/\i.zero=some z:=by
  unfold lV at A
  cases hi:P.info? et with
  |none=>simp [hi] at A
  |some i=>
   cases hzz:i.zero with
   |none=>simp [hi,hzz] at A
   |some z=>exact⟨i,z,rfl,hzz⟩
 obtain⟨i,z,hi,n⟩:=d
 obtain⟨_,_,o⟩:=kC m A hi n
 rcases Bn (w:=w) W hk a N with ⟨i,u,e,U,h2,G,Z,h5,h6,b⟩|⟨U,hn,b⟩
 ·rw[U]
  have g:es'[i]? =some e:=by simpa using G
  have iP:=K.stays w hl
  have r:(es'.modify i λe=>{e with key:=y})=es':=by
   apply Array.toList_inj.1;rw[Array.toList_modify,xN _ _ _ _ G,←h5];exact jR _ _ _ G
  have f:(Option.map MapEntry.key es'[i]?).getD y=y:=by rw[g];exact h5
  have Q:(Option.map MapEntry.born es'[i]?).getD 0=i:=by rw[g];exact Z
  have W1:WR m sh (es.set i (k,u)) es'.toList:=by rw[jR _ _ _ h2];exact W
  obtain⟨s,R⟩:=OE B O L J W1
  have j:w.putObj p.1 (.map es' es'.size)=w:=by
   have:w.heap.setIfInBounds p.1 (.map es' es'.size)=w.heap:=by
    apply Array.ext';simp only[Array.toList_setIfInBounds];exact jR _ _ _ (by simpa using Y)
   unfold World.putObj;rw[this]
  refine aT.still B O (x:= .tuple #[e.val,goInt (i:Nat)]) ?_ ⟨_,rfl,h6,rfl,trivial⟩
  simp only[Instr.mapEntry,Sem.run_bind,run_underlying ht,Result.andThen_ok,c,q,b,Sem.run_pure,f,iP,r,s,j]
  simp [g,Z]
 ·rw[U]
  have W2:WR m sh (es++ [(k,F)]) (es'.push {key:=y,val:=z,born:=es'.size}).toList:=by
   rw[Array.toList_push];have:=W.push a N o hn;simpa using this
  obtain⟨s,R⟩:=OE B O L J W2
  simp only[Array.size_push] at s R
  refine⟨.tuple #[z,goInt (es'.size:Nat)],_,m,?_,⟨_,rfl,o,?_,trivial⟩,R⟩
  ·simp [Instr.mapEntry,run_underlying ht,c,q,b,zeroValue,typeInfo,hi,n,s]
  ·have:es.length=es'.size:=by simpa using W.len
   rw[this];rfl
theorem Po: ∀(l:List MapEntry) (o i:Nat),(∀(j:Nat) (e:MapEntry),l[j]? =some e->e.born=o+j)->i<l.length->l.findIdx? (λe=>((e.born:Nat):Int)==((o+i:Nat):Int))=some i
 | [],_,_,_,h=>by simp at h
 |a::l,o,0,hb,_=>by
  have:=hb 0 a rfl;simp [List.findIdx?_cons,this]
 |a::l,o,i+1,hb,hl=>by
  have g:=hb 0 a rfl;have c:=Po l (o+1) i (λj e f=>by have:=hb (j+1) e (by simpa using f);omega) (by simpa using hl)
  have b:(((a.born:Nat):Int)==((o+(i+1):Nat):Int))=false:=by
   simp only[beq_eq_false_iff_ne,ne_eq,Int.natCast_inj];omega
  rw[List.findIdx?_cons,b];have d:o+1+i=o+(i+1):=om
  rw[d] at c;rw[c];rfl
theorem KL (s:HR P m h w)(F:gK m h.next){u:V}{z:Value}(A:VR m (.mp id) x)(B:VR m v z)(o:h.get id=some (.wmap sh es))(hi:es[i]? =some (k,u)):
  ∃w',(Instr.entryStore t x (.int .i64 (i:Nat)) z).run P w= .ok () w'/\iO P m h w m (h.set id (some (.wmap sh (es.set i (k,v))))) w':=by
 obtain⟨p,q,rfl⟩:=A
 obtain⟨es',G,W⟩:=xA s q o
 have c:(getObj p.1).run P w= .ok (.map es' es'.size) w:=by simp [getObj,Sem.run,G]
 have g:i<es.length:=(Ax.1 hi).1
 obtain⟨_,e,n,_⟩:=W.ent i k u hi
 have b:es'.findIdx? (λe=>((e.born:Nat):Int)==((i:Nat):Int))=some i:=by
  have:es'.findIdx? (λe=>((e.born:Nat):Int)==((i:Nat):Int))=es'.toList.findIdx? (λe=>((e.born:Nat):Int)==((i:Nat):Int)):=by
   cases es';simp
  rw[this]
  have:=Po es'.toList 0 i (λj e r=>by
   have f:j<es.length:=by rw[W.len];exact (Ax.1 r).1
   obtain⟨_,K,a,l,_⟩:=W.ent j _ _ (dD f)
   rw[r] at a;cases a;omega) (by rw[←W.len];exact g)
  simpa using this
 have d:(es'.modify i λe=>{e with val:=z}).toList=es'.toList.set i {e with val:=z}:=by
  rw[Array.toList_modify,xN _ _ _ _ n]
 have J:WR m sh (es.set i (k,v)) (es'.modify i λe=>{e with val:=z}).toList:=by
  rw[d];exact W.UK hi n B
 obtain⟨a,l⟩:=OE s F q o J
 simp only[Array.size_modify] at a l
 refine⟨_,?_,l⟩
 simp [Instr.entryStore,c,asInt,asIntOf,b,a]
theorem EJ (a b:List Nat):((⟨(a.map UInt8.ofNat).toArray⟩:ByteArray).toList==(⟨(b.map UInt8.ofNat).toArray⟩:ByteArray).toList)=(a.map (· %256)==b.map (· %256)):=by
 rw[ByteArray.toList_eq,ByteArray.toList_eq];simp only
 have c: ∀(a b:List Nat),(a.map UInt8.ofNat=b.map UInt8.ofNat)↔a.map (· %256)=b.map (· %256):=by
  intro a
  induction a with
  |nil=>intro b;cases b<;>simp
  |cons x a ih=>
   intro b
   cases b with
   |nil=>simp
   |cons y b=>
    simp only[List.map_cons,List.cons.injEq,ih b];constructor
    ·rintro⟨h1,h2⟩
     have:=congrArg UInt8.toNat h1;exact⟨by simpa [UInt8.toNat_ofNat] using this,h2⟩
    ·rintro⟨h1,h2⟩
     exact⟨UInt8.toNat_inj.1 (by simpa [UInt8.toNat_ofNat] using h1),h2⟩
 rw[Py];simp only[beq_iff_eq];exact c a b
theorem Ri (f:HR P m h w)(j:gK m h.next){op:BinOp}(d:op= .eql∨op= .neq){x y:Operand}{a b:List Nat}{u v:Value}(g:VR m (.str a) u)(n:VR m (.str b) v){neg:Bool}(c:neg=(op matches .neq)):
  aT P m h w (do eqGuard op t x y u v;binOp op t u v) (.bool (if neg then !(a.map (· %256)==b.map (· %256)) else a.map (· %256)==b.map (· %256))) h:=by
 rw[show u= .string ⟨(a.map UInt8.ofNat).toArray⟩ from g,show v= .string ⟨(b.map UInt8.ofNat).toArray⟩ from n]
 refine aT.still f j (x:= .bool (if neg then !(a.map (· %256)==b.map (· %256)) else a.map (· %256)==b.map (· %256))) ?_ rfl
 have e:(eqGuard op t x y (.string ⟨(a.map UInt8.ofNat).toArray⟩) (.string ⟨(b.map UInt8.ofNat).toArray⟩)).run P w= .ok () w:=by
  unfold eqGuard;rcases d with rfl|rfl<;>simp
 have l:(binOp op t (.string ⟨(a.map UInt8.ofNat).toArray⟩) (.string ⟨(b.map UInt8.ofNat).toArray⟩)).run P w=(Op.stringOp op ⟨(a.map UInt8.ofNat).toArray⟩ ⟨(b.map UInt8.ofNat).toArray⟩).run P w:=by
  rcases d with rfl|rfl<;>rfl
 simp only[Sem.run_bind,e,Result.andThen_ok,l]
 subst c
 rcases d with rfl|rfl
 ·simp only[Op.stringOp,EJ,Sem.run_pure];rfl
 ·simp only[Op.stringOp,EJ,Sem.run_pure];rfl
theorem LH (g:HR P m h w)(n:gK m h.next){x y:Operand}{a b:List Nat}{u v:Value}(o:VR m (.str a) u)(j:VR m (.str b) v)(p:a.length+b.length<2^62):
  aT P m h w (do eqGuard .add t x y u v;binOp .add t u v) (.str (a++b)) h:=by
 rw[show u= .string ⟨(a.map UInt8.ofNat).toArray⟩ from o,show v= .string ⟨(b.map UInt8.ofNat).toArray⟩ from j]
 refine aT.still g n (x:= .string ⟨((a++b).map UInt8.ofNat).toArray⟩) ?_ rfl
 have f:(eqGuard .add t x y (.string ⟨(a.map UInt8.ofNat).toArray⟩) (.string ⟨(b.map UInt8.ofNat).toArray⟩)).run P w= .ok () w:=by
  unfold eqGuard;simp
 have l:(binOp .add t (.string ⟨(a.map UInt8.ofNat).toArray⟩) (.string ⟨(b.map UInt8.ofNat).toArray⟩)).run P w=(Op.stringOp .add ⟨(a.map UInt8.ofNat).toArray⟩ ⟨(b.map UInt8.ofNat).toArray⟩).run P w:=rfl
 simp only[Sem.run_bind,f,Result.andThen_ok,l]
 have d:(⟨(a.map UInt8.ofNat).toArray⟩:ByteArray).size=a.length:=by show (a.map UInt8.ofNat).toArray.size=_;simp
 have e:(⟨(b.map UInt8.ofNat).toArray⟩:ByteArray).size=b.length:=by show (b.map UInt8.ofNat).toArray.size=_;simp
 have c:IntKind.i64.max=9223372036854775807:=rfl
 unfold Op.stringOp
 simp only[d,e]
 rw[bI (by rw[c];omega)]
 simp only[Sem.run_pure]
 congr 2
 apply ByteArray.ext
 rw[ByteArray.data_append]
 simp
theorem LI (d:HR P m h w)(g:gK m h.next){a dst:TypeId}{j:IntKind}(e:P.underlying a=some (.int j))(c:P.underlying dst=some .string){k:IntKind}{n:Int}(b:VR m (.int k n) x)(o:0<=n)(l:n<128):
  aT P m h w (convert a dst x) (.str [n.toNat]) h:=by
 rw[show x= .int k n from b]
 refine aT.still d g (x:= .string ⟨#[UInt8.ofNat n.toNat]⟩) ?_ rfl
 have f:Utf8.valid n=true:=by unfold Utf8.valid;simp;omega
 simp only[convert,Sem.run_bind,run_underlying e,run_underlying c,Result.andThen_ok,Conv.intToString,Sem.run_pure,Utf8.encode,f,if_true]
 rw[bF om]
theorem Pk (body:Value->ByteArray->Sem (ForInStep ByteArray))(b: ∀n s,body (.int .u8 n) s=pure (.yield (s.push (UInt8.ofNat n.toNat)))): ∀(cs:List Value) (vs:List V) (l:List Nat) (acc:ByteArray),
  gZ m vs cs->qH vs=some l->(forIn cs acc body).run P w= .ok ⟨acc.data++(l.map UInt8.ofNat).toArray⟩ w
 | [], [],l,acc,_,hl=>by
  simp only[qH,Option.some.injEq] at hl;subst hl;simp
 |c::cs,v::vs,l,acc,hv,hl=>by
  cases v<;>try (simp only[qH,reduceCtorEq] at hl;done)
  rename_i k n;cases k<;>try (simp only[qH,reduceCtorEq] at hl;done)
  simp only[qH] at hl;split at hl
  ·simp only[mJ] at hl
   obtain⟨d,a,rfl⟩:=hl;rw[show c= .int .u8 n from hv.1,List.forIn_cons,b];simp only[Sem.run_bind,Sem.run_pure,Result.andThen_ok];rw[Pk body b cs vs d _ hv.2 a];congr 2;apply Array.toList_inj.1;simp [ByteArray.push]
  ·cases hl
 | [],_::_,_,_,h,_=>h.elim
 |_::_, [],_,_,h,_=>h.elim
theorem LD (A:HR P m h w)(F:gK m h.next){g dst e:TypeId}(K:P.underlying g=some (.slice e))(Y:P.underlying dst=some .string)(J:P.underlying e=some (.int .u8))
  {u:V}  (B:VR m v x) (f:JA h v=some u):aT P m h w (convert g dst x) u h:=by
 have d: ∀a n c,(convert g dst (.slice a n c)).run P w=(Conv.bytesToString (.slice a n c)).run P w:=by
  intro a n c;simp [convert,run_underlying K,run_underlying Y,run_underlying J]
 unfold JA at f
 split at f
 ·cases f
  obtain rfl:x= .slice none 0 0:=B
  refine aT.still A F (x:= .string .empty) ?_ rfl
  rw[d]
  simp [Conv.bytesToString]
 ·rename_i id a0 len W
  obtain⟨p,c,R,N,rfl,_,L,_⟩:=B
  split at f
  ·rename_i r q
   simp only[mJ] at f
   obtain⟨l,Z,rfl⟩:=f
   have b: ∃xs:List Value,(loadCells ⟨p.1,p.2.1+R,none⟩ len).run P w= .ok xs.toArray w/\gZ m r xs:=by
    obtain⟨p',c',G,fr,o,hb,_,z,j,_⟩:=Cn A q;rw[N] at o;cases o
    by_cases h0:len=0
    ·subst h0
     have O:r= []:=by
      have:=j;simp only[List.take_zero] at this
      cases r with
      |nil=>rfl
      |cons _ _=>exact this.elim
     subst O;exact⟨[],by simp only[loadCells,loadCellsFrom];rfl,trivial⟩
    ·obtain rfl:=L om
     exact⟨_,lE hb z,j⟩
   obtain⟨xs,b,Q⟩:=b
   refine aT.still A F (x:= .string ⟨(l.map UInt8.ofNat).toArray⟩) ?_ rfl
   rw[d]
   simp only[Conv.bytesToString,Sem.run_bind,b,Result.andThen_ok]
   rw[←Array.forIn_toList]
   rw[Pk (m:=m) _ (λn s=>rfl) xs r l _ Q Z]
   simp only[Result.andThen_ok,Sem.run_pure]
   congr 2
   have U:ByteArray.empty.data= #[]:=rfl
   rw[U]
   simp only[Array.empty_append]
  ·cases f
 ·cases f
end
end
end Go.Ay
