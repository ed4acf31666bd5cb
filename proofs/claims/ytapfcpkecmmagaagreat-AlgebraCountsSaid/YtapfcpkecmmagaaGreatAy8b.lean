/- Maps whose keys are strings or rows of numbers; strings of bytes. -/
import Derived.Test.YtapfcpkecmmagaaGreatAy8
import Derived.WideKeyArr
import Derived.StringKeys
namespace Go.Ay
open Go
section
variable {k v:V} {i id:Nat} {x y:Value} {kt t et:TypeId} {es:List (V×V)} {es':List MapEntry}
mutual
theorem xL: ∀(a b:V),dJ a b=true->a=b
 | .int ..,b,h=>by cases b<;>simp [dJ] at h;simp [h]
 | .bool _,b,h=>by cases b<;>simp [dJ] at h;simp [h]
 | .ptr ..,b,h=>by cases b<;>simp [dJ] at h;simp [h]
 | .nilp,b,h=>by cases b<;>simp [dJ] at h;rfl
 | .sl ..,b,h=>by cases b<;>simp [dJ] at h;simp [h]
 | .aD,b,h=>by cases b<;>simp [dJ] at h;rfl
 | .emp _,b,h=>by cases b<;>simp [dJ] at h;rw[h]
 | .str _,b,h=>by cases b<;>simp [dJ] at h;rw[h]
 | .ifc t x,b,h=>by
  cases b<;>simp [dJ] at h;rw[h.1,xL x _ h.2]
 | .mp _,b,h=>by cases b<;>simp [dJ] at h;simp [h]
 | .nilm,b,h=>by cases b<;>simp [dJ] at h;rfl
 | .fn _ a1 a2,b,h=>by
  cases b<;>simp [dJ] at h;rw[h.1.1,vW a1 _ h.1.2,vW a2 _ h.2]
 | .yl _,b,h=>by cases b<;>simp [dJ] at h;simp [h]
 | .nilf,b,h=>by cases b<;>simp [dJ] at h;rfl
 | .agg a,b,h=>by
  cases b<;>simp [dJ] at h;rw[vW a _ h]
 | .tup a,b,h=>by
  cases b<;>simp [dJ] at h;rw[vW a _ h]
 | .unk,b,h=>by simp [dJ] at h
theorem vW: ∀(a b:List V),nJ a b=true->a=b
 | [], [],_=>rfl
 |x::a,y::b,h=>by
  simp only[nJ,pQ] at h;rw[xL x y h.1,vW a b h.2]
 | [],_::_,h=>by simp [nJ] at h
 |_::_, [],h=>by simp [nJ] at h
end
def zK (k:IntKind):V->Bool:=fun| .int j a=>decide (j=k)&&(decide (k.min<=a)&&decide (a<=k.max))|_=>false
theorem nK {k:IntKind}(h:zK k v=true): ∃a,v= .int k a/\(Lit.int k a).wf=true:=by
 cases v<;>simp [zK] at h;rename_i j a;obtain⟨rfl,b,c⟩:=h;exact⟨a,rfl,by simp [Lit.wf,b,c]⟩
theorem Dd {k:IntKind}: ∀{l:List V},l.all (zK k)=true->nJ l l=true
 | [],_=>rfl
 |v::l,h=>by
  simp only[List.all_cons,pQ] at h;obtain⟨a,rfl,_⟩:=nK h.1;simp only[nJ,dJ,beq_self_eq_true,Bool.true_and];exact Dd h.2
theorem Ns {a:pW}(h:isKey a k=true):dJ k k=true:=by
 cases a<;>cases k<;>simp only[isKey,Bool.false_eq_true] at h
 ·simp [dJ]
 ·rename_i n j b
  simp only[pQ] at h;simp only[dJ];exact Dd (k:=j) h.2
theorem BA {l:List Nat}{c:Nat}(h:l[i]? =some c):(⟨(l.map UInt8.ofNat).toArray⟩:ByteArray)[i]? =some (UInt8.ofNat c):=by
 obtain⟨b,d⟩:=xQ.1 h;have a:i<(⟨(l.map UInt8.ofNat).toArray⟩:ByteArray).size:=by show i<(l.map UInt8.ofNat).toArray.size;simpa using b
 rw[getElem?_pos _ i a];congr 1;show (l.map UInt8.ofNat).toArray[i]=_;simp [d]
section
variable {P:Program} {m:M} {h:H} {w:World}
theorem fL.ints {k:IntKind}: ∀{l:List V} {xs:List Value},fL m l xs->l.all (zK k)=true-> ∀x∈xs,∃a,x= .int k a/\(Lit.int k a).wf=true
 | [], [],_,_,x,b=>by simp at b
 |v::l,y::xs,h,ha,x,b=>by
  simp only[List.all_cons,pQ] at ha;rcases Dk.1 b with rfl|b
  ·obtain⟨a,rfl,c⟩:=nK ha.1
   exact⟨a,h.1,c⟩
  ·exact fL.ints h.2 ha.2 x b
 | [],_::_,h,_,_,_=>h.elim
 |_::_, [],h,_,_,_=>h.elim
theorem fL.HY {k:IntKind}: ∀{l:List V} {xs ys:List Value},l.all (zK k)=true->fL m l xs->fL m l ys->xs=ys
 | [], [], [],_,_,_=>rfl
 |v::l,x::xs,y::ys,ha,h1,h2=>by
  simp only[List.all_cons,pQ] at ha;obtain⟨a,rfl,_⟩:=nK ha.1;rw[show x= .int k a from h1.1,show y= .int k a from h2.1,fL.HY ha.2 h1.2 h2.2]
 | [],_::_,_,_,h,_=>h.elim
 | [], [],_::_,_,_,h=>h.elim
 |_::_, [],_,_,h,_=>h.elim
 |_::_,_::_, [],_,_,h=>h.elim
theorem fL.inj {k:IntKind}: ∀{l l':List V} {xs:List Value},l.all (zK k)=true->l'.all (zK k)=true->fL m l xs->fL m l' xs->l=l'
 | [], [], [],_,_,_,_=>rfl
 |v::l,v'::l',x::xs,ha,hb,h1,h2=>by
  simp only[List.all_cons,pQ] at ha hb;obtain⟨a,rfl,_⟩:=nK ha.1;obtain⟨b,rfl,_⟩:=nK hb.1;have:(Value.int k a)= .int k b:=(show x= .int k a from h1.1).symm.trans h2.1;cases this;rw[fL.inj ha.2 hb.2 h1.2 h2.2]
 | [],_,_::_,_,_,h,_=>h.elim
 |_, [],_::_,_,_,_,h=>h.elim
 |_::_,_, [],_,_,h,_=>h.elim
 |_,_::_, [],_,_,_,h=>h.elim
theorem wU: ∀{l:List Nat},l.all (λn=>decide (n<256))=true->(l.map UInt8.ofNat).map UInt8.toNat=l
 | [],_=>rfl
 |n::l,h=>by
  simp only[List.all_cons,pQ,decide_eq_true_eq] at h;simp only[List.map_cons,List.cons.injEq];exact⟨by simp [UInt8.toNat_ofNat];omega,wU h.2⟩
theorem AK {b:pW}(a:isKey b k=true)(d:VR m k x)(c:VR m k y):x=y:=by
 cases b<;>cases k<;>simp only[isKey,Bool.false_eq_true] at a
 ·rename_i l
  rw[show x= .string ⟨(l.map UInt8.ofNat).toArray⟩ from d,show y= .string ⟨(l.map UInt8.ofNat).toArray⟩ from c]
 ·rename_i n j o
  simp only[pQ] at a;obtain⟨xs,rfl,e⟩:=d;obtain⟨g,rfl,f⟩:=c;have:xs=g:=Array.toList_inj.1 (fL.HY (k:=j) a.2 e f);rw[this]
theorem key_inj {d:pW}{c:V}(b:isKey d k=true)(a:isKey d c=true)(p:VR m k x)(o:VR m c x):k=c:=by
 cases d<;>cases k<;>simp only[isKey,Bool.false_eq_true] at b<;>cases c<;>simp only[isKey,Bool.false_eq_true] at a
 ·rename_i l g
  simp only[pQ] at b a;have e:Value.string ⟨(l.map UInt8.ofNat).toArray⟩= .string ⟨(g.map UInt8.ofNat).toArray⟩:=(show x=_ from p).symm.trans o;simp only[Value.string.injEq,ByteArray.mk.injEq] at e;have s:l.map UInt8.ofNat=g.map UInt8.ofNat:=by simpa using e
  have f:=congrArg (List.map UInt8.toNat) s;rw[wU b.2,wU a.2] at f;rw[f]
 ·rename_i n j z u
  simp only[pQ] at b a;obtain⟨xs,rfl,q⟩:=p;obtain⟨A,e,r⟩:=o;cases e;rw[fL.inj (k:=j) b.2 a.2 q r]
theorem mapM_some {α β:Type}{f:α->Option β}: ∀(l:List α),(∀a∈l,∃b,f a=some b)-> ∃bs,l.mapM f=some bs
 | [],_=>⟨[],rfl⟩
 |a::l,h=>by
  obtain⟨b,e⟩:=h a (by simp);obtain⟨bs,d⟩:=mapM_some l (λc g=>h c (by simp [g]));exact⟨b::bs,by rw[List.mapM_cons,e,d];rfl⟩
theorem Aw {G:pW}(b:Al P kt=some G)(g:isKey G k=true)(K:VR m k x):WideMaps.KeyLaw P kt/\ ∃l,keyOf P kt x=some l:=by
 unfold Al at b;split at b
 ·rename_i f
  cases b;cases k<;>simp only[isKey,Bool.false_eq_true] at g;rename_i l;simp only[pQ,decide_eq_true_eq] at g;refine⟨WideMaps.string_law f,.string (l.map UInt8.ofNat).toArray.toList,?_⟩;rw[show x= .string ⟨(l.map UInt8.ofNat).toArray⟩ from K];refine WideMaps.keyOf_string_mk (s:=⟨(l.map UInt8.ofNat).toArray⟩) f ?_;show (l.map UInt8.ofNat).toArray.size<=maxLen;have:maxLen=2^63- 1:=rfl;have:=g.1;simp;omega
 ·rename_i n e f
  split at b
  ·rename_i q J
   split at b
   ·rename_i u
    cases b;cases k<;>simp only[isKey,Bool.false_eq_true] at g;rename_i W;simp only[pQ,decide_eq_true_eq] at g
    have A:WideMaps.ArrKey P kt e n:=⟨f,by simp [Program.plainKey,J],u.1,u.2.1⟩
    have o: ∃m,P.types.size=m+1:=⟨P.types.size- 1,om⟩
    have r:=A.keyType o;obtain⟨U,z⟩:=o;obtain⟨xs,rfl,B⟩:=K;have c:xs.size=n:=by have:=fL.length B;simp at this;omega
    have d:=fL.ints (k:=q) B g.2
    have Q: ∃F,(List.range n).mapM (λi=>P.keyLits (U+1) e ((xs.toList.drop (i*P.cellsOf e)).take (P.cellsOf e)))=some F:=by
     refine mapM_some _ (λi hi=>?_);have O:i<n:=by simpa using hi
     rw[u.1,jY];have j:i<xs.toList.length:=by simp;omega
     have R:(xs.toList.drop i).take 1= [xs.toList[i]]:=by rw[Tb j];rfl
     rw[R];obtain⟨a,L,N⟩:=d _ (wT j);rw[L];exact⟨[.int q a],by simp [Program.keyLits,J,N]⟩
    obtain⟨F,p⟩:=Q;refine⟨A.law,?_⟩;unfold keyOf;simp only[f];rw[aV (by simp [r,Value.formed,f,A.size,c]),z];unfold Program.keyLits;simp only[f,Value.cells];rw[aV (by rw[A.size];simpa using c),p];exact⟨_,rfl⟩
   ·cases b
  ·cases b
 ·cases b
theorem tX {k:V}: ∀{es:List (V×V)} {q:Nat×V},eZ k es=some q-> ∃k',es[q.1]? =some (k',q.2)/\dJ k k'=true
 | [],q,h=>by simp [eZ] at h
 |e::es,q,h=>by
  simp only[eZ] at h;split at h
  ·rename_i c
   cases h;exact⟨e.1,rfl,c⟩
  ·simp only[jB] at h
   obtain⟨r,b,rfl⟩:=h;obtain⟨k',a,d⟩:=tX b;exact⟨k',by simpa using a,d⟩
theorem uA {k:V}: ∀{es:List (V×V)},eZ k es=none-> ∀e∈es,dJ k e.1=false
 | [],_,e,a=>by simp at a
 |e::es,h,e',a=>by
  simp only[eZ] at h;split at h
  ·cases h
  ·rename_i b
   simp only[Option.map_eq_none_iff] at h;rcases Dk.1 a with rfl|a
   ·simpa using b
   ·exact uA h e' a
structure WR (m:M)(sh:pW)(es:List (V×V))(es':List MapEntry):Prop where
 len:es.length=es'.length
 one: ∀(i j:Nat) (a b:V×V),es[i]? =some a->es[j]? =some b->dJ a.1 b.1=true->i=j
 ent: ∀(i:Nat) (k v:V),es[i]? =some (k,v)->isKey sh k=true/\ ∃e:MapEntry,es'[i]? =some e/\e.born=i/\VR m k e.key/\VR m v e.val
theorem WR.keys {c:pW}(W:WR m c es es')(d:Al P kt=some c): ∀e∈es',∃l,keyOf P kt e.key=some l:=by
 intro e a;obtain⟨i,hi⟩:=List.mem_iff_getElem?.1 a;have a:i<es.length:=by rw[W.len];exact (xQ.1 hi).1
 obtain⟨f,j,b,_,g,_⟩:=W.ent i _ _ (eX a);rw[hi] at b;cases b;exact (Aw d f g).2
theorem rS {A:pW}(W:WR m A es es')(J:Al P kt=some A)(z:isKey A k=true)(F:VR m k x):
  (∃i v e,eZ k es=some (i,v)/\es[i]? =some (k,v)/\es'[i]? =some e/\e.born=i/\e.key=x/\VR m v e.val/\(Instr.findKey kt x es').run P w= .ok (some (i,e.val)) w)∨
  (eZ k es=none/\(∀e∈es,dJ k e.1=false)/\(Instr.findKey kt x es').run P w= .ok none w):=by
 obtain⟨K,l,Q⟩:=Aw J z F
 have g: ∀(i:Nat) (d v:V),es[i]? =some (d,v)->dJ k d=true-> ∃e,es'[i]? =some e/\e.key=x:=by
  intro i d v hi G;obtain⟨n,e,a,_,b,_⟩:=W.ent i d v hi;have:=xL _ _ G;subst this;exact⟨e,a,AK z b F⟩
 have r: ∀(j:Nat) (e:MapEntry),es'[j]? =some e->e.key=x-> ∃v,es[j]? =some (k,v):=by
  intro j e l G;have s:j<es.length:=by rw[W.len];exact (xQ.1 l).1
  obtain⟨n,O,a,_,b,_⟩:=W.ent j _ _ (eX s);rw[l] at a;cases a;rw[G] at b;have:=key_inj z n F b;exact⟨es[j].2,by rw[eX s,this];rfl⟩
 rcases K.find w Q es' (W.keys J) with ⟨a,f⟩|⟨j,e,a,f,b⟩
 ·refine .inr ?_
  cases hf:eZ k es with
  |none=>exact⟨rfl,uA hf,a⟩
  |some q=>
   exfalso;obtain⟨d,c,u⟩:=tX hf;obtain⟨e,n,l⟩:=g _ _ _ c u;exact f e (Rm n) l
 ·refine .inl ?_
  obtain⟨v,o⟩:=r j e f b
  cases hf:eZ k es with
  |none=>exact absurd (Ns z) (by rw[uA hf _ (Rm o)];simp)
  |some q=>
   obtain⟨d,c,u⟩:=tX hf;have B:=xL _ _ u;subst B;have p:q.1=j:=W.one _ _ _ _ c o u;obtain⟨i,d⟩:=q;simp only at p c;subst p;rw[o] at c;cases c;obtain⟨_,O,L,R,c,N⟩:=W.ent i k v o;rw[f] at L;cases L;exact⟨i,v,e,rfl,o,f,R,b,N,a⟩
theorem WR.push {d:pW}(W:WR m d es es')(p:isKey d k=true)(A:VR m k x)(z:VR m v y)(o: ∀e∈es,dJ k e.1=false):
  WR m d (es++ [(k,v)]) (es'++ [{key:=x,val:=y,born:=es'.length}]):=by
 refine⟨by simp [W.len],λi j a b q r c=>?_,λi s u hi=>?_⟩
 ·have l: ∀(i:Nat) (a:V×V),(es++ [(k,v)])[i]? =some a->(i<es.length/\es[i]? =some a)∨(i=es.length/\a=(k,v)):=by
   intro i a h
   by_cases hi:i<es.length
   ·exact .inl ⟨hi,by rwa [vY hi] at h⟩
   ·rw[Dw om] at h
    by_cases f:i-es.length=0
    ·rw[f] at h;simp at h;exact .inr ⟨om,h.symm⟩
    ·rw[List.getElem?_eq_none (by simp;omega)] at h;cases h
  rcases l i a q with ⟨q,g⟩|⟨q,rfl⟩<;>rcases l j b r with ⟨l,n⟩|⟨l,rfl⟩
  ·exact W.one i j a b g n c
  ·have:=o a (Rm g)
   have a:=xL _ _ c;simp only at a;rw[a,Ns p] at this;cases this
  ·have:=o b (Rm n)
   simp only at c;rw[c] at this;cases this
  ·omega
 ·by_cases a:i<es.length
  ·rw[vY a] at hi
   obtain⟨c,e,b,g⟩:=W.ent i s u hi
   exact⟨c,e,by rw[vY (by rw[←W.len];exact a)];exact b,g⟩
  ·rw[Dw om] at hi
   by_cases f:i-es.length=0
   ·rw[f] at hi;simp at hi
    obtain⟨rfl,rfl⟩:=hi
    have:i=es'.length:=by rw[←W.len];omega
    subst this
    exact⟨p,{key:=x,val:=y,born:=es'.length},by simp,rfl,A,z⟩
   ·rw[List.getElem?_eq_none (by simp;omega)] at hi;cases hi
theorem WR.Vw {F:pW}(W:WR m F es es'){n:V}{e:MapEntry}(hi:es[i]? =some (k,v))(N:es'[i]? =some e)(Q:VR m n y):
  WR m F (es.set i (k,n)) (es'.set i {e with val:=y}):=by
 have f:i<es.length:=(xQ.1 hi).1
 have c:i<es'.length:=by rw[←W.len];exact f
 have s: ∀(j:Nat) (a:V×V),(es.set i (k,n))[j]? =some a-> ∃b,es[j]? =some b/\b.1=a.1/\((j=i/\a=(k,n))∨(j≠i/\b=a)):=by
  intro j a h
  by_cases d:j=i
  ·subst d
   rw[List.getElem?_set_self f] at h;cases h;exact⟨_,hi,rfl,.inl ⟨rfl,rfl⟩⟩
  ·rw[List.getElem?_set_ne (λe=>d e.symm)] at h
   exact⟨a,h,rfl,.inr ⟨d,rfl⟩⟩
 refine⟨by simp [W.len],λp q a b O J f=>?_,λj R K d=>?_⟩
 ·obtain⟨G,o,A,_⟩:=s p a O
  obtain⟨O,g,a,_⟩:=s q b J
  exact W.one p q G O o g (by rw[A,a];exact f)
 ·obtain⟨b,o,A,g⟩:=s j _ d
  rcases g with ⟨rfl,g⟩|⟨z,rfl⟩
  ·cases g
   obtain⟨r,B,l,u,L,_⟩:=W.ent j k v hi
   rw[N] at l;cases l
   exact⟨r,_,List.getElem?_set_self c,u,L,Q⟩
  ·obtain⟨r,B,l,u⟩:=W.ent j R K o
   exact⟨r,B,by rw[List.getElem?_set_ne (λe=>z e.symm)];exact l,u⟩
theorem qL {α:Type}(f:α->α): ∀(l:List α) (i:Nat) (a:α),l[i]? =some a->l.modify i f=l.set i (f a)
 | [],_,_,h=>by simp at h
 |b::l,0,a,h=>by simp at h;subst h;rfl
 |b::l,i+1,a,h=>by simp at h;simp [List.modify_succ_cons,qL f l i a h]
theorem iI {α:Type}: ∀(l:List α) (i:Nat) (a:α),l[i]? =some a->l.set i a=l
 | [],_,_,h=>by simp at h
 |b::l,0,a,h=>by simp at h;subst h;rfl
 |b::l,i+1,a,h=>by simp at h;simp [iI l i a h]
theorem pJ (n:HR P m h w){e:pW}{p:Nat×Nat×Nat}(g:m id=some p)(l:h.get id=some (.wmap e es)):
  ∃es':Array MapEntry,w.heap[p.1]? =some (.map es' es'.size)/\WR m e es es'.toList:=by
 obtain⟨d,b,o,es',d,f,a,j,c⟩:=n.live id _ l
 rw[g] at b;cases b
 subst j
 exact⟨es',f,by simpa using a,o,λi k v hi=>by simpa using c i k v hi⟩
theorem Pq (n:HR P m h w)(u:fK m h.next){B:pW}{F:V}(s:P.underlying t=some (.map kt et))(L:Al P kt=some B)(r:jE P et=some F)
      (O:VR m (.mp id) x) (J:VR m k y) (N:h.get id=some (.wmap B es)) (d:isKey B k=true) (q:Bool):
  aU P m h w (Instr.lookup t x y q) (match eZ k es with|some e=>(if q then .tup [e.2,.bool true] else e.2)|none=>(if q then .tup [F,.bool false] else F)) h:=by
 obtain⟨p,l,rfl⟩:=O
 obtain⟨es',j,W⟩:=pJ n l N
 obtain⟨K,l,l⟩:=Aw L d J
 have b:(getObj p.1).run P w= .ok (.map es' es'.size) w:=by simp [getObj,Sem.run,j]
 have c:=K.check w es'.isEmpty l
 have f: ∃i z,P.info? et=some i/\i.zero=some z:=by
  unfold jE at r
  cases hi:P.info? et with
  |none=>simp [hi] at r
  |some i=>
   cases hzz:i.zero with
   |none=>simp [hi,hzz] at r
   |some z=>exact⟨i,z,rfl,hzz⟩
 obtain⟨i,z,hi,g⟩:=f
 obtain⟨_,_,o⟩:=iM m r hi g
 rcases rS (w:=w) W L d J with ⟨j,v,e,A,_,_,_,_,G,a⟩|⟨A,_,a⟩
 ·rw[A]
  cases q with
  |true=>
   refine aU.still n u (x:= .tuple #[e.val,.bool true]) ?_ ⟨_,rfl,G,rfl,trivial⟩;simp [Instr.lookup,run_underlying s,b,c,a]
  |false=>
   refine aU.still n u (x:=e.val) ?_ G;simp [Instr.lookup,run_underlying s,b,c,a]
 ·rw[A]
  cases q with
  |true=>
   refine aU.still n u (x:= .tuple #[z,.bool false]) ?_ ⟨_,rfl,o,rfl,trivial⟩;simp [Instr.lookup,run_underlying s,b,c,a,zeroValue,typeInfo,hi,g]
  |false=>
   refine aU.still n u (x:=z) ?_ o;simp [Instr.lookup,run_underlying s,b,c,a,zeroValue,typeInfo,hi,g]
theorem Xh (g:HR P m h w)(j:fK m h.next){d:pW}{a:List (V×V)}{p:Nat×Nat×Nat}(e:m id=some p)(f:h.get id=some (.wmap d es))
  {es':Array MapEntry} (W:WR m d a es'.toList):(setObj p.1 (.map es' es'.size)).run P w= .ok () (w.putObj p.1 (.map es' es'.size))/\
   fU P m h w m (h.set id (some (.wmap d a))) (w.putObj p.1 (.map es' es'.size)):=by
 obtain⟨l,c,_⟩:=pJ g e f
 have b:p.1<w.heap.size:=(Gu.1 c).1
 refine⟨by simp [setObj,Sem.run,c,World.putObj],?_⟩
 exact fU.put g j f rfl rfl e ⟨W.one,es',es'.size,World.putObj_heap_same b,by simpa using W.len,rfl,λi k v hi=>by simpa using W.ent i k v hi⟩ rfl rfl rfl (by simp) (λb c=>World.putObj_heap_other c)
theorem Qd (n:HR P m h w)(B:fK m h.next){f:pW}(G:P.underlying t=some (.map kt et))(J:Al P kt=some f)
     {z:Value} (N:VR m (.mp id) x) (A:VR m k y) (F:VR m v z) (r:h.get id=some (.wmap f es)) (b:isKey f k=true):
  ∃w',(Instr.mapUpdate t x y z).run P w= .ok () w'/\fU P m h w m (h.set id (some (.wmap f (match eZ k es with|some e=>es.set e.1 (k,v)|none=>es++ [(k,v)])))) w':=by
 obtain⟨p,o,rfl⟩:=N
 obtain⟨es',a,W⟩:=pJ n o r
 obtain⟨K,l,d⟩:=Aw J b A
 have c:(getObj p.1).run P w= .ok (.map es' es'.size) w:=by simp [getObj,Sem.run,a]
 have l:=K.check w false d
 rcases rS (w:=w) W J b A with ⟨i,u,e,q,j,g,a,u,_,a⟩|⟨q,L,a⟩
 ·rw[q]
  have p:es'[i]? =some e:=by simpa using g
  have gY:=K.stays w d
  have d:(es'.modify i λe=>{e with key:=y,val:=z}).toList=es'.toList.set i {e with val:=z}:=by
   rw[Array.toList_modify,qL _ _ _ _ g,←u]
  have s:WR m f (es.set i (k,v)) (es'.modify i λe=>{e with key:=y,val:=z}).toList:=by
   rw[d];exact W.Vw j g F
  obtain⟨g,j⟩:=Xh n B o r s
  simp only[Array.size_modify] at g j
  refine⟨_,?_,j⟩
  have d:(Option.map MapEntry.key es'[i]?).getD y=y:=by rw[p];exact u
  simp only[Instr.mapUpdate,Sem.run_bind,run_underlying G,Result.andThen_ok,c,l,a,Sem.run_pure,d,gY,g]
 ·rw[q]
  have s:WR m f (es++ [(k,v)]) (es'.push {key:=y,val:=z,born:=es'.size}).toList:=by
   rw[Array.toList_push];have:=W.push b A F L;simpa using this
  obtain⟨g,j⟩:=Xh n B o r s
  simp only[Array.size_push] at g j
  refine⟨_,?_,j⟩
  simp only[Instr.mapUpdate,Sem.run_bind,run_underlying G,Result.andThen_ok,c,l,a,Sem.run_pure,g]
theorem Sk (B:HR P m h w)(O:fK m h.next){n:pW}{F:V}(ht:P.underlying t=some (.map kt et))(hk:Al P kt=some n)(G:jE P et=some F)
      (hx:VR m (.mp id) x) (U:VR m k y) (R:h.get id=some (.wmap n es)) (b:isKey n k=true):
  aU P m h w (Instr.mapEntry t x y) (match eZ k es with|some e=> .tup [e.2,.int .i64 (e.1:Nat)]|none=> .tup [F,.int .i64 es.length])
   (match eZ k es with|some _=>h|none=>h.set id (some (.wmap n (es++ [(k,F)])))):=by
 obtain⟨p,N,rfl⟩:=hx
 obtain⟨es',J,W⟩:=pJ B N R
 obtain⟨K,l,Y⟩:=Aw hk b U
 have l:p.1<w.heap.size:=(Gu.1 J).1
 have c:(getObj p.1).run P w= .ok (.map es' es'.size) w:=by simp [getObj,Sem.run,J]
 have q:=K.check w false Y
 have f: ∃i z,P.info? et=some i/\i.zero=some z:=by
  unfold jE at G
  cases hi:P.info? et with
  |none=>simp [hi] at G
  |some i=>
   cases hzz:i.zero with
   |none=>simp [hi,hzz] at G
   |some z=>exact⟨i,z,rfl,hzz⟩
 obtain⟨i,z,hi,r⟩:=f
 obtain⟨_,_,o⟩:=iM m G hi r
 rcases rS (w:=w) W hk b U with ⟨i,u,e,Q,h2,f,Z,l,h6,a⟩|⟨Q,hn,a⟩
 ·rw[Q]
  have g:es'[i]? =some e:=by simpa using f
  have gY:=K.stays w Y
  have s:(es'.modify i λe=>{e with key:=y})=es':=by
   apply Array.toList_inj.1;rw[Array.toList_modify,qL _ _ _ _ f,←l];exact iI _ _ _ f
  have d:(Option.map MapEntry.key es'[i]?).getD y=y:=by rw[g];exact l
  have f:(Option.map MapEntry.born es'[i]?).getD 0=i:=by rw[g];exact Z
  have f:WR m n (es.set i (k,u)) es'.toList:=by rw[iI _ _ _ h2];exact W
  obtain⟨A,L⟩:=Xh B O N R f
  have j:w.putObj p.1 (.map es' es'.size)=w:=by
   have:w.heap.setIfInBounds p.1 (.map es' es'.size)=w.heap:=by
    apply Array.ext';simp only[Array.toList_setIfInBounds];exact iI _ _ _ (by simpa using J)
   unfold World.putObj;rw[this]
  refine aU.still B O (x:= .tuple #[e.val,goInt (i:Nat)]) ?_ ⟨_,rfl,h6,rfl,trivial⟩
  simp only[Instr.mapEntry,Sem.run_bind,run_underlying ht,Result.andThen_ok,c,q,a,Sem.run_pure,d,gY,s,A,j]
  simp [g,Z]
 ·rw[Q]
  have d:WR m n (es++ [(k,F)]) (es'.push {key:=y,val:=z,born:=es'.size}).toList:=by
   rw[Array.toList_push];have:=W.push b U o hn;simpa using this
  obtain⟨A,L⟩:=Xh B O N R d
  simp only[Array.size_push] at A L
  refine⟨.tuple #[z,goInt (es'.size:Nat)],_,m,?_,⟨_,rfl,o,?_,trivial⟩,L⟩
  ·simp [Instr.mapEntry,run_underlying ht,c,q,a,zeroValue,typeInfo,hi,r,A]
  ·have:es.length=es'.size:=by simpa using W.len
   rw[this];rfl
theorem Br: ∀(l:List MapEntry) (o i:Nat),(∀(j:Nat) (e:MapEntry),l[j]? =some e->e.born=o+j)->i<l.length->l.findIdx? (λe=>((e.born:Nat):Int)==((o+i:Nat):Int))=some i
 | [],_,_,_,h=>by simp at h
 |a::l,o,0,hb,_=>by
  have:=hb 0 a rfl;simp [List.findIdx?_cons,this]
 |a::l,o,i+1,hb,hl=>by
  have g:=hb 0 a rfl;have c:=Br l (o+1) i (λj e f=>by have:=hb (j+1) e (by simpa using f);omega) (by simpa using hl)
  have b:(((a.born:Nat):Int)==((o+(i+1):Nat):Int))=false:=by
   simp only[beq_eq_false_iff_ne,ne_eq,Int.natCast_inj];omega
  rw[List.findIdx?_cons,b];have d:o+1+i=o+(i+1):=om
  rw[d] at c;rw[c];rfl
theorem Sy (q:HR P m h w)(A:fK m h.next){f:pW}{u:V}{z:Value}(B:VR m (.mp id) x)(s:VR m v z)(o:h.get id=some (.wmap f es))(hi:es[i]? =some (k,u)):
  ∃w',(Instr.entryStore t x (.int .i64 (i:Nat)) z).run P w= .ok () w'/\fU P m h w m (h.set id (some (.wmap f (es.set i (k,v))))) w':=by
 obtain⟨p,r,rfl⟩:=B
 obtain⟨es',j,W⟩:=pJ q r o
 have a:(getObj p.1).run P w= .ok (.map es' es'.size) w:=by simp [getObj,Sem.run,j]
 have d:i<es.length:=(xQ.1 hi).1
 obtain⟨_,e,n,_⟩:=W.ent i k u hi
 have c:es'.findIdx? (λe=>((e.born:Nat):Int)==((i:Nat):Int))=some i:=by
  have:es'.findIdx? (λe=>((e.born:Nat):Int)==((i:Nat):Int))=es'.toList.findIdx? (λe=>((e.born:Nat):Int)==((i:Nat):Int)):=by
   cases es';simp
  rw[this]
  have:=Br es'.toList 0 i (λj e p=>by
   have l:j<es.length:=by rw[W.len];exact (xQ.1 p).1
   obtain⟨_,F,b,g,_⟩:=W.ent j _ _ (eX l)
   rw[p] at b;cases b;omega) (by rw[←W.len];exact d)
  simpa using this
 have d:(es'.modify i λe=>{e with val:=z}).toList=es'.toList.set i {e with val:=z}:=by
  rw[Array.toList_modify,qL _ _ _ _ n]
 have j:WR m f (es.set i (k,v)) (es'.modify i λe=>{e with val:=z}).toList:=by
  rw[d];exact W.Vw hi n s
 obtain⟨b,g⟩:=Xh q A r o j
 simp only[Array.size_modify] at b g
 refine⟨_,?_,g⟩
 simp [Instr.entryStore,a,asInt,asIntOf,c,b]
theorem Pa (a b:List Nat):((⟨(a.map UInt8.ofNat).toArray⟩:ByteArray).toList==(⟨(b.map UInt8.ofNat).toArray⟩:ByteArray).toList)=(a.map (· %256)==b.map (· %256)):=by
 rw[ByteArray.toList_eq,ByteArray.toList_eq];simp only
 have c: ∀(a b:List Nat),(a.map UInt8.ofNat=b.map UInt8.ofNat)↔a.map (· %256)=b.map (· %256):=by
  intro a
  induction a with
  |nil=>intro b;cases b<;>simp
  |cons x a ih=>
   intro b
   cases b with
   |nil=>simp
   |cons y b=>
    simp only[List.map_cons,List.cons.injEq,ih b];constructor
    ·rintro⟨h1,h2⟩
     have:=congrArg UInt8.toNat h1;exact⟨by simpa [UInt8.toNat_ofNat] using this,h2⟩
    ·rintro⟨h1,h2⟩
     exact⟨UInt8.toNat_inj.1 (by simpa [UInt8.toNat_ofNat] using h1),h2⟩
 rw[wW];simp only[beq_iff_eq];exact c a b
theorem Ew (l:HR P m h w)(g:fK m h.next){op:BinOp}(d:op= .eql∨op= .neq){x y:Operand}{a b:List Nat}{u v:Value}(n:VR m (.str a) u)(f:VR m (.str b) v){neg:Bool}(c:neg=(op matches .neq)):
  aU P m h w (do eqGuard op t x y u v;binOp op t u v) (.bool (if neg then !(a.map (· %256)==b.map (· %256)) else a.map (· %256)==b.map (· %256))) h:=by
 rw[show u= .string ⟨(a.map UInt8.ofNat).toArray⟩ from n,show v= .string ⟨(b.map UInt8.ofNat).toArray⟩ from f]
 refine aU.still l g (x:= .bool (if neg then !(a.map (· %256)==b.map (· %256)) else a.map (· %256)==b.map (· %256))) ?_ rfl
 have j:(eqGuard op t x y (.string ⟨(a.map UInt8.ofNat).toArray⟩) (.string ⟨(b.map UInt8.ofNat).toArray⟩)).run P w= .ok () w:=by
  unfold eqGuard;rcases d with rfl|rfl<;>simp
 have e:(binOp op t (.string ⟨(a.map UInt8.ofNat).toArray⟩) (.string ⟨(b.map UInt8.ofNat).toArray⟩)).run P w=(Op.stringOp op ⟨(a.map UInt8.ofNat).toArray⟩ ⟨(b.map UInt8.ofNat).toArray⟩).run P w:=by
  rcases d with rfl|rfl<;>rfl
 simp only[Sem.run_bind,j,Result.andThen_ok,e]
 subst c
 rcases d with rfl|rfl
 ·simp only[Op.stringOp,Pa,Sem.run_pure];rfl
 ·simp only[Op.stringOp,Pa,Sem.run_pure];rfl
theorem Si (o:HR P m h w)(j:fK m h.next){x y:Operand}{a b:List Nat}{u v:Value}(n:VR m (.str a) u)(g:VR m (.str b) v)(p:a.length+b.length<2^62):
  aU P m h w (do eqGuard .add t x y u v;binOp .add t u v) (.str (a++b)) h:=by
 rw[show u= .string ⟨(a.map UInt8.ofNat).toArray⟩ from n,show v= .string ⟨(b.map UInt8.ofNat).toArray⟩ from g]
 refine aU.still o j (x:= .string ⟨((a++b).map UInt8.ofNat).toArray⟩) ?_ rfl
 have l:(eqGuard .add t x y (.string ⟨(a.map UInt8.ofNat).toArray⟩) (.string ⟨(b.map UInt8.ofNat).toArray⟩)).run P w= .ok () w:=by
  unfold eqGuard;simp
 have f:(binOp .add t (.string ⟨(a.map UInt8.ofNat).toArray⟩) (.string ⟨(b.map UInt8.ofNat).toArray⟩)).run P w=(Op.stringOp .add ⟨(a.map UInt8.ofNat).toArray⟩ ⟨(b.map UInt8.ofNat).toArray⟩).run P w:=rfl
 simp only[Sem.run_bind,l,Result.andThen_ok,f]
 have e:(⟨(a.map UInt8.ofNat).toArray⟩:ByteArray).size=a.length:=by show (a.map UInt8.ofNat).toArray.size=_;simp
 have d:(⟨(b.map UInt8.ofNat).toArray⟩:ByteArray).size=b.length:=by show (b.map UInt8.ofNat).toArray.size=_;simp
 have c:IntKind.i64.max=9223372036854775807:=rfl
 unfold Op.stringOp
 simp only[e,d]
 rw[aZ (by rw[c];omega)]
 simp only[Sem.run_pure]
 congr 2
 apply ByteArray.ext
 rw[ByteArray.data_append]
 simp
theorem Sg (f:HR P m h w)(d:fK m h.next){a dst:TypeId}{j:IntKind}(b:P.underlying a=some (.int j))(e:P.underlying dst=some .string){k:IntKind}{n:Int}(g:VR m (.int k n) x)(o:0<=n)(l:n<128):
  aU P m h w (convert a dst x) (.str [n.toNat]) h:=by
 rw[show x= .int k n from g]
 refine aU.still f d (x:= .string ⟨#[UInt8.ofNat n.toNat]⟩) ?_ rfl
 have c:Utf8.valid n=true:=by unfold Utf8.valid;simp;omega
 simp only[convert,Sem.run_bind,run_underlying b,run_underlying e,Result.andThen_ok,Conv.intToString,Sem.run_pure,Utf8.encode,c,if_true]
 rw[aV om]
theorem zT (body:Value->ByteArray->Sem (ForInStep ByteArray))(b: ∀n s,body (.int .u8 n) s=pure (.yield (s.push (UInt8.ofNat n.toNat)))): ∀(cs:List Value) (vs:List V) (l:List Nat) (acc:ByteArray),
  fL m vs cs->mS vs=some l->(forIn cs acc body).run P w= .ok ⟨acc.data++(l.map UInt8.ofNat).toArray⟩ w
 | [], [],l,acc,_,hl=>by
  simp only[mS,Option.some.injEq] at hl;subst hl;simp
 |c::cs,v::vs,l,acc,hv,hl=>by
  cases v<;>try (simp only[mS,reduceCtorEq] at hl;done)
  rename_i k n;cases k<;>try (simp only[mS,reduceCtorEq] at hl;done)
  simp only[mS] at hl;split at hl
  ·simp only[jB] at hl
   obtain⟨d,a,rfl⟩:=hl;rw[show c= .int .u8 n from hv.1,List.forIn_cons,b];simp only[Sem.run_bind,Sem.run_pure,Result.andThen_ok];rw[zT body b cs vs d _ hv.2 a];congr 2;apply Array.toList_inj.1;simp [ByteArray.push]
  ·cases hl
 | [],_::_,_,_,h,_=>h.elim
 |_::_, [],_,_,h,_=>h.elim
theorem Pt (z:HR P m h w)(B:fK m h.next){g dst e:TypeId}(J:P.underlying g=some (.slice e))(N:P.underlying dst=some .string)(O:P.underlying e=some (.int .u8))
  {u:V}  (G:VR m v x) (f:Vn h v=some u):aU P m h w (convert g dst x) u h:=by
 have d: ∀a n c,(convert g dst (.slice a n c)).run P w=(Conv.bytesToString (.slice a n c)).run P w:=by
  intro a n c;simp [convert,run_underlying J,run_underlying N,run_underlying O]
 unfold Vn at f
 split at f
 ·cases f
  obtain rfl:x= .slice none 0 0:=G
  refine aU.still z B (x:= .string .empty) ?_ rfl
  rw[d]
  simp [Conv.bytesToString]
 ·rename_i id a0 len L
  obtain⟨p,c,o',U,rfl,_,Y,_⟩:=G
  split at f
  ·rename_i r o
   simp only[jB] at f
   obtain⟨l,Q,rfl⟩:=f
   have b: ∃xs:List Value,(loadCells ⟨p.1,p.2.1+o',none⟩ len).run P w= .ok xs.toArray w/\fL m r xs:=by
    obtain⟨p',c',F,fr,j,K,_,A,q,_⟩:=sF z o;rw[U] at j;cases j
    by_cases R:len=0
    ·subst R
     have hy:r= []:=by
      have:=q;simp only[List.take_zero] at this
      cases r with
      |nil=>rfl
      |cons _ _=>exact this.elim
     subst hy;exact⟨[],by simp only[loadCells,loadCellsFrom];rfl,trivial⟩
    ·obtain rfl:=Y om
     exact⟨_,iX K A,q⟩
   obtain⟨xs,b,W⟩:=b
   refine aU.still z B (x:= .string ⟨(l.map UInt8.ofNat).toArray⟩) ?_ rfl
   rw[d]
   simp only[Conv.bytesToString,Sem.run_bind,b,Result.andThen_ok]
   rw[←Array.forIn_toList]
   rw[zT (m:=m) _ (λn s=>rfl) xs r l _ W Q]
   simp only[Result.andThen_ok,Sem.run_pure]
   congr 2
   have Z:ByteArray.empty.data= #[]:=rfl
   rw[Z]
   simp only[Array.empty_append]
  ·cases f
 ·cases f
end
end
end Go.Ay
