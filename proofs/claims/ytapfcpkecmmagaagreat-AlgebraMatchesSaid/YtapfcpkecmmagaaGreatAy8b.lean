/- Maps whose keys are strings or rows of numbers; strings of bytes. -/
import Derived.Test.YtapfcpkecmmagaaGreatAy8
import Derived.WideKeyArr
import Derived.StringKeys
namespace Go.Ay
open Go
section
variable {k v:V} {i id:Nat} {x y:Value} {kt t et:TypeId} {es:List (V×V)} {es':List MapEntry}
mutual
theorem wF: ∀(a b:V),dJ a b=true->a=b
 | .int ..,b,h=>by cases b<;>simp [dJ] at h;simp [h]
 | .bool _,b,h=>by cases b<;>simp [dJ] at h;simp [h]
 | .ptr ..,b,h=>by cases b<;>simp [dJ] at h;simp [h]
 | .nilp,b,h=>by cases b<;>simp [dJ] at h;rfl
 | .sl ..,b,h=>by cases b<;>simp [dJ] at h;simp [h]
 | .aD,b,h=>by cases b<;>simp [dJ] at h;rfl
 | .emp _,b,h=>by cases b<;>simp [dJ] at h;rw[h]
 | .str _,b,h=>by cases b<;>simp [dJ] at h;rw[h]
 | .ifc t x,b,h=>by
  cases b<;>simp [dJ] at h;rw[h.1,wF x _ h.2]
 | .mp _,b,h=>by cases b<;>simp [dJ] at h;simp [h]
 | .nilm,b,h=>by cases b<;>simp [dJ] at h;rfl
 | .fn _ a1 a2,b,h=>by
  cases b<;>simp [dJ] at h;rw[h.1.1,vT a1 _ h.1.2,vT a2 _ h.2]
 | .yl _,b,h=>by cases b<;>simp [dJ] at h;simp [h]
 | .nilf,b,h=>by cases b<;>simp [dJ] at h;rfl
 | .agg a,b,h=>by
  cases b<;>simp [dJ] at h;rw[vT a _ h]
 | .tup a,b,h=>by
  cases b<;>simp [dJ] at h;rw[vT a _ h]
 | .unk,b,h=>by simp [dJ] at h
theorem vT: ∀(a b:List V),nJ a b=true->a=b
 | [], [],_=>rfl
 |x::a,y::b,h=>by
  simp only[nJ,pF] at h;rw[wF x y h.1,vT a b h.2]
 | [],_::_,h=>by simp [nJ] at h
 |_::_, [],h=>by simp [nJ] at h
end
def zW (k:IntKind):V->Bool:=fun| .int j a=>decide (j=k)&&(decide (k.min<=a)&&decide (a<=k.max))|_=>false
theorem nK {k:IntKind}(h:zW k v=true): ∃a,v= .int k a/\(Lit.int k a).wf=true:=by
 cases v<;>simp [zW] at h;rename_i j a;obtain⟨rfl,b,c⟩:=h;exact⟨a,rfl,by simp [Lit.wf,b,c]⟩
theorem Fg {k:IntKind}: ∀{l:List V},l.all (zW k)=true->nJ l l=true
 | [],_=>rfl
 |v::l,h=>by
  simp only[List.all_cons,pF] at h;obtain⟨a,rfl,_⟩:=nK h.1;simp only[nJ,dJ,beq_self_eq_true,Bool.true_and];exact Fg h.2
theorem Oi {a:qC}(h:isKey a k=true):dJ k k=true:=by
 cases a<;>cases k<;>simp only[isKey,Bool.false_eq_true] at h
 ·simp [dJ]
 ·rename_i n j b
  simp only[pF] at h;simp only[dJ];exact Fg (k:=j) h.2
theorem BM {l:List Nat}{c:Nat}(h:l[i]? =some c):(⟨(l.map UInt8.ofNat).toArray⟩:ByteArray)[i]? =some (UInt8.ofNat c):=by
 obtain⟨b,d⟩:=xI.1 h;have a:i<(⟨(l.map UInt8.ofNat).toArray⟩:ByteArray).size:=by show i<(l.map UInt8.ofNat).toArray.size;simpa using b
 rw[getElem?_pos _ i a];congr 1;show (l.map UInt8.ofNat).toArray[i]=_;simp [d]
section
variable {P:Program} {m:M} {h:H} {w:World}
theorem fP.ints {k:IntKind}: ∀{l:List V} {xs:List Value},fP m l xs->l.all (zW k)=true-> ∀x∈xs,∃a,x= .int k a/\(Lit.int k a).wf=true
 | [], [],_,_,x,b=>by simp at b
 |v::l,y::xs,h,ha,x,b=>by
  simp only[List.all_cons,pF] at ha;rcases Dw.1 b with rfl|b
  ·obtain⟨a,rfl,c⟩:=nK ha.1
   exact⟨a,h.1,c⟩
  ·exact fP.ints h.2 ha.2 x b
 | [],_::_,h,_,_,_=>h.elim
 |_::_, [],h,_,_,_=>h.elim
theorem fP.JC {k:IntKind}: ∀{l:List V} {xs ys:List Value},l.all (zW k)=true->fP m l xs->fP m l ys->xs=ys
 | [], [], [],_,_,_=>rfl
 |v::l,x::xs,y::ys,ha,h1,h2=>by
  simp only[List.all_cons,pF] at ha;obtain⟨a,rfl,_⟩:=nK ha.1;rw[show x= .int k a from h1.1,show y= .int k a from h2.1,fP.JC ha.2 h1.2 h2.2]
 | [],_::_,_,_,h,_=>h.elim
 | [], [],_::_,_,_,h=>h.elim
 |_::_, [],_,_,h,_=>h.elim
 |_::_,_::_, [],_,_,h=>h.elim
theorem fP.inj {k:IntKind}: ∀{l l':List V} {xs:List Value},l.all (zW k)=true->l'.all (zW k)=true->fP m l xs->fP m l' xs->l=l'
 | [], [], [],_,_,_,_=>rfl
 |v::l,v'::l',x::xs,ha,hb,h1,h2=>by
  simp only[List.all_cons,pF] at ha hb;obtain⟨a,rfl,_⟩:=nK ha.1;obtain⟨b,rfl,_⟩:=nK hb.1;have:(Value.int k a)= .int k b:=(show x= .int k a from h1.1).symm.trans h2.1;cases this;rw[fP.inj ha.2 hb.2 h1.2 h2.2]
 | [],_,_::_,_,_,h,_=>h.elim
 |_, [],_::_,_,_,_,h=>h.elim
 |_::_,_, [],_,_,h,_=>h.elim
 |_,_::_, [],_,_,_,h=>h.elim
theorem xO: ∀{l:List Nat},l.all (λn=>decide (n<256))=true->(l.map UInt8.ofNat).map UInt8.toNat=l
 | [],_=>rfl
 |n::l,h=>by
  simp only[List.all_cons,pF,decide_eq_true_eq] at h;simp only[List.map_cons,List.cons.injEq];exact⟨by simp [UInt8.toNat_ofNat];omega,xO h.2⟩
theorem AR {d:qC}(a:isKey d k=true)(c:VR m k x)(b:VR m k y):x=y:=by
 cases d<;>cases k<;>simp only[isKey,Bool.false_eq_true] at a
 ·rename_i l
  rw[show x= .string ⟨(l.map UInt8.ofNat).toArray⟩ from c,show y= .string ⟨(l.map UInt8.ofNat).toArray⟩ from b]
 ·rename_i n j o
  simp only[pF] at a;obtain⟨xs,rfl,e⟩:=c;obtain⟨f,rfl,g⟩:=b;have:xs=f:=Array.toList_inj.1 (fP.JC (k:=j) a.2 e g);rw[this]
theorem key_inj {d:qC}{c:V}(b:isKey d k=true)(a:isKey d c=true)(o:VR m k x)(f:VR m c x):k=c:=by
 cases d<;>cases k<;>simp only[isKey,Bool.false_eq_true] at b<;>cases c<;>simp only[isKey,Bool.false_eq_true] at a
 ·rename_i l p
  simp only[pF] at b a;have e:Value.string ⟨(l.map UInt8.ofNat).toArray⟩= .string ⟨(p.map UInt8.ofNat).toArray⟩:=(show x=_ from o).symm.trans f;simp only[Value.string.injEq,ByteArray.mk.injEq] at e;have r:l.map UInt8.ofNat=p.map UInt8.ofNat:=by simpa using e
  have g:=congrArg (List.map UInt8.toNat) r;rw[xO b.2,xO a.2] at g;rw[g]
 ·rename_i n j A q
  simp only[pF] at b a;obtain⟨xs,rfl,s⟩:=o;obtain⟨z,e,u⟩:=f;cases e;rw[fP.inj (k:=j) b.2 a.2 s u]
theorem mapM_some {α β:Type}{f:α->Option β}: ∀(l:List α),(∀a∈l,∃b,f a=some b)-> ∃bs,l.mapM f=some bs
 | [],_=>⟨[],rfl⟩
 |a::l,h=>by
  obtain⟨b,g⟩:=h a (by simp);obtain⟨bs,d⟩:=mapM_some l (λc e=>h c (by simp [e]));exact⟨b::bs,by rw[List.mapM_cons,g,d];rfl⟩
theorem Cm {G:qC}(b:Aa P kt=some G)(g:isKey G k=true)(F:VR m k x):WideMaps.KeyLaw P kt/\ ∃l,keyOf P kt x=some l:=by
 unfold Aa at b;split at b
 ·rename_i f
  cases b;cases k<;>simp only[isKey,Bool.false_eq_true] at g;rename_i l;simp only[pF,decide_eq_true_eq] at g;refine⟨WideMaps.string_law f,.string (l.map UInt8.ofNat).toArray.toList,?_⟩;rw[show x= .string ⟨(l.map UInt8.ofNat).toArray⟩ from F];refine WideMaps.keyOf_string_mk (s:=⟨(l.map UInt8.ofNat).toArray⟩) f ?_;show (l.map UInt8.ofNat).toArray.size<=maxLen;have:maxLen=2^63- 1:=rfl;have:=g.1;simp;omega
 ·rename_i n e f
  split at b
  ·rename_i q K
   split at b
   ·rename_i p
    cases b;cases k<;>simp only[isKey,Bool.false_eq_true] at g;rename_i W;simp only[pF,decide_eq_true_eq] at g
    have A:WideMaps.ArrKey P kt e n:=⟨f,by simp [Program.plainKey,K],p.1,p.2.1⟩
    have o: ∃m,P.types.size=m+1:=⟨P.types.size- 1,om⟩
    have r:=A.keyType o;obtain⟨R,u⟩:=o;obtain⟨xs,rfl,J⟩:=F;have c:xs.size=n:=by have:=fP.length J;simp at this;omega
    have d:=fP.ints (k:=q) J g.2
    have Q: ∃B,(List.range n).mapM (λi=>P.keyLits (R+1) e ((xs.toList.drop (i*P.cellsOf e)).take (P.cellsOf e)))=some B:=by
     refine mapM_some _ (λi hi=>?_);have L:i<n:=by simpa using hi
     rw[p.1,kF];have j:i<xs.toList.length:=by simp;omega
     have N:(xs.toList.drop i).take 1= [xs.toList[i]]:=by rw[Ts j];rfl
     rw[N];obtain⟨a,O,U⟩:=d _ (xR j);rw[O];exact⟨[.int q a],by simp [Program.keyLits,K,U]⟩
    obtain⟨B,z⟩:=Q;refine⟨A.law,?_⟩;unfold keyOf;simp only[f];rw[aV (by simp [r,Value.formed,f,A.size,c]),u];unfold Program.keyLits;simp only[f,Value.cells];rw[aV (by rw[A.size];simpa using c),z];exact⟨_,rfl⟩
   ·cases b
  ·cases b
 ·cases b
theorem uA {k:V}: ∀{es:List (V×V)} {q:Nat×V},fA k es=some q-> ∃k',es[q.1]? =some (k',q.2)/\dJ k k'=true
 | [],q,h=>by simp [fA] at h
 |e::es,q,h=>by
  simp only[fA] at h;split at h
  ·rename_i a
   cases h;exact⟨e.1,rfl,a⟩
  ·simp only[jA] at h
   obtain⟨r,c,rfl⟩:=h;obtain⟨k',b,d⟩:=uA c;exact⟨k',by simpa using b,d⟩
theorem uH {k:V}: ∀{es:List (V×V)},fA k es=none-> ∀e∈es,dJ k e.1=false
 | [],_,e,a=>by simp at a
 |e::es,h,e',a=>by
  simp only[fA] at h;split at h
  ·cases h
  ·rename_i b
   simp only[Option.map_eq_none_iff] at h;rcases Dw.1 a with rfl|a
   ·simpa using b
   ·exact uH h e' a
structure WR (m:M)(sh:qC)(es:List (V×V))(es':List MapEntry):Prop where
 len:es.length=es'.length
 one: ∀(i j:Nat) (a b:V×V),es[i]? =some a->es[j]? =some b->dJ a.1 b.1=true->i=j
 ent: ∀(i:Nat) (k v:V),es[i]? =some (k,v)->isKey sh k=true/\ ∃e:MapEntry,es'[i]? =some e/\e.born=i/\VR m k e.key/\VR m v e.val
theorem WR.keys {c:qC}(W:WR m c es es')(d:Aa P kt=some c): ∀e∈es',∃l,keyOf P kt e.key=some l:=by
 intro e a;obtain⟨i,hi⟩:=List.mem_iff_getElem?.1 a;have a:i<es.length:=by rw[W.len];exact (xI.1 hi).1
 obtain⟨g,j,b,_,f,_⟩:=W.ent i _ _ (eV a);rw[hi] at b;cases b;exact (Cm d g f).2
theorem sB {B:qC}(W:WR m B es es')(L:Aa P kt=some B)(z:isKey B k=true)(F:VR m k x):
  (∃i v e,fA k es=some (i,v)/\es[i]? =some (k,v)/\es'[i]? =some e/\e.born=i/\e.key=x/\VR m v e.val/\(Instr.findKey kt x es').run P w= .ok (some (i,e.val)) w)∨
  (fA k es=none/\(∀e∈es,dJ k e.1=false)/\(Instr.findKey kt x es').run P w= .ok none w):=by
 obtain⟨K,l,R⟩:=Cm L z F
 have o: ∀(i:Nat) (c v:V),es[i]? =some (c,v)->dJ k c=true-> ∃e,es'[i]? =some e/\e.key=x:=by
  intro i c v hi G;obtain⟨p,e,a,_,b,_⟩:=W.ent i c v hi;have:=wF _ _ G;subst this;exact⟨e,a,AR z b F⟩
 have f: ∀(j:Nat) (e:MapEntry),es'[j]? =some e->e.key=x-> ∃v,es[j]? =some (k,v):=by
  intro j e l G;have r:j<es.length:=by rw[W.len];exact (xI.1 l).1
  obtain⟨p,O,a,_,b,_⟩:=W.ent j _ _ (eV r);rw[l] at a;cases a;rw[G] at b;have:=key_inj z p F b;exact⟨es[j].2,by rw[eV r,this];rfl⟩
 rcases K.find w R es' (W.keys L) with ⟨a,s⟩|⟨j,e,a,s,b⟩
 ·refine .inr ?_
  cases hf:fA k es with
  |none=>exact⟨rfl,uH hf,a⟩
  |some q=>
   exfalso;obtain⟨c,d,u⟩:=uA hf;obtain⟨e,l,p⟩:=o _ _ _ d u;exact s e (Sg l) p
 ·refine .inl ?_
  obtain⟨v,n⟩:=f j e s b
  cases hf:fA k es with
  |none=>exact absurd (Oi z) (by rw[uH hf _ (Sg n)];simp)
  |some q=>
   obtain⟨c,d,u⟩:=uA hf;have A:=wF _ _ u;subst A;have g:q.1=j:=W.one _ _ _ _ d n u;obtain⟨i,c⟩:=q;simp only at g d;subst g;rw[n] at d;cases d;obtain⟨_,O,J,N,c,Q⟩:=W.ent i k v n;rw[s] at J;cases J;exact⟨i,v,e,rfl,n,s,N,b,Q,a⟩
theorem WR.push {f:qC}(W:WR m f es es')(g:isKey f k=true)(u:VR m k x)(q:VR m v y)(n: ∀e∈es,dJ k e.1=false):
  WR m f (es++ [(k,v)]) (es'++ [{key:=x,val:=y,born:=es'.length}]):=by
 refine⟨by simp [W.len],λi j a b z A c=>?_,λi r s hi=>?_⟩
 ·have l: ∀(i:Nat) (a:V×V),(es++ [(k,v)])[i]? =some a->(i<es.length/\es[i]? =some a)∨(i=es.length/\a=(k,v)):=by
   intro i a h
   by_cases hi:i<es.length
   ·exact .inl ⟨hi,by rwa [wE hi] at h⟩
   ·rw[Cq om] at h
    by_cases d:i-es.length=0
    ·rw[d] at h;simp at h;exact .inr ⟨om,h.symm⟩
    ·rw[List.getElem?_eq_none (by simp;omega)] at h;cases h
  rcases l i a z with ⟨z,p⟩|⟨z,rfl⟩<;>rcases l j b A with ⟨l,o⟩|⟨l,rfl⟩
  ·exact W.one i j a b p o c
  ·have:=n a (Sg p)
   have a:=wF _ _ c;simp only at a;rw[a,Oi g] at this;cases this
  ·have:=n b (Sg o)
   simp only at c;rw[c] at this;cases this
  ·omega
 ·by_cases a:i<es.length
  ·rw[wE a] at hi
   obtain⟨j,e,b,c⟩:=W.ent i r s hi
   exact⟨j,e,by rw[wE (by rw[←W.len];exact a)];exact b,c⟩
  ·rw[Cq om] at hi
   by_cases d:i-es.length=0
   ·rw[d] at hi;simp at hi
    obtain⟨rfl,rfl⟩:=hi
    have:i=es'.length:=by rw[←W.len];omega
    subst this
    exact⟨g,{key:=x,val:=y,born:=es'.length},by simp,rfl,u,q⟩
   ·rw[List.getElem?_eq_none (by simp;omega)] at hi;cases hi
theorem WR.Vx {F:qC}(W:WR m F es es'){n:V}{e:MapEntry}(hi:es[i]? =some (k,v))(R:es'[i]? =some e)(G:VR m n y):
  WR m F (es.set i (k,n)) (es'.set i {e with val:=y}):=by
 have f:i<es.length:=(xI.1 hi).1
 have c:i<es'.length:=by rw[←W.len];exact f
 have r: ∀(j:Nat) (a:V×V),(es.set i (k,n))[j]? =some a-> ∃b,es[j]? =some b/\b.1=a.1/\((j=i/\a=(k,n))∨(j≠i/\b=a)):=by
  intro j a h
  by_cases g:j=i
  ·subst g
   rw[List.getElem?_set_self f] at h;cases h;exact⟨_,hi,rfl,.inl ⟨rfl,rfl⟩⟩
  ·rw[List.getElem?_set_ne (λe=>g e.symm)] at h
   exact⟨a,h,rfl,.inr ⟨g,rfl⟩⟩
 refine⟨by simp [W.len],λp q a b K O f=>?_,λj Q N g=>?_⟩
 ·obtain⟨J,z,B,_⟩:=r p a K
  obtain⟨a,d,K,_⟩:=r q b O
  exact W.one p q J a z d (by rw[B,K];exact f)
 ·obtain⟨b,z,B,d⟩:=r j _ g
  rcases d with ⟨rfl,d⟩|⟨s,rfl⟩
  ·cases d
   obtain⟨u,A,l,o,L,_⟩:=W.ent j k v hi
   rw[R] at l;cases l
   exact⟨u,_,List.getElem?_set_self c,o,L,G⟩
  ·obtain⟨u,A,l,o⟩:=W.ent j Q N z
   exact⟨u,A,by rw[List.getElem?_set_ne (λe=>s e.symm)];exact l,o⟩
theorem qM {α:Type}(f:α->α): ∀(l:List α) (i:Nat) (a:α),l[i]? =some a->l.modify i f=l.set i (f a)
 | [],_,_,h=>by simp at h
 |b::l,0,a,h=>by simp at h;subst h;rfl
 |b::l,i+1,a,h=>by simp at h;simp [List.modify_succ_cons,qM f l i a h]
theorem iM {α:Type}: ∀(l:List α) (i:Nat) (a:α),l[i]? =some a->l.set i a=l
 | [],_,_,h=>by simp at h
 |b::l,0,a,h=>by simp at h;subst h;rfl
 |b::l,i+1,a,h=>by simp at h;simp [iM l i a h]
theorem pW (o:HR P m h w){e:qC}{p:Nat×Nat×Nat}(j:m id=some p)(g:h.get id=some (.wmap e es)):
  ∃es':Array MapEntry,w.heap[p.1]? =some (.map es' es'.size)/\WR m e es es'.toList:=by
 obtain⟨d,a,n,es',d,l,b,f,c⟩:=o.live id _ g
 rw[j] at a;cases a
 subst f
 exact⟨es',l,by simpa using b,n,λi k v hi=>by simpa using c i k v hi⟩
theorem Ry (q:HR P m h w)(s:fL m h.next){F:qC}{A:V}(r:P.underlying t=some (.map kt et))(J:Aa P kt=some F)(u:jB P et=some A)
      (N:VR m (.mp id) x) (G:VR m k y) (O:h.get id=some (.wmap F es)) (d:isKey F k=true) (n:Bool):
  aU P m h w (Instr.lookup t x y n) (match fA k es with|some e=>(if n then .tup [e.2,.bool true] else e.2)|none=>(if n then .tup [A,.bool false] else A)) h:=by
 obtain⟨p,j,rfl⟩:=N
 obtain⟨es',Q,W⟩:=pW q j O
 obtain⟨K,l,j⟩:=Cm J d G
 have b:(getObj p.1).run P w= .ok (.map es' es'.size) w:=by simp [getObj,Sem.run,Q]
 have c:=K.check w es'.isEmpty j
 have f: ∃i z,P.info? et=some i/\i.zero=some z:=by
  unfold jB at u
  cases hi:P.info? et with
  |none=>simp [hi] at u
  |some i=>
   cases hzz:i.zero with
   |none=>simp [hi,hzz] at u
   |some z=>exact⟨i,z,rfl,hzz⟩
 obtain⟨i,z,hi,g⟩:=f
 obtain⟨_,_,o⟩:=iS m u hi g
 rcases sB (w:=w) W J d G with ⟨j,v,e,B,_,_,_,_,L,a⟩|⟨B,_,a⟩
 ·rw[B]
  cases n with
  |true=>
   refine aU.still q s (x:= .tuple #[e.val,.bool true]) ?_ ⟨_,rfl,L,rfl,trivial⟩;simp [Instr.lookup,run_underlying r,b,c,a]
  |false=>
   refine aU.still q s (x:=e.val) ?_ L;simp [Instr.lookup,run_underlying r,b,c,a]
 ·rw[B]
  cases n with
  |true=>
   refine aU.still q s (x:= .tuple #[z,.bool false]) ?_ ⟨_,rfl,o,rfl,trivial⟩;simp [Instr.lookup,run_underlying r,b,c,a,zeroValue,typeInfo,hi,g]
  |false=>
   refine aU.still q s (x:=z) ?_ o;simp [Instr.lookup,run_underlying r,b,c,a,zeroValue,typeInfo,hi,g]
theorem Uk (g:HR P m h w)(l:fL m h.next){d:qC}{a:List (V×V)}{p:Nat×Nat×Nat}(f:m id=some p)(e:h.get id=some (.wmap d es))
  {es':Array MapEntry} (W:WR m d a es'.toList):(setObj p.1 (.map es' es'.size)).run P w= .ok () (w.putObj p.1 (.map es' es'.size))/\
   fY P m h w m (h.set id (some (.wmap d a))) (w.putObj p.1 (.map es' es'.size)):=by
 obtain⟨j,c,_⟩:=pW g f e
 have b:p.1<w.heap.size:=(Er.1 c).1
 refine⟨by simp [setObj,Sem.run,c,World.putObj],?_⟩
 exact fY.put g l e rfl rfl f ⟨W.one,es',es'.size,World.putObj_heap_same b,by simpa using W.len,rfl,λi k v hi=>by simpa using W.ent i k v hi⟩ rfl rfl rfl (by simp) (λb c=>World.putObj_heap_other c)
theorem Th (s:HR P m h w)(F:fL m h.next){f:qC}(B:P.underlying t=some (.map kt et))(G:Aa P kt=some f)
     {z:Value} (L:VR m (.mp id) x) (n:VR m k y) (J:VR m v z) (r:h.get id=some (.wmap f es)) (b:isKey f k=true):
  ∃w',(Instr.mapUpdate t x y z).run P w= .ok () w'/\fY P m h w m (h.set id (some (.wmap f (match fA k es with|some e=>es.set e.1 (k,v)|none=>es++ [(k,v)])))) w':=by
 obtain⟨p,q,rfl⟩:=L
 obtain⟨es',a,W⟩:=pW s q r
 obtain⟨K,l,d⟩:=Cm G b n
 have c:(getObj p.1).run P w= .ok (.map es' es'.size) w:=by simp [getObj,Sem.run,a]
 have j:=K.check w false d
 rcases sB (w:=w) W G b n with ⟨i,u,e,u,l,g,a,A,_,a⟩|⟨u,N,a⟩
 ·rw[u]
  have p:es'[i]? =some e:=by simpa using g
  have iA:=K.stays w d
  have d:(es'.modify i λe=>{e with key:=y,val:=z}).toList=es'.toList.set i {e with val:=z}:=by
   rw[Array.toList_modify,qM _ _ _ _ g,←A]
  have o:WR m f (es.set i (k,v)) (es'.modify i λe=>{e with key:=y,val:=z}).toList:=by
   rw[d];exact W.Vx l g J
  obtain⟨l,g⟩:=Uk s F q r o
  simp only[Array.size_modify] at l g
  refine⟨_,?_,g⟩
  have d:(Option.map MapEntry.key es'[i]?).getD y=y:=by rw[p];exact A
  simp only[Instr.mapUpdate,Sem.run_bind,run_underlying B,Result.andThen_ok,c,j,a,Sem.run_pure,d,iA,l]
 ·rw[u]
  have o:WR m f (es++ [(k,v)]) (es'.push {key:=y,val:=z,born:=es'.size}).toList:=by
   rw[Array.toList_push];have:=W.push b n J N;simpa using this
  obtain⟨l,g⟩:=Uk s F q r o
  simp only[Array.size_push] at l g
  refine⟨_,?_,g⟩
  simp only[Instr.mapUpdate,Sem.run_bind,run_underlying B,Result.andThen_ok,c,j,a,Sem.run_pure,l]
theorem Ra (F:HR P m h w)(L:fL m h.next){n:qC}{G:V}(Y:P.underlying t=some (.map kt et))(Z:Aa P kt=some n)(B:jB P et=some G)
      (hx:VR m (.mp id) x) (J:VR m k y) (Q:h.get id=some (.wmap n es)) (b:isKey n k=true):
  aU P m h w (Instr.mapEntry t x y) (match fA k es with|some e=> .tup [e.2,.int .i64 (e.1:Nat)]|none=> .tup [G,.int .i64 es.length])
   (match fA k es with|some _=>h|none=>h.set id (some (.wmap n (es++ [(k,G)])))):=by
 obtain⟨p,O,rfl⟩:=hx
 obtain⟨es',U,W⟩:=pW F O Q
 obtain⟨K,l,hl⟩:=Cm Z b J
 have l:p.1<w.heap.size:=(Er.1 U).1
 have c:(getObj p.1).run P w= .ok (.map es' es'.size) w:=by simp [getObj,Sem.run,U]
 have q:=K.check w false hl
 have f: ∃i z,P.info? et=some i/\i.zero=some z:=by
  unfold jB at B
  cases hi:P.info? et with
  |none=>simp [hi] at B
  |some i=>
   cases hzz:i.zero with
   |none=>simp [hi,hzz] at B
   |some z=>exact⟨i,z,rfl,hzz⟩
 obtain⟨i,z,hi,r⟩:=f
 obtain⟨_,_,o⟩:=iS m B hi r
 rcases sB (w:=w) W Z b J with ⟨i,u,e,R,h2,f,h4,l,h6,a⟩|⟨R,hn,a⟩
 ·rw[R]
  have d:es'[i]? =some e:=by simpa using f
  have iA:=K.stays w hl
  have s:(es'.modify i λe=>{e with key:=y})=es':=by
   apply Array.toList_inj.1;rw[Array.toList_modify,qM _ _ _ _ f,←l];exact iM _ _ _ f
  have g:(Option.map MapEntry.key es'[i]?).getD y=y:=by rw[d];exact l
  have f:(Option.map MapEntry.born es'[i]?).getD 0=i:=by rw[d];exact h4
  have f:WR m n (es.set i (k,u)) es'.toList:=by rw[iM _ _ _ h2];exact W
  obtain⟨A,N⟩:=Uk F L O Q f
  have j:w.putObj p.1 (.map es' es'.size)=w:=by
   have:w.heap.setIfInBounds p.1 (.map es' es'.size)=w.heap:=by
    apply Array.ext';simp only[Array.toList_setIfInBounds];exact iM _ _ _ (by simpa using U)
   unfold World.putObj;rw[this]
  refine aU.still F L (x:= .tuple #[e.val,goInt (i:Nat)]) ?_ ⟨_,rfl,h6,rfl,trivial⟩
  simp only[Instr.mapEntry,Sem.run_bind,run_underlying Y,Result.andThen_ok,c,q,a,Sem.run_pure,g,iA,s,A,j]
  simp [d,h4]
 ·rw[R]
  have d:WR m n (es++ [(k,G)]) (es'.push {key:=y,val:=z,born:=es'.size}).toList:=by
   rw[Array.toList_push];have:=W.push b J o hn;simpa using this
  obtain⟨A,N⟩:=Uk F L O Q d
  simp only[Array.size_push] at A N
  refine⟨.tuple #[z,goInt (es'.size:Nat)],_,m,?_,⟨_,rfl,o,?_,trivial⟩,N⟩
  ·simp [Instr.mapEntry,run_underlying Y,c,q,a,zeroValue,typeInfo,hi,r,A]
  ·have:es.length=es'.size:=by simpa using W.len
   rw[this];rfl
theorem Bi: ∀(l:List MapEntry) (o i:Nat),(∀(j:Nat) (e:MapEntry),l[j]? =some e->e.born=o+j)->i<l.length->l.findIdx? (λe=>((e.born:Nat):Int)==((o+i:Nat):Int))=some i
 | [],_,_,_,h=>by simp at h
 |a::l,o,0,hb,_=>by
  have:=hb 0 a rfl;simp [List.findIdx?_cons,this]
 |a::l,o,i+1,hb,hl=>by
  have g:=hb 0 a rfl;have c:=Bi l (o+1) i (λj e f=>by have:=hb (j+1) e (by simpa using f);omega) (by simpa using hl)
  have b:(((a.born:Nat):Int)==((o+(i+1):Nat):Int))=false:=by
   simp only[beq_eq_false_iff_ne,ne_eq,Int.natCast_inj];omega
  rw[List.findIdx?_cons,b];have d:o+1+i=o+(i+1):=om
  rw[d] at c;rw[c];rfl
theorem Ri (q:HR P m h w)(A:fL m h.next){l:qC}{u:V}{z:Value}(F:VR m (.mp id) x)(B:VR m v z)(s:h.get id=some (.wmap l es))(hi:es[i]? =some (k,u)):
  ∃w',(Instr.entryStore t x (.int .i64 (i:Nat)) z).run P w= .ok () w'/\fY P m h w m (h.set id (some (.wmap l (es.set i (k,v))))) w':=by
 obtain⟨p,r,rfl⟩:=F
 obtain⟨es',a,W⟩:=pW q r s
 have b:(getObj p.1).run P w= .ok (.map es' es'.size) w:=by simp [getObj,Sem.run,a]
 have g:i<es.length:=(xI.1 hi).1
 obtain⟨_,e,n,_⟩:=W.ent i k u hi
 have d:es'.findIdx? (λe=>((e.born:Nat):Int)==((i:Nat):Int))=some i:=by
  have:es'.findIdx? (λe=>((e.born:Nat):Int)==((i:Nat):Int))=es'.toList.findIdx? (λe=>((e.born:Nat):Int)==((i:Nat):Int)):=by
   cases es';simp
  rw[this]
  have:=Bi es'.toList 0 i (λj e o=>by
   have a:j<es.length:=by rw[W.len];exact (xI.1 o).1
   obtain⟨_,p,c,f,_⟩:=W.ent j _ _ (eV a)
   rw[o] at c;cases c;omega) (by rw[←W.len];exact g)
  simpa using this
 have a:(es'.modify i λe=>{e with val:=z}).toList=es'.toList.set i {e with val:=z}:=by
  rw[Array.toList_modify,qM _ _ _ _ n]
 have g:WR m l (es.set i (k,v)) (es'.modify i λe=>{e with val:=z}).toList:=by
  rw[a];exact W.Vx hi n B
 obtain⟨c,f⟩:=Uk q A r s g
 simp only[Array.size_modify] at c f
 refine⟨_,?_,f⟩
 simp [Instr.entryStore,b,asInt,asIntOf,d,c]
theorem Pz (a b:List Nat):((⟨(a.map UInt8.ofNat).toArray⟩:ByteArray).toList==(⟨(b.map UInt8.ofNat).toArray⟩:ByteArray).toList)=(a.map (· %256)==b.map (· %256)):=by
 rw[ByteArray.toList_eq,ByteArray.toList_eq];simp only
 have c: ∀(a b:List Nat),(a.map UInt8.ofNat=b.map UInt8.ofNat)↔a.map (· %256)=b.map (· %256):=by
  intro a
  induction a with
  |nil=>intro b;cases b<;>simp
  |cons x a ih=>
   intro b
   cases b with
   |nil=>simp
   |cons y b=>
    simp only[List.map_cons,List.cons.injEq,ih b];constructor
    ·rintro⟨h1,h2⟩
     have:=congrArg UInt8.toNat h1;exact⟨by simpa [UInt8.toNat_ofNat] using this,h2⟩
    ·rintro⟨h1,h2⟩
     exact⟨UInt8.toNat_inj.1 (by simpa [UInt8.toNat_ofNat] using h1),h2⟩
 rw[xJ];simp only[beq_iff_eq];exact c a b
theorem Fe (l:HR P m h w)(g:fL m h.next){op:BinOp}(d:op= .eql∨op= .neq){x y:Operand}{a b:List Nat}{u v:Value}(n:VR m (.str a) u)(j:VR m (.str b) v){neg:Bool}(c:neg=(op matches .neq)):
  aU P m h w (do eqGuard op t x y u v;binOp op t u v) (.bool (if neg then !(a.map (· %256)==b.map (· %256)) else a.map (· %256)==b.map (· %256))) h:=by
 rw[show u= .string ⟨(a.map UInt8.ofNat).toArray⟩ from n,show v= .string ⟨(b.map UInt8.ofNat).toArray⟩ from j]
 refine aU.still l g (x:= .bool (if neg then !(a.map (· %256)==b.map (· %256)) else a.map (· %256)==b.map (· %256))) ?_ rfl
 have e:(eqGuard op t x y (.string ⟨(a.map UInt8.ofNat).toArray⟩) (.string ⟨(b.map UInt8.ofNat).toArray⟩)).run P w= .ok () w:=by
  unfold eqGuard;rcases d with rfl|rfl<;>simp
 have f:(binOp op t (.string ⟨(a.map UInt8.ofNat).toArray⟩) (.string ⟨(b.map UInt8.ofNat).toArray⟩)).run P w=(Op.stringOp op ⟨(a.map UInt8.ofNat).toArray⟩ ⟨(b.map UInt8.ofNat).toArray⟩).run P w:=by
  rcases d with rfl|rfl<;>rfl
 simp only[Sem.run_bind,e,Result.andThen_ok,f]
 subst c
 rcases d with rfl|rfl
 ·simp only[Op.stringOp,Pz,Sem.run_pure];rfl
 ·simp only[Op.stringOp,Pz,Sem.run_pure];rfl
theorem Rg (n:HR P m h w)(j:fL m h.next){x y:Operand}{a b:List Nat}{u v:Value}(o:VR m (.str a) u)(l:VR m (.str b) v)(p:a.length+b.length<2^62):
  aU P m h w (do eqGuard .add t x y u v;binOp .add t u v) (.str (a++b)) h:=by
 rw[show u= .string ⟨(a.map UInt8.ofNat).toArray⟩ from o,show v= .string ⟨(b.map UInt8.ofNat).toArray⟩ from l]
 refine aU.still n j (x:= .string ⟨((a++b).map UInt8.ofNat).toArray⟩) ?_ rfl
 have f:(eqGuard .add t x y (.string ⟨(a.map UInt8.ofNat).toArray⟩) (.string ⟨(b.map UInt8.ofNat).toArray⟩)).run P w= .ok () w:=by
  unfold eqGuard;simp
 have g:(binOp .add t (.string ⟨(a.map UInt8.ofNat).toArray⟩) (.string ⟨(b.map UInt8.ofNat).toArray⟩)).run P w=(Op.stringOp .add ⟨(a.map UInt8.ofNat).toArray⟩ ⟨(b.map UInt8.ofNat).toArray⟩).run P w:=rfl
 simp only[Sem.run_bind,f,Result.andThen_ok,g]
 have d:(⟨(a.map UInt8.ofNat).toArray⟩:ByteArray).size=a.length:=by show (a.map UInt8.ofNat).toArray.size=_;simp
 have e:(⟨(b.map UInt8.ofNat).toArray⟩:ByteArray).size=b.length:=by show (b.map UInt8.ofNat).toArray.size=_;simp
 have c:IntKind.i64.max=9223372036854775807:=rfl
 unfold Op.stringOp
 simp only[d,e]
 rw[aZ (by rw[c];omega)]
 simp only[Sem.run_pure]
 congr 2
 apply ByteArray.ext
 rw[ByteArray.data_append]
 simp
theorem Rz (g:HR P m h w)(d:fL m h.next){a dst:TypeId}{j:IntKind}(c:P.underlying a=some (.int j))(b:P.underlying dst=some .string){k:IntKind}{n:Int}(e:VR m (.int k n) x)(o:0<=n)(l:n<128):
  aU P m h w (convert a dst x) (.str [n.toNat]) h:=by
 rw[show x= .int k n from e]
 refine aU.still g d (x:= .string ⟨#[UInt8.ofNat n.toNat]⟩) ?_ rfl
 have f:Utf8.valid n=true:=by unfold Utf8.valid;simp;omega
 simp only[convert,Sem.run_bind,run_underlying c,run_underlying b,Result.andThen_ok,Conv.intToString,Sem.run_pure,Utf8.encode,f,if_true]
 rw[aV om]
theorem Aj (body:Value->ByteArray->Sem (ForInStep ByteArray))(b: ∀n s,body (.int .u8 n) s=pure (.yield (s.push (UInt8.ofNat n.toNat)))): ∀(cs:List Value) (vs:List V) (l:List Nat) (acc:ByteArray),
  fP m vs cs->nV vs=some l->(forIn cs acc body).run P w= .ok ⟨acc.data++(l.map UInt8.ofNat).toArray⟩ w
 | [], [],l,acc,_,hl=>by
  simp only[nV,Option.some.injEq] at hl;subst hl;simp
 |c::cs,v::vs,l,acc,hv,hl=>by
  cases v<;>try (simp only[nV,reduceCtorEq] at hl;done)
  rename_i k n;cases k<;>try (simp only[nV,reduceCtorEq] at hl;done)
  simp only[nV] at hl;split at hl
  ·simp only[jA] at hl
   obtain⟨d,a,rfl⟩:=hl;rw[show c= .int .u8 n from hv.1,List.forIn_cons,b];simp only[Sem.run_bind,Sem.run_pure,Result.andThen_ok];rw[Aj body b cs vs d _ hv.2 a];congr 2;apply Array.toList_inj.1;simp [ByteArray.push]
  ·cases hl
 | [],_::_,_,_,h,_=>h.elim
 |_::_, [],_,_,h,_=>h.elim
theorem Rm (A:HR P m h w)(F:fL m h.next){g dst e:TypeId}(hs:P.underlying g=some (.slice e))(K:P.underlying dst=some .string)(he:P.underlying e=some (.int .u8))
  {u:V}  (G:VR m v x) (f:Wh h v=some u):aU P m h w (convert g dst x) u h:=by
 have d: ∀a n c,(convert g dst (.slice a n c)).run P w=(Conv.bytesToString (.slice a n c)).run P w:=by
  intro a n c;simp [convert,run_underlying hs,run_underlying K,run_underlying he]
 unfold Wh at f
 split at f
 ·cases f
  obtain rfl:x= .slice none 0 0:=G
  refine aU.still A F (x:= .string .empty) ?_ rfl
  rw[d]
  simp [Conv.bytesToString]
 ·rename_i id L len U
  obtain⟨p,c,N,Q,rfl,_,Y,_⟩:=G
  split at f
  ·rename_i r j
   simp only[jA] at f
   obtain⟨l,Z,rfl⟩:=f
   have b: ∃xs:List Value,(loadCells ⟨p.1,p.2.1+N,none⟩ len).run P w= .ok xs.toArray w/\fP m r xs:=by
    obtain⟨p',c',B,fr,o,hb,_,z,q,_⟩:=sH A j;rw[Q] at o;cases o
    by_cases R:len=0
    ·subst R
     have J:r= []:=by
      have:=q;simp only[List.take_zero] at this
      cases r with
      |nil=>rfl
      |cons _ _=>exact this.elim
     subst J;exact⟨[],by simp only[loadCells,loadCellsFrom];rfl,trivial⟩
    ·obtain rfl:=Y om
     exact⟨_,iY hb z,q⟩
   obtain⟨xs,b,W⟩:=b
   refine aU.still A F (x:= .string ⟨(l.map UInt8.ofNat).toArray⟩) ?_ rfl
   rw[d]
   simp only[Conv.bytesToString,Sem.run_bind,b,Result.andThen_ok]
   rw[←Array.forIn_toList]
   rw[Aj (m:=m) _ (λn s=>rfl) xs r l _ W Z]
   simp only[Result.andThen_ok,Sem.run_pure]
   congr 2
   have O:ByteArray.empty.data= #[]:=rfl
   rw[O]
   simp only[Array.empty_append]
  ·cases f
 ·cases f
end
end
end Go.Ay
