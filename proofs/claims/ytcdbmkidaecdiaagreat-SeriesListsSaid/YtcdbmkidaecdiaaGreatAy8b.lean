/- Maps whose keys are strings or rows of numbers; strings of bytes. -/
import Derived.Test.YtcdbmkidaecdiaaGreatAy8
import Derived.WideKeyArr
import Derived.StringKeys
namespace Go.Ay
open Go
section
variable {k v:V} {sh:Ci} {i id:Nat} {x y:Value} {kt t et:TypeId} {es:List (V×V)} {es':List MapEntry}
mutual
theorem Jt: ∀(a b:V),dB a b=true->a=b
 | .int ..,b,h=>by cases b<;>simp [dB] at h;simp [h]
 | .bool _,b,h=>by cases b<;>simp [dB] at h;simp [h]
 | .ptr ..,b,h=>by cases b<;>simp [dB] at h;simp [h]
 | .nilp,b,h=>by cases b<;>simp [dB] at h;rfl
 | .sl ..,b,h=>by cases b<;>simp [dB] at h;simp [h]
 | .aE,b,h=>by cases b<;>simp [dB] at h;rfl
 | .emp _,b,h=>by cases b<;>simp [dB] at h;rw[h]
 | .str _,b,h=>by cases b<;>simp [dB] at h;rw[h]
 | .ifc t x,b,h=>by
  cases b<;>simp [dB] at h;rw[h.1,Jt x _ h.2]
 | .mp _,b,h=>by cases b<;>simp [dB] at h;simp [h]
 | .nilm,b,h=>by cases b<;>simp [dB] at h;rfl
 | .fn _ a1 a2,b,h=>by
  cases b<;>simp [dB] at h;rw[h.1.1,Hi a1 _ h.1.2,Hi a2 _ h.2]
 | .yl _,b,h=>by cases b<;>simp [dB] at h;simp [h]
 | .nilf,b,h=>by cases b<;>simp [dB] at h;rfl
 | .agg a,b,h=>by
  cases b<;>simp [dB] at h;rw[Hi a _ h]
 | .tup a,b,h=>by
  cases b<;>simp [dB] at h;rw[Hi a _ h]
 | .unk,b,h=>by simp [dB] at h
theorem Hi: ∀(a b:List V),tI a b=true->a=b
 | [], [],_=>rfl
 |x::a,y::b,h=>by
  simp only[tI,vV] at h;rw[Jt x y h.1,Hi a b h.2]
 | [],_::_,h=>by simp [tI] at h
 |_::_, [],h=>by simp [tI] at h
end
def Ml (k:IntKind):V->Bool:=fun| .int j a=>decide (j=k)&&(decide (k.min<=a)&&decide (a<=k.max))|_=>false
theorem tT {k:IntKind}(h:Ml k v=true): ∃a,v= .int k a/\(Lit.int k a).wf=true:=by
 cases v<;>simp [Ml] at h;rename_i j a;obtain⟨rfl,b,c⟩:=h;exact⟨a,rfl,by simp [Lit.wf,b,c]⟩
theorem Se {k:IntKind}: ∀{l:List V},l.all (Ml k)=true->tI l l=true
 | [],_=>rfl
 |v::l,h=>by
  simp only[List.all_cons,vV] at h;obtain⟨a,rfl,_⟩:=tT h.1;simp only[tI,dB,beq_self_eq_true,Bool.true_and];exact Se h.2
theorem IQ (h:isKey sh k=true):dB k k=true:=by
 cases sh<;>cases k<;>simp only[isKey,Bool.false_eq_true] at h
 ·simp [dB]
 ·rename_i n j a
  simp only[vV] at h;simp only[dB];exact Se (k:=j) h.2
theorem abT {l:List Nat}{c:Nat}(h:l[i]? =some c):(⟨(l.map UInt8.ofNat).toArray⟩:ByteArray)[i]? =some (UInt8.ofNat c):=by
 obtain⟨b,d⟩:=zG.1 h;have a:i<(⟨(l.map UInt8.ofNat).toArray⟩:ByteArray).size:=by show i<(l.map UInt8.ofNat).toArray.size;simpa using b
 rw[getElem?_pos _ i a];congr 1;show (l.map UInt8.ofNat).toArray[i]=_;simp [d]
section
variable {P:Program} {m:M} {h:H} {w:World}
theorem gJ.ints {k:IntKind}: ∀{l:List V} {xs:List Value},gJ m l xs->l.all (Ml k)=true-> ∀x∈xs,∃a,x= .int k a/\(Lit.int k a).wf=true
 | [], [],_,_,x,b=>by simp at b
 |v::l,y::xs,h,ha,x,b=>by
  simp only[List.all_cons,vV] at ha;rcases Gr.1 b with rfl|b
  ·obtain⟨a,rfl,c⟩:=tT ha.1
   exact⟨a,h.1,c⟩
  ·exact gJ.ints h.2 ha.2 x b
 | [],_::_,h,_,_,_=>h.elim
 |_::_, [],h,_,_,_=>h.elim
theorem gJ.det {k:IntKind}: ∀{l:List V} {xs ys:List Value},l.all (Ml k)=true->gJ m l xs->gJ m l ys->xs=ys
 | [], [], [],_,_,_=>rfl
 |v::l,x::xs,y::ys,ha,h1,h2=>by
  simp only[List.all_cons,vV] at ha;obtain⟨a,rfl,_⟩:=tT ha.1;rw[show x= .int k a from h1.1,show y= .int k a from h2.1,gJ.det ha.2 h1.2 h2.2]
 | [],_::_,_,_,h,_=>h.elim
 | [], [],_::_,_,_,h=>h.elim
 |_::_, [],_,_,h,_=>h.elim
 |_::_,_::_, [],_,_,h=>h.elim
theorem gJ.inj {k:IntKind}: ∀{l l':List V} {xs:List Value},l.all (Ml k)=true->l'.all (Ml k)=true->gJ m l xs->gJ m l' xs->l=l'
 | [], [], [],_,_,_,_=>rfl
 |v::l,v'::l',x::xs,ha,hb,h1,h2=>by
  simp only[List.all_cons,vV] at ha hb;obtain⟨a,rfl,_⟩:=tT ha.1;obtain⟨b,rfl,_⟩:=tT hb.1;have:(Value.int k a)= .int k b:=(show x= .int k a from h1.1).symm.trans h2.1;cases this;rw[gJ.inj ha.2 hb.2 h1.2 h2.2]
 | [],_,_::_,_,_,h,_=>h.elim
 |_, [],_::_,_,_,_,h=>h.elim
 |_::_,_, [],_,_,h,_=>h.elim
 |_,_::_, [],_,_,_,h=>h.elim
theorem Jd: ∀{l:List Nat},l.all (λn=>decide (n<256))=true->(l.map UInt8.ofNat).map UInt8.toNat=l
 | [],_=>rfl
 |n::l,h=>by
  simp only[List.all_cons,vV,decide_eq_true_eq] at h;simp only[List.map_cons,List.cons.injEq];exact⟨by simp [UInt8.toNat_ofNat];omega,Jd h.2⟩
theorem aaU (a:isKey sh k=true)(b:VR m k x)(c:VR m k y):x=y:=by
 cases sh<;>cases k<;>simp only[isKey,Bool.false_eq_true] at a
 ·rename_i l
  rw[show x= .string ⟨(l.map UInt8.ofNat).toArray⟩ from b,show y= .string ⟨(l.map UInt8.ofNat).toArray⟩ from c]
 ·rename_i n j g
  simp only[vV] at a;obtain⟨xs,rfl,d⟩:=b;obtain⟨e,rfl,f⟩:=c;have:xs=e:=Array.toList_inj.1 (gJ.det (k:=j) a.2 d f);rw[this]
theorem key_inj {c:V}(b:isKey sh k=true)(a:isKey sh c=true)(o:VR m k x)(f:VR m c x):k=c:=by
 cases sh<;>cases k<;>simp only[isKey,Bool.false_eq_true] at b<;>cases c<;>simp only[isKey,Bool.false_eq_true] at a
 ·rename_i l g
  simp only[vV] at b a;have e:Value.string ⟨(l.map UInt8.ofNat).toArray⟩= .string ⟨(g.map UInt8.ofNat).toArray⟩:=(show x=_ from o).symm.trans f;simp only[Value.string.injEq,ByteArray.mk.injEq] at e;have p:l.map UInt8.ofNat=g.map UInt8.ofNat:=by simpa using e
  have d:=congrArg (List.map UInt8.toNat) p;rw[Jd b.2,Jd a.2] at d;rw[d]
 ·rename_i n j z q
  simp only[vV] at b a;obtain⟨xs,rfl,r⟩:=o;obtain⟨u,e,s⟩:=f;cases e;rw[gJ.inj (k:=j) b.2 a.2 r s]
theorem mapM_some {α β:Type}{f:α->Option β}: ∀(l:List α),(∀a∈l,∃b,f a=some b)-> ∃bs,l.mapM f=some bs
 | [],_=>⟨[],rfl⟩
 |a::l,h=>by
  obtain⟨b,e⟩:=h a (by simp);obtain⟨bs,d⟩:=mapM_some l (λc g=>h c (by simp [g]));exact⟨b::bs,by rw[List.mapM_cons,e,d];rfl⟩
theorem Pu (b:Pk P kt=some sh)(g:isKey sh k=true)(J:VR m k x):WideMaps.KeyLaw P kt/\ ∃l,keyOf P kt x=some l:=by
 unfold Pk at b;split at b
 ·rename_i d
  cases b;cases k<;>simp only[isKey,Bool.false_eq_true] at g;rename_i l;simp only[vV,decide_eq_true_eq] at g;refine⟨WideMaps.string_law d,.string (l.map UInt8.ofNat).toArray.toList,?_⟩;rw[show x= .string ⟨(l.map UInt8.ofNat).toArray⟩ from J];refine WideMaps.keyOf_string_mk (s:=⟨(l.map UInt8.ofNat).toArray⟩) d ?_;show (l.map UInt8.ofNat).toArray.size<=maxLen;have:maxLen=2^63- 1:=rfl;have:=g.1;simp;omega
 ·rename_i n e d
  split at b
  ·rename_i q B
   split at b
   ·rename_i p
    cases b;cases k<;>simp only[isKey,Bool.false_eq_true] at g;rename_i U;simp only[vV,decide_eq_true_eq] at g
    have A:WideMaps.ArrKey P kt e n:=⟨d,by simp [Program.plainKey,B],p.1,p.2.1⟩
    have o: ∃m,P.types.size=m+1:=⟨P.types.size- 1,om⟩
    have z:=A.keyType o;obtain⟨R,u⟩:=o;obtain⟨xs,rfl,F⟩:=J;have c:xs.size=n:=by have:=gJ.length F;simp at this;omega
    have f:=gJ.ints (k:=q) F g.2
    have K: ∃G,(List.range n).mapM (λi=>P.keyLits (R+1) e ((xs.toList.drop (i*P.cellsOf e)).take (P.cellsOf e)))=some G:=by
     refine mapM_some _ (λi hi=>?_);have N:i<n:=by simpa using hi
     rw[p.1,uH];have j:i<xs.toList.length:=by simp;omega
     have O:(xs.toList.drop i).take 1= [xs.toList[i]]:=by rw[BT j];rfl
     rw[O];obtain⟨a,Q,L⟩:=f _ (Bu j);rw[Q];exact⟨[.int q a],by simp [Program.keyLits,B,L]⟩
    obtain⟨G,r⟩:=K;refine⟨A.law,?_⟩;unfold keyOf;simp only[d];rw[bJ (by simp [z,Value.formed,d,A.size,c]),u];unfold Program.keyLits;simp only[d,Value.cells];rw[bJ (by rw[A.size];simpa using c),r];exact⟨_,rfl⟩
   ·cases b
  ·cases b
 ·cases b
theorem Du {k:V}: ∀{es:List (V×V)} {q:Nat×V},fX k es=some q-> ∃k',es[q.1]? =some (k',q.2)/\dB k k'=true
 | [],q,h=>by simp [fX] at h
 |e::es,q,h=>by
  simp only[fX] at h;split at h
  ·rename_i c
   cases h;exact⟨e.1,rfl,c⟩
  ·simp only[lT] at h
   obtain⟨r,d,rfl⟩:=h;obtain⟨k',a,b⟩:=Du d;exact⟨k',by simpa using a,b⟩
theorem Eo {k:V}: ∀{es:List (V×V)},fX k es=none-> ∀e∈es,dB k e.1=false
 | [],_,e,a=>by simp at a
 |e::es,h,e',a=>by
  simp only[fX] at h;split at h
  ·cases h
  ·rename_i b
   simp only[Option.map_eq_none_iff] at h;rcases Gr.1 a with rfl|a
   ·simpa using b
   ·exact Eo h e' a
structure WR (m:M)(sh:Ci)(es:List (V×V))(es':List MapEntry):Prop where
 len:es.length=es'.length
 one: ∀(i j:Nat) (a b:V×V),es[i]? =some a->es[j]? =some b->dB a.1 b.1=true->i=j
 ent: ∀(i:Nat) (k v:V),es[i]? =some (k,v)->isKey sh k=true/\ ∃e:MapEntry,es'[i]? =some e/\e.born=i/\VR m k e.key/\VR m v e.val
theorem WR.keys (W:WR m sh es es')(f:Pk P kt=some sh): ∀e∈es',∃l,keyOf P kt e.key=some l:=by
 intro e d;obtain⟨i,hi⟩:=List.mem_iff_getElem?.1 d;have a:i<es.length:=by rw[W.len];exact (zG.1 hi).1
 obtain⟨c,j,b,_,g,_⟩:=W.ent i _ _ (dF a);rw[hi] at b;cases b;exact (Pu f c g).2
theorem Ag (W:WR m sh es es')(L:Pk P kt=some sh)(u:isKey sh k=true)(F:VR m k x):
  (∃i v e,fX k es=some (i,v)/\es[i]? =some (k,v)/\es'[i]? =some e/\e.born=i/\e.key=x/\VR m v e.val/\(Instr.findKey kt x es').run P w= .ok (some (i,e.val)) w)∨
  (fX k es=none/\(∀e∈es,dB k e.1=false)/\(Instr.findKey kt x es').run P w= .ok none w):=by
 obtain⟨K,l,R⟩:=Pu L u F
 have f: ∀(i:Nat) (d v:V),es[i]? =some (d,v)->dB k d=true-> ∃e,es'[i]? =some e/\e.key=x:=by
  intro i d v hi B;obtain⟨n,e,a,_,b,_⟩:=W.ent i d v hi;have:=Jt _ _ B;subst this;exact⟨e,a,aaU u b F⟩
 have g: ∀(j:Nat) (e:MapEntry),es'[j]? =some e->e.key=x-> ∃v,es[j]? =some (k,v):=by
  intro j e J B;have r:j<es.length:=by rw[W.len];exact (zG.1 J).1
  obtain⟨n,Q,a,_,b,_⟩:=W.ent j _ _ (dF r);rw[J] at a;cases a;rw[B] at b;have:=key_inj u n F b;exact⟨es[j].2,by rw[dF r,this];rfl⟩
 rcases K.find w R es' (W.keys L) with ⟨a,s⟩|⟨j,e,a,s,b⟩
 ·refine .inr ?_
  cases hf:fX k es with
  |none=>exact⟨rfl,Eo hf,a⟩
  |some q=>
   exfalso;obtain⟨d,c,z⟩:=Du hf;obtain⟨e,N,O⟩:=f _ _ _ c z;exact s e (EV N) O
 ·refine .inl ?_
  obtain⟨v,p⟩:=g j e s b
  cases hf:fX k es with
  |none=>exact absurd (IQ u) (by rw[Eo hf _ (EV p)];simp)
  |some q=>
   obtain⟨d,c,z⟩:=Du hf;have A:=Jt _ _ z;subst A;have o:q.1=j:=W.one _ _ _ _ c p z;obtain⟨i,Z⟩:=q;simp only at o c;subst o;rw[p] at c;cases c;obtain⟨_,Q,G,U,g3,Y⟩:=W.ent i k v p;rw[s] at G;cases G;exact⟨i,v,e,rfl,p,s,U,b,Y,a⟩
theorem WR.push (W:WR m sh es es')(l:isKey sh k=true)(L:VR m k x)(K:VR m v y)(p: ∀e∈es,dB k e.1=false):
  WR m sh (es++ [(k,v)]) (es'++ [{key:=x,val:=y,born:=es'.length}]):=by
 refine⟨by simp [W.len],λi j a b F s d=>?_,λi u J hi=>?_⟩
 ·have g: ∀(i:Nat) (a:V×V),(es++ [(k,v)])[i]? =some a->(i<es.length/\es[i]? =some a)∨(i=es.length/\a=(k,v)):=by
   intro i a h
   by_cases hi:i<es.length
   ·exact .inl ⟨hi,by rwa [Ej hi] at h⟩
   ·rw[Eb om] at h
    by_cases f:i-es.length=0
    ·rw[f] at h;simp at h;exact .inr ⟨om,h.symm⟩
    ·rw[List.getElem?_eq_none (by simp;omega)] at h;cases h
  rcases g i a F with ⟨B,o⟩|⟨B,rfl⟩<;>rcases g j b s with ⟨A,q⟩|⟨A,rfl⟩
  ·exact W.one i j a b o q d
  ·have:=p a (EV o)
   have n:=Jt _ _ d;simp only at n;rw[n,IQ l] at this;cases this
  ·have:=p b (EV q)
   simp only at d;rw[d] at this;cases this
  ·omega
 ·by_cases c:i<es.length
  ·rw[Ej c] at hi
   obtain⟨r,e,G,z⟩:=W.ent i u J hi
   exact⟨r,e,by rw[Ej (by rw[←W.len];exact c)];exact G,z⟩
  ·rw[Eb om] at hi
   by_cases f:i-es.length=0
   ·rw[f] at hi;simp at hi
    obtain⟨rfl,rfl⟩:=hi
    have:i=es'.length:=by rw[←W.len];omega
    subst this
    exact⟨l,{key:=x,val:=y,born:=es'.length},by simp,rfl,L,K⟩
   ·rw[List.getElem?_eq_none (by simp;omega)] at hi;cases hi
theorem WR.QS (W:WR m sh es es'){n:V}{e:MapEntry}(hi:es[i]? =some (k,v))(N:es'[i]? =some e)(R:VR m n y):
  WR m sh (es.set i (k,n)) (es'.set i {e with val:=y}):=by
 have f:i<es.length:=(zG.1 hi).1
 have g:i<es'.length:=by rw[←W.len];exact f
 have z: ∀(j:Nat) (a:V×V),(es.set i (k,n))[j]? =some a-> ∃b,es[j]? =some b/\b.1=a.1/\((j=i/\a=(k,n))∨(j≠i/\b=a)):=by
  intro j a h
  by_cases c:j=i
  ·subst c
   rw[List.getElem?_set_self f] at h;cases h;exact⟨_,hi,rfl,.inl ⟨rfl,rfl⟩⟩
  ·rw[List.getElem?_set_ne (λe=>c e.symm)] at h
   exact⟨a,h,rfl,.inr ⟨c,rfl⟩⟩
 refine⟨by simp [W.len],λp q a b Q J A=>?_,λj L K c=>?_⟩
 ·obtain⟨U,u,B,_⟩:=z p a Q
  obtain⟨O,d,Y,_⟩:=z q b J
  exact W.one p q U O u d (by rw[B,Y];exact A)
 ·obtain⟨b,u,B,d⟩:=z j _ c
  rcases d with ⟨rfl,d⟩|⟨s,rfl⟩
  ·cases d
   obtain⟨o,F,l,r,G,_⟩:=W.ent j k v hi
   rw[N] at l;cases l
   exact⟨o,_,List.getElem?_set_self g,r,G,R⟩
  ·obtain⟨o,F,l,r⟩:=W.ent j L K u
   exact⟨o,F,by rw[List.getElem?_set_ne (λe=>s e.symm)];exact l,r⟩
theorem yG {α:Type}(f:α->α): ∀(l:List α) (i:Nat) (a:α),l[i]? =some a->l.modify i f=l.set i (f a)
 | [],_,_,h=>by simp at h
 |b::l,0,a,h=>by simp at h;subst h;rfl
 |b::l,i+1,a,h=>by simp at h;simp [List.modify_succ_cons,yG f l i a h]
theorem jH {α:Type}: ∀(l:List α) (i:Nat) (a:α),l[i]? =some a->l.set i a=l
 | [],_,_,h=>by simp at h
 |b::l,0,a,h=>by simp at h;subst h;rfl
 |b::l,i+1,a,h=>by simp at h;simp [jH l i a h]
theorem wI (n:HR P m h w){p:Nat×Nat×Nat}(g:m id=some p)(j:h.get id=some (.wmap sh es)):
  ∃es':Array MapEntry,w.heap[p.1]? =some (.map es' es'.size)/\WR m sh es es'.toList:=by
 obtain⟨o,b,f,es',d,l,a,e,c⟩:=n.live id _ j
 rw[g] at b;cases b
 subst e
 exact⟨es',l,by simpa using a,f,λi k v hi=>by simpa using c i k v hi⟩
theorem NN (o:HR P m h w)(r:fW m h.next){u:V}(q:P.underlying t=some (.map kt et))(B:Pk P kt=some sh)(s:kU P et=some u)
      (Q:VR m (.mp id) x) (G:VR m k y) (O:h.get id=some (.wmap sh es)) (d:isKey sh k=true) (ok:Bool):
  aT P m h w (Instr.lookup t x y ok) (match fX k es with|some e=>(if ok then .tup [e.2,.bool true] else e.2)|none=>(if ok then .tup [u,.bool false] else u)) h:=by
 obtain⟨p,N,rfl⟩:=Q
 obtain⟨es',L,W⟩:=wI o N O
 obtain⟨K,l,J⟩:=Pu B d G
 have b:(getObj p.1).run P w= .ok (.map es' es'.size) w:=by simp [getObj,Sem.run,L]
 have c:=K.check w es'.isEmpty J
 have g: ∃i z,P.info? et=some i/\i.zero=some z:=by
  unfold kU at s
  cases hi:P.info? et with
  |none=>simp [hi] at s
  |some i=>
   cases hzz:i.zero with
   |none=>simp [hi,hzz] at s
   |some z=>exact⟨i,z,rfl,hzz⟩
 obtain⟨i,z,hi,f⟩:=g
 obtain⟨_,_,n⟩:=jR m s hi f
 rcases Ag (w:=w) W B d G with ⟨j,v,e,A,_,_,_,_,F,a⟩|⟨A,_,a⟩
 ·rw[A]
  cases ok with
  |true=>
   refine aT.still o r (x:= .tuple #[e.val,.bool true]) ?_ ⟨_,rfl,F,rfl,trivial⟩;simp [Instr.lookup,run_underlying q,b,c,a]
  |false=>
   refine aT.still o r (x:=e.val) ?_ F;simp [Instr.lookup,run_underlying q,b,c,a]
 ·rw[A]
  cases ok with
  |true=>
   refine aT.still o r (x:= .tuple #[z,.bool false]) ?_ ⟨_,rfl,n,rfl,trivial⟩;simp [Instr.lookup,run_underlying q,b,c,a,zeroValue,typeInfo,hi,f]
  |false=>
   refine aT.still o r (x:=z) ?_ n;simp [Instr.lookup,run_underlying q,b,c,a,zeroValue,typeInfo,hi,f]
theorem QM (g:HR P m h w)(j:fW m h.next){a:List (V×V)}{p:Nat×Nat×Nat}(e:m id=some p)(f:h.get id=some (.wmap sh es))
  {es':Array MapEntry} (W:WR m sh a es'.toList):(setObj p.1 (.map es' es'.size)).run P w= .ok () (w.putObj p.1 (.map es' es'.size))/\
   iC P m h w m (h.set id (some (.wmap sh a))) (w.putObj p.1 (.map es' es'.size)):=by
 obtain⟨l,c,_⟩:=wI g e f
 have d:p.1<w.heap.size:=(Wi.1 c).1
 refine⟨by simp [setObj,Sem.run,c,World.putObj],?_⟩
 exact iC.put g j f rfl rfl e ⟨W.one,es',es'.size,World.putObj_heap_same d,by simpa using W.len,rfl,λi k v hi=>by simpa using W.ent i k v hi⟩ rfl rfl rfl (by simp) (λb c=>World.putObj_heap_other c)
theorem LJ (G:HR P m h w)(Q:fW m h.next)(O:P.underlying t=some (.map kt et))(L:Pk P kt=some sh)
     {z:Value} (hx:VR m (.mp id) x) (B:VR m k y) (R:VR m v z) (A:h.get id=some (.wmap sh es)) (a:isKey sh k=true):
  ∃w',(Instr.mapUpdate t x y z).run P w= .ok () w'/\iC P m h w m (h.set id (some (.wmap sh (match fX k es with|some e=>es.set e.1 (k,v)|none=>es++ [(k,v)])))) w':=by
 obtain⟨p,q,rfl⟩:=hx
 obtain⟨es',U,W⟩:=wI G q A
 obtain⟨K,l,J⟩:=Pu L a B
 have c:(getObj p.1).run P w= .ok (.map es' es'.size) w:=by simp [getObj,Sem.run,U]
 have f:=K.check w false J
 rcases Ag (w:=w) W L a B with ⟨i,u,e,o,Z,s,h4,N,_,b⟩|⟨o,Y,b⟩
 ·rw[o]
  have F:es'[i]? =some e:=by simpa using s
  have iB:=K.stays w J
  have n:(es'.modify i λe=>{e with key:=y,val:=z}).toList=es'.toList.set i {e with val:=z}:=by
   rw[Array.toList_modify,yG _ _ _ _ s,←N]
  have r:WR m sh (es.set i (k,v)) (es'.modify i λe=>{e with key:=y,val:=z}).toList:=by
   rw[n];exact W.QS Z s R
  obtain⟨g,j⟩:=QM G Q q A r
  simp only[Array.size_modify] at g j
  refine⟨_,?_,j⟩
  have d:(Option.map MapEntry.key es'[i]?).getD y=y:=by rw[F];exact N
  simp only[Instr.mapUpdate,Sem.run_bind,run_underlying O,Result.andThen_ok,c,f,b,Sem.run_pure,d,iB,g]
 ·rw[o]
  have r:WR m sh (es++ [(k,v)]) (es'.push {key:=y,val:=z,born:=es'.size}).toList:=by
   rw[Array.toList_push];have:=W.push a B R Y;simpa using this
  obtain⟨g,j⟩:=QM G Q q A r
  simp only[Array.size_push] at g j
  refine⟨_,?_,j⟩
  simp only[Instr.mapUpdate,Sem.run_bind,run_underlying O,Result.andThen_ok,c,f,b,Sem.run_pure,g]
theorem NH (F:HR P m h w)(U:fW m h.next){s:V}(ht:P.underlying t=some (.map kt et))(hk:Pk P kt=some sh)(B:kU P et=some s)
      (hx:VR m (.mp id) x) (Y:VR m k y) (R:h.get id=some (.wmap sh es)) (a:isKey sh k=true):
  aT P m h w (Instr.mapEntry t x y) (match fX k es with|some e=> .tup [e.2,.int .i64 (e.1:Nat)]|none=> .tup [s,.int .i64 es.length])
   (match fX k es with|some _=>h|none=>h.set id (some (.wmap sh (es++ [(k,s)])))):=by
 obtain⟨p,N,rfl⟩:=hx
 obtain⟨es',J,W⟩:=wI F N R
 obtain⟨K,l,hl⟩:=Pu hk a Y
 have a0:p.1<w.heap.size:=(Wi.1 J).1
 have c:(getObj p.1).run P w= .ok (.map es' es'.size) w:=by simp [getObj,Sem.run,J]
 have n:=K.check w false hl
 have f: ∃i z,P.info? et=some i/\i.zero=some z:=by
  unfold kU at B
  cases hi:P.info? et with
  |none=>simp [hi] at B
  |some i=>
   cases hzz:i.zero with
   |none=>simp [hi,hzz] at B
   |some z=>exact⟨i,z,rfl,hzz⟩
 obtain⟨i,z,hi,o⟩:=f
 obtain⟨_,_,q⟩:=jR m B hi o
 rcases Ag (w:=w) W hk a Y with ⟨i,u,e,L,h2,Q,Z,h5,h6,b⟩|⟨L,hn,b⟩
 ·rw[L]
  have j:es'[i]? =some e:=by simpa using Q
  have iB:=K.stays w hl
  have r:(es'.modify i λe=>{e with key:=y})=es':=by
   apply Array.toList_inj.1;rw[Array.toList_modify,yG _ _ _ _ Q,←h5];exact jH _ _ _ Q
  have d:(Option.map MapEntry.key es'[i]?).getD y=y:=by rw[j];exact h5
  have G:(Option.map MapEntry.born es'[i]?).getD 0=i:=by rw[j];exact Z
  have W1:WR m sh (es.set i (k,u)) es'.toList:=by rw[jH _ _ _ h2];exact W
  obtain⟨A,O⟩:=QM F U N R W1
  have g:w.putObj p.1 (.map es' es'.size)=w:=by
   have:w.heap.setIfInBounds p.1 (.map es' es'.size)=w.heap:=by
    apply Array.ext';simp only[Array.toList_setIfInBounds];exact jH _ _ _ (by simpa using J)
   unfold World.putObj;rw[this]
  refine aT.still F U (x:= .tuple #[e.val,goInt (i:Nat)]) ?_ ⟨_,rfl,h6,rfl,trivial⟩
  simp only[Instr.mapEntry,Sem.run_bind,run_underlying ht,Result.andThen_ok,c,n,b,Sem.run_pure,d,iB,r,A,g]
  simp [j,Z]
 ·rw[L]
  have W2:WR m sh (es++ [(k,s)]) (es'.push {key:=y,val:=z,born:=es'.size}).toList:=by
   rw[Array.toList_push];have:=W.push a Y q hn;simpa using this
  obtain⟨A,O⟩:=QM F U N R W2
  simp only[Array.size_push] at A O
  refine⟨.tuple #[z,goInt (es'.size:Nat)],_,m,?_,⟨_,rfl,q,?_,trivial⟩,O⟩
  ·simp [Instr.mapEntry,run_underlying ht,c,n,b,zeroValue,typeInfo,hi,o,A]
  ·have:es.length=es'.size:=by simpa using W.len
   rw[this];rfl
theorem Mk: ∀(l:List MapEntry) (o i:Nat),(∀(j:Nat) (e:MapEntry),l[j]? =some e->e.born=o+j)->i<l.length->l.findIdx? (λe=>((e.born:Nat):Int)==((o+i:Nat):Int))=some i
 | [],_,_,_,h=>by simp at h
 |a::l,o,0,hb,_=>by
  have:=hb 0 a rfl;simp [List.findIdx?_cons,this]
 |a::l,o,i+1,hb,hl=>by
  have g:=hb 0 a rfl;have c:=Mk l (o+1) i (λj e f=>by have:=hb (j+1) e (by simpa using f);omega) (by simpa using hl)
  have b:(((a.born:Nat):Int)==((o+(i+1):Nat):Int))=false:=by
   simp only[beq_eq_false_iff_ne,ne_eq,Int.natCast_inj];omega
  rw[List.findIdx?_cons,b];have d:o+1+i=o+(i+1):=om
  rw[d] at c;rw[c];rfl
theorem KJ (s:HR P m h w)(F:fW m h.next){u:V}{z:Value}(G:VR m (.mp id) x)(J:VR m v z)(q:h.get id=some (.wmap sh es))(hi:es[i]? =some (k,u)):
  ∃w',(Instr.entryStore t x (.int .i64 (i:Nat)) z).run P w= .ok () w'/\iC P m h w m (h.set id (some (.wmap sh (es.set i (k,v))))) w':=by
 obtain⟨p,o,rfl⟩:=G
 obtain⟨es',B,W⟩:=wI s o q
 have c:(getObj p.1).run P w= .ok (.map es' es'.size) w:=by simp [getObj,Sem.run,B]
 have l:i<es.length:=(zG.1 hi).1
 obtain⟨_,e,r,_⟩:=W.ent i k u hi
 have a:es'.findIdx? (λe=>((e.born:Nat):Int)==((i:Nat):Int))=some i:=by
  have:es'.findIdx? (λe=>((e.born:Nat):Int)==((i:Nat):Int))=es'.toList.findIdx? (λe=>((e.born:Nat):Int)==((i:Nat):Int)):=by
   cases es';simp
  rw[this]
  have:=Mk es'.toList 0 i (λj e n=>by
   have g:j<es.length:=by rw[W.len];exact (zG.1 n).1
   obtain⟨_,K,b,f,_⟩:=W.ent j _ _ (dF g)
   rw[n] at b;cases b;omega) (by rw[←W.len];exact l)
  simpa using this
 have d:(es'.modify i λe=>{e with val:=z}).toList=es'.toList.set i {e with val:=z}:=by
  rw[Array.toList_modify,yG _ _ _ _ r]
 have A:WR m sh (es.set i (k,v)) (es'.modify i λe=>{e with val:=z}).toList:=by
  rw[d];exact W.QS hi r J
 obtain⟨b,f⟩:=QM s F o q A
 simp only[Array.size_modify] at b f
 refine⟨_,?_,f⟩
 simp [Instr.entryStore,c,asInt,asIntOf,a,b]
theorem GU (a b:List Nat):((⟨(a.map UInt8.ofNat).toArray⟩:ByteArray).toList==(⟨(b.map UInt8.ofNat).toArray⟩:ByteArray).toList)=(a.map (· %256)==b.map (· %256)):=by
 rw[ByteArray.toList_eq,ByteArray.toList_eq];simp only
 have c: ∀(a b:List Nat),(a.map UInt8.ofNat=b.map UInt8.ofNat)↔a.map (· %256)=b.map (· %256):=by
  intro a
  induction a with
  |nil=>intro b;cases b<;>simp
  |cons x a ih=>
   intro b
   cases b with
   |nil=>simp
   |cons y b=>
    simp only[List.map_cons,List.cons.injEq,ih b];constructor
    ·rintro⟨h1,h2⟩
     have:=congrArg UInt8.toNat h1;exact⟨by simpa [UInt8.toNat_ofNat] using this,h2⟩
    ·rintro⟨h1,h2⟩
     exact⟨UInt8.toNat_inj.1 (by simpa [UInt8.toNat_ofNat] using h1),h2⟩
 rw[Qk];simp only[beq_iff_eq];exact c a b
theorem Sh (n:HR P m h w)(j:fW m h.next){op:BinOp}(d:op= .eql∨op= .neq){x y:Operand}{a b:List Nat}{u v:Value}(l:VR m (.str a) u)(e:VR m (.str b) v){neg:Bool}(c:neg=(op matches .neq)):
  aT P m h w (do eqGuard op t x y u v;binOp op t u v) (.bool (if neg then !(a.map (· %256)==b.map (· %256)) else a.map (· %256)==b.map (· %256))) h:=by
 rw[show u= .string ⟨(a.map UInt8.ofNat).toArray⟩ from l,show v= .string ⟨(b.map UInt8.ofNat).toArray⟩ from e]
 refine aT.still n j (x:= .bool (if neg then !(a.map (· %256)==b.map (· %256)) else a.map (· %256)==b.map (· %256))) ?_ rfl
 have f:(eqGuard op t x y (.string ⟨(a.map UInt8.ofNat).toArray⟩) (.string ⟨(b.map UInt8.ofNat).toArray⟩)).run P w= .ok () w:=by
  unfold eqGuard;rcases d with rfl|rfl<;>simp
 have g:(binOp op t (.string ⟨(a.map UInt8.ofNat).toArray⟩) (.string ⟨(b.map UInt8.ofNat).toArray⟩)).run P w=(Op.stringOp op ⟨(a.map UInt8.ofNat).toArray⟩ ⟨(b.map UInt8.ofNat).toArray⟩).run P w:=by
  rcases d with rfl|rfl<;>rfl
 simp only[Sem.run_bind,f,Result.andThen_ok,g]
 subst c
 rcases d with rfl|rfl
 ·simp only[Op.stringOp,GU,Sem.run_pure];rfl
 ·simp only[Op.stringOp,GU,Sem.run_pure];rfl
theorem MB (o:HR P m h w)(l:fW m h.next){x y:Operand}{a b:List Nat}{u v:Value}(n:VR m (.str a) u)(f:VR m (.str b) v)(p:a.length+b.length<2^62):
  aT P m h w (do eqGuard .add t x y u v;binOp .add t u v) (.str (a++b)) h:=by
 rw[show u= .string ⟨(a.map UInt8.ofNat).toArray⟩ from n,show v= .string ⟨(b.map UInt8.ofNat).toArray⟩ from f]
 refine aT.still o l (x:= .string ⟨((a++b).map UInt8.ofNat).toArray⟩) ?_ rfl
 have g:(eqGuard .add t x y (.string ⟨(a.map UInt8.ofNat).toArray⟩) (.string ⟨(b.map UInt8.ofNat).toArray⟩)).run P w= .ok () w:=by
  unfold eqGuard;simp
 have j:(binOp .add t (.string ⟨(a.map UInt8.ofNat).toArray⟩) (.string ⟨(b.map UInt8.ofNat).toArray⟩)).run P w=(Op.stringOp .add ⟨(a.map UInt8.ofNat).toArray⟩ ⟨(b.map UInt8.ofNat).toArray⟩).run P w:=rfl
 simp only[Sem.run_bind,g,Result.andThen_ok,j]
 have e:(⟨(a.map UInt8.ofNat).toArray⟩:ByteArray).size=a.length:=by show (a.map UInt8.ofNat).toArray.size=_;simp
 have d:(⟨(b.map UInt8.ofNat).toArray⟩:ByteArray).size=b.length:=by show (b.map UInt8.ofNat).toArray.size=_;simp
 have c:IntKind.i64.max=9223372036854775807:=rfl
 unfold Op.stringOp
 simp only[e,d]
 rw[bL (by rw[c];omega)]
 simp only[Sem.run_pure]
 congr 2
 apply ByteArray.ext
 rw[ByteArray.data_append]
 simp
theorem MO (g:HR P m h w)(d:fW m h.next){a dst:TypeId}{j:IntKind}(f:P.underlying a=some (.int j))(c:P.underlying dst=some .string){k:IntKind}{n:Int}(e:VR m (.int k n) x)(o:0<=n)(l:n<128):
  aT P m h w (convert a dst x) (.str [n.toNat]) h:=by
 rw[show x= .int k n from e]
 refine aT.still g d (x:= .string ⟨#[UInt8.ofNat n.toNat]⟩) ?_ rfl
 have b:Utf8.valid n=true:=by unfold Utf8.valid;simp;omega
 simp only[convert,Sem.run_bind,run_underlying f,run_underlying c,Result.andThen_ok,Conv.intToString,Sem.run_pure,Utf8.encode,b,if_true]
 rw[bJ om]
theorem Nc (body:Value->ByteArray->Sem (ForInStep ByteArray))(b: ∀n s,body (.int .u8 n) s=pure (.yield (s.push (UInt8.ofNat n.toNat)))): ∀(cs:List Value) (vs:List V) (l:List Nat) (acc:ByteArray),
  gJ m vs cs->pV vs=some l->(forIn cs acc body).run P w= .ok ⟨acc.data++(l.map UInt8.ofNat).toArray⟩ w
 | [], [],l,acc,_,hl=>by
  simp only[pV,Option.some.injEq] at hl;subst hl;simp
 |c::cs,v::vs,l,acc,hv,hl=>by
  cases v<;>try (simp only[pV,reduceCtorEq] at hl;done)
  rename_i k n;cases k<;>try (simp only[pV,reduceCtorEq] at hl;done)
  simp only[pV] at hl;split at hl
  ·simp only[lT] at hl
   obtain⟨d,a,rfl⟩:=hl;rw[show c= .int .u8 n from hv.1,List.forIn_cons,b];simp only[Sem.run_bind,Sem.run_pure,Result.andThen_ok];rw[Nc body b cs vs d _ hv.2 a];congr 2;apply Array.toList_inj.1;simp [ByteArray.push]
  ·cases hl
 | [],_::_,_,_,h,_=>h.elim
 |_::_, [],_,_,h,_=>h.elim
theorem NS (A:HR P m h w)(F:fW m h.next){g dst e:TypeId}(Z:P.underlying g=some (.slice e))(U:P.underlying dst=some .string)(W:P.underlying e=some (.int .u8))
  {u:V}  (G:VR m v x) (f:LG h v=some u):aT P m h w (convert g dst x) u h:=by
 have d: ∀a n c,(convert g dst (.slice a n c)).run P w=(Conv.bytesToString (.slice a n c)).run P w:=by
  intro a n c;simp [convert,run_underlying Z,run_underlying U,run_underlying W]
 unfold LG at f
 split at f
 ·cases f
  obtain rfl:x= .slice none 0 0:=G
  refine aT.still A F (x:= .string .empty) ?_ rfl
  rw[d]
  simp [Conv.bytesToString]
 ·rename_i id K len N
  obtain⟨p,c,O,L,rfl,_,ho,_⟩:=G
  split at f
  ·rename_i r j
   simp only[lT] at f
   obtain⟨l,R,rfl⟩:=f
   have b: ∃xs:List Value,(loadCells ⟨p.1,p.2.1+O,none⟩ len).run P w= .ok xs.toArray w/\gJ m r xs:=by
    obtain⟨p',c',B,fr,q,J,_,z,o,_⟩:=Bt A j;rw[L] at q;cases q
    by_cases Q:len=0
    ·subst Q
     have hy:r= []:=by
      have:=o;simp only[List.take_zero] at this
      cases r with
      |nil=>rfl
      |cons _ _=>exact this.elim
     subst hy;exact⟨[],by simp only[loadCells,loadCellsFrom];rfl,trivial⟩
    ·obtain rfl:=ho om
     exact⟨_,kM J z,o⟩
   obtain⟨xs,b,hv⟩:=b
   refine aT.still A F (x:= .string ⟨(l.map UInt8.ofNat).toArray⟩) ?_ rfl
   rw[d]
   simp only[Conv.bytesToString,Sem.run_bind,b,Result.andThen_ok]
   rw[←Array.forIn_toList]
   rw[Nc (m:=m) _ (λn s=>rfl) xs r l _ hv R]
   simp only[Result.andThen_ok,Sem.run_pure]
   congr 2
   have Y:ByteArray.empty.data= #[]:=rfl
   rw[Y]
   simp only[Array.empty_append]
  ·cases f
 ·cases f
end
end
end Go.Ay
