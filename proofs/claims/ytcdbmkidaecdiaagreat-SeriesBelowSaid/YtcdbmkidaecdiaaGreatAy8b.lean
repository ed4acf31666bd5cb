/- Maps whose keys are strings or rows of numbers; strings of bytes. -/
import Derived.Test.YtcdbmkidaecdiaaGreatAy8
import Derived.WideKeyArr
import Derived.StringKeys
namespace Go.Ay
open Go
section
variable {k v:V} {sh:Gn} {x y:Value} {kt t:TypeId} {es:List (V×V)} {es':List MapEntry} {id:Nat}
mutual
theorem Jq: ∀(a b:V),dI a b=true->a=b
 | .int ..,b,h=>by cases b<;>simp [dI] at h;simp [h]
 | .bool _,b,h=>by cases b<;>simp [dI] at h;simp [h]
 | .ptr ..,b,h=>by cases b<;>simp [dI] at h;simp [h]
 | .nilp,b,h=>by cases b<;>simp [dI] at h;rfl
 | .sl ..,b,h=>by cases b<;>simp [dI] at h;simp [h]
 | .aD,b,h=>by cases b<;>simp [dI] at h;rfl
 | .emp _,b,h=>by cases b<;>simp [dI] at h;rw[h]
 | .str _,b,h=>by cases b<;>simp [dI] at h;rw[h]
 | .ifc t x,b,h=>by
  cases b<;>simp [dI] at h;rw[h.1,Jq x _ h.2]
 | .mp _,b,h=>by cases b<;>simp [dI] at h;simp [h]
 | .nilm,b,h=>by cases b<;>simp [dI] at h;rfl
 | .fn _ a1 a2,b,h=>by
  cases b<;>simp [dI] at h;rw[h.1.1,Gt a1 _ h.1.2,Gt a2 _ h.2]
 | .yl _,b,h=>by cases b<;>simp [dI] at h;simp [h]
 | .nilf,b,h=>by cases b<;>simp [dI] at h;rfl
 | .agg a,b,h=>by
  cases b<;>simp [dI] at h;rw[Gt a _ h]
 | .tup a,b,h=>by
  cases b<;>simp [dI] at h;rw[Gt a _ h]
 | .unk,b,h=>by simp [dI] at h
theorem Gt: ∀(a b:List V),tG a b=true->a=b
 | [], [],_=>rfl
 |x::a,y::b,h=>by
  simp only[tG,sE] at h;rw[Jq x y h.1,Gt a b h.2]
 | [],_::_,h=>by simp [tG] at h
 |_::_, [],h=>by simp [tG] at h
end
def Np (k:IntKind):V->Bool:=fun| .int j a=>decide (j=k)&&(decide (k.min<=a)&&decide (a<=k.max))|_=>false
theorem vC {k:IntKind}(h:Np k v=true): ∃a,v= .int k a/\(Lit.int k a).wf=true:=by
 cases v<;>simp [Np] at h;rename_i j a;obtain⟨rfl,b,c⟩:=h;exact⟨a,rfl,by simp [Lit.wf,b,c]⟩
theorem Sx {k:IntKind}: ∀{l:List V},l.all (Np k)=true->tG l l=true
 | [],_=>rfl
 |v::l,h=>by
  simp only[List.all_cons,sE] at h;obtain⟨a,rfl,_⟩:=vC h.1;simp only[tG,dI,beq_self_eq_true,Bool.true_and];exact Sx h.2
theorem GN (h:isKey sh k=true):dI k k=true:=by
 cases sh<;>cases k<;>simp only[isKey,Bool.false_eq_true] at h
 ·simp [dI]
 ·rename_i n j a
  simp only[sE] at h;simp only[dI];exact Sx (k:=j) h.2
theorem aeB {l:List Nat}{i c:Nat}(h:l[i]? =some c):(⟨(l.map UInt8.ofNat).toArray⟩:ByteArray)[i]? =some (UInt8.ofNat c):=by
 obtain⟨b,d⟩:=vJ.1 h;have a:i<(⟨(l.map UInt8.ofNat).toArray⟩:ByteArray).size:=by show i<(l.map UInt8.ofNat).toArray.size;simpa using b
 rw[getElem?_pos _ i a];congr 1;show (l.map UInt8.ofNat).toArray[i]=_;simp [d]
section
variable {P:Program} {m:M} {h:H} {w:World}
theorem iR.ints {k:IntKind}: ∀{l:List V} {xs:List Value},iR m l xs->l.all (Np k)=true-> ∀x∈xs,∃a,x= .int k a/\(Lit.int k a).wf=true
 | [], [],_,_,x,b=>by simp at b
 |v::l,y::xs,h,ha,x,b=>by
  simp only[List.all_cons,sE] at ha;rcases vI.1 b with rfl|b
  ·obtain⟨a,rfl,c⟩:=vC ha.1
   exact⟨a,h.1,c⟩
  ·exact iR.ints h.2 ha.2 x b
 | [],_::_,h,_,_,_=>h.elim
 |_::_, [],h,_,_,_=>h.elim
theorem iR.det {k:IntKind}: ∀{l:List V} {xs ys:List Value},l.all (Np k)=true->iR m l xs->iR m l ys->xs=ys
 | [], [], [],_,_,_=>rfl
 |v::l,x::xs,y::ys,ha,h1,h2=>by
  simp only[List.all_cons,sE] at ha;obtain⟨a,rfl,_⟩:=vC ha.1;rw[show x= .int k a from h1.1,show y= .int k a from h2.1,iR.det ha.2 h1.2 h2.2]
 | [],_::_,_,_,h,_=>h.elim
 | [], [],_::_,_,_,h=>h.elim
 |_::_, [],_,_,h,_=>h.elim
 |_::_,_::_, [],_,_,h=>h.elim
theorem iR.inj {k:IntKind}: ∀{l l':List V} {xs:List Value},l.all (Np k)=true->l'.all (Np k)=true->iR m l xs->iR m l' xs->l=l'
 | [], [], [],_,_,_,_=>rfl
 |v::l,v'::l',x::xs,ha,hb,h1,h2=>by
  simp only[List.all_cons,sE] at ha hb;obtain⟨a,rfl,_⟩:=vC ha.1;obtain⟨b,rfl,_⟩:=vC hb.1;have:(Value.int k a)= .int k b:=(show x= .int k a from h1.1).symm.trans h2.1;cases this;rw[iR.inj ha.2 hb.2 h1.2 h2.2]
 | [],_,_::_,_,_,h,_=>h.elim
 |_, [],_::_,_,_,_,h=>h.elim
 |_::_,_, [],_,_,h,_=>h.elim
 |_,_::_, [],_,_,_,h=>h.elim
theorem Kx: ∀{l:List Nat},l.all (λn=>decide (n<256))=true->(l.map UInt8.ofNat).map UInt8.toNat=l
 | [],_=>rfl
 |n::l,h=>by
  simp only[List.all_cons,sE,decide_eq_true_eq] at h;simp only[List.map_cons,List.cons.injEq];exact⟨by simp [UInt8.toNat_ofNat];omega,Kx h.2⟩
theorem aaM (a:isKey sh k=true)(b:VR m k x)(c:VR m k y):x=y:=by
 cases sh<;>cases k<;>simp only[isKey,Bool.false_eq_true] at a
 ·rename_i l
  rw[show x= .string ⟨(l.map UInt8.ofNat).toArray⟩ from b,show y= .string ⟨(l.map UInt8.ofNat).toArray⟩ from c]
 ·rename_i n j o
  simp only[sE] at a;obtain⟨xs,rfl,d⟩:=b;obtain⟨i,rfl,f⟩:=c;have:xs=i:=Array.toList_inj.1 (iR.det (k:=j) a.2 d f);rw[this]
theorem key_inj {c:V}(b:isKey sh k=true)(a:isKey sh c=true)(f:VR m k x)(o:VR m c x):k=c:=by
 cases sh<;>cases k<;>simp only[isKey,Bool.false_eq_true] at b<;>cases c<;>simp only[isKey,Bool.false_eq_true] at a
 ·rename_i l d
  simp only[sE] at b a;have e:Value.string ⟨(l.map UInt8.ofNat).toArray⟩= .string ⟨(d.map UInt8.ofNat).toArray⟩:=(show x=_ from f).symm.trans o;simp only[Value.string.injEq,ByteArray.mk.injEq] at e;have s:l.map UInt8.ofNat=d.map UInt8.ofNat:=by simpa using e
  have i:=congrArg (List.map UInt8.toNat) s;rw[Kx b.2,Kx a.2] at i;rw[i]
 ·rename_i n j z r
  simp only[sE] at b a;obtain⟨xs,rfl,p⟩:=f;obtain⟨u,e,q⟩:=o;cases e;rw[iR.inj (k:=j) b.2 a.2 p q]
theorem mapM_some {α β:Type}{f:α->Option β}: ∀(l:List α),(∀a∈l,∃b,f a=some b)-> ∃bs,l.mapM f=some bs
 | [],_=>⟨[],rfl⟩
 |a::l,h=>by
  obtain⟨b,j⟩:=h a (by simp);obtain⟨bs,d⟩:=mapM_some l (λc i=>h c (by simp [i]));exact⟨b::bs,by rw[List.mapM_cons,j,d];rfl⟩
theorem Vd (b:Uw P kt=some sh)(j:isKey sh k=true)(J:VR m k x):WideMaps.KeyLaw P kt/\ ∃l,keyOf P kt x=some l:=by
 unfold Uw at b;split at b
 ·rename_i d
  cases b;cases k<;>simp only[isKey,Bool.false_eq_true] at j;rename_i l;simp only[sE,decide_eq_true_eq] at j;refine⟨WideMaps.string_law d,.string (l.map UInt8.ofNat).toArray.toList,?_⟩;rw[show x= .string ⟨(l.map UInt8.ofNat).toArray⟩ from J];refine WideMaps.keyOf_string_mk (s:=⟨(l.map UInt8.ofNat).toArray⟩) d ?_;show (l.map UInt8.ofNat).toArray.size<=maxLen;have:maxLen=2^63- 1:=rfl;have:=j.1;simp;omega
 ·rename_i n e d
  split at b
  ·rename_i q G
   split at b
   ·rename_i B
    cases b;cases k<;>simp only[isKey,Bool.false_eq_true] at j;rename_i W;simp only[sE,decide_eq_true_eq] at j
    have A:WideMaps.ArrKey P kt e n:=⟨d,by simp [Program.plainKey,G],B.1,B.2.1⟩
    have p: ∃m,P.types.size=m+1:=⟨P.types.size- 1,om⟩
    have u:=A.keyType p;obtain⟨N,z⟩:=p;obtain⟨xs,rfl,F⟩:=J;have c:xs.size=n:=by have:=iR.length F;simp at this;omega
    have f:=iR.ints (k:=q) F j.2
    have R: ∃K,(List.range n).mapM (λi=>P.keyLits (N+1) e ((xs.toList.drop (i*P.cellsOf e)).take (P.cellsOf e)))=some K:=by
     refine mapM_some _ (λi hi=>?_);have L:i<n:=by simpa using hi
     rw[B.1,tW];have o:i<xs.toList.length:=by simp;omega
     have U:(xs.toList.drop i).take 1= [xs.toList[i]]:=by rw[Zh o];rfl
     rw[U];obtain⟨a,O,Q⟩:=f _ (xG o);rw[O];exact⟨[.int q a],by simp [Program.keyLits,G,Q]⟩
    obtain⟨K,r⟩:=R;refine⟨A.law,?_⟩;unfold keyOf;simp only[d];rw[bJ (by simp [u,Value.formed,d,A.size,c]),z];unfold Program.keyLits;simp only[d,Value.cells];rw[bJ (by rw[A.size];simpa using c),r];exact⟨_,rfl⟩
   ·cases b
  ·cases b
 ·cases b
theorem Ex {k:V}: ∀{es:List (V×V)} {q:Nat×V},iN k es=some q-> ∃k',es[q.1]? =some (k',q.2)/\dI k k'=true
 | [],q,h=>by simp [iN] at h
 |e::es,q,h=>by
  simp only[iN] at h;split at h
  ·rename_i c
   cases h;exact⟨e.1,rfl,c⟩
  ·simp only[oU] at h
   obtain⟨r,b,rfl⟩:=h;obtain⟨k',a,d⟩:=Ex b;exact⟨k',by simpa using a,d⟩
theorem Fg {k:V}: ∀{es:List (V×V)},iN k es=none-> ∀e∈es,dI k e.1=false
 | [],_,e,a=>by simp at a
 |e::es,h,e',a=>by
  simp only[iN] at h;split at h
  ·cases h
  ·rename_i b
   simp only[Option.map_eq_none_iff] at h;rcases vI.1 a with rfl|a
   ·simpa using b
   ·exact Fg h e' a
structure WR (m:M)(sh:Gn)(es:List (V×V))(es':List MapEntry):Prop where
 len:es.length=es'.length
 one: ∀(i j:Nat) (a b:V×V),es[i]? =some a->es[j]? =some b->dI a.1 b.1=true->i=j
 ent: ∀(i:Nat) (k v:V),es[i]? =some (k,v)->isKey sh k=true/\ ∃e:MapEntry,es'[i]? =some e/\e.born=i/\VR m k e.key/\VR m v e.val
theorem WR.keys (W:WR m sh es es')(c:Uw P kt=some sh): ∀e∈es',∃l,keyOf P kt e.key=some l:=by
 intro e f;obtain⟨i,hi⟩:=List.mem_iff_getElem?.1 f;have a:i<es.length:=by rw[W.len];exact (vJ.1 hi).1
 obtain⟨d,n,b,_,j,_⟩:=W.ent i _ _ (dD a);rw[hi] at b;cases b;exact (Vd c d j).2
theorem Mc (W:WR m sh es es')(J:Uw P kt=some sh)(z:isKey sh k=true)(G:VR m k x):
  (∃i v e,iN k es=some (i,v)/\es[i]? =some (k,v)/\es'[i]? =some e/\e.born=i/\e.key=x/\VR m v e.val/\(Instr.findKey kt x es').run P w= .ok (some (i,e.val)) w)∨
  (iN k es=none/\(∀e∈es,dI k e.1=false)/\(Instr.findKey kt x es').run P w= .ok none w):=by
 obtain⟨K,l,R⟩:=Vd J z G
 have f: ∀(i:Nat) (d v:V),es[i]? =some (d,v)->dI k d=true-> ∃e,es'[i]? =some e/\e.key=x:=by
  intro i d v hi F;obtain⟨n,e,a,_,b,_⟩:=W.ent i d v hi;have:=Jq _ _ F;subst this;exact⟨e,a,aaM z b G⟩
 have o: ∀(j:Nat) (e:MapEntry),es'[j]? =some e->e.key=x-> ∃v,es[j]? =some (k,v):=by
  intro j e L F;have p:j<es.length:=by rw[W.len];exact (vJ.1 L).1
  obtain⟨n,O,a,_,b,_⟩:=W.ent j _ _ (dD p);rw[L] at a;cases a;rw[F] at b;have:=key_inj z n G b;exact⟨es[j].2,by rw[dD p,this];rfl⟩
 rcases K.find w R es' (W.keys J) with ⟨a,r⟩|⟨j,e,a,r,b⟩
 ·refine .inr ?_
  cases hf:iN k es with
  |none=>exact⟨rfl,Fg hf,a⟩
  |some q=>
   exfalso;obtain⟨d,c,A⟩:=Ex hf;obtain⟨e,Q,U⟩:=f _ _ _ c A;exact r e (Xu Q) U
 ·refine .inl ?_
  obtain⟨v,u⟩:=o j e r b
  cases hf:iN k es with
  |none=>exact absurd (GN z) (by rw[Fg hf _ (Xu u)];simp)
  |some q=>
   obtain⟨d,c,A⟩:=Ex hf;have B:=Jq _ _ A;subst B;have s:q.1=j:=W.one _ _ _ _ c u A;obtain⟨i,v'⟩:=q;simp only at s c;subst s;rw[u] at c;cases c;obtain⟨_,O,N,Z,g3,Y⟩:=W.ent i k v u;rw[r] at N;cases N;exact⟨i,v,e,rfl,u,r,Z,b,Y,a⟩
theorem WR.push (W:WR m sh es es')(l:isKey sh k=true)(A:VR m k x)(J:VR m v y)(p: ∀e∈es,dI k e.1=false):
  WR m sh (es++ [(k,v)]) (es'++ [{key:=x,val:=y,born:=es'.length}]):=by
 refine⟨by simp [W.len],λi j a b B z d=>?_,λi G F hi=>?_⟩
 ·have o: ∀(i:Nat) (a:V×V),(es++ [(k,v)])[i]? =some a->(i<es.length/\es[i]? =some a)∨(i=es.length/\a=(k,v)):=by
   intro i a h
   by_cases hi:i<es.length
   ·exact .inl ⟨hi,by rwa [Dt hi] at h⟩
   ·rw[Jg om] at h
    by_cases f:i-es.length=0
    ·rw[f] at h;simp at h;exact .inr ⟨om,h.symm⟩
    ·rw[List.getElem?_eq_none (by simp;omega)] at h;cases h
  rcases o i a B with ⟨s,q⟩|⟨s,rfl⟩<;>rcases o j b z with ⟨L,n⟩|⟨L,rfl⟩
  ·exact W.one i j a b q n d
  ·have:=p a (Xu q)
   have r:=Jq _ _ d;simp only at r;rw[r,GN l] at this;cases this
  ·have:=p b (Xu n)
   simp only at d;rw[d] at this;cases this
  ·omega
 ·by_cases c:i<es.length
  ·rw[Dt c] at hi
   obtain⟨K,e,u,N⟩:=W.ent i G F hi
   exact⟨K,e,by rw[Dt (by rw[←W.len];exact c)];exact u,N⟩
  ·rw[Jg om] at hi
   by_cases f:i-es.length=0
   ·rw[f] at hi;simp at hi
    obtain⟨rfl,rfl⟩:=hi
    have:i=es'.length:=by rw[←W.len];omega
    subst this
    exact⟨l,{key:=x,val:=y,born:=es'.length},by simp,rfl,A,J⟩
   ·rw[List.getElem?_eq_none (by simp;omega)] at hi;cases hi
theorem WR.aiA (W:WR m sh es es'){i:Nat}{o:V}{e:MapEntry}(hi:es[i]? =some (k,v))(K:es'[i]? =some e)(Y:VR m o y):
  WR m sh (es.set i (k,o)) (es'.set i {e with val:=y}):=by
 have d:i<es.length:=(vJ.1 hi).1
 have c:i<es'.length:=by rw[←W.len];exact d
 have z: ∀(j:Nat) (a:V×V),(es.set i (k,o))[j]? =some a-> ∃b,es[j]? =some b/\b.1=a.1/\((j=i/\a=(k,o))∨(j≠i/\b=a)):=by
  intro j a h
  by_cases f:j=i
  ·subst f
   rw[List.getElem?_set_self d] at h;cases h;exact⟨_,hi,rfl,.inl ⟨rfl,rfl⟩⟩
  ·rw[List.getElem?_set_ne (λe=>f e.symm)] at h
   exact⟨a,h,rfl,.inr ⟨f,rfl⟩⟩
 refine⟨by simp [W.len],λp q a b R O s=>?_,λj J L f=>?_⟩
 ·obtain⟨U,r,F,_⟩:=z p a R
  obtain⟨Z,l,N,_⟩:=z q b O
  exact W.one p q U Z r l (by rw[F,N];exact s)
 ·obtain⟨b,r,F,l⟩:=z j _ f
  rcases l with ⟨rfl,l⟩|⟨u,rfl⟩
  ·cases l
   obtain⟨A,G,n,B,Q,_⟩:=W.ent j k v hi
   rw[K] at n;cases n
   exact⟨A,_,List.getElem?_set_self c,B,Q,Y⟩
  ·obtain⟨A,G,n,B⟩:=W.ent j J L r
   exact⟨A,G,by rw[List.getElem?_set_ne (λe=>u e.symm)];exact n,B⟩
theorem Qm {α:Type}(f:α->α): ∀(l:List α) (i:Nat) (a:α),l[i]? =some a->l.modify i f=l.set i (f a)
 | [],_,_,h=>by simp at h
 |b::l,0,a,h=>by simp at h;subst h;rfl
 |b::l,i+1,a,h=>by simp at h;simp [List.modify_succ_cons,Qm f l i a h]
theorem pJ {α:Type}: ∀(l:List α) (i:Nat) (a:α),l[i]? =some a->l.set i a=l
 | [],_,_,h=>by simp at h
 |b::l,0,a,h=>by simp at h;subst h;rfl
 |b::l,i+1,a,h=>by simp at h;simp [pJ l i a h]
theorem Kv (f:HR P m h w){p:Nat×Nat×Nat}(n:m id=some p)(l:h.get id=some (.wmap sh es)):
  ∃es':Array MapEntry,w.heap[p.1]? =some (.map es' es'.size)/\WR m sh es es'.toList:=by
 obtain⟨r,b,q,es',d,o,a,j,c⟩:=f.live id _ l
 rw[n] at b;cases b
 subst j
 exact⟨es',o,by simpa using a,q,λi k v hi=>by simpa using c i k v hi⟩
theorem OG (o:HR P m h w)(s:iY m h.next){r:TypeId}{F:V}(u:P.underlying t=some (.map kt r))(G:Uw P kt=some sh)(A:sY P r=some F)
      (R:VR m (.mp id) x) (J:VR m k y) (U:h.get id=some (.wmap sh es)) (d:isKey sh k=true) (ok:Bool):
  bD P m h w (Instr.lookup t x y ok) (match iN k es with|some e=>(if ok then .tup [e.2,.bool true] else e.2)|none=>(if ok then .tup [F,.bool false] else F)) h:=by
 obtain⟨p,N,rfl⟩:=R
 obtain⟨es',O,W⟩:=Kv o N U
 obtain⟨K,l,Q⟩:=Vd G d J
 have b:(getObj p.1).run P w= .ok (.map es' es'.size) w:=by simp [getObj,Sem.run,O]
 have c:=K.check w es'.isEmpty Q
 have n: ∃i z,P.info? r=some i/\i.zero=some z:=by
  unfold sY at A
  cases hi:P.info? r with
  |none=>simp [hi] at A
  |some i=>
   cases hzz:i.zero with
   |none=>simp [hi,hzz] at A
   |some z=>exact⟨i,z,rfl,hzz⟩
 obtain⟨i,z,hi,f⟩:=n
 obtain⟨_,_,q⟩:=qY m A hi f
 rcases Mc (w:=w) W G d J with ⟨j,v,e,B,_,_,_,_,L,a⟩|⟨B,_,a⟩
 ·rw[B]
  cases ok with
  |true=>
   refine bD.still o s (x:= .tuple #[e.val,.bool true]) ?_ ⟨_,rfl,L,rfl,trivial⟩;simp [Instr.lookup,run_underlying u,b,c,a]
  |false=>
   refine bD.still o s (x:=e.val) ?_ L;simp [Instr.lookup,run_underlying u,b,c,a]
 ·rw[B]
  cases ok with
  |true=>
   refine bD.still o s (x:= .tuple #[z,.bool false]) ?_ ⟨_,rfl,q,rfl,trivial⟩;simp [Instr.lookup,run_underlying u,b,c,a,zeroValue,typeInfo,hi,f]
  |false=>
   refine bD.still o s (x:=z) ?_ q;simp [Instr.lookup,run_underlying u,b,c,a,zeroValue,typeInfo,hi,f]
theorem aiX (f:HR P m h w)(o:iY m h.next){a:List (V×V)}{p:Nat×Nat×Nat}(l:m id=some p)(j:h.get id=some (.wmap sh es))
  {es':Array MapEntry} (W:WR m sh a es'.toList):(setObj p.1 (.map es' es'.size)).run P w= .ok () (w.putObj p.1 (.map es' es'.size))/\
   jR P m h w m (h.set id (some (.wmap sh a))) (w.putObj p.1 (.map es' es'.size)):=by
 obtain⟨n,c,_⟩:=Kv f l j
 have d:p.1<w.heap.size:=(HF.1 c).1
 refine⟨by simp [setObj,Sem.run,c,World.putObj],?_⟩
 exact jR.put f o j rfl rfl l ⟨W.one,es',es'.size,World.putObj_heap_same d,by simpa using W.len,rfl,λi k v hi=>by simpa using W.ent i k v hi⟩ rfl rfl rfl (by simp) (λb c=>World.putObj_heap_other c)
theorem JL (F:HR P m h w)(N:iY m h.next){Z:TypeId}(L:P.underlying t=some (.map kt Z))(O:Uw P kt=some sh)
     {z:Value} (hx:VR m (.mp id) x) (G:VR m k y) (R:VR m v z) (A:h.get id=some (.wmap sh es)) (a:isKey sh k=true):
  ∃w',(Instr.mapUpdate t x y z).run P w= .ok () w'/\jR P m h w m (h.set id (some (.wmap sh (match iN k es with|some e=>es.set e.1 (k,v)|none=>es++ [(k,v)])))) w':=by
 obtain⟨p,s,rfl⟩:=hx
 obtain⟨es',Y,W⟩:=Kv F s A
 obtain⟨K,l,Q⟩:=Vd O a G
 have c:(getObj p.1).run P w= .ok (.map es' es'.size) w:=by simp [getObj,Sem.run,Y]
 have f:=K.check w false Q
 rcases Mc (w:=w) W O a G with ⟨i,u,e,q,h2,J,h4,U,_,b⟩|⟨q,hn,b⟩
 ·rw[q]
  have B:es'[i]? =some e:=by simpa using J
  have jI:=K.stays w Q
  have n:(es'.modify i λe=>{e with key:=y,val:=z}).toList=es'.toList.set i {e with val:=z}:=by
   rw[Array.toList_modify,Qm _ _ _ _ J,←U]
  have r:WR m sh (es.set i (k,v)) (es'.modify i λe=>{e with key:=y,val:=z}).toList:=by
   rw[n];exact W.aiA h2 J R
  obtain⟨j,o⟩:=aiX F N s A r
  simp only[Array.size_modify] at j o
  refine⟨_,?_,o⟩
  have d:(Option.map MapEntry.key es'[i]?).getD y=y:=by rw[B];exact U
  simp only[Instr.mapUpdate,Sem.run_bind,run_underlying L,Result.andThen_ok,c,f,b,Sem.run_pure,d,jI,j]
 ·rw[q]
  have r:WR m sh (es++ [(k,v)]) (es'.push {key:=y,val:=z,born:=es'.size}).toList:=by
   rw[Array.toList_push];have:=W.push a G R hn;simpa using this
  obtain⟨j,o⟩:=aiX F N s A r
  simp only[Array.size_push] at j o
  refine⟨_,?_,o⟩
  simp only[Instr.mapUpdate,Sem.run_bind,run_underlying L,Result.andThen_ok,c,f,b,Sem.run_pure,j]
theorem IV (a b:List Nat):((⟨(a.map UInt8.ofNat).toArray⟩:ByteArray).toList==(⟨(b.map UInt8.ofNat).toArray⟩:ByteArray).toList)=(a.map (· %256)==b.map (· %256)):=by
 rw[ByteArray.toList_eq,ByteArray.toList_eq];simp only
 have c: ∀(a b:List Nat),(a.map UInt8.ofNat=b.map UInt8.ofNat)↔a.map (· %256)=b.map (· %256):=by
  intro a
  induction a with
  |nil=>intro b;cases b<;>simp
  |cons x a ih=>
   intro b
   cases b with
   |nil=>simp
   |cons y b=>
    simp only[List.map_cons,List.cons.injEq,ih b];constructor
    ·rintro⟨h1,h2⟩
     have:=congrArg UInt8.toNat h1;exact⟨by simpa [UInt8.toNat_ofNat] using this,h2⟩
    ·rintro⟨h1,h2⟩
     exact⟨UInt8.toNat_inj.1 (by simpa [UInt8.toNat_ofNat] using h1),h2⟩
 rw[DW];simp only[beq_iff_eq];exact c a b
theorem Tw (f:HR P m h w)(n:iY m h.next){op:BinOp}(d:op= .eql∨op= .neq){x y:Operand}{a b:List Nat}{u v:Value}(o:VR m (.str a) u)(i:VR m (.str b) v){neg:Bool}(c:neg=(op matches .neq)):
  bD P m h w (do eqGuard op t x y u v;binOp op t u v) (.bool (if neg then !(a.map (· %256)==b.map (· %256)) else a.map (· %256)==b.map (· %256))) h:=by
 rw[show u= .string ⟨(a.map UInt8.ofNat).toArray⟩ from o,show v= .string ⟨(b.map UInt8.ofNat).toArray⟩ from i]
 refine bD.still f n (x:= .bool (if neg then !(a.map (· %256)==b.map (· %256)) else a.map (· %256)==b.map (· %256))) ?_ rfl
 have j:(eqGuard op t x y (.string ⟨(a.map UInt8.ofNat).toArray⟩) (.string ⟨(b.map UInt8.ofNat).toArray⟩)).run P w= .ok () w:=by
  unfold eqGuard;rcases d with rfl|rfl<;>simp
 have l:(binOp op t (.string ⟨(a.map UInt8.ofNat).toArray⟩) (.string ⟨(b.map UInt8.ofNat).toArray⟩)).run P w=(Op.stringOp op ⟨(a.map UInt8.ofNat).toArray⟩ ⟨(b.map UInt8.ofNat).toArray⟩).run P w:=by
  rcases d with rfl|rfl<;>rfl
 simp only[Sem.run_bind,j,Result.andThen_ok,l]
 subst c
 rcases d with rfl|rfl
 ·simp only[Op.stringOp,IV,Sem.run_pure];rfl
 ·simp only[Op.stringOp,IV,Sem.run_pure];rfl
theorem NW (i:HR P m h w)(j:iY m h.next){x y:Operand}{a b:List Nat}{u v:Value}(p:VR m (.str a) u)(o:VR m (.str b) v)(q:a.length+b.length<2^62):
  bD P m h w (do eqGuard .add t x y u v;binOp .add t u v) (.str (a++b)) h:=by
 rw[show u= .string ⟨(a.map UInt8.ofNat).toArray⟩ from p,show v= .string ⟨(b.map UInt8.ofNat).toArray⟩ from o]
 refine bD.still i j (x:= .string ⟨((a++b).map UInt8.ofNat).toArray⟩) ?_ rfl
 have l:(eqGuard .add t x y (.string ⟨(a.map UInt8.ofNat).toArray⟩) (.string ⟨(b.map UInt8.ofNat).toArray⟩)).run P w= .ok () w:=by
  unfold eqGuard;simp
 have n:(binOp .add t (.string ⟨(a.map UInt8.ofNat).toArray⟩) (.string ⟨(b.map UInt8.ofNat).toArray⟩)).run P w=(Op.stringOp .add ⟨(a.map UInt8.ofNat).toArray⟩ ⟨(b.map UInt8.ofNat).toArray⟩).run P w:=rfl
 simp only[Sem.run_bind,l,Result.andThen_ok,n]
 have d:(⟨(a.map UInt8.ofNat).toArray⟩:ByteArray).size=a.length:=by show (a.map UInt8.ofNat).toArray.size=_;simp
 have f:(⟨(b.map UInt8.ofNat).toArray⟩:ByteArray).size=b.length:=by show (b.map UInt8.ofNat).toArray.size=_;simp
 have c:IntKind.i64.max=9223372036854775807:=rfl
 unfold Op.stringOp
 simp only[d,f]
 rw[bU (by rw[c];omega)]
 simp only[Sem.run_pure]
 congr 2
 apply ByteArray.ext
 rw[ByteArray.data_append]
 simp
theorem NR (i:HR P m h w)(l:iY m h.next){a b:TypeId}{j:IntKind}(f:P.underlying a=some (.int j))(c:P.underlying b=some .string){k:IntKind}{n:Int}(d:VR m (.int k n) x)(q:0<=n)(p:n<128):
  bD P m h w (convert a b x) (.str [n.toNat]) h:=by
 rw[show x= .int k n from d]
 refine bD.still i l (x:= .string ⟨#[UInt8.ofNat n.toNat]⟩) ?_ rfl
 have o:Utf8.valid n=true:=by unfold Utf8.valid;simp;omega
 simp only[convert,Sem.run_bind,run_underlying f,run_underlying c,Result.andThen_ok,Conv.intToString,Sem.run_pure,Utf8.encode,o,if_true]
 rw[bJ om]
theorem Og (body:Value->ByteArray->Sem (ForInStep ByteArray))(b: ∀n s,body (.int .u8 n) s=pure (.yield (s.push (UInt8.ofNat n.toNat)))): ∀(cs:List Value) (vs:List V) (l:List Nat) (acc:ByteArray),
  iR m vs cs->qL vs=some l->(forIn cs acc body).run P w= .ok ⟨acc.data++(l.map UInt8.ofNat).toArray⟩ w
 | [], [],l,acc,_,hl=>by
  simp only[qL,Option.some.injEq] at hl;subst hl;simp
 |c::cs,v::vs,l,acc,hv,hl=>by
  cases v<;>try (simp only[qL,reduceCtorEq] at hl;done)
  rename_i k n;cases k<;>try (simp only[qL,reduceCtorEq] at hl;done)
  simp only[qL] at hl;split at hl
  ·simp only[oU] at hl
   obtain⟨d,a,rfl⟩:=hl;rw[show c= .int .u8 n from hv.1,List.forIn_cons,b];simp only[Sem.run_bind,Sem.run_pure,Result.andThen_ok];rw[Og body b cs vs d _ hv.2 a];congr 2;apply Array.toList_inj.1;simp [ByteArray.push]
  ·cases hl
 | [],_::_,_,_,h,_=>h.elim
 |_::_, [],_,_,h,_=>h.elim
theorem JX (B:HR P m h w)(G:iY m h.next){i j e:TypeId}(R:P.underlying i=some (.slice e))(Y:P.underlying j=some .string)(L:P.underlying e=some (.int .u8))
  {u:V}  (J:VR m v x) (f:LL h v=some u):bD P m h w (convert i j x) u h:=by
 have d: ∀a n c,(convert i j (.slice a n c)).run P w=(Conv.bytesToString (.slice a n c)).run P w:=by
  intro a n c;simp [convert,run_underlying R,run_underlying Y,run_underlying L]
 unfold LL at f
 split at f
 ·cases f
  obtain rfl:x= .slice none 0 0:=J
  refine bD.still B G (x:= .string .empty) ?_ rfl
  rw[d]
  simp [Conv.bytesToString]
 ·rename_i id K len W
  obtain⟨p,c,Z,N,rfl,_,O,_⟩:=J
  split at f
  ·rename_i z r
   simp only[oU] at f
   obtain⟨l,hl,rfl⟩:=f
   have b: ∃xs:List Value,(loadCells ⟨p.1,p.2.1+Z,none⟩ len).run P w= .ok xs.toArray w/\iR m z xs:=by
    obtain⟨p',c',F,fr,o,Q,_,A,q,_⟩:=Cv B r;rw[N] at o;cases o
    by_cases h0:len=0
    ·subst h0
     have hy:z= []:=by
      have:=q;simp only[List.take_zero] at this
      cases z with
      |nil=>rfl
      |cons _ _=>exact this.elim
     subst hy;exact⟨[],by simp only[loadCells,loadCellsFrom];rfl,trivial⟩
    ·obtain rfl:=O om
     exact⟨_,lU Q A,q⟩
   obtain⟨xs,b,hv⟩:=b
   refine bD.still B G (x:= .string ⟨(l.map UInt8.ofNat).toArray⟩) ?_ rfl
   rw[d]
   simp only[Conv.bytesToString,Sem.run_bind,b,Result.andThen_ok]
   rw[←Array.forIn_toList]
   rw[Og (m:=m) _ (λn s=>rfl) xs z l _ hv hl]
   simp only[Result.andThen_ok,Sem.run_pure]
   congr 2
   have U:ByteArray.empty.data= #[]:=rfl
   rw[U]
   simp only[Array.empty_append]
  ·cases f
 ·cases f
end
end
end Go.Ay
