/- Maps whose keys are strings or rows of numbers; strings of bytes. -/
import Derived.Test.YtapfcpkecmmagaaGreatAy8
import Derived.WideKeyArr
import Derived.StringKeys
namespace Go.Ay
open Go
section
variable {k v:V} {i id:Nat} {x y:Value} {kt t et:TypeId} {es:List (V×V)} {es':List MapEntry}
mutual
theorem tI: ∀(a b:V),dI a b=true->a=b
 | .int ..,b,h=>by cases b<;>simp [dI] at h;simp [h]
 | .bool _,b,h=>by cases b<;>simp [dI] at h;simp [h]
 | .ptr ..,b,h=>by cases b<;>simp [dI] at h;simp [h]
 | .nilp,b,h=>by cases b<;>simp [dI] at h;rfl
 | .sl ..,b,h=>by cases b<;>simp [dI] at h;simp [h]
 | .aB,b,h=>by cases b<;>simp [dI] at h;rfl
 | .emp _,b,h=>by cases b<;>simp [dI] at h;rw[h]
 | .str _,b,h=>by cases b<;>simp [dI] at h;rw[h]
 | .ifc t x,b,h=>by
  cases b<;>simp [dI] at h;rw[h.1,tI x _ h.2]
 | .mp _,b,h=>by cases b<;>simp [dI] at h;simp [h]
 | .nilm,b,h=>by cases b<;>simp [dI] at h;rfl
 | .fn _ a1 a2,b,h=>by
  cases b<;>simp [dI] at h;rw[h.1.1,rK a1 _ h.1.2,rK a2 _ h.2]
 | .yl _,b,h=>by cases b<;>simp [dI] at h;simp [h]
 | .nilf,b,h=>by cases b<;>simp [dI] at h;rfl
 | .agg a,b,h=>by
  cases b<;>simp [dI] at h;rw[rK a _ h]
 | .tup a,b,h=>by
  cases b<;>simp [dI] at h;rw[rK a _ h]
 | .unk,b,h=>by simp [dI] at h
theorem rK: ∀(a b:List V),lV a b=true->a=b
 | [], [],_=>rfl
 |x::a,y::b,h=>by
  simp only[lV,Bool.and_eq_true] at h;rw[tI x y h.1,rK a b h.2]
 | [],_::_,h=>by simp [lV] at h
 |_::_, [],h=>by simp [lV] at h
end
def xE (k:IntKind):V->Bool:=fun| .int j a=>decide (j=k)&&(decide (k.min<=a)&&decide (a<=k.max))|_=>false
theorem lF {k:IntKind}(h:xE k v=true): ∃a,v= .int k a/\(Lit.int k a).wf=true:=by
 cases v<;>simp [xE] at h;rename_i j a;obtain⟨rfl,h1,h2⟩:=h;exact⟨a,rfl,by simp [Lit.wf,h1,h2]⟩
theorem yU {k:IntKind}: ∀{l:List V},l.all (xE k)=true->lV l l=true
 | [],_=>rfl
 |v::l,h=>by
  simp only[List.all_cons,Bool.and_eq_true] at h;obtain⟨a,rfl,_⟩:=lF h.1;simp only[lV,dI,beq_self_eq_true,Bool.true_and];exact yU h.2
theorem Hm {sh:oF}(h:isKey sh k=true):dI k k=true:=by
 cases sh<;>cases k<;>simp only[isKey,Bool.false_eq_true] at h
 ·simp [dI]
 ·rename_i n j vs
  simp only[Bool.and_eq_true] at h;simp only[dI];exact yU (k:=j) h.2
theorem Sy {l:List Nat}{c:Nat}(h:l[i]? =some c):(⟨(l.map UInt8.ofNat).toArray⟩:ByteArray)[i]? =some (UInt8.ofNat c):=by
 obtain⟨hlt,hv⟩:=List.getElem?_eq_some_iff.1 h;have hsz:i<(⟨(l.map UInt8.ofNat).toArray⟩:ByteArray).size:=by show i<(l.map UInt8.ofNat).toArray.size;simpa using hlt
 rw[getElem?_pos _ i hsz];congr 1;show (l.map UInt8.ofNat).toArray[i]=_;simp [hv]
section
variable {P:Program} {m:M} {h:H} {w:World}
theorem eG.ints {k:IntKind}: ∀{l:List V} {xs:List Value},eG m l xs->l.all (xE k)=true-> ∀x∈xs,∃a,x= .int k a/\(Lit.int k a).wf=true
 | [], [],_,_,x,hx=>by simp at hx
 |v::l,y::xs,h,ha,x,hx=>by
  simp only[List.all_cons,Bool.and_eq_true] at ha;rcases List.mem_cons.1 hx with rfl|hx
  ·obtain⟨a,rfl,hw⟩:=lF ha.1
   exact⟨a,h.1,hw⟩
  ·exact eG.ints h.2 ha.2 x hx
 | [],_::_,h,_,_,_=>h.elim
 |_::_, [],h,_,_,_=>h.elim
theorem eG.Zw {k:IntKind}: ∀{l:List V} {xs ys:List Value},l.all (xE k)=true->eG m l xs->eG m l ys->xs=ys
 | [], [], [],_,_,_=>rfl
 |v::l,x::xs,y::ys,ha,h1,h2=>by
  simp only[List.all_cons,Bool.and_eq_true] at ha;obtain⟨a,rfl,_⟩:=lF ha.1;rw[show x= .int k a from h1.1,show y= .int k a from h2.1,eG.Zw ha.2 h1.2 h2.2]
 | [],_::_,_,_,h,_=>h.elim
 | [], [],_::_,_,_,h=>h.elim
 |_::_, [],_,_,h,_=>h.elim
 |_::_,_::_, [],_,_,h=>h.elim
theorem eG.inj {k:IntKind}: ∀{l l':List V} {xs:List Value},l.all (xE k)=true->l'.all (xE k)=true->eG m l xs->eG m l' xs->l=l'
 | [], [], [],_,_,_,_=>rfl
 |v::l,v'::l',x::xs,ha,hb,h1,h2=>by
  simp only[List.all_cons,Bool.and_eq_true] at ha hb;obtain⟨a,rfl,_⟩:=lF ha.1;obtain⟨b,rfl,_⟩:=lF hb.1;have:(Value.int k a)= .int k b:=(show x= .int k a from h1.1).symm.trans h2.1;cases this;rw[eG.inj ha.2 hb.2 h1.2 h2.2]
 | [],_,_::_,_,_,h,_=>h.elim
 |_, [],_::_,_,_,_,h=>h.elim
 |_::_,_, [],_,_,h,_=>h.elim
 |_,_::_, [],_,_,_,h=>h.elim
theorem sU: ∀{l:List Nat},l.all (λn=>decide (n<256))=true->(l.map UInt8.ofNat).map UInt8.toNat=l
 | [],_=>rfl
 |n::l,h=>by
  simp only[List.all_cons,Bool.and_eq_true,decide_eq_true_eq] at h;simp only[List.map_cons,List.cons.injEq];exact⟨by simp [UInt8.toNat_ofNat];omega,sU h.2⟩
theorem Ss {sh:oF}(hk:isKey sh k=true)(hx:VR m k x)(hy:VR m k y):x=y:=by
 cases sh<;>cases k<;>simp only[isKey,Bool.false_eq_true] at hk
 ·rename_i l
  rw[show x= .string ⟨(l.map UInt8.ofNat).toArray⟩ from hx,show y= .string ⟨(l.map UInt8.ofNat).toArray⟩ from hy]
 ·rename_i n j vs
  simp only[Bool.and_eq_true] at hk;obtain⟨xs,rfl,h1⟩:=hx;obtain⟨ys,rfl,h2⟩:=hy;have:xs=ys:=Array.toList_inj.1 (eG.Zw (k:=j) hk.2 h1 h2);rw[this]
theorem key_inj {sh:oF}{k':V}(hk:isKey sh k=true)(hk':isKey sh k'=true)(hx:VR m k x)(hy:VR m k' x):k=k':=by
 cases sh<;>cases k<;>simp only[isKey,Bool.false_eq_true] at hk<;>cases k'<;>simp only[isKey,Bool.false_eq_true] at hk'
 ·rename_i l l'
  simp only[Bool.and_eq_true] at hk hk';have e:Value.string ⟨(l.map UInt8.ofNat).toArray⟩= .string ⟨(l'.map UInt8.ofNat).toArray⟩:=(show x=_ from hx).symm.trans hy;simp only[Value.string.injEq,ByteArray.mk.injEq] at e;have e2:l.map UInt8.ofNat=l'.map UInt8.ofNat:=by simpa using e
  have e3:=congrArg (List.map UInt8.toNat) e2;rw[sU hk.2,sU hk'.2] at e3;rw[e3]
 ·rename_i n j vs vs'
  simp only[Bool.and_eq_true] at hk hk';obtain⟨xs,rfl,h1⟩:=hx;obtain⟨ys,e,h2⟩:=hy;cases e;rw[eG.inj (k:=j) hk.2 hk'.2 h1 h2]
theorem mapM_some {α β:Type}{f:α->Option β}: ∀(l:List α),(∀a∈l,∃b,f a=some b)-> ∃bs,l.mapM f=some bs
 | [],_=>⟨[],rfl⟩
 |a::l,h=>by
  obtain⟨b,hb⟩:=h a (by simp);obtain⟨bs,hbs⟩:=mapM_some l (λc hc=>h c (by simp [hc]));exact⟨b::bs,by rw[List.mapM_cons,hb,hbs];rfl⟩
theorem vE {sh:oF}(hs:vZ P kt=some sh)(hk:isKey sh k=true)(hx:VR m k x):WideMaps.KeyLaw P kt/\ ∃l,keyOf P kt x=some l:=by
 unfold vZ at hs;split at hs
 ·rename_i hu
  cases hs;cases k<;>simp only[isKey,Bool.false_eq_true] at hk;rename_i l;simp only[Bool.and_eq_true,decide_eq_true_eq] at hk;refine⟨WideMaps.string_law hu,.string (l.map UInt8.ofNat).toArray.toList,?_⟩;rw[show x= .string ⟨(l.map UInt8.ofNat).toArray⟩ from hx];refine WideMaps.keyOf_string_mk (s:=⟨(l.map UInt8.ofNat).toArray⟩) hu ?_;show (l.map UInt8.ofNat).toArray.size<=maxLen;have:maxLen=2^63- 1:=rfl;have:=hk.1;simp;omega
 ·rename_i n e hu
  split at hs
  ·rename_i q he
   split at hs
   ·rename_i hc
    cases hs;cases k<;>simp only[isKey,Bool.false_eq_true] at hk;rename_i vs;simp only[Bool.and_eq_true,decide_eq_true_eq] at hk
    have A:WideMaps.ArrKey P kt e n:=⟨hu,by simp [Program.plainKey,he],hc.1,hc.2.1⟩
    have hsz: ∃m,P.types.size=m+1:=⟨P.types.size- 1,by omega⟩
    have hkt:=A.keyType hsz;obtain⟨m0,hm0⟩:=hsz;obtain⟨xs,rfl,h1⟩:=hx;have hlen:xs.size=n:=by have:=eG.length h1;simp at this;omega
    have hints:=eG.ints (k:=q) h1 hk.2
    have hm: ∃bs,(List.range n).mapM (λi=>P.keyLits (m0+1) e ((xs.toList.drop (i*P.cellsOf e)).take (P.cellsOf e)))=some bs:=by
     refine mapM_some _ (λi hi=>?_);have hin:i<n:=by simpa using hi
     rw[hc.1,Nat.mul_one];have hi2:i<xs.toList.length:=by simp;omega
     have e1:(xs.toList.drop i).take 1= [xs.toList[i]]:=by rw[List.drop_eq_getElem_cons hi2];rfl
     rw[e1];obtain⟨a,ha,hw⟩:=hints _ (List.getElem_mem hi2);rw[ha];exact⟨[.int q a],by simp [Program.keyLits,he,hw]⟩
    obtain⟨bs,hbs⟩:=hm;refine⟨A.law,?_⟩;unfold keyOf;simp only[hu];rw[if_pos (by simp [hkt,Value.formed,hu,A.size,hlen]),hm0];unfold Program.keyLits;simp only[hu,Value.cells];rw[if_pos (by rw[A.size];simpa using hlen),hbs];exact⟨_,rfl⟩
   ·cases hs
  ·cases hs
 ·cases hs
theorem qP {k:V}: ∀{es:List (V×V)} {q:Nat×V},dX k es=some q-> ∃k',es[q.1]? =some (k',q.2)/\dI k k'=true
 | [],q,h=>by simp [dX] at h
 |e::es,q,h=>by
  simp only[dX] at h;split at h
  ·rename_i he
   cases h;exact⟨e.1,rfl,he⟩
  ·simp only[gJ] at h
   obtain⟨r,hr,rfl⟩:=h;obtain⟨k',h1,h2⟩:=qP hr;exact⟨k',by simpa using h1,h2⟩
theorem qQ {k:V}: ∀{es:List (V×V)},dX k es=none-> ∀e∈es,dI k e.1=false
 | [],_,e,he=>by simp at he
 |e::es,h,e',he=>by
  simp only[dX] at h;split at h
  ·cases h
  ·rename_i hne
   simp only[Option.map_eq_none_iff] at h;rcases List.mem_cons.1 he with rfl|he
   ·simpa using hne
   ·exact qQ h e' he
structure WR (m:M)(sh:oF)(es:List (V×V))(es':List MapEntry):Prop where
 len:es.length=es'.length
 one: ∀(i j:Nat) (a b:V×V),es[i]? =some a->es[j]? =some b->dI a.1 b.1=true->i=j
 ent: ∀(i:Nat) (k v:V),es[i]? =some (k,v)->isKey sh k=true/\ ∃e:MapEntry,es'[i]? =some e/\e.born=i/\VR m k e.key/\VR m v e.val
theorem WR.keys {sh:oF}(W:WR m sh es es')(hs:vZ P kt=some sh): ∀e∈es',∃l,keyOf P kt e.key=some l:=by
 intro e he;obtain⟨i,hi⟩:=List.mem_iff_getElem?.1 he;have hlt:i<es.length:=by rw[W.len];exact (List.getElem?_eq_some_iff.1 hi).1
 obtain⟨hk,e',h1,_,h3,_⟩:=W.ent i _ _ (eQ hlt);rw[hi] at h1;cases h1;exact (vE hs hk h3).2
theorem pG {sh:oF}(W:WR m sh es es')(hs:vZ P kt=some sh)(hk:isKey sh k=true)(hx:VR m k x):
  (∃i v e,dX k es=some (i,v)/\es[i]? =some (k,v)/\es'[i]? =some e/\e.born=i/\e.key=x/\VR m v e.val/\(Instr.findKey kt x es').run P w= .ok (some (i,e.val)) w)∨
  (dX k es=none/\(∀e∈es,dI k e.1=false)/\(Instr.findKey kt x es').run P w= .ok none w):=by
 obtain⟨K,l,hl⟩:=vE hs hk hx
 have habs: ∀(i:Nat) (k' v:V),es[i]? =some (k',v)->dI k k'=true-> ∃e,es'[i]? =some e/\e.key=x:=by
  intro i k' v hi he;obtain⟨hk',e,h1,_,h3,_⟩:=W.ent i k' v hi;have:=tI _ _ he;subst this;exact⟨e,h1,Ss hk h3 hx⟩
 have hcon: ∀(j:Nat) (e:MapEntry),es'[j]? =some e->e.key=x-> ∃v,es[j]? =some (k,v):=by
  intro j e hj he;have hlt:j<es.length:=by rw[W.len];exact (List.getElem?_eq_some_iff.1 hj).1
  obtain⟨hk',e',h1,_,h3,_⟩:=W.ent j _ _ (eQ hlt);rw[hj] at h1;cases h1;rw[he] at h3;have:=key_inj hk hk' hx h3;exact⟨es[j].2,by rw[eQ hlt,this];rfl⟩
 rcases K.find w hl es' (W.keys hs) with ⟨h1,h2⟩|⟨j,e,h1,h2,h3⟩
 ·refine .inr ?_
  cases hf:dX k es with
  |none=>exact⟨rfl,qQ hf,h1⟩
  |some q=>
   exfalso;obtain⟨k',h4,h5⟩:=qP hf;obtain⟨e,h6,h7⟩:=habs _ _ _ h4 h5;exact h2 e (List.mem_of_getElem? h6) h7
 ·refine .inl ?_
  obtain⟨v,hv⟩:=hcon j e h2 h3
  cases hf:dX k es with
  |none=>exact absurd (Hm hk) (by rw[qQ hf _ (List.mem_of_getElem? hv)];simp)
  |some q=>
   obtain⟨k',h4,h5⟩:=qP hf;have hkk:=tI _ _ h5;subst hkk;have hij:q.1=j:=W.one _ _ _ _ h4 hv h5;obtain⟨i,v'⟩:=q;simp only at hij h4;subst hij;rw[hv] at h4;cases h4;obtain⟨_,e',g1,g2,g3,g4⟩:=W.ent i k v hv;rw[h2] at g1;cases g1;exact⟨i,v,e,rfl,hv,h2,g2,h3,g4,h1⟩
theorem WR.push {sh:oF}(W:WR m sh es es')(hk:isKey sh k=true)(hx:VR m k x)(hy:VR m v y)(hn: ∀e∈es,dI k e.1=false):
  WR m sh (es++ [(k,v)]) (es'++ [{key:=x,val:=y,born:=es'.length}]):=by
 refine⟨by simp [W.len],λi j a b ha hb he=>?_,λi k' v' hi=>?_⟩
 ·have hl: ∀(i:Nat) (a:V×V),(es++ [(k,v)])[i]? =some a->(i<es.length/\es[i]? =some a)∨(i=es.length/\a=(k,v)):=by
   intro i a h
   by_cases hi:i<es.length
   ·exact .inl ⟨hi,by rwa [wY hi] at h⟩
   ·rw[List.getElem?_append_right (by omega)] at h
    by_cases h0:i-es.length=0
    ·rw[h0] at h;simp at h;exact .inr ⟨by omega,h.symm⟩
    ·rw[List.getElem?_eq_none (by simp;omega)] at h;cases h
  rcases hl i a ha with ⟨h1,h2⟩|⟨h1,rfl⟩<;>rcases hl j b hb with ⟨h3,h4⟩|⟨h3,rfl⟩
  ·exact W.one i j a b h2 h4 he
  ·have:=hn a (List.mem_of_getElem? h2)
   have e2:=tI _ _ he;simp only at e2;rw[e2,Hm hk] at this;cases this
  ·have:=hn b (List.mem_of_getElem? h4)
   simp only at he;rw[he] at this;cases this
  ·omega
 ·by_cases hlt:i<es.length
  ·rw[wY hlt] at hi
   obtain⟨g0,e,g1,g2⟩:=W.ent i k' v' hi
   exact⟨g0,e,by rw[wY (by rw[←W.len];exact hlt)];exact g1,g2⟩
  ·rw[List.getElem?_append_right (by omega)] at hi
   by_cases h0:i-es.length=0
   ·rw[h0] at hi;simp at hi
    obtain⟨rfl,rfl⟩:=hi
    have:i=es'.length:=by rw[←W.len];omega
    subst this
    exact⟨hk,{key:=x,val:=y,born:=es'.length},by simp,rfl,hx,hy⟩
   ·rw[List.getElem?_eq_none (by simp;omega)] at hi;cases hi
theorem WR.Ll {sh:oF}(W:WR m sh es es'){v':V}{e:MapEntry}(hi:es[i]? =some (k,v))(he:es'[i]? =some e)(hy:VR m v' y):
  WR m sh (es.set i (k,v')) (es'.set i {e with val:=y}):=by
 have hlt:i<es.length:=(List.getElem?_eq_some_iff.1 hi).1
 have hlt':i<es'.length:=by rw[←W.len];exact hlt
 have hg: ∀(j:Nat) (a:V×V),(es.set i (k,v'))[j]? =some a-> ∃b,es[j]? =some b/\b.1=a.1/\((j=i/\a=(k,v'))∨(j≠i/\b=a)):=by
  intro j a h
  by_cases hj:j=i
  ·subst hj
   rw[List.getElem?_set_self hlt] at h;cases h;exact⟨_,hi,rfl,.inl ⟨rfl,rfl⟩⟩
  ·rw[List.getElem?_set_ne (λe=>hj e.symm)] at h
   exact⟨a,h,rfl,.inr ⟨hj,rfl⟩⟩
 refine⟨by simp [W.len],λp q a b ha hb hab=>?_,λj k1 v1 hj=>?_⟩
 ·obtain⟨a',h1,h2,_⟩:=hg p a ha
  obtain⟨b',h3,h4,_⟩:=hg q b hb
  exact W.one p q a' b' h1 h3 (by rw[h2,h4];exact hab)
 ·obtain⟨b,h1,h2,h3⟩:=hg j _ hj
  rcases h3 with ⟨rfl,h3⟩|⟨hne,rfl⟩
  ·cases h3
   obtain⟨g0,e',g1,g2,g3,_⟩:=W.ent j k v hi
   rw[he] at g1;cases g1
   exact⟨g0,_,List.getElem?_set_self hlt',g2,g3,hy⟩
  ·obtain⟨g0,e',g1,g2⟩:=W.ent j k1 v1 h1
   exact⟨g0,e',by rw[List.getElem?_set_ne (λe=>hne e.symm)];exact g1,g2⟩
theorem oC {α:Type}(f:α->α): ∀(l:List α) (i:Nat) (a:α),l[i]? =some a->l.modify i f=l.set i (f a)
 | [],_,_,h=>by simp at h
 |b::l,0,a,h=>by simp at h;subst h;rfl
 |b::l,i+1,a,h=>by simp at h;simp [List.modify_succ_cons,oC f l i a h]
theorem fS {α:Type}: ∀(l:List α) (i:Nat) (a:α),l[i]? =some a->l.set i a=l
 | [],_,_,h=>by simp at h
 |b::l,0,a,h=>by simp at h;subst h;rfl
 |b::l,i+1,a,h=>by simp at h;simp [fS l i a h]
theorem nE (hr:HR P m h w){sh:oF}{p:Nat×Nat×Nat}(hp:m id=some p)(hg:h.get id=some (.wmap sh es)):
  ∃es':Array MapEntry,w.heap[p.1]? =some (.map es' es'.size)/\WR m sh es es'.toList:=by
 obtain⟨p',hp',h0,es',clock,hb,hlen,hc,hes⟩:=hr.live id _ hg
 rw[hp] at hp';cases hp'
 subst hc
 exact⟨es',hb,by simpa using hlen,h0,λi k v hi=>by simpa using hes i k v hi⟩
theorem Kp (hr:HR P m h w)(hf:eD m h.next){sh:oF}{zu:V}(ht:P.underlying t=some (.map kt et))(hk:vZ P kt=some sh)(hz:gT P et=some zu)
      (hx:VR m (.mp id) x) (hy:VR m k y) (hg:h.get id=some (.wmap sh es)) (hkey:isKey sh k=true) (ok:Bool):
  aS P m h w (Instr.lookup t x y ok) (match dX k es with|some e=>(if ok then .tup [e.2,.bool true] else e.2)|none=>(if ok then .tup [zu,.bool false] else zu)) h:=by
 obtain⟨p,hp,rfl⟩:=hx
 obtain⟨es',hb,W⟩:=nE hr hp hg
 obtain⟨K,l,hl⟩:=vE hk hkey hy
 have hget:(getObj p.1).run P w= .ok (.map es' es'.size) w:=by simp [getObj,Sem.run,hb]
 have hck:=K.check w es'.isEmpty hl
 have hinfo: ∃i z,P.info? et=some i/\i.zero=some z:=by
  unfold gT at hz
  cases hi:P.info? et with
  |none=>simp [hi] at hz
  |some i=>
   cases hzz:i.zero with
   |none=>simp [hi,hzz] at hz
   |some z=>exact⟨i,z,rfl,hzz⟩
 obtain⟨i,z,hi,hz1⟩:=hinfo
 obtain⟨_,_,hvz⟩:=fV m hz hi hz1
 rcases pG (w:=w) W hk hkey hy with ⟨j,v,e,h1,_,_,_,_,hv,hrun⟩|⟨h1,_,hrun⟩
 ·rw[h1]
  cases ok with
  |true=>
   refine aS.still hr hf (x:= .tuple #[e.val,.bool true]) ?_ ⟨_,rfl,hv,rfl,trivial⟩;simp [Instr.lookup,run_underlying ht,hget,hck,hrun]
  |false=>
   refine aS.still hr hf (x:=e.val) ?_ hv;simp [Instr.lookup,run_underlying ht,hget,hck,hrun]
 ·rw[h1]
  cases ok with
  |true=>
   refine aS.still hr hf (x:= .tuple #[z,.bool false]) ?_ ⟨_,rfl,hvz,rfl,trivial⟩;simp [Instr.lookup,run_underlying ht,hget,hck,hrun,zeroValue,typeInfo,hi,hz1]
  |false=>
   refine aS.still hr hf (x:=z) ?_ hvz;simp [Instr.lookup,run_underlying ht,hget,hck,hrun,zeroValue,typeInfo,hi,hz1]
theorem Ot (hr:HR P m h w)(hf:eD m h.next){sh:oF}{es2:List (V×V)}{p:Nat×Nat×Nat}(hp:m id=some p)(hg:h.get id=some (.wmap sh es))
  {es':Array MapEntry} (W:WR m sh es2 es'.toList):(setObj p.1 (.map es' es'.size)).run P w= .ok () (w.putObj p.1 (.map es' es'.size))/\
   eS P m h w m (h.set id (some (.wmap sh es2))) (w.putObj p.1 (.map es' es'.size)):=by
 obtain⟨es0,hb,_⟩:=nE hr hp hg
 have hlt:p.1<w.heap.size:=(Array.getElem?_eq_some_iff.1 hb).1
 refine⟨by simp [setObj,Sem.run,hb,World.putObj],?_⟩
 exact eS.put hr hf hg rfl rfl hp ⟨W.one,es',es'.size,World.putObj_heap_same hlt,by simpa using W.len,rfl,λi k v hi=>by simpa using W.ent i k v hi⟩ rfl rfl rfl (by simp) (λb hb=>World.putObj_heap_other hb)
theorem Kf (hr:HR P m h w)(hf:eD m h.next){sh:oF}(ht:P.underlying t=some (.map kt et))(hk:vZ P kt=some sh)
     {z:Value} (hx:VR m (.mp id) x) (hy:VR m k y) (hz:VR m v z) (hg:h.get id=some (.wmap sh es)) (hkey:isKey sh k=true):
  ∃w',(Instr.mapUpdate t x y z).run P w= .ok () w'/\eS P m h w m (h.set id (some (.wmap sh (match dX k es with|some e=>es.set e.1 (k,v)|none=>es++ [(k,v)])))) w':=by
 obtain⟨p,hp,rfl⟩:=hx
 obtain⟨es',hb,W⟩:=nE hr hp hg
 obtain⟨K,l,hl⟩:=vE hk hkey hy
 have hget:(getObj p.1).run P w= .ok (.map es' es'.size) w:=by simp [getObj,Sem.run,hb]
 have hck:=K.check w false hl
 rcases pG (w:=w) W hk hkey hy with ⟨i,u,e,h1,h2,h3,h4,h5,_,hrun⟩|⟨h1,hn,hrun⟩
 ·rw[h1]
  have h3':es'[i]? =some e:=by simpa using h3
  have fG:=K.stays w hl
  have hmod:(es'.modify i λe=>{e with key:=y,val:=z}).toList=es'.toList.set i {e with val:=z}:=by
   rw[Array.toList_modify,oC _ _ _ _ h3,←h5]
  have W2:WR m sh (es.set i (k,v)) (es'.modify i λe=>{e with key:=y,val:=z}).toList:=by
   rw[hmod];exact W.Ll h2 h3 hz
  obtain⟨g1,g2⟩:=Ot hr hf hp hg W2
  simp only[Array.size_modify] at g1 g2
  refine⟨_,?_,g2⟩
  have hkeyx:(Option.map MapEntry.key es'[i]?).getD y=y:=by rw[h3'];exact h5
  simp only[Instr.mapUpdate,Sem.run_bind,run_underlying ht,Result.andThen_ok,hget,hck,hrun,Sem.run_pure,hkeyx,fG,g1]
 ·rw[h1]
  have W2:WR m sh (es++ [(k,v)]) (es'.push {key:=y,val:=z,born:=es'.size}).toList:=by
   rw[Array.toList_push];have:=W.push hkey hy hz hn;simpa using this
  obtain⟨g1,g2⟩:=Ot hr hf hp hg W2
  simp only[Array.size_push] at g1 g2
  refine⟨_,?_,g2⟩
  simp only[Instr.mapUpdate,Sem.run_bind,run_underlying ht,Result.andThen_ok,hget,hck,hrun,Sem.run_pure,g1]
theorem Ix (hr:HR P m h w)(hf:eD m h.next){sh:oF}{zu:V}(ht:P.underlying t=some (.map kt et))(hk:vZ P kt=some sh)(hz:gT P et=some zu)
      (hx:VR m (.mp id) x) (hy:VR m k y) (hg:h.get id=some (.wmap sh es)) (hkey:isKey sh k=true):
  aS P m h w (Instr.mapEntry t x y) (match dX k es with|some e=> .tup [e.2,.int .i64 (e.1:Nat)]|none=> .tup [zu,.int .i64 es.length])
   (match dX k es with|some _=>h|none=>h.set id (some (.wmap sh (es++ [(k,zu)])))):=by
 obtain⟨p,hp,rfl⟩:=hx
 obtain⟨es',hb,W⟩:=nE hr hp hg
 obtain⟨K,l,hl⟩:=vE hk hkey hy
 have hlt:p.1<w.heap.size:=(Array.getElem?_eq_some_iff.1 hb).1
 have hget:(getObj p.1).run P w= .ok (.map es' es'.size) w:=by simp [getObj,Sem.run,hb]
 have hck:=K.check w false hl
 have hinfo: ∃i z,P.info? et=some i/\i.zero=some z:=by
  unfold gT at hz
  cases hi:P.info? et with
  |none=>simp [hi] at hz
  |some i=>
   cases hzz:i.zero with
   |none=>simp [hi,hzz] at hz
   |some z=>exact⟨i,z,rfl,hzz⟩
 obtain⟨i,z,hi,hz1⟩:=hinfo
 obtain⟨_,_,hvz⟩:=fV m hz hi hz1
 rcases pG (w:=w) W hk hkey hy with ⟨i,u,e,h1,h2,h3,h4,h5,h6,hrun⟩|⟨h1,hn,hrun⟩
 ·rw[h1]
  have h3':es'[i]? =some e:=by simpa using h3
  have fG:=K.stays w hl
  have hmod:(es'.modify i λe=>{e with key:=y})=es':=by
   apply Array.toList_inj.1;rw[Array.toList_modify,oC _ _ _ _ h3,←h5];exact fS _ _ _ h3
  have hkeyx:(Option.map MapEntry.key es'[i]?).getD y=y:=by rw[h3'];exact h5
  have hborn:(Option.map MapEntry.born es'[i]?).getD 0=i:=by rw[h3'];exact h4
  have W1:WR m sh (es.set i (k,u)) es'.toList:=by rw[fS _ _ _ h2];exact W
  obtain⟨g1,g2⟩:=Ot hr hf hp hg W1
  have hsame:w.putObj p.1 (.map es' es'.size)=w:=by
   have:w.heap.setIfInBounds p.1 (.map es' es'.size)=w.heap:=by
    apply Array.ext';simp only[Array.toList_setIfInBounds];exact fS _ _ _ (by simpa using hb)
   unfold World.putObj;rw[this]
  refine aS.still hr hf (x:= .tuple #[e.val,goInt (i:Nat)]) ?_ ⟨_,rfl,h6,rfl,trivial⟩
  simp only[Instr.mapEntry,Sem.run_bind,run_underlying ht,Result.andThen_ok,hget,hck,hrun,Sem.run_pure,hkeyx,fG,hmod,g1,hsame]
  simp [h3',h4]
 ·rw[h1]
  have W2:WR m sh (es++ [(k,zu)]) (es'.push {key:=y,val:=z,born:=es'.size}).toList:=by
   rw[Array.toList_push];have:=W.push hkey hy hvz hn;simpa using this
  obtain⟨g1,g2⟩:=Ot hr hf hp hg W2
  simp only[Array.size_push] at g1 g2
  refine⟨.tuple #[z,goInt (es'.size:Nat)],_,m,?_,⟨_,rfl,hvz,?_,trivial⟩,g2⟩
  ·simp [Instr.mapEntry,run_underlying ht,hget,hck,hrun,zeroValue,typeInfo,hi,hz1,g1]
  ·have:es.length=es'.size:=by simpa using W.len
   rw[this];rfl
theorem wK: ∀(l:List MapEntry) (o i:Nat),(∀(j:Nat) (e:MapEntry),l[j]? =some e->e.born=o+j)->i<l.length->l.findIdx? (λe=>((e.born:Nat):Int)==((o+i:Nat):Int))=some i
 | [],_,_,_,h=>by simp at h
 |a::l,o,0,hb,_=>by
  have:=hb 0 a rfl;simp [List.findIdx?_cons,this]
 |a::l,o,i+1,hb,hl=>by
  have h0:=hb 0 a rfl;have ih:=wK l (o+1) i (λj e hj=>by have:=hb (j+1) e (by simpa using hj);omega) (by simpa using hl)
  have hne:(((a.born:Nat):Int)==((o+(i+1):Nat):Int))=false:=by
   simp only[beq_eq_false_iff_ne,ne_eq,Int.natCast_inj];omega
  rw[List.findIdx?_cons,hne];have e1:o+1+i=o+(i+1):=by omega
  rw[e1] at ih;rw[ih];rfl
theorem Kx (hr:HR P m h w)(hf:eD m h.next){sh:oF}{u:V}{z:Value}(hx:VR m (.mp id) x)(hz:VR m v z)(hg:h.get id=some (.wmap sh es))(hi:es[i]? =some (k,u)):
  ∃w',(Instr.entryStore t x (.int .i64 (i:Nat)) z).run P w= .ok () w'/\eS P m h w m (h.set id (some (.wmap sh (es.set i (k,v))))) w':=by
 obtain⟨p,hp,rfl⟩:=hx
 obtain⟨es',hb,W⟩:=nE hr hp hg
 have hget:(getObj p.1).run P w= .ok (.map es' es'.size) w:=by simp [getObj,Sem.run,hb]
 have hlt:i<es.length:=(List.getElem?_eq_some_iff.1 hi).1
 obtain⟨_,e,g1,_⟩:=W.ent i k u hi
 have hidx:es'.findIdx? (λe=>((e.born:Nat):Int)==((i:Nat):Int))=some i:=by
  have:es'.findIdx? (λe=>((e.born:Nat):Int)==((i:Nat):Int))=es'.toList.findIdx? (λe=>((e.born:Nat):Int)==((i:Nat):Int)):=by
   cases es';simp
  rw[this]
  have:=wK es'.toList 0 i (λj e hj=>by
   have hj2:j<es.length:=by rw[W.len];exact (List.getElem?_eq_some_iff.1 hj).1
   obtain⟨_,e',q1,q2,_⟩:=W.ent j _ _ (eQ hj2)
   rw[hj] at q1;cases q1;omega) (by rw[←W.len];exact hlt)
  simpa using this
 have hmod:(es'.modify i λe=>{e with val:=z}).toList=es'.toList.set i {e with val:=z}:=by
  rw[Array.toList_modify,oC _ _ _ _ g1]
 have W2:WR m sh (es.set i (k,v)) (es'.modify i λe=>{e with val:=z}).toList:=by
  rw[hmod];exact W.Ll hi g1 hz
 obtain⟨q1,q2⟩:=Ot hr hf hp hg W2
 simp only[Array.size_modify] at q1 q2
 refine⟨_,?_,q2⟩
 simp [Instr.entryStore,hget,asInt,asIntOf,hidx,q1]
theorem Ib (a b:List Nat):((⟨(a.map UInt8.ofNat).toArray⟩:ByteArray).toList==(⟨(b.map UInt8.ofNat).toArray⟩:ByteArray).toList)=(a.map (· %256)==b.map (· %256)):=by
 rw[ByteArray.toList_eq,ByteArray.toList_eq];simp only
 have key: ∀(a b:List Nat),(a.map UInt8.ofNat=b.map UInt8.ofNat)↔a.map (· %256)=b.map (· %256):=by
  intro a
  induction a with
  |nil=>intro b;cases b<;>simp
  |cons x a ih=>
   intro b
   cases b with
   |nil=>simp
   |cons y b=>
    simp only[List.map_cons,List.cons.injEq,ih b];constructor
    ·rintro⟨h1,h2⟩
     have:=congrArg UInt8.toNat h1;exact⟨by simpa [UInt8.toNat_ofNat] using this,h2⟩
    ·rintro⟨h1,h2⟩
     exact⟨UInt8.toNat_inj.1 (by simpa [UInt8.toNat_ofNat] using h1),h2⟩
 rw[Bool.eq_iff_iff];simp only[beq_iff_eq];exact key a b
theorem yA (hr:HR P m h w)(hf:eD m h.next){op:BinOp}(ho:op= .eql∨op= .neq){x y:Operand}{a b:List Nat}{u v:Value}(hu:VR m (.str a) u)(hv:VR m (.str b) v){neg:Bool}(hneg:neg=(op matches .neq)):
  aS P m h w (do eqGuard op t x y u v;binOp op t u v) (.bool (if neg then !(a.map (· %256)==b.map (· %256)) else a.map (· %256)==b.map (· %256))) h:=by
 rw[show u= .string ⟨(a.map UInt8.ofNat).toArray⟩ from hu,show v= .string ⟨(b.map UInt8.ofNat).toArray⟩ from hv]
 refine aS.still hr hf (x:= .bool (if neg then !(a.map (· %256)==b.map (· %256)) else a.map (· %256)==b.map (· %256))) ?_ rfl
 have hg:(eqGuard op t x y (.string ⟨(a.map UInt8.ofNat).toArray⟩) (.string ⟨(b.map UInt8.ofNat).toArray⟩)).run P w= .ok () w:=by
  unfold eqGuard;rcases ho with rfl|rfl<;>simp
 have hb:(binOp op t (.string ⟨(a.map UInt8.ofNat).toArray⟩) (.string ⟨(b.map UInt8.ofNat).toArray⟩)).run P w=(Op.stringOp op ⟨(a.map UInt8.ofNat).toArray⟩ ⟨(b.map UInt8.ofNat).toArray⟩).run P w:=by
  rcases ho with rfl|rfl<;>rfl
 simp only[Sem.run_bind,hg,Result.andThen_ok,hb]
 subst hneg
 rcases ho with rfl|rfl
 ·simp only[Op.stringOp,Ib,Sem.run_pure];rfl
 ·simp only[Op.stringOp,Ib,Sem.run_pure];rfl
theorem Ku (hr:HR P m h w)(hf:eD m h.next){x y:Operand}{a b:List Nat}{u v:Value}(hu:VR m (.str a) u)(hv:VR m (.str b) v)(hl:a.length+b.length<2^62):
  aS P m h w (do eqGuard .add t x y u v;binOp .add t u v) (.str (a++b)) h:=by
 rw[show u= .string ⟨(a.map UInt8.ofNat).toArray⟩ from hu,show v= .string ⟨(b.map UInt8.ofNat).toArray⟩ from hv]
 refine aS.still hr hf (x:= .string ⟨((a++b).map UInt8.ofNat).toArray⟩) ?_ rfl
 have hg:(eqGuard .add t x y (.string ⟨(a.map UInt8.ofNat).toArray⟩) (.string ⟨(b.map UInt8.ofNat).toArray⟩)).run P w= .ok () w:=by
  unfold eqGuard;simp
 have hb:(binOp .add t (.string ⟨(a.map UInt8.ofNat).toArray⟩) (.string ⟨(b.map UInt8.ofNat).toArray⟩)).run P w=(Op.stringOp .add ⟨(a.map UInt8.ofNat).toArray⟩ ⟨(b.map UInt8.ofNat).toArray⟩).run P w:=rfl
 simp only[Sem.run_bind,hg,Result.andThen_ok,hb]
 have hs1:(⟨(a.map UInt8.ofNat).toArray⟩:ByteArray).size=a.length:=by show (a.map UInt8.ofNat).toArray.size=_;simp
 have hs2:(⟨(b.map UInt8.ofNat).toArray⟩:ByteArray).size=b.length:=by show (b.map UInt8.ofNat).toArray.size=_;simp
 have hmax:IntKind.i64.max=9223372036854775807:=rfl
 unfold Op.stringOp
 simp only[hs1,hs2]
 rw[if_neg (by rw[hmax];omega)]
 simp only[Sem.run_pure]
 congr 2
 apply ByteArray.ext
 rw[ByteArray.data_append]
 simp
theorem Ik (hr:HR P m h w)(hf:eD m h.next){src dst:TypeId}{j:IntKind}(hs:P.underlying src=some (.int j))(hd:P.underlying dst=some .string){k:IntKind}{n:Int}(hx:VR m (.int k n) x)(h0:0<=n)(h1:n<128):
  aS P m h w (convert src dst x) (.str [n.toNat]) h:=by
 rw[show x= .int k n from hx]
 refine aS.still hr hf (x:= .string ⟨#[UInt8.ofNat n.toNat]⟩) ?_ rfl
 have hv:Utf8.valid n=true:=by unfold Utf8.valid;simp;omega
 simp only[convert,Sem.run_bind,run_underlying hs,run_underlying hd,Result.andThen_ok,Conv.intToString,Sem.run_pure,Utf8.encode,hv,if_true]
 rw[if_pos (by omega)]
theorem vD (body:Value->ByteArray->Sem (ForInStep ByteArray))(hb: ∀n s,body (.int .u8 n) s=pure (.yield (s.push (UInt8.ofNat n.toNat)))): ∀(cs:List Value) (vs:List V) (l:List Nat) (acc:ByteArray),
  eG m vs cs->lP vs=some l->(forIn cs acc body).run P w= .ok ⟨acc.data++(l.map UInt8.ofNat).toArray⟩ w
 | [], [],l,acc,_,hl=>by
  simp only[lP,Option.some.injEq] at hl;subst hl;simp
 |c::cs,v::vs,l,acc,hv,hl=>by
  cases v<;>try (simp only[lP,reduceCtorEq] at hl;done)
  rename_i k n;cases k<;>try (simp only[lP,reduceCtorEq] at hl;done)
  simp only[lP] at hl;split at hl
  ·simp only[gJ] at hl
   obtain⟨l',hl',rfl⟩:=hl;rw[show c= .int .u8 n from hv.1,List.forIn_cons,hb];simp only[Sem.run_bind,Sem.run_pure,Result.andThen_ok];rw[vD body hb cs vs l' _ hv.2 hl'];congr 2;apply Array.toList_inj.1;simp [ByteArray.push]
  ·cases hl
 | [],_::_,_,_,h,_=>h.elim
 |_::_, [],_,_,h,_=>h.elim
theorem Lb (hr:HR P m h w)(hf:eD m h.next){src dst e:TypeId}(hs:P.underlying src=some (.slice e))(hd:P.underlying dst=some .string)(he:P.underlying e=some (.int .u8))
  {u:V}  (hx:VR m v x) (hc:Nl h v=some u):aS P m h w (convert src dst x) u h:=by
 have hconv: ∀a n c,(convert src dst (.slice a n c)).run P w=(Conv.bytesToString (.slice a n c)).run P w:=by
  intro a n c;simp [convert,run_underlying hs,run_underlying hd,run_underlying he]
 unfold Nl at hc
 split at hc
 ·cases hc
  obtain rfl:x= .slice none 0 0:=hx
  refine aS.still hr hf (x:= .string .empty) ?_ rfl
  rw[hconv]
  simp [Conv.bytesToString]
 ·rename_i id off len cap
  obtain⟨p,c,o',hp,rfl,_,ho,_⟩:=hx
  split at hc
  ·rename_i ys hrow
   simp only[gJ] at hc
   obtain⟨l,hl,rfl⟩:=hc
   have hload: ∃xs:List Value,(loadCells ⟨p.1,p.2.1+o',none⟩ len).run P w= .ok xs.toArray w/\eG m ys xs:=by
    obtain⟨p',c',elem,fr,hp',hb,_,hle,hvr,_⟩:=pZ hr hrow;rw[hp] at hp';cases hp'
    by_cases h0:len=0
    ·subst h0
     have hy:ys= []:=by
      have:=hvr;simp only[List.take_zero] at this
      cases ys with
      |nil=>rfl
      |cons _ _=>exact this.elim
     subst hy;exact⟨[],by simp only[loadCells,loadCellsFrom];rfl,trivial⟩
    ·obtain rfl:=ho (by omega)
     exact⟨_,gG hb hle,hvr⟩
   obtain⟨xs,hload,hv⟩:=hload
   refine aS.still hr hf (x:= .string ⟨(l.map UInt8.ofNat).toArray⟩) ?_ rfl
   rw[hconv]
   simp only[Conv.bytesToString,Sem.run_bind,hload,Result.andThen_ok]
   rw[←Array.forIn_toList]
   rw[vD (m:=m) _ (λn s=>rfl) xs ys l _ hv hl]
   simp only[Result.andThen_ok,Sem.run_pure]
   congr 2
   have e0:ByteArray.empty.data= #[]:=rfl
   rw[e0]
   simp only[Array.empty_append]
  ·cases hc
 ·cases hc
end
end
end Go.Ay
