/- Maps whose keys are strings or rows of numbers; strings of bytes. -/
import Derived.Test.YtcdbmkidaecdiaaGreatAy8
import Derived.WideKeyArr
import Derived.StringKeys
namespace Go.Ay
open Go
section
variable {k v:V} {sh:Gn} {x y:Value} {kt t:TypeId} {es:List (V×V)} {es':List MapEntry} {id:Nat}
mutual
theorem Jq: ∀(a b:V),dI a b=true->a=b
 | .int ..,b,h=>by cases b<;>simp [dI] at h;simp [h]
 | .bool _,b,h=>by cases b<;>simp [dI] at h;simp [h]
 | .ptr ..,b,h=>by cases b<;>simp [dI] at h;simp [h]
 | .nilp,b,h=>by cases b<;>simp [dI] at h;rfl
 | .sl ..,b,h=>by cases b<;>simp [dI] at h;simp [h]
 | .aD,b,h=>by cases b<;>simp [dI] at h;rfl
 | .emp _,b,h=>by cases b<;>simp [dI] at h;rw[h]
 | .str _,b,h=>by cases b<;>simp [dI] at h;rw[h]
 | .ifc t x,b,h=>by
  cases b<;>simp [dI] at h;rw[h.1,Jq x _ h.2]
 | .mp _,b,h=>by cases b<;>simp [dI] at h;simp [h]
 | .nilm,b,h=>by cases b<;>simp [dI] at h;rfl
 | .fn _ a1 a2,b,h=>by
  cases b<;>simp [dI] at h;rw[h.1.1,Gt a1 _ h.1.2,Gt a2 _ h.2]
 | .yl _,b,h=>by cases b<;>simp [dI] at h;simp [h]
 | .nilf,b,h=>by cases b<;>simp [dI] at h;rfl
 | .agg a,b,h=>by
  cases b<;>simp [dI] at h;rw[Gt a _ h]
 | .tup a,b,h=>by
  cases b<;>simp [dI] at h;rw[Gt a _ h]
 | .unk,b,h=>by simp [dI] at h
theorem Gt: ∀(a b:List V),tG a b=true->a=b
 | [], [],_=>rfl
 |x::a,y::b,h=>by
  simp only[tG,sE] at h;rw[Jq x y h.1,Gt a b h.2]
 | [],_::_,h=>by simp [tG] at h
 |_::_, [],h=>by simp [tG] at h
end
def Np (k:IntKind):V->Bool:=fun| .int j a=>decide (j=k)&&(decide (k.min<=a)&&decide (a<=k.max))|_=>false
theorem vC {k:IntKind}(h:Np k v=true): ∃a,v= .int k a/\(Lit.int k a).wf=true:=by
 cases v<;>simp [Np] at h;rename_i j a;obtain⟨rfl,b,c⟩:=h;exact⟨a,rfl,by simp [Lit.wf,b,c]⟩
theorem Sx {k:IntKind}: ∀{l:List V},l.all (Np k)=true->tG l l=true
 | [],_=>rfl
 |v::l,h=>by
  simp only[List.all_cons,sE] at h;obtain⟨a,rfl,_⟩:=vC h.1;simp only[tG,dI,beq_self_eq_true,Bool.true_and];exact Sx h.2
theorem GN (h:isKey sh k=true):dI k k=true:=by
 cases sh<;>cases k<;>simp only[isKey,Bool.false_eq_true] at h
 ·simp [dI]
 ·rename_i n j a
  simp only[sE] at h;simp only[dI];exact Sx (k:=j) h.2
theorem aeB {l:List Nat}{i c:Nat}(h:l[i]? =some c):(⟨(l.map UInt8.ofNat).toArray⟩:ByteArray)[i]? =some (UInt8.ofNat c):=by
 obtain⟨a,d⟩:=vJ.1 h;have b:i<(⟨(l.map UInt8.ofNat).toArray⟩:ByteArray).size:=by show i<(l.map UInt8.ofNat).toArray.size;simpa using a
 rw[getElem?_pos _ i b];congr 1;show (l.map UInt8.ofNat).toArray[i]=_;simp [d]
section
variable {P:Program} {m:M} {h:H} {w:World}
theorem iR.ints {k:IntKind}: ∀{l:List V} {xs:List Value},iR m l xs->l.all (Np k)=true-> ∀x∈xs,∃a,x= .int k a/\(Lit.int k a).wf=true
 | [], [],_,_,x,b=>by simp at b
 |v::l,y::xs,h,ha,x,b=>by
  simp only[List.all_cons,sE] at ha;rcases vI.1 b with rfl|b
  ·obtain⟨a,rfl,c⟩:=vC ha.1
   exact⟨a,h.1,c⟩
  ·exact iR.ints h.2 ha.2 x b
 | [],_::_,h,_,_,_=>h.elim
 |_::_, [],h,_,_,_=>h.elim
theorem iR.det {k:IntKind}: ∀{l:List V} {xs ys:List Value},l.all (Np k)=true->iR m l xs->iR m l ys->xs=ys
 | [], [], [],_,_,_=>rfl
 |v::l,x::xs,y::ys,ha,h1,h2=>by
  simp only[List.all_cons,sE] at ha;obtain⟨a,rfl,_⟩:=vC ha.1;rw[show x= .int k a from h1.1,show y= .int k a from h2.1,iR.det ha.2 h1.2 h2.2]
 | [],_::_,_,_,h,_=>h.elim
 | [], [],_::_,_,_,h=>h.elim
 |_::_, [],_,_,h,_=>h.elim
 |_::_,_::_, [],_,_,h=>h.elim
theorem iR.inj {k:IntKind}: ∀{l l':List V} {xs:List Value},l.all (Np k)=true->l'.all (Np k)=true->iR m l xs->iR m l' xs->l=l'
 | [], [], [],_,_,_,_=>rfl
 |v::l,v'::l',x::xs,ha,hb,h1,h2=>by
  simp only[List.all_cons,sE] at ha hb;obtain⟨a,rfl,_⟩:=vC ha.1;obtain⟨b,rfl,_⟩:=vC hb.1;have:(Value.int k a)= .int k b:=(show x= .int k a from h1.1).symm.trans h2.1;cases this;rw[iR.inj ha.2 hb.2 h1.2 h2.2]
 | [],_,_::_,_,_,h,_=>h.elim
 |_, [],_::_,_,_,_,h=>h.elim
 |_::_,_, [],_,_,h,_=>h.elim
 |_,_::_, [],_,_,_,h=>h.elim
theorem Kx: ∀{l:List Nat},l.all (λn=>decide (n<256))=true->(l.map UInt8.ofNat).map UInt8.toNat=l
 | [],_=>rfl
 |n::l,h=>by
  simp only[List.all_cons,sE,decide_eq_true_eq] at h;simp only[List.map_cons,List.cons.injEq];exact⟨by simp [UInt8.toNat_ofNat];omega,Kx h.2⟩
theorem aaM (a:isKey sh k=true)(c:VR m k x)(b:VR m k y):x=y:=by
 cases sh<;>cases k<;>simp only[isKey,Bool.false_eq_true] at a
 ·rename_i l
  rw[show x= .string ⟨(l.map UInt8.ofNat).toArray⟩ from c,show y= .string ⟨(l.map UInt8.ofNat).toArray⟩ from b]
 ·rename_i n j g
  simp only[sE] at a;obtain⟨xs,rfl,d⟩:=c;obtain⟨f,rfl,e⟩:=b;have:xs=f:=Array.toList_inj.1 (iR.det (k:=j) a.2 d e);rw[this]
theorem key_inj {c:V}(b:isKey sh k=true)(a:isKey sh c=true)(f:VR m k x)(i:VR m c x):k=c:=by
 cases sh<;>cases k<;>simp only[isKey,Bool.false_eq_true] at b<;>cases c<;>simp only[isKey,Bool.false_eq_true] at a
 ·rename_i l d
  simp only[sE] at b a;have e:Value.string ⟨(l.map UInt8.ofNat).toArray⟩= .string ⟨(d.map UInt8.ofNat).toArray⟩:=(show x=_ from f).symm.trans i;simp only[Value.string.injEq,ByteArray.mk.injEq] at e;have q:l.map UInt8.ofNat=d.map UInt8.ofNat:=by simpa using e
  have g:=congrArg (List.map UInt8.toNat) q;rw[Kx b.2,Kx a.2] at g;rw[g]
 ·rename_i n j u r
  simp only[sE] at b a;obtain⟨xs,rfl,o⟩:=f;obtain⟨s,e,p⟩:=i;cases e;rw[iR.inj (k:=j) b.2 a.2 o p]
theorem mapM_some {α β:Type}{f:α->Option β}: ∀(l:List α),(∀a∈l,∃b,f a=some b)-> ∃bs,l.mapM f=some bs
 | [],_=>⟨[],rfl⟩
 |a::l,h=>by
  obtain⟨b,g⟩:=h a (by simp);obtain⟨bs,d⟩:=mapM_some l (λc e=>h c (by simp [e]));exact⟨b::bs,by rw[List.mapM_cons,g,d];rfl⟩
theorem Vd (b:Uw P kt=some sh)(g:isKey sh k=true)(G:VR m k x):WideMaps.KeyLaw P kt/\ ∃l,keyOf P kt x=some l:=by
 unfold Uw at b;split at b
 ·rename_i f
  cases b;cases k<;>simp only[isKey,Bool.false_eq_true] at g;rename_i l;simp only[sE,decide_eq_true_eq] at g;refine⟨WideMaps.string_law f,.string (l.map UInt8.ofNat).toArray.toList,?_⟩;rw[show x= .string ⟨(l.map UInt8.ofNat).toArray⟩ from G];refine WideMaps.keyOf_string_mk (s:=⟨(l.map UInt8.ofNat).toArray⟩) f ?_;show (l.map UInt8.ofNat).toArray.size<=maxLen;have:maxLen=2^63- 1:=rfl;have:=g.1;simp;omega
 ·rename_i n e f
  split at b
  ·rename_i q J
   split at b
   ·rename_i z
    cases b;cases k<;>simp only[isKey,Bool.false_eq_true] at g;rename_i U;simp only[sE,decide_eq_true_eq] at g
    have A:WideMaps.ArrKey P kt e n:=⟨f,by simp [Program.plainKey,J],z.1,z.2.1⟩
    have o: ∃m,P.types.size=m+1:=⟨P.types.size- 1,om⟩
    have r:=A.keyType o;obtain⟨N,u⟩:=o;obtain⟨xs,rfl,B⟩:=G;have c:xs.size=n:=by have:=iR.length B;simp at this;omega
    have d:=iR.ints (k:=q) B g.2
    have R: ∃F,(List.range n).mapM (λi=>P.keyLits (N+1) e ((xs.toList.drop (i*P.cellsOf e)).take (P.cellsOf e)))=some F:=by
     refine mapM_some _ (λi hi=>?_);have K:i<n:=by simpa using hi
     rw[z.1,tW];have j:i<xs.toList.length:=by simp;omega
     have Q:(xs.toList.drop i).take 1= [xs.toList[i]]:=by rw[Zh j];rfl
     rw[Q];obtain⟨a,O,L⟩:=d _ (xG j);rw[O];exact⟨[.int q a],by simp [Program.keyLits,J,L]⟩
    obtain⟨F,p⟩:=R;refine⟨A.law,?_⟩;unfold keyOf;simp only[f];rw[bJ (by simp [r,Value.formed,f,A.size,c]),u];unfold Program.keyLits;simp only[f,Value.cells];rw[bJ (by rw[A.size];simpa using c),p];exact⟨_,rfl⟩
   ·cases b
  ·cases b
 ·cases b
theorem Ex {k:V}: ∀{es:List (V×V)} {q:Nat×V},iN k es=some q-> ∃k',es[q.1]? =some (k',q.2)/\dI k k'=true
 | [],q,h=>by simp [iN] at h
 |e::es,q,h=>by
  simp only[iN] at h;split at h
  ·rename_i a
   cases h;exact⟨e.1,rfl,a⟩
  ·simp only[oU] at h
   obtain⟨r,d,rfl⟩:=h;obtain⟨k',b,c⟩:=Ex d;exact⟨k',by simpa using b,c⟩
theorem Fg {k:V}: ∀{es:List (V×V)},iN k es=none-> ∀e∈es,dI k e.1=false
 | [],_,e,a=>by simp at a
 |e::es,h,e',a=>by
  simp only[iN] at h;split at h
  ·cases h
  ·rename_i b
   simp only[Option.map_eq_none_iff] at h;rcases vI.1 a with rfl|a
   ·simpa using b
   ·exact Fg h e' a
structure WR (m:M)(sh:Gn)(es:List (V×V))(es':List MapEntry):Prop where
 len:es.length=es'.length
 one: ∀(i j:Nat) (a b:V×V),es[i]? =some a->es[j]? =some b->dI a.1 b.1=true->i=j
 ent: ∀(i:Nat) (k v:V),es[i]? =some (k,v)->isKey sh k=true/\ ∃e:MapEntry,es'[i]? =some e/\e.born=i/\VR m k e.key/\VR m v e.val
theorem WR.keys (W:WR m sh es es')(g:Uw P kt=some sh): ∀e∈es',∃l,keyOf P kt e.key=some l:=by
 intro e d;obtain⟨i,hi⟩:=List.mem_iff_getElem?.1 d;have a:i<es.length:=by rw[W.len];exact (vJ.1 hi).1
 obtain⟨f,j,b,_,c,_⟩:=W.ent i _ _ (dD a);rw[hi] at b;cases b;exact (Vd g f c).2
theorem Mc (W:WR m sh es es')(J:Uw P kt=some sh)(z:isKey sh k=true)(A:VR m k x):
  (∃i v e,iN k es=some (i,v)/\es[i]? =some (k,v)/\es'[i]? =some e/\e.born=i/\e.key=x/\VR m v e.val/\(Instr.findKey kt x es').run P w= .ok (some (i,e.val)) w)∨
  (iN k es=none/\(∀e∈es,dI k e.1=false)/\(Instr.findKey kt x es').run P w= .ok none w):=by
 obtain⟨K,l,U⟩:=Vd J z A
 have o: ∀(i:Nat) (d v:V),es[i]? =some (d,v)->dI k d=true-> ∃e,es'[i]? =some e/\e.key=x:=by
  intro i d v hi B;obtain⟨s,e,a,_,b,_⟩:=W.ent i d v hi;have:=Jq _ _ B;subst this;exact⟨e,a,aaM z b A⟩
 have r: ∀(j:Nat) (e:MapEntry),es'[j]? =some e->e.key=x-> ∃v,es[j]? =some (k,v):=by
  intro j e L B;have p:j<es.length:=by rw[W.len];exact (vJ.1 L).1
  obtain⟨s,O,a,_,b,_⟩:=W.ent j _ _ (dD p);rw[L] at a;cases a;rw[B] at b;have:=key_inj z s A b;exact⟨es[j].2,by rw[dD p,this];rfl⟩
 rcases K.find w U es' (W.keys J) with ⟨a,f⟩|⟨j,e,a,f,b⟩
 ·refine .inr ?_
  cases hf:iN k es with
  |none=>exact⟨rfl,Fg hf,a⟩
  |some q=>
   exfalso;obtain⟨d,c,u⟩:=Ex hf;obtain⟨e,Y,Q⟩:=o _ _ _ c u;exact f e (Xu Y) Q
 ·refine .inl ?_
  obtain⟨v,n⟩:=r j e f b
  cases hf:iN k es with
  |none=>exact absurd (GN z) (by rw[Fg hf _ (Xu n)];simp)
  |some q=>
   obtain⟨d,c,u⟩:=Ex hf;have F:=Jq _ _ u;subst F;have g:q.1=j:=W.one _ _ _ _ c n u;obtain⟨i,v'⟩:=q;simp only at g c;subst g;rw[n] at c;cases c;obtain⟨_,O,G,R,Z,N⟩:=W.ent i k v n;rw[f] at G;cases G;exact⟨i,v,e,rfl,n,f,R,b,N,a⟩
theorem WR.push (W:WR m sh es es')(l:isKey sh k=true)(A:VR m k x)(K:VR m v y)(o: ∀e∈es,dI k e.1=false):
  WR m sh (es++ [(k,v)]) (es'++ [{key:=x,val:=y,born:=es'.length}]):=by
 refine⟨by simp [W.len],λi j a b F J d=>?_,λi L B hi=>?_⟩
 ·have p: ∀(i:Nat) (a:V×V),(es++ [(k,v)])[i]? =some a->(i<es.length/\es[i]? =some a)∨(i=es.length/\a=(k,v)):=by
   intro i a h
   by_cases hi:i<es.length
   ·exact .inl ⟨hi,by rwa [Dt hi] at h⟩
   ·rw[Jg om] at h
    by_cases f:i-es.length=0
    ·rw[f] at h;simp at h;exact .inr ⟨om,h.symm⟩
    ·rw[List.getElem?_eq_none (by simp;omega)] at h;cases h
  rcases p i a F with ⟨s,g⟩|⟨s,rfl⟩<;>rcases p j b J with ⟨u,q⟩|⟨u,rfl⟩
  ·exact W.one i j a b g q d
  ·have:=o a (Xu g)
   have n:=Jq _ _ d;simp only at n;rw[n,GN l] at this;cases this
  ·have:=o b (Xu q)
   simp only at d;rw[d] at this;cases this
  ·omega
 ·by_cases c:i<es.length
  ·rw[Dt c] at hi
   obtain⟨r,e,z,G⟩:=W.ent i L B hi
   exact⟨r,e,by rw[Dt (by rw[←W.len];exact c)];exact z,G⟩
  ·rw[Jg om] at hi
   by_cases f:i-es.length=0
   ·rw[f] at hi;simp at hi
    obtain⟨rfl,rfl⟩:=hi
    have:i=es'.length:=by rw[←W.len];omega
    subst this
    exact⟨l,{key:=x,val:=y,born:=es'.length},by simp,rfl,A,K⟩
   ·rw[List.getElem?_eq_none (by simp;omega)] at hi;cases hi
theorem WR.aiA (W:WR m sh es es'){i:Nat}{n:V}{e:MapEntry}(hi:es[i]? =some (k,v))(K:es'[i]? =some e)(R:VR m n y):
  WR m sh (es.set i (k,n)) (es'.set i {e with val:=y}):=by
 have d:i<es.length:=(vJ.1 hi).1
 have g:i<es'.length:=by rw[←W.len];exact d
 have s: ∀(j:Nat) (a:V×V),(es.set i (k,n))[j]? =some a-> ∃b,es[j]? =some b/\b.1=a.1/\((j=i/\a=(k,n))∨(j≠i/\b=a)):=by
  intro j a h
  by_cases f:j=i
  ·subst f
   rw[List.getElem?_set_self d] at h;cases h;exact⟨_,hi,rfl,.inl ⟨rfl,rfl⟩⟩
  ·rw[List.getElem?_set_ne (λe=>f e.symm)] at h
   exact⟨a,h,rfl,.inr ⟨f,rfl⟩⟩
 refine⟨by simp [W.len],λp q a b L O u=>?_,λj J N f=>?_⟩
 ·obtain⟨G,o,B,_⟩:=s p a L
  obtain⟨Q,c,Y,_⟩:=s q b O
  exact W.one p q G Q o c (by rw[B,Y];exact u)
 ·obtain⟨b,o,B,c⟩:=s j _ f
  rcases c with ⟨rfl,c⟩|⟨z,rfl⟩
  ·cases c
   obtain⟨r,F,l,A,U,_⟩:=W.ent j k v hi
   rw[K] at l;cases l
   exact⟨r,_,List.getElem?_set_self g,A,U,R⟩
  ·obtain⟨r,F,l,A⟩:=W.ent j J N o
   exact⟨r,F,by rw[List.getElem?_set_ne (λe=>z e.symm)];exact l,A⟩
theorem Qm {α:Type}(f:α->α): ∀(l:List α) (i:Nat) (a:α),l[i]? =some a->l.modify i f=l.set i (f a)
 | [],_,_,h=>by simp at h
 |b::l,0,a,h=>by simp at h;subst h;rfl
 |b::l,i+1,a,h=>by simp at h;simp [List.modify_succ_cons,Qm f l i a h]
theorem pJ {α:Type}: ∀(l:List α) (i:Nat) (a:α),l[i]? =some a->l.set i a=l
 | [],_,_,h=>by simp at h
 |b::l,0,a,h=>by simp at h;subst h;rfl
 |b::l,i+1,a,h=>by simp at h;simp [pJ l i a h]
theorem Kv (f:HR P m h w){p:Nat×Nat×Nat}(e:m id=some p)(n:h.get id=some (.wmap sh es)):
  ∃es':Array MapEntry,w.heap[p.1]? =some (.map es' es'.size)/\WR m sh es es'.toList:=by
 obtain⟨o,a,g,es',c,j,b,l,d⟩:=f.live id _ n
 rw[e] at a;cases a
 subst l
 exact⟨es',j,by simpa using b,g,λi k v hi=>by simpa using d i k v hi⟩
theorem OG (n:HR P m h w)(r:iY m h.next){q:TypeId}{B:V}(s:P.underlying t=some (.map kt q))(F:Uw P kt=some sh)(u:sY P q=some B)
      (O:VR m (.mp id) x) (J:VR m k y) (N:h.get id=some (.wmap sh es)) (d:isKey sh k=true) (ok:Bool):
  bD P m h w (Instr.lookup t x y ok) (match iN k es with|some e=>(if ok then .tup [e.2,.bool true] else e.2)|none=>(if ok then .tup [B,.bool false] else B)) h:=by
 obtain⟨p,L,rfl⟩:=O
 obtain⟨es',R,W⟩:=Kv n L N
 obtain⟨K,l,Q⟩:=Vd F d J
 have b:(getObj p.1).run P w= .ok (.map es' es'.size) w:=by simp [getObj,Sem.run,R]
 have c:=K.check w es'.isEmpty Q
 have f: ∃i z,P.info? q=some i/\i.zero=some z:=by
  unfold sY at u
  cases hi:P.info? q with
  |none=>simp [hi] at u
  |some i=>
   cases hzz:i.zero with
   |none=>simp [hi,hzz] at u
   |some z=>exact⟨i,z,rfl,hzz⟩
 obtain⟨i,z,hi,g⟩:=f
 obtain⟨_,_,o⟩:=qY m u hi g
 rcases Mc (w:=w) W F d J with ⟨j,v,e,A,_,_,_,_,G,a⟩|⟨A,_,a⟩
 ·rw[A]
  cases ok with
  |true=>
   refine bD.still n r (x:= .tuple #[e.val,.bool true]) ?_ ⟨_,rfl,G,rfl,trivial⟩;simp [Instr.lookup,run_underlying s,b,c,a]
  |false=>
   refine bD.still n r (x:=e.val) ?_ G;simp [Instr.lookup,run_underlying s,b,c,a]
 ·rw[A]
  cases ok with
  |true=>
   refine bD.still n r (x:= .tuple #[z,.bool false]) ?_ ⟨_,rfl,o,rfl,trivial⟩;simp [Instr.lookup,run_underlying s,b,c,a,zeroValue,typeInfo,hi,g]
  |false=>
   refine bD.still n r (x:=z) ?_ o;simp [Instr.lookup,run_underlying s,b,c,a,zeroValue,typeInfo,hi,g]
theorem aiX (f:HR P m h w)(l:iY m h.next){a:List (V×V)}{p:Nat×Nat×Nat}(e:m id=some p)(g:h.get id=some (.wmap sh es))
  {es':Array MapEntry} (W:WR m sh a es'.toList):(setObj p.1 (.map es' es'.size)).run P w= .ok () (w.putObj p.1 (.map es' es'.size))/\
   jR P m h w m (h.set id (some (.wmap sh a))) (w.putObj p.1 (.map es' es'.size)):=by
 obtain⟨j,c,_⟩:=Kv f e g
 have d:p.1<w.heap.size:=(HF.1 c).1
 refine⟨by simp [setObj,Sem.run,c,World.putObj],?_⟩
 exact jR.put f l g rfl rfl e ⟨W.one,es',es'.size,World.putObj_heap_same d,by simpa using W.len,rfl,λi k v hi=>by simpa using W.ent i k v hi⟩ rfl rfl rfl (by simp) (λb c=>World.putObj_heap_other c)
theorem JL (s:HR P m h w)(J:iY m h.next){Y:TypeId}(O:P.underlying t=some (.map kt Y))(N:Uw P kt=some sh)
     {z:Value} (Z:VR m (.mp id) x) (A:VR m k y) (R:VR m v z) (F:h.get id=some (.wmap sh es)) (b:isKey sh k=true):
  ∃w',(Instr.mapUpdate t x y z).run P w= .ok () w'/\jR P m h w m (h.set id (some (.wmap sh (match iN k es with|some e=>es.set e.1 (k,v)|none=>es++ [(k,v)])))) w':=by
 obtain⟨p,q,rfl⟩:=Z
 obtain⟨es',hb,W⟩:=Kv s q F
 obtain⟨K,l,Q⟩:=Vd N b A
 have c:(getObj p.1).run P w= .ok (.map es' es'.size) w:=by simp [getObj,Sem.run,hb]
 have j:=K.check w false Q
 rcases Mc (w:=w) W N b A with ⟨i,u,e,o,U,r,h4,L,_,a⟩|⟨o,hn,a⟩
 ·rw[o]
  have G:es'[i]? =some e:=by simpa using r
  have jI:=K.stays w Q
  have g:(es'.modify i λe=>{e with key:=y,val:=z}).toList=es'.toList.set i {e with val:=z}:=by
   rw[Array.toList_modify,Qm _ _ _ _ r,←L]
  have B:WR m sh (es.set i (k,v)) (es'.modify i λe=>{e with key:=y,val:=z}).toList:=by
   rw[g];exact W.aiA U r R
  obtain⟨f,n⟩:=aiX s J q F B
  simp only[Array.size_modify] at f n
  refine⟨_,?_,n⟩
  have d:(Option.map MapEntry.key es'[i]?).getD y=y:=by rw[G];exact L
  simp only[Instr.mapUpdate,Sem.run_bind,run_underlying O,Result.andThen_ok,c,j,a,Sem.run_pure,d,jI,f]
 ·rw[o]
  have B:WR m sh (es++ [(k,v)]) (es'.push {key:=y,val:=z,born:=es'.size}).toList:=by
   rw[Array.toList_push];have:=W.push b A R hn;simpa using this
  obtain⟨f,n⟩:=aiX s J q F B
  simp only[Array.size_push] at f n
  refine⟨_,?_,n⟩
  simp only[Instr.mapUpdate,Sem.run_bind,run_underlying O,Result.andThen_ok,c,j,a,Sem.run_pure,f]
theorem IV (a b:List Nat):((⟨(a.map UInt8.ofNat).toArray⟩:ByteArray).toList==(⟨(b.map UInt8.ofNat).toArray⟩:ByteArray).toList)=(a.map (· %256)==b.map (· %256)):=by
 rw[ByteArray.toList_eq,ByteArray.toList_eq];simp only
 have c: ∀(a b:List Nat),(a.map UInt8.ofNat=b.map UInt8.ofNat)↔a.map (· %256)=b.map (· %256):=by
  intro a
  induction a with
  |nil=>intro b;cases b<;>simp
  |cons x a ih=>
   intro b
   cases b with
   |nil=>simp
   |cons y b=>
    simp only[List.map_cons,List.cons.injEq,ih b];constructor
    ·rintro⟨h1,h2⟩
     have:=congrArg UInt8.toNat h1;exact⟨by simpa [UInt8.toNat_ofNat] using this,h2⟩
    ·rintro⟨h1,h2⟩
     exact⟨UInt8.toNat_inj.1 (by simpa [UInt8.toNat_ofNat] using h1),h2⟩
 rw[DW];simp only[beq_iff_eq];exact c a b
theorem Tw (e:HR P m h w)(j:iY m h.next){op:BinOp}(d:op= .eql∨op= .neq){x y:Operand}{a b:List Nat}{u v:Value}(i:VR m (.str a) u)(f:VR m (.str b) v){neg:Bool}(c:neg=(op matches .neq)):
  bD P m h w (do eqGuard op t x y u v;binOp op t u v) (.bool (if neg then !(a.map (· %256)==b.map (· %256)) else a.map (· %256)==b.map (· %256))) h:=by
 rw[show u= .string ⟨(a.map UInt8.ofNat).toArray⟩ from i,show v= .string ⟨(b.map UInt8.ofNat).toArray⟩ from f]
 refine bD.still e j (x:= .bool (if neg then !(a.map (· %256)==b.map (· %256)) else a.map (· %256)==b.map (· %256))) ?_ rfl
 have l:(eqGuard op t x y (.string ⟨(a.map UInt8.ofNat).toArray⟩) (.string ⟨(b.map UInt8.ofNat).toArray⟩)).run P w= .ok () w:=by
  unfold eqGuard;rcases d with rfl|rfl<;>simp
 have g:(binOp op t (.string ⟨(a.map UInt8.ofNat).toArray⟩) (.string ⟨(b.map UInt8.ofNat).toArray⟩)).run P w=(Op.stringOp op ⟨(a.map UInt8.ofNat).toArray⟩ ⟨(b.map UInt8.ofNat).toArray⟩).run P w:=by
  rcases d with rfl|rfl<;>rfl
 simp only[Sem.run_bind,l,Result.andThen_ok,g]
 subst c
 rcases d with rfl|rfl
 ·simp only[Op.stringOp,IV,Sem.run_pure];rfl
 ·simp only[Op.stringOp,IV,Sem.run_pure];rfl
theorem NW (f:HR P m h w)(l:iY m h.next){x y:Operand}{a b:List Nat}{u v:Value}(i:VR m (.str a) u)(g:VR m (.str b) v)(o:a.length+b.length<2^62):
  bD P m h w (do eqGuard .add t x y u v;binOp .add t u v) (.str (a++b)) h:=by
 rw[show u= .string ⟨(a.map UInt8.ofNat).toArray⟩ from i,show v= .string ⟨(b.map UInt8.ofNat).toArray⟩ from g]
 refine bD.still f l (x:= .string ⟨((a++b).map UInt8.ofNat).toArray⟩) ?_ rfl
 have n:(eqGuard .add t x y (.string ⟨(a.map UInt8.ofNat).toArray⟩) (.string ⟨(b.map UInt8.ofNat).toArray⟩)).run P w= .ok () w:=by
  unfold eqGuard;simp
 have j:(binOp .add t (.string ⟨(a.map UInt8.ofNat).toArray⟩) (.string ⟨(b.map UInt8.ofNat).toArray⟩)).run P w=(Op.stringOp .add ⟨(a.map UInt8.ofNat).toArray⟩ ⟨(b.map UInt8.ofNat).toArray⟩).run P w:=rfl
 simp only[Sem.run_bind,n,Result.andThen_ok,j]
 have d:(⟨(a.map UInt8.ofNat).toArray⟩:ByteArray).size=a.length:=by show (a.map UInt8.ofNat).toArray.size=_;simp
 have e:(⟨(b.map UInt8.ofNat).toArray⟩:ByteArray).size=b.length:=by show (b.map UInt8.ofNat).toArray.size=_;simp
 have c:IntKind.i64.max=9223372036854775807:=rfl
 unfold Op.stringOp
 simp only[d,e]
 rw[bU (by rw[c];omega)]
 simp only[Sem.run_pure]
 congr 2
 apply ByteArray.ext
 rw[ByteArray.data_append]
 simp
theorem NR (c:HR P m h w)(g:iY m h.next){b a:TypeId}{j:IntKind}(d:P.underlying b=some (.int j))(e:P.underlying a=some .string){k:IntKind}{n:Int}(i:VR m (.int k n) x)(o:0<=n)(l:n<128):
  bD P m h w (convert b a x) (.str [n.toNat]) h:=by
 rw[show x= .int k n from i]
 refine bD.still c g (x:= .string ⟨#[UInt8.ofNat n.toNat]⟩) ?_ rfl
 have f:Utf8.valid n=true:=by unfold Utf8.valid;simp;omega
 simp only[convert,Sem.run_bind,run_underlying d,run_underlying e,Result.andThen_ok,Conv.intToString,Sem.run_pure,Utf8.encode,f,if_true]
 rw[bJ om]
theorem Og (body:Value->ByteArray->Sem (ForInStep ByteArray))(b: ∀n s,body (.int .u8 n) s=pure (.yield (s.push (UInt8.ofNat n.toNat)))): ∀(cs:List Value) (vs:List V) (l:List Nat) (acc:ByteArray),
  iR m vs cs->qL vs=some l->(forIn cs acc body).run P w= .ok ⟨acc.data++(l.map UInt8.ofNat).toArray⟩ w
 | [], [],l,acc,_,hl=>by
  simp only[qL,Option.some.injEq] at hl;subst hl;simp
 |c::cs,v::vs,l,acc,hv,hl=>by
  cases v<;>try (simp only[qL,reduceCtorEq] at hl;done)
  rename_i k n;cases k<;>try (simp only[qL,reduceCtorEq] at hl;done)
  simp only[qL] at hl;split at hl
  ·simp only[oU] at hl
   obtain⟨d,a,rfl⟩:=hl;rw[show c= .int .u8 n from hv.1,List.forIn_cons,b];simp only[Sem.run_bind,Sem.run_pure,Result.andThen_ok];rw[Og body b cs vs d _ hv.2 a];congr 2;apply Array.toList_inj.1;simp [ByteArray.push]
  ·cases hl
 | [],_::_,_,_,h,_=>h.elim
 |_::_, [],_,_,h,_=>h.elim
theorem JX (z:HR P m h w)(B:iY m h.next){g i e:TypeId}(K:P.underlying g=some (.slice e))(L:P.underlying i=some .string)(Q:P.underlying e=some (.int .u8))
  {u:V}  (F:VR m v x) (f:LL h v=some u):bD P m h w (convert g i x) u h:=by
 have d: ∀a n c,(convert g i (.slice a n c)).run P w=(Conv.bytesToString (.slice a n c)).run P w:=by
  intro a n c;simp [convert,run_underlying K,run_underlying L,run_underlying Q]
 unfold LL at f
 split at f
 ·cases f
  obtain rfl:x= .slice none 0 0:=F
  refine bD.still z B (x:= .string .empty) ?_ rfl
  rw[d]
  simp [Conv.bytesToString]
 ·rename_i id W len R
  obtain⟨p,c,o',J,rfl,_,Z,_⟩:=F
  split at f
  ·rename_i r q
   simp only[oU] at f
   obtain⟨l,hl,rfl⟩:=f
   have b: ∃xs:List Value,(loadCells ⟨p.1,p.2.1+o',none⟩ len).run P w= .ok xs.toArray w/\iR m r xs:=by
    obtain⟨p',c',G,fr,o,hb,_,A,j,_⟩:=Cv z q;rw[J] at o;cases o
    by_cases N:len=0
    ·subst N
     have Y:r= []:=by
      have:=j;simp only[List.take_zero] at this
      cases r with
      |nil=>rfl
      |cons _ _=>exact this.elim
     subst Y;exact⟨[],by simp only[loadCells,loadCellsFrom];rfl,trivial⟩
    ·obtain rfl:=Z om
     exact⟨_,lU hb A,j⟩
   obtain⟨xs,b,U⟩:=b
   refine bD.still z B (x:= .string ⟨(l.map UInt8.ofNat).toArray⟩) ?_ rfl
   rw[d]
   simp only[Conv.bytesToString,Sem.run_bind,b,Result.andThen_ok]
   rw[←Array.forIn_toList]
   rw[Og (m:=m) _ (λn s=>rfl) xs r l _ U hl]
   simp only[Result.andThen_ok,Sem.run_pure]
   congr 2
   have O:ByteArray.empty.data= #[]:=rfl
   rw[O]
   simp only[Array.empty_append]
  ·cases f
 ·cases f
end
end
end Go.Ay
