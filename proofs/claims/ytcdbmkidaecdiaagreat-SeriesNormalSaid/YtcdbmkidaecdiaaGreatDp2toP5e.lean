/- Texts of the claim. -/
import Derived.Test.YtcdbmkidaecdiaaGreatDp1
import Derived.Test.YtcdbmkidaecdiaaGreatP5a
import Derived.Test.YtcdbmkidaecdiaaGreatAy39
import Derived.Test.YtcdbmkidaecdiaaGreatC16code
import Derived.Sort.AssemblyPlain
import Derived.Test.YtcdbmkidaecdiaaGreatAy26
set_option maxHeartbeats 32000000
namespace Go.Pm
set_option maxRecDepth 100000
section
variable {j p:Nat}
structure Lv where
 gens:zI
 orb:List Nat
 to:Nat->Option (List Nat)
 tr:Nat->Nat
abbrev pM:=Nat->Lv
def Fix (i:Nat)(x:List Nat):Prop:= ∀k,k<i->x.getD k 0=k
def InS (n:Nat)(τ:pM):Nat->Nat->List Nat->Prop
 |_,0,x=>x=bL n
 |i,d+1,x=> ∃p y h,(τ i).to p=some y/\InS n τ (i+1) d h/\x=aX h y
def S (n:Nat)(τ:pM)(i:Nat)(x:List Nat):Prop:=InS n τ i (n-i) x
section
variable {n:Nat} {τ τ':pM} {x y z:List Nat} {i:Nat}
theorem vB:S n τ n x↔x=bL n:=by unfold S;rw[Nat.sub_self];exact Iff.rfl
theorem qD (hi:i<n):S n τ i x↔ ∃p y h,(τ i).to p=some y/\S n τ (i+1) h/\x=aX h y:=by
 unfold S;rw[show n-i=(n-(i+1))+1 from oq];exact Iff.rfl
theorem Qw: ∀(d i:Nat) (x:List Nat),(∀j,i<=j->j<i+d->τ j=τ' j)->(InS n τ i d x↔InS n τ' i d x)
 |0,_,_,_=>Iff.rfl
 |d+1,i,x,h=>by
  simp only[InS];rw[h i (Nat.le_refl _) oq];have a:=λg=>Qw d (i+1) g (λj b c=>h j oq oq)
  simp only[a]
theorem alF (h: ∀j,i<=j->j<n->τ j=τ' j):S n τ i x↔S n τ' i x:=
 Qw _ _ _ λj a b=>h j a oq
structure TE (n j:Nat)(l:Lv):Prop where
 nd:l.orb.Nodup
 base:j∈l.orb
 one:l.to j=some (bL n)
 iff: ∀p,p∈l.orb↔(l.to p).isSome
 cU: ∀p y,l.to p=some y->bE n y
 fix: ∀p y,l.to p=some y->Fix j y
 maps: ∀p y,l.to p=some y->y.getD j 0=p
 gen: ∀p y,l.to p=some y->bX n (· ∈l.gens) y
 gP: ∀s∈l.gens,bE n s
 gF: ∀s∈l.gens,Fix j s
 gN:l.gens.Nodup
 le: ∀q,l.tr q<=l.gens.length
 zero: ∀q,q∉l.orb->l.tr q=0
theorem TE.lt {l:Lv}(L:TE n j l)(b:j<n)(c:p∈l.orb):p<n:=by
 obtain⟨y,a⟩:=Option.isSome_iff_exists.1 ((L.iff p).1 c);rw[←L.maps p y a];exact (L.cU p y a).iN b
theorem TE.to {l:Lv}(L:TE n j l)(a:p∈l.orb): ∃y,l.to p=some y:=Option.isSome_iff_exists.1 ((L.iff p).1 a)
theorem TE.mem {l:Lv}(L:TE n j l){y:List Nat}(h:l.to p=some y):p∈l.orb:=(L.iff p).2 (by rw[h];rfl)
def Cl (n j:Nat)(τ:pM):Prop:= ∀q y,(τ j).to q=some y-> ∀k s,k<(τ j).tr q->(τ j).gens[k]? =some s->
 ∃u,(τ j).to ((aX y s).getD j 0)=some u/\S n τ (j+1) (aX (aX y s) (dA u))
def Full (l:Lv):Prop:= ∀q∈l.orb,l.tr q=l.gens.length
def Dn (n j:Nat)(τ:pM):Prop:=j+1<n-> ∀s∈(τ (j+1)).gens,bX n (· ∈(τ j).gens) s
def pI (n i:Nat)(τ:pM):Prop:= ∀j,i<=j->j<n->TE n j (τ j)/\Cl n j τ/\Full (τ j)/\Dn n j τ
theorem pI.mono (t:pI n i τ){k:Nat}(h:i<=k):pI n k τ:=λj b a=>t j oq a
theorem pI.congr (t:pI n i τ)(h: ∀j,i<=j->j<n->τ j=τ' j):pI n i τ':=λj l r=>by
 obtain⟨a,b,c,d⟩:=t j l r;have e:=h j l r;refine⟨e▸a,λq y o k s m f=>?_,e▸c,λv s f=>?_⟩
 ·rw[←e] at o m f ⊢
  obtain⟨u,w,B⟩:=b q y o k s m f;exact⟨u,w,(alF λk F A=>h k oq A).1 B⟩
 ·rw[←h (j+1) oq v] at f
  rw[←e];exact d v s f
theorem Fix.one (n i:Nat)(hi:i<=n):Fix i (bL n):=λk a=>fQ oq
theorem Fix.mul (X:bE n x)(hi:i<=n)(a:Fix i x)(b:Fix i y):Fix i (aX x y):=λk c=>by
 rw[cM (by rw[X.len];omega),a k c,b k c]
theorem Fix.inv (X:bE n x)(hi:i<=n)(a:Fix i x):Fix i (dA x):=λk b=>by
 have:=afU X (show k<n by omega);rwa [a k b] at this
theorem Fix.mono (a:Fix j x)(h:i<=j):Fix i x:=λk b=>a k oq
theorem Fix.succ (a:Fix i x)(h:x.getD i 0=i):Fix (i+1) x:=λk b=>by
 by_cases e:k=i
 ·rw[e];exact h
 ·exact a k oq
theorem Fix.all (X:bE n x)(a:Fix n x):x=bL n:=by
 refine yC (by rw[X.len,jG]) λk b=>?_
 rw[X.len] at b;rw[a k b,fQ b]
theorem bX.fix {L:List Nat->Prop}(b: ∀g,L g->bE n g)(hi:i<=n)(a: ∀g,L g->Fix i g)(h:bX n L x):Fix i x:=by
 induction h with
 |one=>exact Fix.one n i hi
 |mul hx hg ih=>exact Fix.mul (hx.cU b) hi ih (a _ hg)
theorem pI.HU: ∀(d i:Nat),i+d=n->pI n i τ-> ∀x,(S n τ i x->bE n x/\Fix i x)/\(i<n->(S n τ i x↔bX n (· ∈(τ i).gens) x))
 |0,i,h,_,x=>by
  obtain rfl:i=n:=oq
  refine⟨λa=>?_,λh=>oq⟩;rw[vB] at a;subst a;exact⟨bE.one i,Fix.one i i (Nat.le_refl _)⟩
 |d+1,i,h,t,x=>by
  have hi:i<n:=oq
  have m:=pI.HU d (i+1) oq (t.mono oq);obtain⟨L,C,F,D⟩:=t i (Nat.le_refl _) hi;have r: ∀g,g∈(τ i).gens->bE n g:=L.gP
  have O: ∀z,S n τ (i+1) z->bX n (· ∈(τ i).gens) z:=by
   intro z f
   by_cases b:i+1<n
   ·exact ((m z).2 b|>.1 f).le (bX.dN r) (D b)
   ·obtain rfl:i+1=n:=oq
    rw[vB] at f;subst f;exact .one
  have w: ∀u z,S n τ (i+1) u->S n τ (i+1) z->S n τ (i+1) (aX u z):=by
   intro u z l f
   by_cases b:i+1<n
   ·obtain⟨P,_⟩:=t (i+1) oq b
    exact ((m _).2 b).2 ((((m u).2 b).1 l).app P.gP (((m z).2 b).1 f))
   ·obtain rfl:i+1=n:=oq
    rw[vB] at l f ⊢;subst l f;exact bZ (bE.one _)
  have v:S n τ (i+1) (bL n):=by
   by_cases b:i+1<n
   ·exact ((m _).2 b).2 .one
   ·obtain rfl:i+1=n:=oq
    exact vB.2 rfl
  have c:S n τ i x->bX n (· ∈(τ i).gens) x:=by
   intro a;obtain⟨p,y,g,o,B,rfl⟩:=(qD hi).1 a;exact (O g B).app r (L.gen p y o)
  refine⟨λa=>⟨(c a).cU r,(c a).fix r oq L.gF⟩,λ_=>⟨c,λN=>?_⟩⟩;clear c
  induction N with
  |one=>exact (qD hi).2 ⟨i,bL n,bL n,L.one,v,(bZ (bE.one n)).symm⟩
  |mul hx a hind=>
   rename_i R s;obtain⟨q,y,g,o,B,e⟩:=(qD hi).1 hind;obtain⟨k,K,J⟩:=List.mem_iff_getElem.1 a;obtain⟨u,l,Q⟩:=C q y o k s (by rw[F q (L.mem o)];exact K) (by rw[List.getElem?_eq_getElem K,J]);refine (qD hi).2 ⟨_,u,aX g (aX (aX y s) (dA u)),l,w _ _ B Q,?_⟩;have G:=((m g).1 B).1;have Y:=L.cU q y o;have U:=L.cU _ u l;have A:=r s a;rw[e,aV G Y A,aV G ((Y.mul A).mul U.inv) U,aV (Y.mul A) U.inv U,iE U,bZ (Y.mul A)]
theorem pI.gen (t:pI n i τ)(hi:i<n):S n τ i x↔bX n (· ∈(τ i).gens) x:=(pI.HU (n-i) i oq t x).2 hi
theorem pI.cU (t:pI n i τ)(hi:i<=n)(h:S n τ i x):bE n x:=((pI.HU (n-i) i oq t x).1 h).1
theorem pI.fix (t:pI n i τ)(hi:i<=n)(h:S n τ i x):Fix i x:=((pI.HU (n-i) i oq t x).1 h).2
theorem pI.dN (t:pI n i τ)(hi:i<=n):iX n (S n τ i):=by
 by_cases h:i<n
 ·have g:=bX.dN (n:=n) (L:=(· ∈(τ i).gens)) (t i (Nat.le_refl _) h).1.gP
  exact⟨λa=>t.cU hi a,(t.gen h).2 g.one,λa b=>(t.gen h).2 (g.mul ((t.gen h).1 a) ((t.gen h).1 b)),λa=>(t.gen h).2 (g.inv ((t.gen h).1 a))⟩
 ·obtain rfl:i=n:=oq
  refine⟨λa=>t.cU hi a,vB.2 rfl,λa b=>?_,λa=>?_⟩
  ·rw[vB] at a b ⊢;subst a b;exact bZ (bE.one _)
  ·rw[vB] at a ⊢;subst a;exact oJ _
theorem pI.sift (t:pI n i τ)(hi:i<n)(h:S n τ i x): ∃y,(τ i).to (x.getD i 0)=some y/\S n τ (i+1) (aX x (dA y)):=by
 obtain⟨p,y,g,a,b,rfl⟩:=(qD hi).1 h;have L:=(t i (Nat.le_refl _) hi).1;have c:=t.mono (Nat.le_succ i);have G:=c.cU hi b;have Y:=L.cU p y a
 have e:(aX g y).getD i 0=p:=by
  rw[cM (by rw[G.len];exact hi),c.fix hi b i oq,L.maps p y a]
 refine⟨y,by rw[e];exact a,?_⟩;rw[aV G Y Y.inv,fC Y,bZ G];exact b
theorem pI.back (t:pI n i τ)(hi:i<n){y:List Nat}(a:bE n x)(b:(τ i).to (x.getD i 0)=some y)(h2:S n τ (i+1) (aX x (dA y))):S n τ i x:=by
 have Y:=(t i (Nat.le_refl _) hi).1.cU _ y b;refine (qD hi).2 ⟨_,y,_,b,h2,?_⟩;rw[aV a Y.inv Y,iE Y,bZ a]
theorem pI.ahX (t:pI n i τ)(hi:i<n):S n τ (i+1) x↔S n τ i x/\x.getD i 0=i:=by
 have L:=(t i (Nat.le_refl _) hi).1;have b:=t.mono (Nat.le_succ i);constructor
 ·intro h
  have e:=b.fix hi h i oq;have X:=b.cU hi h;refine⟨t.back hi X (y:=bL n) (by rw[e];exact L.one) ?_,e⟩;rw[oJ,bZ X];exact h
 ·rintro⟨h,e⟩
  obtain⟨y,a,c⟩:=t.sift hi h;rw[e,L.one] at a;cases a;rwa [oJ,bZ (t.cU oq h)] at c
theorem pI.Xo (t:pI n i τ): ∀{k:Nat},i<=k->k<=n->(S n τ k x↔S n τ i x/\Fix k x):=by
 intro k
 induction k with
 |zero=>
  intro h _;obtain rfl:i=0:=oq
  exact⟨λh=>⟨h,λ_ h=>oq⟩,λh=>h.1⟩
 |succ k ih=>
  intro l f
  by_cases e:i=k+1
  ·subst e
   exact⟨λh=>⟨h,t.fix f h⟩,λh=>h.1⟩
  ·have a:=ih oq oq
   rw[(t.mono oq).ahX (i:=k) f,a];constructor
   ·rintro⟨⟨b,c⟩,d⟩;exact⟨b,c.succ d⟩
   ·rintro⟨b,c⟩;exact⟨⟨b,c.mono oq⟩,c k oq⟩
end
end
section
variable {j k q:Nat}
def vI (τ:pM)(i:Nat)(l:Lv):pM:=λj=>if j=i then l else τ j
theorem bU (τ:pM)(i:Nat)(l:Lv):vI τ i l i=l:=by simp [vI]
theorem dZ (τ:pM){i:Nat}(l:Lv)(h:j≠i):vI τ i l j=τ j:=by simp [vI,h]
def Lv.tick (l:Lv)(q:Nat):Lv:={l with tr:=λr=>if r=q then l.tr q+1 else l.tr r}
def Lv.reach (l:Lv)(p:Nat)(y:List Nat):Lv:={l with orb:=l.orb++ [p],to:=λr=>if r=p then some y else l.to r}
def Lv.more (l:Lv)(r:List Nat):Lv:={l with gens:=l.gens++ [r]}
structure CI (n i:Nat)(τ:pM):Prop where
 jX:TE n i (τ i)
 cl:Cl n i τ
 dn:Dn n i τ
 up:pI n (i+1) τ
section
variable {n:Nat} {τ τ':pM} {x y z s u w:List Nat} {i:Nat}
theorem CI.full (c:CI n i τ)(b:Full (τ i)):pI n i τ:=λj d a=>by
 by_cases e:j=i
 ·subst e;exact⟨c.jX,c.cl,b,c.dn⟩
 ·exact c.up j oq a
theorem acV {l:Lv}(h:i<k):S n (vI τ i l) k x↔S n τ k x:=alF λj a _=>dZ τ l oq
theorem pI.afT {l:Lv}(h:i<k)(t:pI n k τ):pI n k (vI τ i l):=t.congr λj a _=>(dZ τ l oq).symm
theorem CI.Mu (c:CI n i τ)(hi:i<n)(d:(τ i).to q=some y)(b:s∈(τ i).gens)(a:(τ i).to ((aX y s).getD i 0)=some u):
  bE n (aX (aX y s) (dA u))/\Fix (i+1) (aX (aX y s) (dA u))/\bX n (· ∈(τ i).gens) (aX (aX y s) (dA u)):=by
 have L:=c.jX
 have Y:=L.cU q y d
 have U:=L.cU _ u a
 have l:=L.gP s b
 have h:=Y.mul l
 have f:bX n (· ∈(τ i).gens) (aX (aX y s) (dA u)):=((L.gen q y d).mul b).app L.gP ((L.gen _ u a).inv L.gP)
 refine⟨h.mul U.inv,Fix.succ (f.fix L.gP oq L.gF) ?_,f⟩
 rw[cM (by rw[h.len];exact hi)]
 have:=afU U hi
 rwa [L.maps _ u a] at this
theorem CI.tick (c:CI n i τ)(B:(τ i).to q=some y)(J:(τ i).tr q=k)(m:(τ i).gens[k]? =some s)(F:(τ i).to ((aX y s).getD i 0)=some u)
  (hz:S n τ (i+1) (aX (aX y s) (dA u))):CI n i (vI τ i ((τ i).tick q)):=by
 have L:=c.jX
 have f:k<(τ i).gens.length:=(List.getElem?_eq_some_iff.1 m).1
 refine⟨?_,?_,?_,c.up.afT oq⟩
 ·rw[bU]
  refine⟨L.nd,L.base,L.one,L.iff,L.cU,L.fix,L.maps,L.gen,L.gP,L.gF,L.gN,λr=>?_,λr o=>?_⟩
  ·show (if r=q then (τ i).tr q+1 else (τ i).tr r)<=_
   split
   ·rw[J];exact f
   ·exact L.le r
  ·show (if r=q then (τ i).tr q+1 else (τ i).tr r)=0
   have:r≠q:=λe=>o (by rw[e];exact L.mem B)
   rw[if_neg this];exact L.zero r o
 ·intro r v h j t A l
  rw[bU] at h A l ⊢
  simp only[acV (Nat.lt_succ_self i)]
  have d:j<(if r=q then (τ i).tr q+1 else (τ i).tr r):=A
  by_cases e:r=q/\j=k
  ·obtain⟨rfl,rfl⟩:=e
   have a:(τ i).to r=some v:=h
   have b:(τ i).gens[j]? =some t:=l
   rw[B] at a;cases a
   rw[m] at b;cases b
   exact⟨u,F,hz⟩
  ·refine c.cl r v h j t ?_ l
   split at d
   ·rename_i K;subst K
    have:j≠k:=λG=>e ⟨rfl,G⟩
    omega
   ·exact d
 ·intro N g p
  rw[dZ τ _ oq] at p
  rw[bU]
  exact c.dn N g p
theorem CI.reach (c:CI n i τ)(hi:i<n){p:Nat}(B:(τ i).to p=none)(Y:bE n y)(F:Fix i y)(P:y.getD i 0=p)(R:bX n (· ∈(τ i).gens) y):CI n i (vI τ i ((τ i).reach p y)):=by
 have L:=c.jX;have l:p∉(τ i).orb:=λh=>by have:=(L.iff p).1 h;rw[B] at this;cases this
 have f: ∀r v,((τ i).reach p y).to r=some v->(r=p/\v=y)∨(r≠p/\(τ i).to r=some v):=by
  intro r v h;have A:(if r=p then some y else (τ i).to r)=some v:=h;split at A
  ·rename_i e;cases A;exact .inl ⟨e,rfl⟩
  ·rename_i e;exact .inr ⟨e,A⟩
 have d: ∀r v,(τ i).to r=some v->((τ i).reach p y).to r=some v:=by
  intro r v h;have:r≠p:=λe=>by rw[e,B] at h;cases h
  show (if r=p then some y else (τ i).to r)=some v;rw[if_neg this];exact h
 refine⟨?_,?_,?_,c.up.afT oq⟩
 ·rw[bU]
  refine⟨?_,List.mem_append_left _ L.base,d _ _ L.one,λr=>?_,λr v h=>?_,λr v h=>?_,λr v h=>?_,λr v h=>?_,L.gP,L.gF,L.gN,L.le,λr Q=>?_⟩
  ·show ((τ i).orb++ [p]).Nodup
   rw[List.nodup_append];exact⟨L.nd,by simp,λa N b K=>by simp at K;subst K;exact λe=>l (e▸N)⟩
  ·show r∈(τ i).orb++ [p]↔(if r=p then some y else (τ i).to r).isSome
   by_cases e:r=p
   ·subst e;simp
   ·rw[if_neg e,←L.iff r];simp [e]
  ·rcases f r v h with ⟨_,rfl⟩|⟨_,h⟩
   ·exact Y
   ·exact L.cU r v h
  ·rcases f r v h with ⟨_,rfl⟩|⟨_,h⟩
   ·exact F
   ·exact L.fix r v h
  ·rcases f r v h with ⟨rfl,rfl⟩|⟨_,h⟩
   ·exact P
   ·exact L.maps r v h
  ·rcases f r v h with ⟨_,rfl⟩|⟨_,h⟩
   ·exact R
   ·exact L.gen r v h
  ·exact L.zero r λh=>Q (List.mem_append_left _ h)
 ·intro r v G j t o J
  rw[bU] at G o J ⊢;simp only[acV (Nat.lt_succ_self i)];rcases f r v G with ⟨rfl,rfl⟩|⟨_,h⟩
  ·have hz:(τ i).tr r=0:=L.zero r l
   have Z:j<(τ i).tr r:=o;omega
  ·obtain⟨a,O,U⟩:=c.cl r v h j t o J
   exact⟨a,d _ _ O,U⟩
 ·intro W g m
  rw[dZ τ _ oq] at m;rw[bU];exact c.dn W g m
theorem CI.found (c:CI n i τ)(hi:i<n){p:Nat}(b:(τ i).to q=some y)(A:(τ i).tr q=k)(l:(τ i).gens[k]? =some s)(r:(aX y s).getD i 0=p)(m:(τ i).to p=none):
  CI n i (vI τ i (((τ i).tick q).reach p (aX y s))):=by
 have L:=c.jX
 have a:s∈(τ i).gens:=List.mem_of_getElem? l
 have Y:=L.cU q y b
 have o:=L.gP s a
 have t:=c.reach hi m (Y.mul o) (Fix.mul Y oq (L.fix q y b) (L.gF s a)) r ((L.gen q y b).mul a)
 have f:q≠p:=λe=>by rw[e,m] at b;cases b
 have d:(vI τ i ((τ i).reach p (aX y s)) i).to p=some (aX y s):=by
  rw[bU];show (if p=p then some (aX y s) else (τ i).to p)=_;rw[if_pos rfl]
 have B:S n (vI τ i ((τ i).reach p (aX y s))) (i+1) (aX (aX y s) (dA (aX y s))):=by
  rw[fC (Y.mul o)];exact (t.up.dN oq).one
 have v:=t.tick (q:=q) (k:=k) (y:=y) (s:=s) (u:=aX y s) (by
  rw[bU];show (if q=p then some (aX y s) else (τ i).to q)=_
  rw[if_neg f];exact b) (by rw[bU];exact A) (by rw[bU];exact l) (by rw[r];exact d) B
 have e:vI (vI τ i ((τ i).reach p (aX y s))) i ((vI τ i ((τ i).reach p (aX y s)) i).tick q)=vI τ i (((τ i).tick q).reach p (aX y s)):=by
  funext j
  by_cases h:j=i
  ·subst h;rw[bU,bU,bU];rfl
  ·rw[dZ _ _ h,dZ _ _ h,dZ _ _ h]
 rwa [e] at v
structure Iw (n i:Nat)(x:List Nat)(τ τ':pM):Prop where
 low: ∀j,j<i->τ' j=τ j
 tw:pI n i τ'
 old: ∀s∈(τ i).gens,s∈(τ' i).gens
 new: ∀s∈(τ' i).gens,bX n (λg=>g∈(τ i).gens∨g=x) s
 has:bX n (· ∈(τ' i).gens) x
theorem Iw.S (a:Iw n i x τ τ')(t:pI n i τ)(hi:i<n)(h:Go.Pm.S n τ i z):Go.Pm.S n τ' i z:=
 (a.tw.gen hi).2 (((t.gen hi).1 h).mono a.old)
theorem CI.added (c:CI n i τ)(d:i+1<n)(a:Iw n (i+1) z τ τ')(hz:bX n (· ∈(τ i).gens) z):CI n i τ'/\Go.Pm.S n τ' (i+1) z:=by
 have e:=a.low i oq;refine⟨⟨e▸c.jX,λq y l k s m f=>?_,λh g b=>?_,a.tw⟩,(a.tw.gen d).2 a.has⟩
 ·rw[e] at l m f ⊢
  obtain⟨u,o,p⟩:=c.cl q y l k s m f;exact⟨u,o,a.S c.up d p⟩
 ·rw[e]
  refine (a.new g b).le (bX.dN c.jX.gP) λg b=>?_
  rcases b with b|rfl
  ·exact c.dn d g b
  ·exact hz
def Zc (n:Nat)(τ:pM):Nat->Nat->List Nat->Nat×List Nat
 |0,i,x=>(i,x)
 |d+1,i,x=>match (τ i).to (x.getD i 0) with
  |none=>(i,x)
  |some y=>Zc n τ d (i+1) (if x.getD i 0=i then x else aX x (dA y))
structure SfP (n i:Nat)(τ:pM)(x:List Nat)(k:Nat)(r:List Nat):Prop where
 ge:i<=k
 le:k<=n
 cU:bE n r
 fix:Fix k r
 out:k<n->(τ k).to (r.getD k 0)=none
 rest:i<n-> ∃w,bX n (· ∈(τ i).gens) w/\x=aX r w
theorem TR: ∀(d i:Nat) (x:List Nat),i+d=n->pI n i τ->bE n x->Fix i x->SfP n i τ x (Zc n τ d i x).1 (Zc n τ d i x).2
 |0,i,x,h,_,X,F=>⟨Nat.le_refl _,by show i<=n;omega,X,F,λa=>by have:i<n:=a;omega,λa=>oq⟩
 |d+1,i,x,h,t,X,F=>by
  have hi:i<n:=oq
  obtain⟨L,C,B,D⟩:=t i (Nat.le_refl _) hi;unfold Zc
  cases e:(τ i).to (x.getD i 0) with
  |none=>exact⟨Nat.le_refl _,by show i<=n;omega,X,F,λ_=>e,λ_=>⟨bL n,.one,(bZ X).symm⟩⟩
  |some y=>
   simp only;have Y:=L.cU _ y e
   have m: ∀f,f=(if x.getD i 0=i then x else aX x (dA y))->bE n f/\Fix (i+1) f/\x=aX f y:=by
    intro f a
    by_cases l:x.getD i 0=i
    ·rw[if_pos l] at a
     subst a;rw[l,L.one] at e;cases e;exact⟨X,F.succ l,(bZ X).symm⟩
    ·rw[if_neg l] at a
     subst a;refine⟨X.mul Y.inv,(Fix.mul X oq F (Fix.inv Y oq (L.fix _ y e))).succ ?_,by rw[aV X Y.inv Y,iE Y,bZ X]⟩;rw[cM (by rw[X.len];exact hi)];have:=afU Y hi;rwa [L.maps _ y e] at this
   obtain⟨r,F2,ex⟩:=m _ rfl;have b:=TR d (i+1) _ oq (t.mono oq) r F2;refine⟨by have:=b.ge;omega,b.le,b.cU,b.fix,b.out,λ_=>?_⟩
   by_cases o:i+1<n
   ·obtain⟨w,p,A⟩:=b.rest o
    have c:bX n (· ∈(τ i).gens) w:=p.le (bX.dN L.gP) (D o);refine⟨aX w y,c.app L.gP (L.gen _ y e),?_⟩;rw[←aV b.cU (c.cU L.gP) Y,←A];exact ex
   ·have v:d=0:=oq
    subst v;exact⟨y,L.gen _ y e,ex⟩
theorem SfP.in (f:SfP n i τ x n w)(t:pI n i τ)(hi:i<n):S n τ i x:=by
 obtain⟨v,a,e⟩:=f.rest hi;have:=f.fix.all f.cU;rw[this,cL (a.cU (t i (Nat.le_refl _) hi).1.gP)] at e;subst e;exact (t.gen hi).2 a
theorem SfP.ahM (f:SfP n i τ x k w)(t:pI n i τ)(a:k<n)(c:i<=j)(h2:j<=k): ¬S n τ j w:=by
 intro h;have l:=t.mono c;have d:=(l.Xo h2 oq).2 ⟨h,f.fix⟩;obtain⟨y,b,_⟩:=(t.mono f.ge).sift a d;rw[f.out a] at b;cases b
def push (τ:pM)(i k:Nat)(r:List Nat):pM:=λj=>if i<=j/\j<=k then (τ j).more r else τ j
theorem HC (τ:pM){i:Nat}(r:List Nat)(a:i<=j)(h2:j<=k):push τ i k r j=(τ j).more r:=by simp [push,a,h2]
theorem Mc (τ:pM){i:Nat}(r:List Nat)(h:j<i∨k<j):push τ i k r j=τ j:=by
 unfold push;rw[if_neg oq]
structure Nu (n i k:Nat)(r:List Nat)(τ τ':pM)(j:Nat):Prop where
 low: ∀m,m<j->τ' m=push τ i k r m
 tw:pI n j τ'
 gens:j<=k->(τ' j).gens=(τ j).gens++ [r]
 same:k<j->τ' j=τ j
theorem Nu.start (f:SfP n i τ x k w)(t:pI n i τ)(_:k<n):Nu n i k w τ (push τ i k w) (k+1):=
 ⟨λ_ _=>rfl,(t.mono (by have:=f.ge;omega)).congr λj a _=>(Mc τ w (.inr oq)).symm,λh=>oq,λ_=>Mc τ w (.inr oq)⟩
theorem Nu.ci (f:SfP n i τ x k w)(t:pI n i τ)(hk:k<n)(a:Nu n i k w τ τ' (j+1))(B:i<=j)(h2:j<=k):CI n j τ':=by
 have P:j<n:=oq
 obtain⟨L,C,Fu,D⟩:=t j B P;have e:τ' j=(τ j).more w:=(a.low j oq).trans (HC τ w B h2);have tj:=t.mono B;have G:w∉(τ j).gens:=λW=>f.ahM t hk B h2 ((tj.gen P).2 (bX.of L.gP W))
 have N: ∀z,S n τ (j+1) z->S n τ' (j+1) z:=by
  intro z F
  by_cases v:j+1<n
  ·have K:=t.mono (show i<=j+1 by omega)
   refine (a.tw.gen v).2 (((K.gen v).1 F).mono λg c=>?_)
   by_cases o:j+1<=k
   ·rw[a.gens o];exact List.mem_append_left _ c
   ·rw[a.same oq];exact c
  ·obtain rfl:j+1=n:=oq
   rw[vB] at F ⊢;exact F
 have l: ∀g,g∈(τ j).gens->g∈(τ j).gens++ [w]:=λg c=>List.mem_append_left _ c
 have r: ∀g,g∈(τ j).gens++ [w]->bE n g:=λg c=>by
  rcases List.mem_append.1 c with c|c
  ·exact L.gP g c
  ·simp at c;subst c;exact f.cU
 refine⟨?_,λq y R m s O d=>?_,λv s d=>?_,a.tw⟩
 ·rw[e]
  refine⟨L.nd,L.base,L.one,L.iff,L.cU,L.fix,L.maps,λp y h=>(L.gen p y h).mono l,r,λg c=>?_,?_,λq=>?_,L.zero⟩
  ·rcases List.mem_append.1 c with c|c
   ·exact L.gF g c
   ·simp at c;subst c;exact f.fix.mono h2
  ·show ((τ j).gens++ [w]).Nodup
   rw[List.nodup_append];exact⟨L.gN,by simp,λa U b Q=>by simp at Q;subst Q;exact λe=>G (e▸U)⟩
  ·show (τ j).tr q<=((τ j).gens++ [w]).length
   have:=L.le q;simp;omega
 ·rw[e] at R O d ⊢
  have J:m<(τ j).tr q:=O;have A:((τ j).gens++ [w])[m]? =some s:=d;rw[List.getElem?_append_left (by have:=L.le q;omega)] at A;obtain⟨u,Y,Z⟩:=C q y R m s J A;exact⟨u,Y,N _ Z⟩
 ·rw[e]
  show bX n (· ∈(τ j).gens++ [w]) s
  by_cases o:j+1<=k
  ·rw[a.gens o] at d
   rcases List.mem_append.1 d with d|d
   ·exact (D v s d).mono l
   ·simp at d;subst d
    exact bX.of r (List.mem_append_right _ (by simp))
  ·rw[a.same oq] at d
   exact (D v s d).mono l
theorem Nu.next {b:pM}(a:Nu n i k w τ τ' (j+1))(c:i<=j)(h2:j<=k)(low: ∀m,m<j->b m=τ' m)(g:(b j).gens=(τ' j).gens)(t:pI n j b):Nu n i k w τ b j:=
 ⟨λm d=>(low m d).trans (a.low m oq),t,λ_=>by rw[g,a.low j oq,HC τ w c h2];rfl,λh=>oq⟩
theorem Nu.done (f:SfP n i τ x k w)(t:pI n i τ)(X:bE n x)(p:k<n)(a:Nu n i k w τ τ' i):Iw n i x τ τ':=by
 have hi:i<n:=by have:=f.ge;omega
 have L:=(t i (Nat.le_refl _) hi).1;have c:=a.gens f.ge;obtain⟨v,l,e⟩:=f.rest hi;have V:=l.cU L.gP;refine⟨λj m=>(a.low j m).trans (Mc τ w (.inl m)),a.tw,λs d=>?_,λs d=>?_,?_⟩
 ·rw[c];exact List.mem_append_left _ d
 ·have b: ∀g,(g∈(τ i).gens∨g=x)->bE n g:=λg c=>by
   rcases c with c|rfl
   ·exact L.gP g c
   ·exact X
  rw[c] at d;rcases List.mem_append.1 d with d|d
  ·exact bX.of b (.inl d)
  ·simp at d;subst d
   have o:s=aX x (dA v):=by rw[e,aV f.cU V V.inv,fC V,bZ f.cU]
   rw[o];exact (bX.of b (.inr rfl)).app b ((l.mono λg c=>Or.inl c).inv b)
 ·have b: ∀g,g∈(τ' i).gens->bE n g:=(a.tw i (Nat.le_refl _) hi).1.gP
  rw[e];exact (bX.of b (by rw[c];exact List.mem_append_right _ (by simp))).app b (l.mono λg h=>by rw[c];exact List.mem_append_left _ h)
theorem Iw.none (t:pI n i τ)(hi:i<n)(h:Go.Pm.S n τ i x):Iw n i x τ τ:=by
 have L:=(t i (Nat.le_refl _) hi).1
 have b: ∀g,(g∈(τ i).gens∨g=x)->bE n g:=λg c=>by
  rcases c with c|rfl
  ·exact L.gP g c
  ·exact t.cU oq h
 exact⟨λ_ _=>rfl,t,λ_ a=>a,λs a=>bX.of b (.inl a),(t.gen hi).1 h⟩
theorem TE.many {l:Lv}(L:TE n j l):l.gens.length<=n^n:=Be L.gN L.gP
def PX (n:Nat):pM:=λj=>⟨[], [j],λp=>if p=j then some (bL n) else none,λ_=>0⟩
theorem PI (n:Nat):pI n 0 (PX n):=λj _ d=>by
 refine⟨⟨by simp [PX],by simp [PX],by simp [PX],λp=>?_,λp y h=>?_,λp y h=>?_,λp y h=>?_,λp y h=>?_,λs a=>?_,λs a=>?_,by simp [PX],λq=>Nat.le_refl _,λ_ _=>rfl⟩,λq y l k s f=>?_,λq _=>rfl,λ_ s a=>?_⟩
 ·show p∈ [j]↔(if p=j then some (bL n) else none).isSome
  by_cases e:p=j<;>simp [e]
 all_goals first
  |(have b:(if p=j then some (bL n) else none)=some y:=h
    split at b
    ·rename_i e
     cases b
     first
      |exact bE.one n
      |exact Fix.one n j oq
      |(rw[e];exact fQ d)
      |exact .one
    ·cases b)
  |(cases a;done)
  |(have c:k<0:=f;omega)
end
end
end Go.Pm
namespace Go.Proofs.YtcdbmkidaecdiaaGreat
open Go Go.Ay Go.Pm
set_option maxRecDepth 100000
def Slot (W:Nat->Prop)(h:H)(v:V):Option (List Nat)->Prop
 |none=>v= .aE
 |some y=>PV W h v y
def uA (F:Nat->V)(s:Nat):V:=F (s/2*194+s%2)
def WT (n L:Nat)(F:Nat->V)(id:Nat):Prop:=id=L∨ ∃s,s<2*n/\ ∃off len c,uA F s= .sl id off len c
structure rX (h:H)(n tid L:Nat)(F:Nat->V)(τ:pM):Prop where
 t:h.get tid=some (.cells false [aC n,.sl L 0 n (.kn n)])
 l:h.get L=some (.cells false (rc (n*194) F))
 tn:tid<h.next
 ln:L<h.next
 tw: ¬WT n L F tid
 to: ∀j p,j<n->p<64->Slot (WT n L F) h (F (j*194+2+p)) ((τ j).to p)
 iv: ∀j p,j<n->p<64->Slot (WT n L F) h (F (j*194+66+p)) (((τ j).to p).map dA)
 tr: ∀j p,j<n->p<64->F (j*194+130+p)= aC ((τ j).tr p:Nat)
 gens: ∀j,j<n-> ∃vs,cY h (F (j*194)) 1 vs 0/\fW (WT n L F) h vs (τ j).gens
 orb: ∀j,j<n->cY h (F (j*194+1)) 1 (ints (zi (τ j).orb)) 0
 IQ: ∀s s',s<2*n->s'<2*n->s≠s'->Dis (uA F s) (uA F s')
 ap: ∀s,s<2*n->dL (uA F s) L
section
variable {h h':H} {n tid L:Nat} {F:Nat->V} {τ:pM}
theorem Slot.fx {W:Nat->Prop}{v:V}{o:Option (List Nat)}(s:Slot W h v o)(f:Fx W h h'):Slot W h' v o:=by
 cases o with
 |none=>exact s
 |some y=>exact PV.fx s f
theorem Slot.lH {W W':Nat->Prop}{v:V}{o:Option (List Nat)}(s:Slot W h v o)(a: ∀id,id<h.next->W' id->W id):Slot W' h v o:=by
 cases o with
 |none=>exact s
 |some y=>exact PV.lH s a
theorem Hr (F:Nat->V)(j:Nat):uA F (2*j)=F (j*194):=by
 unfold uA;congr 1;omega
theorem Jw (F:Nat->V)(j:Nat):uA F (2*j+1)=F (j*194+1):=by
 unfold uA;congr 1;omega
theorem rX.own (R:rX h n tid L F τ){s:Nat}(c:s<2*n): ∃ws,cY h (uA F s) 1 ws 0:=by
 rcases Nat.mod_two_eq_zero_or_one s with e|e
 ·obtain⟨b,a,_⟩:=R.gens (s/2) om
  exact⟨b,by unfold uA;rw[e];exact a⟩
 ·exact⟨_,by unfold uA;rw[e];exact R.orb (s/2) om⟩
theorem rX.Nw (R:rX h n tid L F τ){id:Nat}(b:WT n L F id):id<h.next:=by
 rcases b with rfl|⟨s,a,d,len,c,e⟩
 ·exact R.ln
 ·obtain⟨f,o⟩:=R.own a
  exact (o.in _ _ _ _ e).1
theorem rX.mono (R:rX h n tid L F τ)(f:Fr h h'):rX h' n tid L F τ:=by
 refine⟨by rw[f.get _ R.tn];exact R.t,by rw[f.get _ R.ln];exact R.l,iW R.tn f.next,iW R.ln f.next,R.tw,
  λj p b a=>(R.to j p b a).fx (Fx.of f),λj p b a=>(R.iv j p b a).fx (Fx.of f),R.tr,λj c=>?_,λj c=>(R.orb j c).fr f,R.IQ,R.ap⟩
 obtain⟨d,b,a⟩:=R.gens j c;exact⟨d,b.fr f,a.fx (Fx.of f)⟩
theorem rX.cell (R:rX h n tid L F τ){j c:Nat}(a:j<n)(b:c<194):h.cell L (j*194+c)=some (F (j*194+c)):=
 Bw R.l (by
         have:(j+1)*194<=n*194:=Nat.mul_le_mul_right _ a
         omega)
theorem rX.Sh (R:rX h n tid L F τ){j c p:Nat}(b:j<n)(a:c+p<194):h.cell L (j*194+c+p)=some (F (j*194+c+p)):=by
 rw[Nat.add_assoc];exact R.cell b a
end
theorem PE {n:Nat}{τ:pM}{d i:Nat}{x:List Nat}(h:(τ i).to (x.getD i 0)=none):Zc n τ (d+1) i x=(i,x):=by
 rw[Zc,h]
theorem RH {n:Nat}{τ:pM}{d i:Nat}{x z:List Nat}(h:(τ i).to (x.getD i 0)=some z):Zc n τ (d+1) i x=Zc n τ d (i+1) (if x.getD i 0=i then x else aX x (dA z)):=by
 rw[Zc,h]
theorem aaD (h:H)(n tid L:Nat)(F:Nat->V)(τ:pM)(U:V)(x:List Nat)(a:Nat)(hn:n<=64)(h0:0<n)(R:rX h n tid L F τ)(hx:PV (WT n L F) h U x)(X:bE n x)(Q:a<=n)(t:pI n a τ):
  Ev T 229 [.ptr tid 0,U,aC a] h (λv h'=> ∃vr,v= .tup [aC (((Zc n τ (n-a) a x).1:Nat):Int),vr]/\PV (WT n L F) h' vr (Zc n τ (n-a) a x).2/\bE n (Zc n τ (n-a) a x).2/\Fr h h'):=by
 refine cV tH rfl ?_
 simp(disch:=omega)only[go_sem,tH,aD]
 refine aH (λk' o hh=> ∃(i:Nat) (y:List Nat) (s:V),(∃g:Nat->V,o= [.ptr tid 0,s,g 2,g 3,g 4,aC i,g 6,g 7,g 8,g 9])/\a<=i/\i<=n/\Zc n τ (n-i) i y=Zc n τ (n-a) a x/\
   PV (WT n L F) hh s y/\bE n y/\Fr h hh/\k'=n-i) (n-a)
  ⟨a,x,U,aB rfl,fM _,Q,rfl,hx,X,Fr.refl h,rfl⟩ ?_
 rintro k' o d ⟨i,y,s,⟨g,rfl⟩,a2,a4,l,B,Y,f,rfl⟩
 have J:=R.mono f
 have N:d.cell tid 0=some (aC n):=by rw[H.aF J.t];rfl
 have P:d.cell tid 1=some (.sl L 0 n (.kn n)):=by rw[H.aF J.t];rfl
 simp(disch:=omega)only[go_sem,N,P]
 by_cases u:(i:Int)<(n:Int)
 ·have b:i<n:=om
  rw[bP u]
  obtain⟨id,O,K,a0,hc⟩:=B.si.open
  rw[aQ,Y.len] at K a0 hc
  have ci:d.cell id (O+i)=some (aC (y.getD i 0:Nat)):=by rw[hc i b];congr 2;simp [zi,Y.len,b]
  have r:=Y.iN b
  have lv:=(t i a2 b).1
  generalize hk:y.getD i 0=k at ci r
  have cb:=J.Sh (c:=66) (p:=k) b om
  have G:=J.iv i k b om
  simp(disch:=omega)only[go_sem,N,P,K.ixa,ci,cb]
  generalize F (i*194+66+k)=vb at G cb
  have q:n-i=(n-(i+1))+1:=om
  rw[q] at l
  cases hto:(τ i).to k with
  |none=>
   rw[hto] at G;rw[PE (by rw[hk];exact hto)] at l;have m:vb= .aE:=G;subst m;simp(disch:=omega)only[go_sem];rw[←l];exact⟨s,rfl,B.fx (Fx.of ((Fr.refl d).bA om)),Y,f.bA om⟩
  |some z=>
   rw[hto] at G;rw[RH (by rw[hk];exact hto),hk] at l;have Z:=lv.cU _ _ hto;have m:PV (WT n L F) d vb (dA z):=G;have sn:=Hv m (bE.ne h0 Z.inv) false;have A:Fr d (H.mk d.tr (d.next+14)):=(Fr.refl d).bA om
   by_cases w:k=i
   ·have e0:decide ((k:Int)≠(i:Int))=false:=bH om
    rw[bF w] at l;simp(disch:=omega)only[go_sem,sn,K.ixa,ci,e0];rw[eJ i];exact⟨n-(i+1),om,i+1,y,s,aB rfl,om,om,l,B.fx (Fx.of A),Y,f.trans A,rfl⟩
   ·have e0:decide ((k:Int)≠(i:Int))=true:=bP om
    rw[bI w] at l;simp(disch:=omega)only[go_sem,sn,K.ixa,ci,e0];have a1:=B.fx (Fx.of A);have a3:=m.fx (Fx.of A);have f':=f.trans A;generalize H.mk d.tr (d.next+14)=h3 at*;refine (mY oF.ok s vb y (dA z) h3 (by rw[Y.len];omega) a1.si a3.si (λj hj=>by rw[jQ,Z.len];exact Y.iN (by rw[←Y.len];exact hj))).mono ?_;rintro v h4 nw;have f4:=f'.trans nw.fr;simp(disch:=omega)only[go_sem];rw[eJ i];refine⟨n-(i+1),om,i+1,_,v,aB rfl,om,om,l,nw.pv (λhw=>?_),Y.mul Z.inv,f4,rfl⟩;have:=R.Nw hw;have:=f'.next;omega
 ·rw[bH u]
  obtain rfl:i=n:=om
  simp(disch:=omega)only[go_sem,N,P]
  rw[Nat.sub_self] at l
  have W:Zc i τ (i-a) a x=(i,y):=l.symm
  rw[W]
  exact⟨s,rfl,B,Y,f⟩
section
variable {h h' h2:H} {n tid L i:Nat} {F F':Nat->V} {τ τ':pM}
theorem PC (b: ∀s,s<2*n->uA F' s=uA F s)(id:Nat):WT n L F' id↔WT n L F id:=by
 unfold WT;constructor
 ·rintro (e|⟨s,a,h2⟩)
  ·exact .inl e
  ·exact .inr ⟨s,a,by rw[←b s a];exact h2⟩
 ·rintro (e|⟨s,a,h2⟩)
  ·exact .inl e
  ·exact .inr ⟨s,a,by rw[b s a];exact h2⟩
theorem QK {j:Nat}(P: ∀s,s<2*n->uA F' s=uA F s)(a:j<n):F' (j*194)=F (j*194)/\F' (j*194+1)=F (j*194+1):=
 ⟨(Hr F' j).symm.trans ((P _ om).trans (Hr F j)),(Jw F' j).symm.trans ((P _ om).trans (Jw F j))⟩
theorem PV.go {W W':Nat->Prop}{v:V}{l:List Nat}(p:PV W h v l)(f:Fx W h h')(a: ∀id,id<h.next->W' id->W id):PV W' h' v l:=⟨p.si.fx p.off f,p.off.lH p.si a⟩
theorem Slot.go {W W':Nat->Prop}{v:V}{o:Option (List Nat)}(s:Slot W h v o)(f:Fx W h h')(a: ∀id,id<h.next->W' id->W id):Slot W' h' v o:=by
 cases o with
 |none=>exact s
 |some y=>exact PV.go s f a
theorem fW.go {W W':Nat->Prop}{vs:List V}{ls:LN}(s:fW W h vs ls)(f:Fx W h h')(a: ∀id,id<h.next->W' id->W id):fW W' h' vs ls:=s.mono λ_ _ x=>PV.go x f a
theorem rX.cells (R:rX h n tid L F τ)(o:h.next<=h'.next)(z: ∀id,id≠L->id<h.next->h'.get id=h.get id)(J:h'.get L=some (.cells false (rc (n*194) F')))
  (k: ∀s,s<2*n->uA F' s=uA F s) (y: ∀j,j<n->(τ' j).gens=(τ j).gens/\(τ' j).orb=(τ j).orb)
  (u: ∀j p,j<n->p<64->Slot (WT n L F) h' (F' (j*194+2+p)) ((τ' j).to p)) (v: ∀j p,j<n->p<64->Slot (WT n L F) h' (F' (j*194+66+p)) (((τ' j).to p).map dA))
  (r: ∀j p,j<n->p<64->F' (j*194+130+p)= aC ((τ' j).tr p:Nat)):rX h' n tid L F' τ'/\Fx (WT n L F) h h'/\ ∀id,WT n L F' id↔WT n L F id:=by
 have f:Fx (WT n L F) h h':=⟨o,λid b h2=>z id (λe=>h2 (.inl e)) b⟩
 have w:=PC (L:=L) k
 have q:WT n L F'=WT n L F:=funext λid=>propext (w id)
 have x: ∀s,s<2*n-> ∀id a len c,uA F s= .sl id a len c->id<h.next->h'.get id=h.get id:=λs b id a len c e h2=>z id (λB=>(R.ap s b _ _ _ _ e) B.symm) h2
 refine⟨⟨?_,J,iW R.tn o,iW R.ln o,by rw[q];exact R.tw,by rw[q];exact u,by rw[q];exact v,r,λj d=>?_,λj d=>?_,λs A b h2 l=>by rw[k s b,k A h2];exact R.IQ s A b h2 l,λs b=>by rw[k s b];exact R.ap s b⟩,f,w⟩
 ·rw[f.get tid R.tn R.tw];exact R.t
 ·obtain⟨G,b,h2⟩:=R.gens j d
  rw[(QK k d).1,q,(y j d).1]
  exact⟨G,b.zA o λid a m c e l=>x (2*j) om id a m c (by rw[Hr];exact e) l,h2.fx f⟩
 ·rw[(QK k d).2,(y j d).2]
  exact (R.orb j d).zA o λid a m c e l=>x (2*j+1) om id a m c (by rw[Jw];exact e) l
structure aiH (h h':H)(n tid L:Nat)(F F':Nat->V)(s0:Nat):Prop where
 fx:Fx (WT n L F) h h'
 wt: ∀id,id<h.next->WT n L F' id->WT n L F id
 IQ: ∀s s',s<2*n->s'<2*n->s≠s'->Dis (uA F' s) (uA F' s')
 ap: ∀s,s<2*n->dL (uA F' s) L
 own: ∀s,s<2*n->s≠s0->uA F' s=uA F s/\ ∀ws,cY h (uA F s) 1 ws 0->cY h' (uA F s) 1 ws 0
theorem rX.aiD (R:rX h n tid L F τ){s0 y m:Nat}(w:s0<2*n){ws us:List V}(p:uL h (uA F s0) y m 1 ws us h2)(j: ∀s,s<2*n->s≠s0->uA F' s=uA F s){P:Kh}(f:uA F' s0= .sl h.next 0 (y+m) P)(o:Option Ob):
  aiH h (h2.set L o) n tid L F F' s0:=by
 have k: ∀s,s<2*n-> ∀id a len c,uA F s= .sl id a len c->id<h.next:=λs t id a len c e=>by
  obtain⟨ws,o⟩:=R.own t;exact (o.in _ _ _ _ e).1
 have K:Fx (WT n L F) h h2:=p.fx λid a len c e=> .inr ⟨s0,w,a,len,c,e⟩
 refine⟨K.trans (Fx.set h2 (.inl rfl:WT n L F L) o) (λ_ _ h=>h),λid d A=>?_,λs l d h2 r=>?_,λs d=>?_,λs d r=>⟨j s d r,λws N=>?_⟩⟩
 ·rcases A with e|⟨s,t,a,len,c,e⟩
  ·exact .inl e
  ·by_cases b:s=s0
   ·rw[b,f] at e;cases e;omega
   ·exact .inr ⟨s,t,a,len,c,by rw[←j s t b];exact e⟩
 ·by_cases b:s=s0
  ·rw[b,f,j l h2 om]
   intro i o n c e B J u z q
   cases e
   have:=k l h2 _ _ _ _ q
   omega
  ·rw[j s d b]
   by_cases x:l=s0
   ·rw[x,f]
    intro i o n c e B J u z q
    cases q
    have:=k s d _ _ _ _ e
    omega
   ·rw[j l h2 x];exact R.IQ s l d h2 r
 ·by_cases b:s=s0
  ·rw[b,f]
   exact dL.sl (by have:=R.ln;omega)
  ·rw[j s d b];exact R.ap s d
 ·refine N.zA (show h.next<=h2.next by rw[p.next];omega) λid a m c e O=>?_
  rw[H.aG h2 (λb:id=L=>(R.ap s d _ _ _ _ e) b.symm)]
  refine p.old id om λG v u z q b=>?_
  exact R.IQ s s0 d w r _ _ _ _ e _ _ _ _ q b
def F1 (F:Nat->V)(k:Nat)(v:V):Nat->V:=λc=>if c=k then v else F c
theorem rX.slot (R:rX h n tid L F τ){e f m:Nat}(hi:i<n)(W:e<2){ws us:List V}(p:uL h (F (i*194+e)) f m 1 ws us h2){h3:H}{v:V}{q:Kh}(u:q= .un 1∨q= .kn (f+m))(A:v= .sl h.next 0 (f+m) q)(o:h3=h2.set L (some (.cells false (rc (n*194) (F1 F (i*194+e) v)))))
  (a: ∀j,j<n->(τ' j).to=(τ j).to/\(τ' j).tr=(τ j).tr)
  (Q:Fx (WT n L F) h h3->(∀id,id<h.next->WT n L (F1 F (i*194+e) v) id->WT n L F id)->(∀s,s<2*n->s≠2*i+e-> ∀ws,cY h (uA F s) 1 ws 0->cY h3 (uA F s) 1 ws 0)->cY h3 v 1 (ws++us) 0->ws.length=f*1/\us.length=m*1->
   (∀j,j<n-> ∃vs,cY h3 (F1 F (i*194+e) v (j*194)) 1 vs 0/\fW (WT n L (F1 F (i*194+e) v)) h3 vs (τ' j).gens)/\ ∀j,j<n->cY h3 (F1 F (i*194+e) v (j*194+1)) 1 (ints (zi (τ' j).orb)) 0)
  (y:ws.length=f*1/\us.length=m*1):
  rX h3 n tid L (F1 F (i*194+e) v) τ'/\Fx (WT n L F) h h3/\ ∀id,id<h.next->WT n L (F1 F (i*194+e) v) id->WT n L F id:=by
 have w: ∀s,s<2*n->s≠2*i+e->uA (F1 F (i*194+e) v) s=uA F s:=λs d h2=>by
  unfold uA F1;rw[bI om]
 have k:(2*i+e)/2*194+(2*i+e)%2=i*194+e:=om
 have z:uA F (2*i+e)=F (i*194+e):=by unfold uA;rw[k]
 have x:uA (F1 F (i*194+e) v) (2*i+e)= .sl h.next 0 (f+m) q:=by unfold uA F1;rw[k,bF rfl,A]
 have G:=R.aiD (F':=F1 F (i*194+e) v) (s0:=2*i+e) om (by rw[z];exact p) w x (some (.cells false (rc (n*194) (F1 F (i*194+e) v))))
 rw[←o] at G
 obtain⟨J,N⟩:=Q G.fx G.wt (λs d h2=>(G.own s d h2).2) (by
  rw[A,o];have U:cY h2 (.sl h.next 0 (f+m) q) 1 (ws++us) 0:= .inr ⟨h.next,f+m,q, [],rfl,by rw[jZ,y.1,y.2];omega,by rcases u with e|e;exact .inl e;exact .inr ⟨e,rfl⟩,iJ _,by rw[p.next];omega,by rw[vF];exact p.get⟩;refine U.zA (fM _) λid O m c e P=>?_
  cases e
  exact H.aG h2 (by have:=R.ln;omega) _) y
 have K: ∀j c,2<=c->c<194->F1 F (i*194+e) v (j*194+c)=F (j*194+c):=λj c d h2=>by
  unfold F1;rw[bI om]
 have l: ∀j b c,2<=b->b+c<194->F1 F (i*194+e) v (j*194+b+c)=F (j*194+b+c):=λj b c d h2=>by
  rw[Nat.add_assoc];exact K j (b+c) om h2
 have r:=G.fx.next
 refine⟨⟨?_,by rw[o,H.aS],iW R.tn r,iW R.ln r,λB=>R.tw (G.wt _ R.tn B),λj p d h2=>?_,λj p d h2=>?_,λj p d h2=>?_,J,N,G.IQ,G.ap⟩,G.fx,G.wt⟩
 ·rw[G.fx.get tid R.tn R.tw];exact R.t
 ·rw[l j 2 p om om,(a j d).1];exact (R.to j p d h2).go G.fx G.wt
 ·rw[l j 66 p om om,(a j d).1];exact (R.iv j p d h2).go G.fx G.wt
 ·rw[l j 130 p om om,(a j d).2];exact R.tr j p d h2
theorem rX.more (R:rX h n tid L F τ)(hi:i<n){vs:List V}{c:V}{r:List Nat}(pv:fW (WT n L F) h vs (τ i).gens)(q:PV (WT n L F) h c r)(p:uL h (F (i*194)) (τ i).gens.length 1 1 vs [c] h2){h3:H}{v:V}(o:v= .sl h.next 0 ((τ i).gens.length+1) (.un 1))(d:h3=h2.set L (some (.cells false (rc (n*194) (F1 F (i*194) v))))):
  rX h3 n tid L (F1 F (i*194) v) (vI τ i ((τ i).more r))/\Fx (WT n L F) h h3/\ ∀id,id<h.next->WT n L (F1 F (i*194) v) id->WT n L F id:=by
 refine R.slot (e:=0) hi om p (.inl rfl) o d (λj a=>?_) (λf b l s t=>⟨λj a=>?_,λj a=>?_⟩) ⟨by have:=aM.length pv;omega,rfl⟩
 ·by_cases e:j=i
  ·subst e;rw[bU];exact⟨rfl,rfl⟩
  ·rw[dZ _ _ e];exact⟨rfl,rfl⟩
 ·by_cases e:j=i
  ·subst e
   rw[bU]
   refine⟨vs++ [c],?_,(fW.go pv f b).append (fW.one (PV.go q f b))⟩
   unfold F1;rw[bF (Nat.add_zero _).symm];exact s
  ·rw[dZ _ _ e]
   obtain⟨k,m,h2⟩:=R.gens j a
   refine⟨k,?_,fW.go h2 f b⟩
   have:=l (2*j) om om k (by rw[Hr];exact m)
   rw[Hr] at this
   unfold F1;rw[bI om];exact this
 ·have:=l (2*j+1) om om _ (by rw[Jw];exact R.orb j a)
  rw[Jw] at this
  unfold F1;rw[bI om]
  by_cases e:j=i
  ·subst e;rw[bU];exact this
  ·rw[dZ _ _ e];exact this
theorem rX.UW (R:rX h n tid L F τ)(hi:i<n){q:Nat}(p:uL h (F (i*194+1)) (τ i).orb.length 1 1 (ints (zi (τ i).orb)) [aC q] h2){h3:H}{v:V}{c:Kh}(b:c= .un 1∨c= .kn ((τ i).orb.length+1))(r:v= .sl h.next 0 ((τ i).orb.length+1) c)(d:h3=h2.set L (some (.cells false (rc (n*194) (F1 F (i*194+1) v))))):
  rX h3 n tid L (F1 F (i*194+1) v) (vI τ i {τ i with orb:=(τ i).orb++ [q]})/\Fx (WT n L F) h h3/\ ∀id,id<h.next->WT n L (F1 F (i*194+1) v) id->WT n L F id:=by
 refine R.slot (e:=1) hi om p b r d (λj a=>?_) (λf k m s u=>⟨λj a=>?_,λj a=>?_⟩) ⟨by rw[aP,aQ,uW],rfl⟩
 ·by_cases e:j=i
  ·subst e;rw[bU];exact⟨rfl,rfl⟩
  ·rw[dZ _ _ e];exact⟨rfl,rfl⟩
 ·obtain⟨l,o,h2⟩:=R.gens j a
  have:=m (2*j) om om l (by rw[Hr];exact o)
  rw[Hr] at this
  refine⟨l,?_,?_⟩
  ·unfold F1;rw[bI om];exact this
  ·by_cases e:j=i
   ·subst e;rw[bU];exact fW.go h2 f k
   ·rw[dZ _ _ e];exact fW.go h2 f k
 ·by_cases e:j=i
  ·subst e
   rw[bU]
   have t:ints (zi ((τ j).orb++ [q]))=ints (zi (τ j).orb)++ [aC q]:=by simp [zi,ints]
   show cY h3 _ 1 (ints (zi ((τ j).orb++ [q]))) 0
   rw[t]
   unfold F1;rw[bF rfl];exact s
  ·rw[dZ _ _ e]
   have:=m (2*j+1) om om _ (by rw[Jw];exact R.orb j a)
   rw[Jw] at this
   unfold F1;rw[bI om];exact this
theorem rX.tick (R:rX h n tid L F τ)(hi:i<n){q:Nat}(l:q<64){z:Int}(hz:z=((τ i).tr q:Nat)+1){h3:H}(c:h3=h.set L (some (.cells false (rc (n*194) (F1 F (i*194+130+q) (aC z)))))):
  rX h3 n tid L (F1 F (i*194+130+q) (aC z)) (vI τ i ((τ i).tick q))/\Fx (WT n L F) h h3/\ ∀id,WT n L (F1 F (i*194+130+q) (aC z)) id↔WT n L F id:=by
 subst c
 have f:Fx (WT n L F) h (h.set L (some (.cells false (rc (n*194) (F1 F (i*194+130+q) (aC z)))))):=Fx.set h (.inl rfl) _
 have b: ∀j,(vI τ i ((τ i).tick q) j).to=(τ j).to/\(vI τ i ((τ i).tick q) j).gens=(τ j).gens/\(vI τ i ((τ i).tick q) j).orb=(τ j).orb:=λj=>by
  by_cases e:j=i
  ·subst e;rw[bU];exact⟨rfl,rfl,rfl⟩
  ·rw[dZ _ _ e];exact⟨rfl,rfl,rfl⟩
 refine R.cells (fM _) (λid a _=>H.aG h a _) (H.aS ..) (λs k=>?_) (λj _=>(b j).2) (λj p a h2=>?_) (λj p a h2=>?_) (λj p a h2=>?_)
 ·unfold uA F1;rw[bI om]
 ·rw[(b j).1]
  have:=(R.to j p a h2).fx f
  unfold F1;rw[bI om];exact this
 ·rw[(b j).1]
  have:=(R.iv j p a h2).fx f
  unfold F1;rw[bI om];exact this
 ·have:=R.tr j p a h2
  unfold F1
  by_cases e:j=i
  ·subst e
   rw[bU]
   show _=aC (if p=q then (τ j).tr q+1 else (τ j).tr p:Nat)
   by_cases d:p=q
   ·subst d;rw[bF rfl,bF rfl,hz];rfl
   ·rw[bI om,bI d];exact this
  ·rw[bI om,dZ _ _ e];exact this
theorem rX.way (R:rX h n tid L F τ)(hi:i<n){q:Nat}(w:q<64){k d:V}{y:List Nat}(t:PV (WT n L F) h k y)(o:PV (WT n L F) h d (dA y)){h3:H}(m:h.next<=h3.next)(l: ∀id,id≠L->id<h.next->h3.get id=h.get id)
  (u:h3.get L=some (.cells false (rc (n*194) (F1 (F1 F (i*194+2+q) k) (i*194+66+q) d)))):
  rX h3 n tid L (F1 (F1 F (i*194+2+q) k) (i*194+66+q) d) (vI τ i {τ i with to:=λr=>if r=q then some y else (τ i).to r})/\Fx (WT n L F) h h3/\ ∀id,WT n L (F1 (F1 F (i*194+2+q) k) (i*194+66+q) d) id↔WT n L F id:=by
 have f:Fx (WT n L F) h h3:=⟨m,λid a h2=>l id (λe=>h2 (.inl e)) a⟩
 have b: ∀j,(vI τ i {τ i with to:=λr=>if r=q then some y else (τ i).to r} j).tr=(τ j).tr/\(vI τ i {τ i with to:=λr=>if r=q then some y else (τ i).to r} j).gens=(τ j).gens/\(vI τ i {τ i with to:=λr=>if r=q then some y else (τ i).to r} j).orb=(τ j).orb:=λj=>by
  by_cases e:j=i
  ·subst e;rw[bU];exact⟨rfl,rfl,rfl⟩
  ·rw[dZ _ _ e];exact⟨rfl,rfl,rfl⟩
 refine R.cells m l u (λs v=>?_) (λj _=>(b j).2) (λj p a h2=>?_) (λj p a h2=>?_) (λj p a h2=>?_)
 ·unfold uA F1;rw[bI om,bI om]
 ·have:=(R.to j p a h2).fx f
  unfold F1
  by_cases e:j=i
  ·subst e
   rw[bU]
   show Slot _ _ _ (if p=q then some y else (τ j).to p)
   by_cases c:p=q
   ·subst c;rw[bI om,bF rfl,bF rfl];exact PV.fx t f
   ·rw[bI om,bI om,bI c];exact this
  ·rw[bI om,bI om,dZ _ _ e];exact this
 ·have:=(R.iv j p a h2).fx f
  unfold F1
  by_cases e:j=i
  ·subst e
   rw[bU]
   show Slot _ _ _ ((if p=q then some y else (τ j).to p).map dA)
   by_cases c:p=q
   ·subst c;rw[bF rfl,bF rfl];exact PV.fx o f
   ·rw[bI om,bI om,bI c];exact this
  ·rw[bI om,bI om,dZ _ _ e];exact this
 ·rw[(b j).1]
  have:=R.tr j p a h2
  unfold F1;rw[bI om,bI om];exact this
end
theorem CK {l:List Nat}(nd:l.Nodup){k:Nat}(a:k<l.length):l.getD k 0∉l.take k:=by
 intro h;obtain⟨m,b,e⟩:=zF.1 h;have d:m<k:=by simp at b;omega
 rw[List.getElem_take,cJ a] at e;have c:=nd.idxOf_getElem m om;have f:=nd.idxOf_getElem k a;rw[e] at c;omega
theorem aeG {n i:Nat}{τ b:pM}{y s u z:List Nat}{q k:Nat}(c:CI n i τ)(J:i+1<n)(A:(τ i).to q=some y)(F:(τ i).tr q=k)(l:(τ i).gens[k]? =some s)(v:(τ i).to ((aX y s).getD i 0)=some u)
  (hz:z=aX (aX y s) (dA u)) (a:Iw n (i+1) z (vI τ i ((τ i).tick q)) b):CI n i b/\b i=(τ i).tick q/\ ∀j,j<i->b j=τ j:=by
 have B:b i=(τ i).tick q:=(a.low i om).trans (bU ..)
 have f: ∀j,j<i->b j=τ j:=λj t=>(a.low j om).trans (dZ _ _ om)
 have G:Iw n (i+1) z τ (vI b i (τ i)):=by
  have x: ∀j,i<j->vI τ i ((τ i).tick q) j=τ j:=λj t=>dZ _ _ om
  have d: ∀j,i<j->vI b i (τ i) j=b j:=λj t=>dZ _ _ om
  refine⟨λj t=>?_,a.tw.congr λj L _=>(d j om).symm,λs l=>?_,λs l=>?_,?_⟩
  ·by_cases e:j=i
   ·subst e;exact bU ..
   ·rw[dZ _ _ e];exact f j om
  ·rw[d _ om];exact a.old s (by rw[x _ om];exact l)
  ·rw[d _ om] at l
   have:=a.new s l;rwa [x _ om] at this
  ·rw[d _ om];exact a.has
 have m:s∈(τ i).gens:=AW l
 obtain⟨_,_,r⟩:=c.Mu om A m v
 obtain⟨K,p⟩:=c.added J G (by rw[hz];exact r)
 have o:vI b i (τ i) i=τ i:=bU ..
 have w:=K.tick (q:=q) (k:=k) (y:=y) (s:=s) (u:=u) (by rw[o];exact A) (by rw[o];exact F) (by rw[o];exact l) (by rw[o];exact v) (by rw[←hz];exact p)
 have e:vI (vI b i (τ i)) i ((vI b i (τ i) i).tick q)=b:=by
  funext j
  by_cases h:j=i
  ·subst h;rw[bU,bU,B]
  ·rw[dZ _ _ h,dZ _ _ h]
 rw[e] at w
 exact⟨w,B,f⟩
theorem cY.lens {h:H}{v:V}{ws:List V}{b n:Nat}(o:cY h v 1 ws b)(a:ws.length=n):bT v=some (aC n):=by
 unfold bT;rw[o.sv.len (n:=n) om om];rfl
theorem EX {F:Nat->V}{k c:Nat}{v:V}(h:c≠k):F1 F k v c=F c:=bI h
theorem Jr {N k:Nat}{F:Nat->V}(b:k<N)(a:H)(L:Nat)(v:V):dX (some (.cells false (rc N F))) a L k [v]=some (a.set L (some (.cells false (rc N (F1 F k v))))):=by
 rw[bN (by rw[kH];exact b),mS];rfl
def XQ (h:H)(n tid L:Nat)(F:Nat->V)(τ:pM)(i:Nat)(x:List Nat):V->H->Prop:=λ_ h'=> ∃F' τ',rX h' n tid L F' τ'/\Iw n i x τ τ'/\Fx (WT n L F) h h'/\ ∀id,id<h.next->WT n L F' id->WT n L F id
def MB (h:H)(n tid L:Nat)(F:Nat->V)(τ:pM)(i:Nat):V->H->Prop:=λ_ h'=> ∃F' τ',rX h' n tid L F' τ'/\pI n i τ'/\(∀j,j<i->τ' j=τ j)/\(τ' i).gens=(τ i).gens/\Fx (WT n L F) h h'/\ ∀id,id<h.next->WT n L F' id->WT n L F id
def XH (n i:Nat):Prop:= ∀(h:H) (tid L:Nat) (F:Nat->V) (τ:pM) (vx:V) (x:List Nat),rX h n tid L F τ->PV (WT n L F) h vx x->bE n x->Fix i x->pI n i τ->Ev T 193 [.ptr tid 0,vx,aC i] h (XQ h n tid L F τ i x)
def Wa (n i:Nat):Prop:= ∀(h:H) (tid L:Nat) (F:Nat->V) (τ:pM),rX h n tid L F τ->CI n i τ->Ev T 230 [.ptr tid 0,aC i] h (MB h n tid L F τ i)
structure ClS (h:H)(n tid L:Nat)(F:Nat->V)(τ:pM)(i:Nat)(h':H)(F':Nat->V)(τ':pM)(k:Nat):Prop where
 R:rX h' n tid L F' τ'
 c:CI n i τ'
 hk:k<=(τ' i).orb.length
 done: ∀r∈(τ' i).orb.take k,(τ' i).tr r=(τ' i).gens.length
 low: ∀j,j<i->τ' j=τ j
 gens:(τ' i).gens=(τ i).gens
 fx:Fx (WT n L F) h h'
 wt: ∀id,id<h.next->WT n L F' id->WT n L F id
theorem YY {n j:Nat}{l:Lv}(V:TE n j l)(b:j<n):l.orb.length<=n:=by
 have:=List.Nodup.length_le_of_subset V.nd (l₂:=List.range n) λx a=>Gu.2 (V.lt b a)
 simpa using this
theorem Vp (n i:Nat)(hn:n<=7)(hi:i<n)(A:i+1<n->XH n (i+1)):Wa n i:=by
 intro h a1 L F τ R c;refine cV rT rfl ?_;have cl:h.cell a1 1=some (.sl L 0 n (.kn n)):=by rw[H.aF R.t];rfl
 simp(disch:=omega)only[go_sem,rT,aD,cl];refine aH (λm N hh=> ∃(k:Nat) (F':Nat->V) (Q:pM),(∃g:Nat->V,N= [.ptr a1 0,aC i,.ptr L (i*194),aC k,g 4,g 5,g 6,g 7,g 8,g 9,g 10,g 11])/\ClS h n a1 L F τ i hh F' Q k/\m=n-k) n
  ⟨0,F,τ,aB rfl,⟨R,c,iJ _,λr d=>by simp at d,λ_ _=>rfl,rfl,Fx.refl _ h,λ_ _ h=>h⟩,rfl⟩ ?_
 rintro m N G ⟨k,a9,o,⟨g,rfl⟩,S,rfl⟩;have co:G.cell L (i*194+1)=some (a9 (i*194+1)):=S.R.cell hi om;have oo:=S.R.orb i hi;have lo:=cY.lens oo (by rw[aP,aQ]);have d1:=YY S.c.jX hi;simp(disch:=omega)only[go_sem,co,lo]
 by_cases a3:(k:Int)<((o i).orb.length:Int)
 case neg=>
  rw[bH a3];simp(disch:=omega)only[go_sem];refine⟨a9,o,S.R,S.c.full λq hq=>S.done q ?_,S.low,S.gens,S.fx,S.wt⟩;rw[Tn om];exact hq
 rw[bP a3];have b:k<(o i).orb.length:=om
 obtain⟨id,d7,sh,c8,hc⟩:=(show SI G (a9 (i*194+1)) (zi (o i).orb) from oo.sv).open;rw[aQ] at sh c8 hc;obtain⟨q,hq⟩:=exI ((o i).orb.getD k 0);have ck:G.cell id (d7+k)=some (aC q):=by rw[hc k b];congr 2;simp [zi,b,←hq]
 simp(disch:=omega)only[go_sem,co,sh.ixa,ck];have b1:q∈(o i).orb:=by rw[←hq,cJ b];exact zG b
 have f0:q<n:=S.c.jX.lt hi b1;clear sh c8 hc ck co lo oo d1 b1
 refine aH (λm N hh=> ∃(F':Nat->V) (Q:pM),(∃g:Nat->V,N= [.ptr a1 0,aC i,.ptr L (i*194),aC k,aC q,g 5,g 6,g 7,g 8,g 9,g 10,g 11])/\ClS h n a1 L F τ i hh F' Q k/\
   k<(Q i).orb.length/\(Q i).orb.getD k 0=q/\m=(Q i).gens.length-(Q i).tr q) ((o i).gens.length-(o i).tr q)
  ⟨a9,o,aB rfl,S,b,hq,rfl⟩ ?_
 clear a3 b hq S o a9;rintro m N K ⟨F2,a,⟨g2,rfl⟩,S,b,hq,rfl⟩;have R2:=S.R;have jX:=S.c.jX;have b1:q∈(a i).orb:=by rw[←hq,cJ b];exact zG b
 obtain⟨y,hy⟩:=jX.to b1;have Y:=jX.cU _ _ hy;have b7:K.cell L (i*194+130+q)=some (aC ((a i).tr q:Nat)):=by rw[R2.Sh hi om,R2.tr i q hi om]
 have cg:K.cell L (i*194)=some (F2 (i*194)):=by
  have:=R2.cell (c:=0) hi om;rwa [Nat.add_zero] at this
 obtain⟨vs,og,a7⟩:=R2.gens i hi;have lg:=cY.lens og (aM.length a7);have d1:=YY jX hi;simp(disch:=omega)only[go_sem,b7,cg,lg]
 by_cases a3:(((a i).tr q:Nat):Int)<((a i).gens.length:Int)
 case neg=>
  rw[bH a3];simp(disch:=omega)only[go_sem];rw[eJ k];have fb:Fr K (H.mk K.tr (K.next+12)):=(Fr.refl K).bA om;have e8:=jX.le q;refine⟨n-(k+1),om,k+1,F2,a,aB rfl,⟨R2.mono fb,S.c,b,λr d=>?_,S.low,S.gens,⟨mT S.fx.next fb.next,S.fx.get⟩,S.wt⟩,rfl⟩;rw[List.take_add_one,dD b,←cJ b,hq] at d;rcases pH.1 d with d|d
  ·exact S.done r d
  ·simp at d;subst d;omega
 rw[bP a3];obtain⟨t,ht⟩:=exI ((a i).tr q);rw[ht] at a3 b7;have f1:(a i).gens.length<=1000000:=mT jX.many (mT (Nat.pow_le_pow_left hn n) (mT (Nat.pow_le_pow_right om hn) (by decide)));obtain⟨e1,d4,c4,d2,d5⟩:=og.sv.shape (a i).gens.length (by have:=aM.length a7;omega) om;obtain⟨vS,d3,pS⟩:=a7.at (i:=t) om;obtain⟨s,hs⟩:=exI ((a i).gens.getD t []);rw[hs] at pS
 have a4:(a i).gens[t]? =some s:=by
  rw[←hs,List.getD,dD om];rfl
 have Sp:=jX.gP s (AW a4);have cS:K.cell e1 (d4+t)=some vS:=by rw[d5 t (by have:=aM.length a7;omega)];exact d3
 have pT:PV (WT n L F2) K (F2 (i*194+2+q)) y:=by
  have:=R2.to i q hi om;rw[hy] at this;exact this
 have hN:i*194+194<=n*194:=om
 simp(disch:=omega)only[go_sem,b7,cg,lg,c4.ixa,cS,R2.l,Jr,Mi,EX];have fb:Fr K (H.mk K.tr (K.next+12+13+11)):=(Fr.refl K).bA om
 obtain⟨h3,c2⟩: ∃h3,h3=(H.mk K.tr (K.next+12+13+11)).set L (some (.cells false (rc (n*194) (F1 F2 (i*194+130+q) (aC ((t:Int)+1)))))):=⟨_,rfl⟩
 rw[←c2];obtain⟨R3,f3,w3⟩:=(R2.mono fb).tick hi (q:=q) om (z:=(t:Int)+1) (by rw[ht]) c2;have c0:=(Fx.of (W:=WT n L F2) fb).trans f3 (λ_ _ h=>h);have c3:=PV.go pT c0 (λid _ h=>(w3 id).1 h);have d0:=PV.go pS c0 (λid _ h=>(w3 id).1 h);generalize F2 (i*194+2+q)=vt at pT c3;clear c2 pT pS b7 cg lg c4 d2 d5 cS d3 a7 og
 obtain⟨B,e2⟩: ∃B,B=F1 F2 (i*194+130+q) (aC ((t:Int)+1)):=⟨_,rfl⟩
 rw[←e2] at R3 w3 c3 d0
 obtain⟨J,w⟩: ∃J,J=vI a i ((a i).tick q):=⟨_,rfl⟩
 rw[←w] at R3;have e3:J i=(a i).tick q:=by rw[w];exact bU ..
 refine (mY oF.ok vt vS y s h3 (by rw[Y.len];omega) c3.si d0.si (λj hj=>by rw[Sp.len];exact Y.iN (by rw[←Y.len];exact hj))).mono ?_;rintro v O nw;have P:=Y.mul Sp;obtain⟨p,hp⟩:=exI ((aX y s).getD i 0);have e9:p<n:=by rw[←hp];exact P.iN hi
 have R4:=R3.mono nw.fr;have pv:=nw.pv (W:=WT n L B) (λx=>by have:=R3.Nw x;omega)
 have cp:O.cell h3.next i=some (aC p):=by
  rw[H.aF nw.get,Ip (by rw[P.len];exact hi),hp]
 have d6:O.cell L (i*194+2+p)=some (B (i*194+2+p)):=R4.Sh hi om;have f:=R4.to i p hi om;have ev:=nw.val;rw[P.len] at ev;have f4:Fx (WT n L F2) K O:=c0.trans (Fx.of (W:=WT n L F2) nw.fr) (λ_ _ h=>h);simp(disch:=omega)only[go_sem,ev,cp,d6];rw[←ev];have a0: ∀r∈(a i).orb.take k,r≠q:=λr d e=>CK jX.nd b (by rw[hq,←e];exact d)
 cases hpo:(a i).to p with
 |none=>
  have a5:B (i*194+2+p)= .aE:=by
   rw[e3] at f;have f:Slot _ _ _ ((a i).to p):=f;rw[hpo] at f;exact f
  simp(disch:=omega)only[go_sem,a5];refine (Ce zT.ok v n (aX y s) (H.mk O.tr (O.next+15)) om P (pv.mono ((Fr.refl O).bA om)).si).mono ?_;rintro vu h5 nu;have f5:Fr O h5:=((Fr.refl O).bA om:Fr O (H.mk O.tr (O.next+15))).trans nu.fr;have R5:=R4.mono f5;have c1:=pv.mono f5;have b9:=nu.pv (W:=WT n L B) (λx=>by have:=R4.Nw x;simp at this;omega);simp(disch:=omega)only[go_sem,R5.l,lG c1.fG.1 c1.fG.2,lG b9.fG.1 b9.fG.2,Jr,Mi,EX]
  obtain⟨F6,c5⟩: ∃F6,F6=F1 (F1 B (i*194+2+p) v) (i*194+66+p) vu:=⟨_,rfl⟩
  obtain⟨h6,b2⟩: ∃h6,h6=(h5.set L (some (Ob.cells false (rc (n*194) (F1 B (i*194+2+p) v))))).set L (some (Ob.cells false (rc (n*194) (F1 (F1 B (i*194+2+p) v) (i*194+66+p) vu)))):=⟨_,rfl⟩
  rw[←b2];obtain⟨R6,f6,w6⟩:=R5.way hi (q:=p) om c1 b9 (h3:=h6) (by rw[b2];exact fM _) (λid G _=>by rw[b2,H.aG _ G,H.aG _ G]) (by rw[b2,H.aS]);have eO:B (i*194+1)=F6 (i*194+1):=by rw[c5,EX om,EX om]
  rw[←c5] at R6 w6
  obtain⟨a2,b0⟩: ∃a2,a2=vI J i {J i with to:=λr=>if r=p then some (aX y s) else (J i).to r}:=⟨_,rfl⟩
  rw[←b0] at R6;have e6:a2 i={J i with to:=λr=>if r=p then some (aX y s) else (J i).to r}:=by rw[b0];exact bU ..
  have b4:(a2 i).orb=(a i).orb:=by rw[e6,e3];rfl
  simp(disch:=omega)only[go_sem,cT h6 (z:= aC 0) (v:= aC p) rfl rfl,eO]
  obtain⟨h7,b3⟩: ∃h7,h7=h6.new (.cells false [aC p]):=⟨_,rfl⟩
  have f7:Fr h6 h7:=by rw[b3];exact (Fr.refl h6).new _
  have n7:h7.next=h6.next+1:=by rw[b3];exact H.aU ..
  have g7:h7.get h6.next=some (.cells false [aC p]):=by rw[b3];exact H.aL ..
  rw[←b3];have R7:=R6.mono f7;have o7:=R7.orb i hi;rw[b4] at o7;obtain⟨h8,a8,p8⟩:=o7.push (bytes:=8) (SV.one om g7 (.kn 1)) (n:=(a i).orb.length) (m:=1) (by rw[aP,aQ,uW]) rfl om om om
  have gL:h8.get L=some (.cells false (rc (n*194) F6)):=by
   rw[p8.old L (by have:=R7.ln;omega) (by have:=R7.ap (2*i+1) om;rw[Jw] at this;exact this)];exact R7.l
  simp(disch:=omega)only[go_sem,a8,gL,Jr]
  obtain⟨h9,c7⟩: ∃h9,h9=h8.set L (some (.cells false (rc (n*194) (F1 F6 (i*194+1) (.sl h7.next 0 ((a i).orb.length+1) (.un 1)))))):=⟨_,rfl⟩
  rw[←c7];obtain⟨R9,f9,w9⟩:=R7.UW hi (q:=p) (by rw[b4];exact p8) (.inl rfl) (by rw[b4]) c7;rw[b4] at R9
  have eT:vI a2 i {a2 i with orb:=(a i).orb++ [p]}=vI a i (((a i).tick q).reach p (aX y s)):=by
   funext j
   by_cases e:j=i
   ·subst e
    rw[bU,bU,e6,e3];rfl
   ·rw[dZ _ _ e,dZ _ _ e,b0,dZ _ _ e,w,dZ _ _ e]
  rw[eT] at R9;have c9:=S.c.found hi hy ht a4 hp hpo;have ei:vI a i (((a i).tick q).reach p (aX y s)) i=((a i).tick q).reach p (aX y s):=bU ..
  have W9: ∀id,id<K.next->WT n L (F1 F6 (i*194+1) (.sl h7.next 0 ((a i).orb.length+1) (.un 1))) id->WT n L F2 id:=λid G x=>
   (w3 id).1 ((w6 id).1 (w9 id (by have:=f4.next;have:=f5.next;have:=f6.next;have:=f7.next;omega) x))
  have b5:WT n L B=WT n L F2:=funext λid=>propext (w3 id)
  have e5:WT n L F6=WT n L F2:=(funext λid=>propext (w6 id)).trans b5;rw[b5] at f6;rw[e5] at f9;have e4:Fx (WT n L F2) K h9:=f4.trans ((Fx.of f5).trans (f6.trans ((Fx.of f7).trans f9 (λ_ _ h=>h)) (λ_ _ h=>h)) (λ_ _ h=>h)) (λ_ _ h=>h);refine⟨(a i).gens.length-(t+1),om,_,_,aB rfl,⟨R9,c9,?_,?_,λj hj=>(dZ _ _ om).trans (S.low j hj),?_,S.fx.trans e4 λid G x=>S.wt id G x,λid G x=>S.wt id G (W9 id (by have:=S.fx.next;omega) x)⟩,?_,?_,?_⟩
  all_goals rw[ei]
  ·show k<=((a i).orb++ [p]).length
   rw[jZ];omega
  ·intro r d
   have d:r∈((a i).orb++ [p]).take k:=d;rw[List.take_append_of_le_length om] at d;show (if r=q then (a i).tr q+1 else (a i).tr r)=(a i).gens.length;rw[bI (a0 r d)];exact S.done r d
  ·exact S.gens
  ·show k<((a i).orb++ [p]).length
   rw[jZ];omega
  ·show ((a i).orb++ [p]).getD k 0=q
   rw[←hq,List.getD,List.getD,Dv b]
  ·show _=(a i).gens.length-(if q=q then (a i).tr q+1 else (a i).tr q)
   rw[bF rfl,ht]
 |some u=>
  have U:=jX.cU _ _ hpo
  have a5:PV (WT n L B) O (B (i*194+2+p)) u:=by
   rw[e3] at f;have f:Slot _ _ _ ((a i).to p):=f;rw[hpo] at f;exact f
  have sn:=Hv a5 (bE.ne om U) false;have ct:O.cell a1 0=some (aC n):=by rw[H.aF R4.t];rfl
  have e7:O.cell L (i*194+66+p)=some (B (i*194+66+p)):=R4.Sh hi om
  have e0:PV (WT n L B) O (B (i*194+66+p)) (dA u):=by
   have:=R4.iv i p hi om;rw[e3] at this;have this:Slot _ _ _ (((a i).to p).map dA):=this;rw[hpo] at this;exact this
  simp(disch:=omega)only[go_sem,sn,ct]
  by_cases b8:(i:Int)+1<(n:Int)
  ·rw[bP b8]
   simp(disch:=omega)only[go_sem,e7];refine (mY oF.ok v _ (aX y s) (dA u) O (by rw[P.len];omega) pv.si e0.si (λj hj=>by rw[jQ,U.len];exact P.iN (by rw[←P.len];exact hj))).mono ?_;rintro v2 h5 nu;have R5:=R4.mono nu.fr;have Z:=P.mul U.inv;have pz:=nu.pv (W:=WT n L B) (λx=>by have:=R4.Nw x;omega);obtain⟨_,b6,_⟩:=S.c.Mu hi hy (AW a4) (by rw[hp];exact hpo);simp(disch:=omega)only[go_sem];rw[eJ i];refine (A om h5 a1 L B J v2 _ R5 pz Z b6 ?_).mono ?_
   ·rw[w];exact S.c.up.afT om
   rintro vv h6 ⟨F6,a2,R6,a6,f6,w6⟩;rw[w] at a6;obtain⟨c6,e6,l6⟩:=aeG S.c om hy ht a4 (by rw[hp];exact hpo) rfl a6;have b5:WT n L B=WT n L F2:=funext λid=>propext (w3 id)
   rw[b5] at f6 w6;have d9:Fx (WT n L F2) K h6:=f4.trans ((Fx.of nu.fr).trans f6 (λ_ _ h=>h)) (λ_ _ h=>h);simp(disch:=omega)only[go_sem];refine⟨(a i).gens.length-(t+1),om,_,_,aB rfl,⟨R6,c6,?_,?_,λj hj=>(l6 j hj).trans (S.low j hj),?_,S.fx.trans d9 λid G x=>S.wt id G x,λid G x=>S.wt id G (w6 id (by have:=S.fx.next;have:=f4.next;have:=nu.fr.next;omega) x)⟩,?_,?_,?_⟩
   all_goals rw[e6]
   ·exact Nat.le_of_lt b
   ·intro r d
    have d:r∈(a i).orb.take k:=d;show (if r=q then (a i).tr q+1 else (a i).tr r)=(a i).gens.length;rw[bI (a0 r d)];exact S.done r d
   ·exact S.gens
   ·exact b
   ·exact hq
   ·show _=(a i).gens.length-(if q=q then (a i).tr q+1 else (a i).tr q)
    rw[bF rfl,ht]
  ·rw[bH b8]
   obtain⟨d8,b6,_⟩:=S.c.Mu hi hy (AW a4) (by rw[hp];exact hpo);have en:i+1=n:=om
   have c6:=S.c.tick hy ht a4 (by rw[hp];exact hpo) (by
    rw[en];rw[en] at b6
    exact vB.2 (b6.all d8))
   simp(disch:=omega)only[go_sem];rw[w] at R4;have e6:vI a i ((a i).tick q) i=(a i).tick q:=bU ..;refine⟨(a i).gens.length-(t+1),om,_,_,aB rfl,⟨R4,c6,?_,?_,λj hj=>(dZ _ _ om).trans (S.low j hj),?_,S.fx.trans f4 λid G x=>S.wt id G x,λid G x=>S.wt id G ((w3 id).1 x)⟩,?_,?_,?_⟩
   all_goals rw[e6]
   ·exact Nat.le_of_lt b
   ·intro r d
    have d:r∈(a i).orb.take k:=d;show (if r=q then (a i).tr q+1 else (a i).tr r)=(a i).gens.length;rw[bI (a0 r d)];exact S.done r d
   ·exact S.gens
   ·exact b
   ·exact hq
   ·show _=(a i).gens.length-(if q=q then (a i).tr q+1 else (a i).tr q)
    rw[bF rfl,ht]
def yX (τ:pM)(i m:Nat)(r:List Nat):pM:=λj=>if i<=j/\j<m then (τ j).more r else τ j
theorem DQ (τ:pM)(i:Nat)(r:List Nat):yX τ i i r=τ:=by
 funext j;unfold yX;rw[bI om]
theorem BW (τ:pM){i m:Nat}(r:List Nat)(h:i<=m):vI (yX τ i m r) m ((yX τ i m r m).more r)=yX τ i (m+1) r:=by
 funext j
 by_cases e:j=m
 ·subst e
  rw[bU];unfold yX;rw[bI om,bF om]
 ·rw[dZ _ _ e]
  unfold yX
  by_cases a:i<=j/\j<m
  ·rw[bF a,bF om]
  ·rw[bI a,bI om]
theorem EC (τ:pM)(i k:Nat)(r:List Nat):yX τ i (k+1) r=push τ i k r:=by
 funext j;unfold yX push
 by_cases h:i<=j/\j<=k
 ·rw[bF h,bF om]
 ·rw[bI h,bI om]
theorem aeY (a b c:Nat)(d:Kh):dE (.sl a b c d) (.sl a b c d)=true:=by simp [dE]
theorem Tv (n b:Nat)(hn:n<=7)(hi:b<n)(C: ∀j,b<=j->j<n->Wa n j):XH n b:=by
 intro h a L F τ vx x R hx X Fi t;refine cV uH rfl ?_;simp(disch:=omega)only[go_sem,uH,aD];refine (aaD h n a L F τ vx x b om om R hx X om t).mono ?_;have B:=TR (n-b) b x om t X Fi;obtain⟨k,hk⟩:=exI ((Zc n τ (n-b) b x).1);obtain⟨r,hr⟩:=exI ((Zc n τ (n-b) b x).2);rw[hk,hr] at B ⊢;rintro _ p ⟨vr,rfl,K,Rr,f1⟩;have R1:=R.mono f1;have ct:p.cell a 0=some (aC n):=by rw[H.aF R1.t];rfl
 simp(disch:=omega)only[go_sem,ct]
 by_cases a2:(k:Int)=(n:Int)
 ·rw[bP a2]
  have e:k=n:=om
  subst e;simp(disch:=omega)only[go_sem];exact⟨F,τ,R1,Iw.none t hi (B.in t hi),Fx.of f1,λ_ _ h=>h⟩
 rw[bH a2];have o:k<n:=by have:=B.le;omega
 have a7:=B.ge;simp(disch:=omega)only[go_sem]
 refine aH (λw d O=> ∃(m:Nat) (P:Nat->V),(∃g:Nat->V,d= [.ptr a 0,g 1,aC b,aC k,vr,aC m,g 6,g 7,g 8,g 9])/\b<=m/\m<=k+1/\rX O n a L P (yX τ b m r)/\PV (WT n L P) O vr r/\
   Fx (WT n L F) h O/\(∀id,id<h.next->WT n L P id->WT n L F id)/\w=k+1-m) (k+1-b)
  ⟨b,F,aB rfl,fM _,om,by rw[DQ];exact R1,K,Fx.of f1,λ_ _ h=>h,rfl⟩ ?_
 clear R1 ct K f1;rintro w d i ⟨m,F2,⟨g,rfl⟩,q,Y,z,K,f2,w2,rfl⟩;simp(disch:=omega)only[go_sem]
 by_cases f:(m:Int)<=(k:Int)
 ·rw[bP f]
  have y:m<n:=om
  have cl:i.cell a 1=some (.sl L 0 n (.kn n)):=by rw[H.aF z.t];rfl
  have cg:i.cell L (m*194)=some (F2 (m*194)):=by
   have:=z.cell (c:=0) y om;rwa [Nat.add_zero] at this
  have A:yX τ b m r m=τ m:=by unfold yX;rw[bI om]
  have ln:=z.ln;have tn:=z.tn;simp(disch:=omega)only[go_sem,cl,cg,cT _ K.fG.1 K.fG.2]
  obtain⟨s,v⟩: ∃s:H,s=H.mk ((H.mk i.tr (i.next+14)).new (Ob.cells false [vr])).tr (i.next+19):=⟨_,rfl⟩
  rw[←v];have g3:s.get (i.next+14)=aZ [vr]:=by rw[v];exact H.aL (H.mk i.tr (i.next+14)) _
  have n3:s.next=i.next+19:=by rw[v]
  have N:Fr i s:=⟨om,λid a9=>by rw[v];exact H.bG (H.mk i.tr (i.next+14)) (by simp;omega) _⟩
  have u:=z.mono N;have Q:=K.mono N;obtain⟨vs,o3,G⟩:=u.gens m y;rw[A] at G;have jX:=(t m q y).1;have a8:(τ m).gens.length<=1000000:=mT jX.many (mT (Nat.pow_le_pow_left hn n) (mT (Nat.pow_le_pow_right om hn) (by decide)));obtain⟨h4,a4,p4⟩:=o3.push (bytes:=24) (SV.one om g3 (.kn 1)) (n:=(τ m).gens.length) (m:=1) (by have:=aM.length G;omega) rfl om om om;have gt:h4.get a=s.get a:=p4.old a om (λid a3 nn c e e2=>u.tw (.inr ⟨2*m,om,a3,nn,c,by rw[Hr,e2];exact e⟩))
  have gL:h4.get L=aZ (rc (n*194) F2):=by
   rw[p4.old L om (by have:=u.ap (2*m) om;rw[Hr] at this;exact this)];exact u.l
  have a6:h4.cell a 1=some (.sl L 0 n (.kn n)):=by unfold H.cell;rw[gt,u.t];rfl
  have hN:m*194+194<=n*194:=om
  simp(disch:=omega)only[go_sem,a4,a6,aeY,gL,Jr]
  obtain⟨h5,a1⟩: ∃h5,h5=h4.set L (aZ (rc (n*194) (F1 F2 (m*194) (.sl s.next 0 ((τ m).gens.length+1) (.un 1))))):=⟨_,rfl⟩
  rw[←a1];obtain⟨R5,f5,w5⟩:=u.more y (by rw[A];exact G) Q (by rw[A];exact p4) (by rw[A]) a1;rw[BW τ r q] at R5;rw[eJ m];refine⟨k+1-(m+1),om,m+1,_,aB rfl,om,om,R5,PV.go Q f5 w5,f2.trans ((Fx.of (W:=WT n L F2) N).trans f5 (λ_ _ h=>h)) (λid p J=>w2 id p J),λid p J=>w2 id p (w5 id (by have:=f2.next;omega) J),rfl⟩
 rw[bH f];have A:m=k+1:=om
 subst A;rw[EC] at z;simp(disch:=omega)only[go_sem];have Z:=Nu.start B t o
 refine aH (λw d O=> ∃(m:Nat) (P:Nat->V) (U:pM),(∃g:Nat->V,d= [.ptr a 0,g 1,aC b,g 3,g 4,g 5,aC ((m:Int)- 1),g 7,g 8,g 9])/\b<=m/\m<=k+1/\rX O n a L P U/\Nu n b k r τ U m/\
   Fx (WT n L F) h O/\(∀id,id<h.next->WT n L P id->WT n L F id)/\w=m) (k+1)
  ⟨k+1,F2,_,aB (by rw[show ((k+1:Nat):Int)- 1=(k:Int) from om];rfl),om,om,z,Z,f2,w2,rfl⟩ ?_
 clear z Z f2 w2 K f q Y;rintro w d s ⟨m,F3,a0,⟨g3,rfl⟩,q,Y,u,AI,N,w3,hm⟩;subst hm;simp(disch:=omega)only[go_sem]
 by_cases f:(b:Int)<=(w:Int)- 1
 ·rw[bP f]
  obtain⟨j,rfl⟩: ∃j,w=j+1:=⟨w- 1,om⟩
  have ci:=AI.ci B t o om om;simp(disch:=omega)only[go_sem];rw[show ((j+1:Nat):Int)- 1=(j:Int) from om];refine (C j om om s a L F3 a0 u ci).mono ?_;rintro _ h4 ⟨F4,a5,R4,t4,l4,g4,f4,w4⟩;simp(disch:=omega)only[go_sem];refine⟨j,om,j,F4,a5,aB rfl,om,om,R4,AI.next om om l4 g4 t4,N.trans f4 (λid p J=>w3 id p J),λid p J=>w3 id p (w4 id (by have:=N.next;omega) J),rfl⟩
 rw[bH f];have A:w=b:=om
 rw[A] at AI;simp(disch:=omega)only[go_sem];exact⟨F3,a0,u,AI.done B t X o,N,w3⟩
theorem Vf (n:Nat)(b:n<=7): ∀d i,i+d=n->(i<n->XH n i)/\(i<n->Wa n i)
 |0,i,h=>⟨λa=>om,λa=>om⟩
 |d+1,i,h=>by
  have k:=Vf n b d (i+1) om
  have c: ∀j,i<=j->j<n->Wa n j:=λj l a=>by
   by_cases e:j=i
   ·subst e;exact Vp n j b a λf=>k.1 f
   ·exact (Vf n b (n-j) j om).2 a
  exact⟨λa=>Tv n i b a c,λa=>c i (fM _) a⟩
termination_by d=>d
theorem adY (n:Nat)(a:n<=7)(b:0<n):XH n 0:=(Vf n a n 0 om).1 b
end Go.Proofs.YtcdbmkidaecdiaaGreat
namespace Go.Pm
set_option maxRecDepth 100000
section
variable {x y:List Nat} {R:PZ}
def Lt (x y:List Nat):Prop:= ∃k,k<x.length/\(∀j,j<k->x.getD j 0=y.getD j 0)/\x.getD k 0<y.getD k 0
def Le (x y:List Nat):Prop:=x=y∨Lt x y
theorem Lt.asymm (a:Lt x y)(b:Lt y x):False:=by
 obtain⟨k,_,c,i⟩:=a;obtain⟨m,_,d,f⟩:=b;rcases Nat.lt_trichotomy k m with h|h|h
 ·have:=d k h;omega
 ·subst h;omega
 ·have:=c m h;omega
theorem Le.antisymm (a:Le x y)(b:Le y x):x=y:=by
 rcases a with a|a
 ·exact a
 ·rcases b with b|b
  ·exact b.symm
  ·exact (a.asymm b).elim
def oI (x:List Nat):Nat->List Nat->Nat
 |b, []=>b
 |b,q::l=>oI x (if x.getD q 0<x.getD b 0 then q else b) l
theorem EZ (x:List Nat): ∀(l:List Nat) (b:Nat),oI x b l∈b::l/\ ∀q∈b::l,x.getD (oI x b l) 0<=x.getD q 0
 | [],b=>⟨by simp [oI],λq f=>by simp at f;subst f;exact Nat.le_refl _⟩
 |q::l,b=>by
  have c:=EZ x l (if x.getD q 0<x.getD b 0 then q else b);unfold oI;refine⟨?_,λr a=>?_⟩
  ·rcases List.mem_cons.1 c.1 with h|h
   ·rw[h];split<;>simp
   ·exact List.mem_cons_of_mem _ (List.mem_cons_of_mem _ h)
  ·have d:=c.2 _ (List.mem_cons_self ..)
   rcases List.mem_cons.1 a with rfl|a
   ·split at d<;>(split<;>omega)
   ·rcases List.mem_cons.1 a with rfl|a
    ·split at d<;>(split<;>omega)
    ·exact c.2 r (List.mem_cons_of_mem _ a)
def Kb (τ:pM):Nat->Nat->List Nat->List Nat
 |0,_,x=>x
 |d+1,k,x=>Kb τ d (k+1) (if oI x k (τ k).orb=k then x else aX (((τ k).to (oI x k (τ k).orb)).getD []) x)
section
variable {n:Nat} {τ:pM} {G:List Nat->Prop}
theorem VH: ∀(d k:Nat) (x:List Nat),k+d=n->pI n k τ->bE n x-> ∃h,S n τ k h/\Kb τ d k x=aX h x/\ ∀g,S n τ k g->Le (Kb τ d k x) (aX g x)
 |0,k,x,h,_,X=>by
  obtain rfl:k=n:=oq
  refine⟨bL k,vB.2 rfl,(cL X).symm,λg f=> .inl ?_⟩;rw[vB] at f;subst f;exact (cL X).symm
 |d+1,k,x,h,t,X=>by
  have a:k<n:=oq
  have L:=(t k (Nat.le_refl _) a).1;have i:=t.mono (Nat.le_succ k);obtain⟨K,F⟩:=EZ x (τ k).orb k
  have B:oI x k (τ k).orb∈(τ k).orb:=by
   rcases List.mem_cons.1 K with h|h
   ·rw[h];exact L.base
   ·exact h
  obtain⟨y,b⟩:=L.to B;have Y:=L.cU _ y b
  have z:(if oI x k (τ k).orb=k then x else aX (((τ k).to (oI x k (τ k).orb)).getD []) x)=aX y x:=by
   split
   ·rename_i e
    rw[e,L.one] at b;cases b;exact (cL X).symm
   ·rw[b];rfl
  unfold Kb;rw[z];obtain⟨g,f,e,q⟩:=VH d (k+1) (aX y x) oq i (Y.mul X);have m:=i.cU a f;have r:S n τ k (aX g y):=(qD a).2 ⟨_,y,g,b,f,rfl⟩;refine⟨aX g y,r,by rw[e,aV m Y X],λu p=>?_⟩;have U:=t.cU oq p;obtain⟨v,l,w⟩:=t.sift a p;have c:=L.mem l;have V:=L.cU _ v l;have J:(aX u x).getD k 0=x.getD (u.getD k 0) 0:=cM (by rw[U.len];exact a)
  have N:(aX g (aX y x)).getD k 0=x.getD (oI x k (τ k).orb) 0:=by
   rw[cM (by rw[m.len];exact a),i.fix a f k oq,cM (by rw[Y.len];exact a),L.maps _ y b]
  have O:=F _ (List.mem_cons_of_mem _ c)
  by_cases o:x.getD (oI x k (τ k).orb) 0<x.getD (u.getD k 0) 0
  ·rw[e]
   refine .inr ⟨k,by rw[eY,m.len];exact a,λj A=>?_,by rw[J,N];exact o⟩;rw[cM (by rw[m.len];omega),i.fix a f j oq,cM (by rw[Y.len];omega),L.fix _ y b j A,cM (by rw[U.len];omega),t.fix oq p j A]
  ·have s:oI x k (τ k).orb=u.getD k 0:=X.inj (L.lt a B) (L.lt a c) oq
   rw[←s,b] at l;cases l;have:=q _ w;rwa [aV U Y.inv (Y.mul X),←aV Y.inv Y X,iE Y,cL X] at this
structure Xf (n:Nat)(G:List Nat->Prop)(i p:Nat)(x:List Nat):Prop where
 mem:G x
 fix:Fix i x
 maps:x.getD i 0=p
 least: ∀y,G y->Fix i y->y.getD i 0=p->Le x y
theorem Xf.uniq {i p:Nat}(a:Xf n G i p x)(b:Xf n G i p y):x=y:=
 (a.least y b.mem b.fix b.maps).antisymm (b.least x a.mem a.fix a.maps)
structure bC (n:Nat)(G:List Nat->Prop)(O:zI)(R:PZ):Prop where
 lo:O.length=n
 lr:R.length=n
 asc: ∀i,i<n->(O.getD i []).Pairwise (· < ·)
 mem: ∀i,i<n-> ∀p,p∈O.getD i []↔ ∃x,G x/\Fix i x/\x.getD i 0=p
 rl: ∀i,i<n->(R.getD i []).length=(O.getD i []).length
 rep: ∀i,i<n-> ∀k,k<(O.getD i []).length->Xf n G i ((O.getD i []).getD k 0) ((R.getD i []).getD k [])
theorem VD: ∀{a b:List Nat},a.Pairwise (· < ·)->b.Pairwise (· < ·)->(∀p,p∈a↔p∈b)->a=b
 | [], [],_,_,_=>rfl
 | [],y::b,_,_,h=>by have:=(h y).2 (by simp);simp at this
 |x::a, [],_,_,h=>by have:=(h x).1 (by simp);simp at this
 |x::a,y::b,ha,hb,h=>by
  obtain⟨k,l⟩:=List.pairwise_cons.1 ha;obtain⟨j,m⟩:=List.pairwise_cons.1 hb
  have e:x=y:=by
   have c:=(h x).1 (by simp);have f:=(h y).2 (by simp);rcases List.mem_cons.1 c with c|c
   ·exact c
   ·rcases List.mem_cons.1 f with f|f
    ·exact f.symm
    ·have:=j x c;have:=k y f;omega
  subst e;congr 1
  refine VD l m λp=>⟨λd=>?_,λd=>?_⟩
  ·rcases List.mem_cons.1 ((h p).1 (List.mem_cons_of_mem _ d)) with e|i
   ·subst e;have:=k p d;omega
   ·exact i
  ·rcases List.mem_cons.1 ((h p).2 (List.mem_cons_of_mem _ d)) with e|i
   ·subst e;have:=j p d;omega
   ·exact i
theorem Ff {α:Type}{d:α}{a b:List α}(f:a.length=b.length)(h: ∀i,i<a.length->a.getD i d=b.getD i d):a=b:=by
 refine List.ext_getElem f λi c j=>?_
 have:=h i c;simpa [List.getD,c,j] using this
theorem bC.uniq {O f:zI}{h:PZ}(a:bC n G O R)(b:bC n G f h):O=f/\R=h:=by
 have e:O=f:=Ff (d:= []) (by rw[a.lo,b.lo]) λi hi=>by
  rw[a.lo] at hi;exact VD (a.asc i hi) (b.asc i hi) λp=>(a.mem i hi p).trans (b.mem i hi p).symm
 subst e;refine⟨rfl,Ff (d:= []) (by rw[a.lr,b.lr]) λi hi=>?_⟩;rw[a.lr] at hi;refine Ff (d:= []) (by rw[a.rl i hi,b.rl i hi]) λk c=>?_
 rw[a.rl i hi] at c;exact (a.rep i hi k c).uniq (b.rep i hi k c)
theorem bC.congr {H:List Nat->Prop}{O:zI}(a:bC n G O R)(h: ∀x,G x↔H x):bC n H O R:=by
 have:G=H:=funext λx=>propext (h x)
 exact this▸a
theorem pI.chain (t:pI n 0 τ){O:zI}(F:O.length=n)(N:R.length=n)
  (u: ∀i,i<n->(O.getD i []).Pairwise (· < ·)) (mem: ∀i,i<n-> ∀p,p∈O.getD i []↔p∈(τ i).orb) (J: ∀i,i<n->(R.getD i []).length=(O.getD i []).length)
  (s: ∀i,i<n-> ∀k,k<(O.getD i []).length-> ∀y,(τ i).to ((O.getD i []).getD k 0)=some y->(R.getD i []).getD k []=Kb τ (n-(i+1)) (i+1) y):bC n (S n τ 0) O R:=by
 refine⟨F,N,u,λi hi p=>?_,J,λi hi k m=>?_⟩
 ·have L:=(t i (Nat.zero_le _) hi).1
  have d:=t.mono (Nat.zero_le i)
  rw[mem i hi p]
  constructor
  ·intro l
   obtain⟨y,a⟩:=L.to l
   have K:S n τ i y:=(d.gen hi).2 (L.gen p y a)
   have:=(t.Xo (Nat.zero_le i) oq).1 K
   exact⟨y,this.1,this.2,L.maps p y a⟩
  ·rintro⟨x,c,q,rfl⟩
   obtain⟨y,a,_⟩:=d.sift hi ((t.Xo (Nat.zero_le i) oq).2 ⟨c,q⟩)
   exact L.mem a
 ·have L:=(t i (Nat.zero_le _) hi).1
  have d:=t.mono (Nat.zero_le i)
  have o:=t.mono (Nat.zero_le (i+1))
  have l:(O.getD i []).getD k 0∈O.getD i []:=by
   rw[cJ m];exact List.getElem_mem m
  obtain⟨y,a⟩:=L.to ((mem i hi _).1 l)
  rw[s i hi k m y a]
  generalize (O.getD i []).getD k 0=p at a
  have Y:=L.cU p y a
  obtain⟨h,r,e,b⟩:=VH (n-(i+1)) (i+1) y oq o Y
  have H:=o.cU hi r
  have j:S n τ i (aX h y):=(qD hi).2 ⟨p,y,h,a,r,rfl⟩
  have w:=(t.Xo (Nat.zero_le i) oq).1 j
  rw[e] at b ⊢
  refine⟨w.1,w.2,?_,λz c q B=>?_⟩
  ·rw[cM (by rw[H.len];exact hi),o.fix hi r i oq,L.maps p y a]
  ·obtain⟨v,A,f⟩:=d.sift hi ((t.Xo (Nat.zero_le i) oq).2 ⟨c,q⟩)
   rw[B,a] at A
   cases A
   have Z:=t.cU (Nat.zero_le _) c
   have:=b _ f
   rwa [aV Z Y.inv Y,iE Y,bZ Z] at this
theorem Iw.group {i:Nat}{d:pM}(a:Iw n i x τ d)(t:pI n i τ)(hi:i<n)(X:bE n x)(z:List Nat):Go.Pm.S n d i z↔bX n (λg=>Go.Pm.S n τ i g∨g=x) z:=by
 have L:=(t i (Nat.le_refl _) hi).1
 have f: ∀g,(Go.Pm.S n τ i g∨g=x)->bE n g:=λg b=>by
  rcases b with b|rfl
  ·exact t.cU oq b
  ·exact X
 rw[a.tw.gen hi];constructor
 ·intro h
  refine h.le (bX.dN f) λg b=>(a.new g b).mono λu c=>?_
  rcases c with c|c
  ·exact .inl ((t.gen hi).2 (bX.of L.gP c))
  ·exact .inr c
 ·intro h
  refine h.le (bX.dN (a.tw i (Nat.le_refl _) hi).1.gP) λg b=>?_
  rcases b with b|rfl
  ·exact ((t.gen hi).1 b).mono a.old
  ·exact a.has
end
end
section
variable {j:Nat} {y:List Nat}
abbrev rL:=Nat->Nat->Option (List Nat)
def ins (t:rL):Nat->Nat->List Nat->Option (Nat×List Nat)
 |0,_,_=>none
 |d+1,i,x=>if x.getD i 0=i then ins t d (i+1) x else
  match t i (x.getD i 0) with
  |none=>some (i,x)
  |some y=>ins t d (i+1) (aX x (dA y))
def dd:zI->zI
 | []=> []
 |a::l=>if a∈dd l then dd l else a::dd l
theorem Vh {a:List Nat}: ∀{l:zI},a∈dd l↔a∈l
 | []=>Iff.rfl
 |b::l=>by
  unfold dd;have d:=Vh (a:=a) (l:=l);split
  ·rename_i h
   rw[d];constructor
   ·exact List.mem_cons_of_mem _
   ·intro c
    rcases List.mem_cons.1 c with rfl|c
    ·exact d.1 h
    ·exact c
  ·simp [d]
theorem Ms: ∀l:zI,(dd l).Nodup
 | []=>List.nodup_nil
 |b::l=>by
  unfold dd;split
  ·exact Ms l
  ·rename_i h;exact List.nodup_cons.2 ⟨h,Ms l⟩
def fR (n:Nat)(t:rL)(j:Nat):zI:=(List.range n).flatMap λi=>if j<=i then (List.range n).filterMap λp=>t i p else []
theorem fV {n:Nat}{t:rL}:y∈fR n t j↔ ∃i p,j<=i/\i<n/\p<n/\t i p=some y:=by
 simp only[fR,List.mem_flatMap,List.mem_range];constructor
 ·rintro⟨i,hi,h⟩
  split at h
  ·rename_i b
   obtain⟨p,a,e⟩:=List.mem_filterMap.1 h;exact⟨i,p,b,hi,List.mem_range.1 a,e⟩
  ·simp at h
 ·rintro⟨i,p,b,hi,a,e⟩
  refine⟨i,hi,?_⟩;rw[if_pos b];exact List.mem_filterMap.2 ⟨p,List.mem_range.2 a,e⟩
def kX (n:Nat)(t:rL):pM:=λj=>
 {gens:=dd (fR n t j)
  orb:=(List.range n).filter λp=>p==j||(t j p).isSome
  to:=λp=>if p=j then some (bL n) else t j p
  tr:=λq=>if q=j∨(t j q).isSome then (dd (fR n t j)).length else 0}
structure oK (n:Nat)(t:rL):Prop where
 lt: ∀i p y,t i p=some y->i<n/\p<n/\p≠i
 cU: ∀i p y,t i p=some y->bE n y
 fix: ∀i p y,t i p=some y->Fix i y
 maps: ∀i p y,t i p=some y->y.getD i 0=p
def Jh (n:Nat)(t:rL):Prop:= ∀a b,a∈fR n t 0->b∈fR n t 0->ins t n 0 (aX a b)=none
section
variable {n:Nat} {t:rL}
theorem uN {p:Nat}(T:oK n t)(b:j<n)(h:(kX n t j).to p=some y):bE n y/\Fix j y/\y.getD j 0=p/\(p=j/\y=bL n∨t j p=some y):=by
 have a:(if p=j then some (bL n) else t j p)=some y:=h;split at a
 ·rename_i e
  cases a;exact⟨bE.one n,Fix.one n j oq,by rw[e];exact fQ b,.inl ⟨e,rfl⟩⟩
 ·exact⟨T.cU _ _ _ a,T.fix _ _ _ a,T.maps _ _ _ a,.inr a⟩
theorem QM (T:oK n t): ∀(d j:Nat) (x:List Nat),j+d=n->S n (kX n t) j x->bE n x/\Fix j x
 |0,j,x,h,hs=>by
  obtain rfl:j=n:=oq
  rw[vB] at hs;subst hs;exact⟨bE.one j,Fix.one j j (Nat.le_refl _)⟩
 |d+1,j,x,h,hs=>by
  obtain⟨p,y,g,a,b,rfl⟩:=(qD oq).1 hs;obtain⟨G,F⟩:=QM T d (j+1) g oq b;obtain⟨Y,F2,_⟩:=uN T oq a;exact⟨G.mul Y,Fix.mul G oq (F.mono oq) F2⟩
theorem Ng (j:Nat)(a:j<n){x:List Nat}(X:bE n x)(h:S n (kX n t) (j+1) x):S n (kX n t) j x:=
 (qD a).2 ⟨j,bL n,x,by show (if j=j then some (bL n) else t j j)=_;rw[if_pos rfl],h,(bZ X).symm⟩
theorem Zr: ∀(d j:Nat),j+d=n->S n (kX n t) j (bL n)
 |0,j,h=>by
         obtain rfl:j=n:=oq
         exact vB.2 rfl
 |d+1,j,h=>Ng j oq (bE.one n) (Zr d (j+1) oq)
theorem Mw (T:oK n t): ∀(d j:Nat) (x:List Nat),j+d=n->bE n x->Fix j x->ins t d j x=none->S n (kX n t) j x
 |0,j,x,h,X,F,_=>by
  obtain rfl:j=n:=oq
  exact vB.2 (F.all X)
 |d+1,j,x,h,X,F,hi=>by
  unfold ins at hi;split at hi
  ·rename_i e
   exact Ng j oq X (Mw T d (j+1) x oq X (F.succ e) hi)
  ·rename_i e
   split at hi
   ·cases hi
   ·rename_i y a
    have Y:=T.cU _ _ _ a;have F2:=T.fix _ _ _ a;refine (qD oq).2 ⟨x.getD j 0,y,aX x (dA y),?_,?_,by rw[aV X Y.inv Y,iE Y,bZ X]⟩
    ·show (if x.getD j 0=j then some (bL n) else t j (x.getD j 0))=_
     rw[if_neg e];exact a
    ·refine Mw T d (j+1) _ oq (X.mul Y.inv) ((Fix.mul X oq F (Fix.inv Y oq F2)).succ ?_) hi
     rw[cM (by rw[X.len];omega)];have:=afU Y (show j<n by omega);rwa [T.maps _ _ _ a] at this
theorem Zg: ∀(k d j:Nat) (x:List Nat),Fix (j+k) x->ins t (d+k) j x=ins t d (j+k) x
 |0,_,_,_,_=>rfl
 |k+1,d,j,x,F=>by
  have e:ins t (d+k+1) j x=ins t (d+k) (j+1) x:=by
   show (if x.getD j 0=j then ins t (d+k) (j+1) x else _)=_;rw[if_pos (F j oq)]
  rw[show d+(k+1)=(d+k)+1 from rfl,e,Zg k d (j+1) x (by rw[show j+1+k=j+(k+1) from oq];exact F),show j+1+k=j+(k+1) from oq]
theorem OC (T:oK n t)(c:Jh n t){a b:List Nat}(i:j<=n)(d:a∈fR n t 0)(f:b∈fR n t 0)(A:bE n a)(B:bE n b)(k:Fix j a)(l:Fix j b):S n (kX n t) j (aX a b):=by
 have F:=Fix.mul A i k l;have h:=c a b d f;rw[show n=(n-j)+j from oq,Zg j (n-j) 0 _ (by rw[Nat.zero_add];exact F),Nat.zero_add] at h;exact Mw T (n-j) j _ oq (A.mul B) F h
theorem ahI (T:oK n t)(h:y∈fR n t j):S n (kX n t) j y:=by
 obtain⟨i,p,c,b,d,e⟩:=fV.1 h;have Y:=T.cU _ _ _ e
 have a:S n (kX n t) i y:=by
  refine (qD b).2 ⟨p,y,bL n,?_,Zr (n-(i+1)) (i+1) oq,(cL Y).symm⟩;show (if p=i then some (bL n) else t i p)=_;rw[if_neg (T.lt _ _ _ e).2.2];exact e
 have: ∀k,k<=i->S n (kX n t) (i-k) y:=by
  intro k
  induction k with
  |zero=>intro _;exact a
  |succ k ih=>
   intro f;refine Ng (i-(k+1)) oq Y ?_;rw[show i-(k+1)+1=i-k from oq];exact ih oq
 have:=this (i-j) oq;rwa [show i-(i-j)=j from oq] at this
theorem EM (T:oK n t)(c:Jh n t):pI n 0 (kX n t):=λj _ f=>by
 have d: ∀p,p∈(kX n t j).orb↔((kX n t j).to p).isSome:=by
  intro p;show p∈(List.range n).filter (λp=>p==j||(t j p).isSome)↔(if p=j then some (bL n) else t j p).isSome;rw[List.mem_filter,List.mem_range]
  by_cases e:p=j
  ·subst e;simp [f]
  ·simp only[beq_iff_eq,e,if_neg,Bool.or_eq_true,false_or]
   constructor
   ·exact λh=>h.2
   ·intro h
    obtain⟨y,F⟩:=Option.isSome_iff_exists.1 h;exact⟨(T.lt _ _ _ F).2.1,h⟩
 have b: ∀s,s∈(kX n t j).gens↔s∈fR n t j:=λs=>Vh
 have a: ∀s,s∈fR n t j->bE n s/\Fix j s/\s∈fR n t 0:=λs l=>by
  obtain⟨i,p,v,r,o,e⟩:=fV.1 l;exact⟨T.cU _ _ _ e,(T.fix _ _ _ e).mono v,fV.2 ⟨i,p,Nat.zero_le _,r,o,e⟩⟩
 refine⟨⟨List.nodup_range.filter _,(d j).2 ?_,?_,d,λp y h=>(uN T f h).1,λp y h=>(uN T f h).2.1,λp y h=>(uN T f h).2.2.1,λp y h=>?_,λs l=>(a s ((b s).1 l)).1,λs l=>(a s ((b s).1 l)).2.1,Ms _,λq=>?_,λq x=>?_⟩,λq y F k s hk l=>?_,λq x=>?_,λh s l=>?_⟩
 ·show (if j=j then some (bL n) else t j j).isSome
  rw[if_pos rfl];rfl
 ·show (if j=j then some (bL n) else t j j)=_
  rw[if_pos rfl]
 ·rcases (uN T f h).2.2.2 with ⟨_,rfl⟩|e
  ·exact .one
  ·refine bX.of (λg z=>(a g ((b g).1 z)).1) ((b y).2 (fV.2 ⟨j,p,Nat.le_refl _,f,(T.lt _ _ _ e).2.1,e⟩))
 ·show (if q=j∨(t j q).isSome then (dd (fR n t j)).length else 0)<=_
  split
  ·exact Nat.le_refl _
  ·exact Nat.zero_le _
 ·show (if q=j∨(t j q).isSome then (dd (fR n t j)).length else 0)=0
  rw[if_neg];rintro (e|e)
  ·exact x ((d q).2 (by show (if q=j then some (bL n) else t j q).isSome;rw[if_pos e];rfl))
  ·refine x ((d q).2 ?_)
   show (if q=j then some (bL n) else t j q).isSome;split
   ·rfl
   ·exact e
 ·--closure
  have w:s∈fR n t j:=(b s).1 (List.mem_of_getElem? l);obtain⟨J,R,G⟩:=a s w;obtain⟨Y,Q,W,m⟩:=uN T f F
  have P:S n (kX n t) j (aX y s):=by
   rcases m with ⟨_,rfl⟩|e
   ·rw[cL J];exact ahI T w
   ·exact OC T c oq (fV.2 ⟨j,q,Nat.zero_le _,f,(T.lt _ _ _ e).2.1,e⟩) G Y J Q R
  obtain⟨p,u,g,v,r,o⟩:=(qD f).1 P;obtain⟨U,Z,O,_⟩:=uN T f v;obtain⟨B,N⟩:=QM T (n-(j+1)) (j+1) g oq r
  have L:(aX y s).getD j 0=p:=by
   rw[o,cM (by rw[B.len];exact f),N j oq,O]
  refine⟨u,by rw[L];exact v,?_⟩;rw[o,aV B U U.inv,fC U,bZ B];exact r
 ·show (if q=j∨(t j q).isSome then (dd (fR n t j)).length else 0)=(dd (fR n t j)).length
  rw[if_pos];have:=(d q).1 x;have K:(if q=j then some (bL n) else t j q).isSome:=this;split at K
  ·rename_i e;exact .inl e
  ·exact .inr K
 ·have A:s∈fR n t (j+1):=Vh.1 l
  obtain⟨i,p,v,r,o,e⟩:=fV.1 A;exact bX.of (λg z=>(a g ((b g).1 z)).1) ((b s).2 (fV.2 ⟨i,p,oq,r,o,e⟩))
theorem DJ (T:oK n t)(c:Jh n t)(a:0<n)(x:List Nat):S n (kX n t) 0 x↔bX n (· ∈fR n t 0) x:=by
 rw[(EM T c).gen a];have:(λg=>g∈(kX n t 0).gens)=λg=>g∈fR n t 0:=funext λg=>propext Vh
 rw[this]
def put (t:rL)(i p:Nat)(x:List Nat):rL:=λj q=>if j=i/\q=p then some x else t j q
def jJ (t:rL)(n:Nat)(x:List Nat):rL:=match ins t n 0 x with
 |none=>t
 |some (i,r)=>put t i (r.getD i 0) r
theorem Bu (T:oK n t): ∀(d j:Nat) (x:List Nat) (i:Nat) (r:List Nat),j+d=n->bE n x->Fix j x->ins t d j x=some (i,r)->
  j<=i/\i<n/\bE n r/\Fix i r/\r.getD i 0≠i/\t i (r.getD i 0)=none/\ ∃w,bX n (· ∈fR n t 0) w/\x=aX r w
 |0,_,_,_,_,_,_,_,h=>by cases h
 |d+1,j,x,i,r,h,X,F,hi=>by
  unfold ins at hi;split at hi
  ·rename_i e
   obtain⟨l,c⟩:=Bu T d (j+1) x i r oq X (F.succ e) hi;exact⟨oq,c⟩
  ·rename_i e
   split at hi
   ·rename_i q
    cases hi;exact⟨Nat.le_refl _,oq,X,F,e,q,bL n,.one,(bZ X).symm⟩
   ·rename_i y a
    have Y:=T.cU _ _ _ a
    have u: ∀g,g∈fR n t 0->bE n g:=λg o=>by
     obtain⟨_,_,_,_,_,e⟩:=fV.1 o;exact T.cU _ _ _ e
    obtain⟨l,c,k,p,m,v,w,f,s⟩:=Bu T d (j+1) _ i r oq (X.mul Y.inv) ((Fix.mul X oq F (Fix.inv Y oq (T.fix _ _ _ a))).succ (by
     rw[cM (by rw[X.len];omega)];have:=afU Y (show j<n by omega)
     rwa [T.maps _ _ _ a] at this)) hi
    have b:y∈fR n t 0:=fV.2 ⟨j,_,Nat.zero_le _,oq,(T.lt _ _ _ a).2.1,a⟩;refine⟨oq,c,k,p,m,v,aX w y,f.mul b,?_⟩;rw[←aV k (f.cU u) Y,←s,aV X Y.inv Y,iE Y,bZ X]
theorem xS (T:oK n t): ∀(d j:Nat) (x:List Nat),j+d=n->bE n x->Fix j x->ins t d j x=none->bX n (· ∈fR n t 0) x
 |0,j,x,h,X,F,_=>by
  obtain rfl:j=n:=oq
  rw[F.all X];exact .one
 |d+1,j,x,h,X,F,hi=>by
  unfold ins at hi;split at hi
  ·rename_i e
   exact xS T d (j+1) x oq X (F.succ e) hi
  ·rename_i e
   split at hi
   ·cases hi
   ·rename_i y a
    have Y:=T.cU _ _ _ a
    have b:=xS T d (j+1) _ oq (X.mul Y.inv) ((Fix.mul X oq F (Fix.inv Y oq (T.fix _ _ _ a))).succ (by
     rw[cM (by rw[X.len];omega)];have:=afU Y (show j<n by omega)
     rwa [T.maps _ _ _ a] at this)) hi
    have:=b.mul (fV.2 ⟨j,_,Nat.zero_le _,oq,(T.lt _ _ _ a).2.1,a⟩);rwa [aV X Y.inv Y,iE Y,bZ X] at this
def Sub (t t':rL):Prop:= ∀i p y,t i p=some y->t' i p=some y
theorem Fg {a:rL}(s:Sub t a): ∀(d j:Nat) (x:List Nat),ins t d j x=none->ins a d j x=none
 |0,_,_,_=>rfl
 |d+1,j,x,h=>by
  unfold ins at h ⊢;split at h
  ·rename_i e;rw[if_pos e];exact Fg s d _ _ h
  ·rename_i e
   rw[if_neg e];split at h
   ·cases h
   ·rename_i y b
    rw[s _ _ _ b];exact Fg s d _ _ h
theorem EW {i p:Nat}{x:List Nat}(h:t i p=none):Sub t (put t i p x):=λj q y a=>by
 unfold put;rw[if_neg (λe=>by rw[e.1,e.2,h] at a;cases a)];exact a
theorem Ui (T:oK n t): ∀(d j:Nat) (x:List Nat) (i:Nat) (r:List Nat),j+d=n->bE n x->Fix j x->ins t d j x=some (i,r)->ins (put t i (r.getD i 0) r) d j x=none
 |0,_,_,_,_,_,_,_,h=>by cases h
 |d+1,j,x,i,r,h,X,F,hi=>by
  obtain⟨l,p,k,m,f,c,_⟩:=Bu T (d+1) j x i r h X F hi;have sub:=EW (t:=t) (x:=r) c;unfold ins at hi ⊢;split at hi
  ·rename_i e;rw[if_pos e];exact Ui T d (j+1) x i r oq X (F.succ e) hi
  ·rename_i e
   rw[if_neg e];split at hi
   ·cases hi
    have:put t j (x.getD j 0) x j (x.getD j 0)=some x:=by unfold put;rw[if_pos ⟨rfl,rfl⟩]
    rw[this];simp only;rw[fC X]
    have: ∀(d j:Nat),j+d=n-> ∀b:rL,ins b d j (bL n)=none:=by
     intro d
     induction d with
     |zero=>intro _ _ _;rfl
     |succ d ih=>intro j o b;unfold ins;rw[if_pos (fQ oq)];exact ih (j+1) oq b
    exact this d (j+1) oq _
   ·rename_i y a
    have Y:=T.cU _ _ _ a;rw[sub _ _ _ a]
    exact Ui T d (j+1) _ i r oq (X.mul Y.inv) ((Fix.mul X oq F (Fix.inv Y oq (T.fix _ _ _ a))).succ (by
     rw[cM (by rw[X.len];omega)];have:=afU Y (show j<n by omega)
     rwa [T.maps _ _ _ a] at this)) hi
end
end
section
variable {x:List Nat}
section
variable {n:Nat} {t:rL}
theorem oK.MK (T:oK n t){j:Nat}: ∀g,g∈fR n t j->bE n g:=λg a=>by
 obtain⟨_,_,_,_,_,e⟩:=fV.1 a;exact T.cU _ _ _ e
theorem Sub.refl (t:rL):Sub t t:=λ_ _ _ h=>h
theorem Sub.trans {a b c:rL}(x:Sub a b)(y:Sub b c):Sub a c:=λi p z h=>y i p z (x i p z h)
theorem oK.empty (n:Nat):oK n (λ_ _=>none):=⟨λ_ _ _ h=>(by cases h),λ_ _ _ h=>(by cases h),λ_ _ _ h=>(by cases h),λ_ _ _ h=>(by cases h)⟩
theorem aaG (T:oK n t)(X:bE n x):oK n (jJ t n x)/\Sub t (jJ t n x)/\ins (jJ t n x) n 0 x=none/\ ∀g,g∈fR n (jJ t n x) 0->bX n (λu=>u∈fR n t 0∨u=x) g:=by
 unfold jJ
 cases h:ins t n 0 x with
 |none=>exact⟨T,Sub.refl t,h,λg l=>bX.of (λu c=>by rcases c with c|rfl;exact T.MK u c;exact X) (.inl l)⟩
 |some q=>
  obtain⟨i,r⟩:=q;have p:Fix 0 x:=λk K=>oq
  obtain⟨L,o,d,F,v,B,w,m,A⟩:=Bu T n 0 x i r oq X p h
  have a: ∀j q y,put t i (r.getD i 0) r j q=some y->(j=i/\q=r.getD i 0/\y=r)∨t j q=some y:=λj q y b=>by
   unfold put at b;split at b
   ·rename_i e;cases b;exact .inl ⟨e.1,e.2,rfl⟩
   ·exact .inr b
  refine⟨⟨λj q y b=>?_,λj q y b=>?_,λj q y b=>?_,λj q y b=>?_⟩,EW B,Ui T n 0 x i r oq X p h,λg l=>?_⟩
  ·rcases a j q y b with ⟨rfl,rfl,rfl⟩|h
   ·exact⟨o,d.iN o,v⟩
   ·exact T.lt _ _ _ h
  ·rcases a j q y b with ⟨rfl,rfl,rfl⟩|h
   ·exact d
   ·exact T.cU _ _ _ h
  ·rcases a j q y b with ⟨rfl,rfl,rfl⟩|h
   ·exact F
   ·exact T.fix _ _ _ h
  ·rcases a j q y b with ⟨rfl,rfl,rfl⟩|h
   ·rfl
   ·exact T.maps _ _ _ h
  ·have f: ∀u,(u∈fR n t 0∨u=x)->bE n u:=λu c=>by
    rcases c with c|rfl
    ·exact T.MK u c
    ·exact X
   obtain⟨j,q,s,G,z,e⟩:=fV.1 l;rcases a j q g e with ⟨_,_,rfl⟩|h
   ·have W:=m.cU T.MK
    have J:g=aX x (dA w):=by rw[A,aV d W W.inv,fC W,bZ d]
    rw[J];exact (bX.of f (.inr rfl)).app f ((m.mono λu c=>Or.inl c).inv f)
   ·exact bX.of f (.inl (fV.2 ⟨j,q,s,G,z,h⟩))
structure Oo (n:Nat)(L:List Nat->Prop)(t:rL):Prop where
 tab:oK n t
 gen: ∀g,g∈fR n t 0->bX n L g
variable {L:List Nat->Prop}
theorem Oo.ins (a:Oo n L t)(d: ∀g,L g->bE n g)(c:bX n L x):Oo n L (jJ t n x)/\Sub t (jJ t n x)/\Go.Pm.ins (jJ t n x) n 0 x=none:=by
 obtain⟨f,k,h,i⟩:=aaG a.tab (c.cU d);refine⟨⟨f,λg j=>(i g j).le (bX.dN d) λu b=>?_⟩,k,h⟩;rcases b with b|rfl
 ·exact a.gen u b
 ·exact c
theorem Oo.group (a:Oo n L t)(b: ∀g,L g->bE n g)(f:0<n)(c:Jh n t)(hi: ∀g,L g->Go.Pm.ins t n 0 g=none)(x:List Nat):S n (kX n t) 0 x↔bX n L x:=by
 rw[DJ a.tab c f];constructor
 ·exact λh=>h.le (bX.dN b) a.gen
 ·exact λh=>h.le (bX.dN a.tab.MK) λg d=>xS a.tab n 0 g oq (b g d) (λk i=>oq) (hi g d)
structure SK (n:Nat)(L:List Nat->Prop)(τ:pM):Prop where
 tw:pI n 0 τ
 group: ∀x,S n τ 0 x↔bX n L x
theorem SK.start (a:0<n):SK n (λ_=>False) (PX n):=by
 refine⟨PI n,λx=>?_⟩;rw[(PI n).gen a];have:(λg=>g∈(PX n 0).gens)=λ_=>False:=funext λg=>propext ⟨λh=>(by cases h),λh=>h.elim⟩
 rw[this]
theorem SK.add {τ d:pM}(a:SK n L τ)(j:0<n)(i: ∀g,L g->bE n g)(X:bE n x)(b:Iw n 0 x τ d):SK n (λg=>L g∨g=x) d:=by
 refine⟨b.tw,λz=>?_⟩
 have f: ∀g,(L g∨g=x)->bE n g:=λg c=>by
  rcases c with c|rfl
  ·exact i g c
  ·exact X
 rw[b.group a.tw j X z];constructor
 ·intro h
  refine h.le (bX.dN f) λg c=>?_
  rcases c with c|rfl
  ·exact ((a.group g).1 c).mono λu k=> .inl k
  ·exact bX.of f (.inr rfl)
 ·intro h
  refine h.mono λg c=>?_
  rcases c with c|rfl
  ·exact .inl ((a.group g).2 (bX.of i c))
  ·exact .inr rfl
theorem SK.congr {M:List Nat->Prop}{τ:pM}(a:SK n L τ)(h: ∀g,L g↔M g):SK n M τ:=by
 have:L=M:=funext λg=>propext (h g)
 exact this▸a
end
def BV (n:Nat)(R:PZ):List Nat->Prop:=bX n λg=>g∈R.flatten
def Valid (n:Nat)(O:zI)(R:PZ):Prop:=(∀g∈R.flatten,bE n g)/\bC n (BV n R) O R
theorem Valid.iff {n:Nat}{O b:zI}{R a:PZ}(d: ∀g∈R.flatten,bE n g)(c:bC n (BV n R) b a):Valid n O R↔O=b/\R=a:=by
 constructor
 ·rintro⟨_,h⟩;exact h.uniq c
 ·rintro⟨rfl,rfl⟩;exact⟨d,c⟩
theorem Valid.dN {n:Nat}{O:zI}{R:PZ}(v:Valid n O R):iX n (BV n R):=bX.dN v.1
end
end Go.Pm
namespace Go.Proofs.YtcdbmkidaecdiaaGreat
open Go Go.Ay Go.Pm
set_option maxRecDepth 100000
def Kx (c:Nat):V:=if c<130 then .aE else aC 0
def lv0:Lv:=⟨[], [],λ_=>none,λ_=>0⟩
theorem XF: [V.aE,V.aE,V.aE,V.aE,V.aE,V.aE,V.aE,V.aE,V.aE,V.aE,V.aE,V.aE,V.aE,V.aE,V.aE,V.aE,V.aE,V.aE,V.aE,V.aE,V.aE,V.aE,V.aE,V.aE,V.aE,V.aE,V.aE,V.aE,V.aE,V.aE,V.aE,V.aE,V.aE,V.aE,V.aE,V.aE,V.aE,V.aE,V.aE,V.aE,V.aE,V.aE,V.aE,V.aE,V.aE,V.aE,V.aE,V.aE,V.aE,V.aE,V.aE,V.aE,V.aE,V.aE,V.aE,V.aE,V.aE,V.aE,V.aE,V.aE,V.aE,V.aE,V.aE,V.aE,V.aE,V.aE,V.aE,V.aE,V.aE,V.aE,V.aE,V.aE,V.aE,V.aE,V.aE,V.aE,V.aE,V.aE,V.aE,V.aE,V.aE,V.aE,V.aE,V.aE,V.aE,V.aE,V.aE,V.aE,V.aE,V.aE,V.aE,V.aE,V.aE,V.aE,V.aE,V.aE,V.aE,V.aE,V.aE,V.aE,V.aE,V.aE,V.aE,V.aE,V.aE,V.aE,V.aE,V.aE,V.aE,V.aE,V.aE,V.aE,V.aE,V.aE,V.aE,V.aE,V.aE,V.aE,V.aE,V.aE,V.aE,V.aE,V.aE,V.aE,V.aE,V.aE,V.aE,V.aE,V.aE,V.aE,(aC 0),(aC 0),(aC 0),(aC 0),(aC 0),(aC 0),(aC 0),(aC 0),(aC 0),(aC 0),(aC 0),(aC 0),(aC 0),(aC 0),(aC 0),(aC 0),(aC 0),(aC 0),(aC 0),(aC 0),(aC 0),(aC 0),(aC 0),(aC 0),(aC 0),(aC 0),(aC 0),(aC 0),(aC 0),(aC 0),(aC 0),(aC 0),(aC 0),(aC 0),(aC 0),(aC 0),(aC 0),(aC 0),(aC 0),(aC 0),(aC 0),(aC 0),(aC 0),(aC 0),(aC 0),(aC 0),(aC 0),(aC 0),(aC 0),(aC 0),(aC 0),(aC 0),(aC 0),(aC 0),(aC 0),(aC 0),(aC 0),(aC 0),(aC 0),(aC 0),(aC 0),(aC 0),(aC 0),(aC 0)]=rc 194 Kx:=rfl
theorem KT (n:Nat):cX (rc 194 Kx) (n*194)=rc (n*194) λc=>Kx (c%194):=by
 refine List.ext_getElem (by simp [cX,kH]) λi b a=>?_
 simp [cX,rc];rw[List.getElem?_range (Nat.mod_lt _ om)];rfl
def OD (n i:Nat):pM:=λj=>if j<i then PX n j else lv0
theorem rX.congr {h:H}{n f L:Nat}{F:Nat->V}{τ b:pM}(R:rX h n f L F τ)(e: ∀j,j<n->τ j=b j):rX h n f L F b:=
 ⟨R.t,R.l,R.tn,R.ln,R.tw,λj p a c=>by rw[←e j a];exact R.to j p a c,λj p a c=>by rw[←e j a];exact R.iv j p a c,λj p a c=>by rw[←e j a];exact R.tr j p a c,
  λj d=>by rw[←e j d];exact R.gens j d,λj d=>by rw[←e j d];exact R.orb j d,R.IQ,R.ap⟩
theorem Yr (n:Nat)(h:H)(h0:0<n)(hn:n<=7):
  Ev T 192 [aC n] h (λv h'=> ∃tid L F,v= .ptr tid 0/\rX h' n tid L F (PX n)/\Fr h h'/\ ∀id,WT n L F id->h.next<=id):=by
 refine cV wT rfl ?_
 have hm:Jo h 194 3632 (rc 194 Kx) (aC n) (aC n)=some (.sl h.next 0 n (.kn n),h.new (.cells false (rc (n*194) λc=>Kx (c%194)))):=by
  rw[tU om (Int.le_refl _) om om,NK,KT]
 obtain⟨w,K⟩: ∃w:Nat->V,w=λc=>Kx (c%194):=⟨_,rfl⟩
 obtain⟨L,N⟩:=exI h.next
 rw[N,←K] at hm
 simp(disch:=omega)only[go_sem,wT,aD,XF,hm,PW (z1:= aC 0) (z2:= .aE) (v:= aC n) (u:= .sl L 0 n (.kn n)) rfl rfl rfl rfl,wW _ (v:= aC n) (u:= .sl L 0 n (.kn n)) rfl rfl,N]
 obtain⟨d,m⟩: ∃d,d=(h.new (.cells false (rc (n*194) w))).new (.cells false [aC n,.sl L 0 n (.kn n)]):=⟨_,rfl⟩
 rw[←m]
 have g1:d.get L=some (.cells false (rc (n*194) w)):=by rw[m,H.bG _ (by rw[H.aU];omega),←N,H.aL]
 have g2:d.get (L+1)=some (.cells false [aC n,.sl L 0 n (.kn n)]):=by
  rw[m];have:=H.aL (h.new (.cells false (rc (n*194) w))) (.cells false [aC n,.sl L 0 n (.kn n)]);rwa [H.aU,N] at this
 have n2:d.next=L+2:=by rw[m,H.aU,H.aU,N]
 have f2:Fr h d:=by rw[m];exact ((Fr.refl h).new _).new _
 clear m hm
 have s0: ∀s,s<2*n->uA w s= .aE:=λs _=>by
  unfold uA Kx at*;rw[K];simp only;rw[bF om]
 have w0: ∀id,WT n L w id->id=L:=λid x=>by
  rcases x with e|⟨s,hs,a4,len,c,e⟩
  ·exact e
  ·rw[s0 s hs] at e;cases e
 have z0: ∀j c,c<194->w (j*194+c)=Kx c:=λj c hc=>by
  rw[K];simp only;rw[Nat.mul_comm,Nat.mul_add_mod,Nat.mod_eq_of_lt hc]
 have z1: ∀j b c,b+c<194->w (j*194+b+c)=Kx (b+c):=λj b c hc=>by rw[Nat.add_assoc];exact z0 j (b+c) hc
 have R:rX d n (L+1) L w (OD n 0):=by
  refine⟨g2,g1,om,om,λx=>by have:=w0 _ x;omega,λj p a d=>?_,λj p a d=>?_,λj p a d=>?_,λj hj=>⟨[],?_,trivial⟩,λj hj=>?_,λs s' a d _=>?_,λs a=>?_⟩
  ·rw[z1 j 2 p om];unfold Kx;rw[bF om];rfl
  ·rw[z1 j 66 p om];unfold Kx;rw[bF om];rfl
  ·rw[z1 j 130 p om];unfold Kx;rw[bI om];rfl
  ·have:=z0 j 0 om
   rw[Nat.add_zero] at this;rw[this];exact cY.aE ..
  ·rw[z0 j 1 om];exact cY.aE ..
  ·rw[s0 s a];intro i o n c e;cases e
  ·rw[s0 s a];exact dL.aE _
 have a3:d.cell (L+1) 1=some (.sl L 0 n (.kn n)):=by rw[H.aF g2];rfl
 simp(disch:=omega)only[go_sem,a3]
 refine aH (λk' J hh=> ∃(i:Nat) (F:Nat->V),(∃g:Nat->V,J= [aC n,g 1,.ptr (L+1) 0,g 3,g 4,aC n,aC i,g 7])/\i<=n/\rX hh n (L+1) L F (OD n i)/\Fr h hh/\(∀id,WT n L F id->h.next<=id)/\k'=n-i) n
  ⟨0,w,aB rfl,iJ _,R,f2,λid x=>by rw[w0 id x];omega,rfl⟩ ?_
 clear R g1 g2 n2 f2 s0 w0 z0 z1
 rintro k' J h3 ⟨i,F,⟨g,rfl⟩,hi,R,f,x,rfl⟩
 simp(disch:=omega)only[go_sem]
 by_cases P:(i:Int)<(n:Int)
 ·rw[bP P]
  have U:i<n:=om
  have cl:h3.cell (L+1) 1=some (.sl L 0 n (.kn n)):=by rw[H.aF R.t];rfl
  have ln:=R.ln
  have hN:i*194+194<=n*194:=om
  have e0:OD n i i=lv0:=by unfold OD;rw[bI om]
  simp(disch:=omega)only[go_sem,cl,cT h3 (z:= aC 0) (v:= aC i) rfl rfl,R.l,Jr]
  obtain⟨A,B⟩: ∃A,A=(h3.new (.cells false [aC i])).set L (some (.cells false (rc (n*194) (F1 F (i*194+1) (.sl h3.next 0 1 (.kn 1)))))):=⟨_,rfl⟩
  rw[←B]
  have p4:uL h3 (F (i*194+1)) 0 1 1 [] [aC i] (h3.new (.cells false [aC i])):=⟨H.aL ..,H.aU ..,λk hk _=>H.bG h3 hk _⟩
  obtain⟨Q,f4,w4⟩:=R.UW U (q:=i) (v:= .sl h3.next 0 1 (.kn 1)) (by rw[e0];exact p4) (.inr rfl) (by rw[e0];rfl) B
  obtain⟨G,a0⟩: ∃G,G=F1 F (i*194+1) (.sl h3.next 0 1 (.kn 1)):=⟨_,rfl⟩
  rw[←a0] at Q w4
  have n4:A.next=h3.next+1:=by rw[B,H.bY,H.aU]
  have O: ∀id,WT n L G id->h.next<=id:=λid a=>by
   by_cases d:id<h3.next
   ·exact x id (w4 id d a)
   ·have:=f.next;omega
  have a1:Fr h A:=⟨mT f.next f4.next,λid a=>(f4.get id (iW a f.next) λd=>by have:=x id d;omega).trans (f.get id a)⟩
  clear B
  generalize Y:vI (OD n i) i {OD n i i with orb:=(OD n i i).orb++ [i]}=y at Q
  have e4:y i={lv0 with orb:= [i]}:=by rw[←Y,bU,e0];rfl
  refine (Vn uY.ok n (H.mk A.tr (h3.next+1+16)) om).mono ?_
  rintro va h5 na
  simp(disch:=omega)only[go_sem]
  refine (Vn uY.ok n h5 om).mono ?_
  rintro vb h6 Z
  have f5:Fr A h5:=((Fr.refl A).bA om:Fr A (H.mk A.tr (h3.next+1+16))).trans na.fr
  have R6:=Q.mono (f5.trans Z.fr)
  have pa:=(na.pv (W:=WT n L G) (λa=>by have:=Q.Nw a;simp at this;omega)).mono Z.fr
  have pb:=Z.pv (W:=WT n L G) (λa=>by have:=Q.Nw a;have:=f5.next;omega)
  have a2:PV (WT n L G) h6 vb (dA (bL n)):=by rw[oJ];exact pb
  simp(disch:=omega)only[go_sem,R6.l,lG pa.fG.1 pa.fG.2,lG pb.fG.1 pb.fG.2,Jr]
  obtain⟨R7,f7,w7⟩:=R6.way U (q:=i) om pa a2 (h3:=(h6.set L (some (Ob.cells false (rc (n*194) (F1 G (i*194+2+i) va))))).set L (some (Ob.cells false (rc (n*194) (F1 (F1 G (i*194+2+i) va) (i*194+66+i) vb))))) (fM _) (λid a _=>by rw[H.aG _ a,H.aG _ a]) (by rw[H.aS])
  have eT:vI y i {y i with to:=λr=>if r=i then some (bL n) else (y i).to r}=OD n (i+1):=by
   funext j
   by_cases e:j=i
   ·subst e
    rw[bU,e4];unfold OD;rw[bF om]
    rfl
   ·rw[dZ _ _ e,←Y,dZ _ _ e]
    unfold OD
    by_cases e2:j<i
    ·rw[bF e2,bF om]
    ·rw[bI e2,bI om]
  rw[eT] at R7
  have f6:=a1.trans (f5.trans Z.fr)
  rw[eJ i]
  refine⟨n-(i+1),om,i+1,_,aB rfl,om,R7,⟨mT f6.next f7.next,λid a=>(f7.get id (iW a f6.next) λd=>by have:=O id d;omega).trans (f6.get id a)⟩,λid a=>O id ((w7 id).1 a),rfl⟩
 rw[bH P]
 obtain rfl:i=n:=om
 simp(disch:=omega)only[go_sem]
 have eT:rX h3 i (L+1) L F (PX i):=R.congr λj hj=>by unfold OD;rw[bF hj]
 exact⟨L+1,L,F,rfl,eT,f,λid a=>by have:=x id a;omega⟩
abbrev SP (h:H)(v:V)(l:LN):Prop:=SR h v (l.map zi)
theorem Ml {h:H}{ws:List V}{l:LN}(a:aM (SI h) ws (l.map zi)){i:Nat}(hi:i<l.length):SI h (ws.getD i .undef) (zi (l.getD i [])):=by
 have:=akD a (i:=i) (by simpa using hi);rwa [show (l.map zi).getD i []=zi (l.getD i []) by simp [List.getD,hi]] at this
theorem GL {W:Nat->Prop}{h:H}{b:Nat}{v:V}{l:List Int}(s:SI h v l)(d:h.next<=b)(c: ∀id,W id->b<=id):Mq W v:=by
 cases v with
 |sl id off len cap=>exact λa=>by have:=s.in _ _ _ _ rfl;have:=c id a;omega
 |_=>trivial
theorem LC {l:LN}{i:Nat}(hi:i<l.length)(g:List Nat):g∈l.take (i+1)↔g∈l.take i∨g=l.getD i []:=by
 rw[List.take_add_one,dD hi,pH];simp [List.getD,hi]
theorem Xh (n:Nat)(q:V)(l:LN)(h:H)(p:0<n)(G:n<=7)(hl:l.length<1000000)(K:SP h q l)(z: ∀g∈l,bE n g):
  Ev T 141 [aC n,q] h (λv h'=> ∃tid L F τ,v= .ptr tid 0/\rX h' n tid L F τ/\SK n (· ∈l) τ/\Fr h h'/\ ∀id,WT n L F id->h.next<=id):=by
 refine cV Dr rfl ?_
 simp(disch:=omega)only[go_sem,Dr,aD]
 refine (Yr n h p G).mono ?_
 rintro _ j ⟨tid,L,F,rfl,R,f,c⟩
 have Q:=K.lens
 rw[jV] at Q
 obtain⟨id,s,O,P,o,u,N,m⟩:=K.open
 rw[jV] at P o u N
 simp(disch:=omega)only[go_sem,Q]
 refine aH (λA b J=> ∃(i:Nat) (F:Nat->V) (τ:pM),(∃g:Nat->V,b= [aC n,q,g 2,.ptr tid 0,g 4,q,aC (l.length:Int),aC i,g 8])/\i<=l.length/\rX J n tid L F τ/\SK n (· ∈l.take i) τ/\Fr h J/\(∀id,WT n L F id->h.next<=id)/\A=l.length-i) l.length
  ⟨0,F,PX n,aB rfl,iJ _,R,(SK.start p).congr (by simp),f,c,rfl⟩ ?_
 clear R f c F
 rintro A b r ⟨i,F,τ,⟨g,rfl⟩,hi,R,t,f,c,rfl⟩
 simp(disch:=omega)only[go_sem]
 by_cases d:(i:Int)<(l.length:Int)
 ·rw[bP d]
  have a:i<l.length:=om
  have ci:r.cell id (s+i)=some (O.getD i .undef):=by rw[f.cell (o om),N i a]
  have y:=Ml m a
  have pv:PV (WT n L F) r (O.getD i .undef) (l.getD i []):=⟨y.mono f,GL y (fM _) c⟩
  have X:bE n (l.getD i []):=z _ (by simp [List.getD,a])
  simp(disch:=omega)only[go_sem,P.ixa,ci]
  refine (adY n G p r tid L F τ _ _ R pv X (λk hk=>om) t.tw).mono ?_
  rintro vv h3 ⟨F3,x,Y,U,B,Z⟩
  have t3:=(t.add p (λg W=>z g (List.mem_of_mem_take W)) X U).congr λg=>(LC a g).symm
  simp(disch:=omega)only[go_sem]
  rw[eJ i]
  refine⟨l.length-(i+1),om,i+1,F3,x,aB rfl,om,Y,t3,⟨mT f.next B.next,λid j=>(B.get id (iW j f.next) λw=>by have:=c id w;omega).trans (f.get id j)⟩,λid j=>?_,rfl⟩
  by_cases w:id<r.next
  ·exact c id (Z id w j)
  ·have:=f.next;omega
 rw[bH d]
 obtain rfl:i=l.length:=om
 simp(disch:=omega)only[go_sem]
 exact⟨tid,L,F,τ,rfl,R,t.congr λg=>by rw[List.take_length],f,c⟩
theorem ajU (x:List Nat)(l:List Nat){i:Nat}(hi:i<l.length)(b:Nat):oI x b (l.drop i)=oI x (if x.getD (l.getD i 0) 0<x.getD b 0 then l.getD i 0 else b) (l.drop (i+1)):=by
 rw[AR hi,cJ hi];rfl
theorem RI (h:H)(n l L:Nat)(F:Nat->V)(τ:pM)(vx:V)(x:List Nat)(i:Nat)(hn:n<=7)(R:rX h n l L F τ)(hx:PV (WT n L F) h vx x)(X:bE n x)(b0:i<n)(t:pI n (i+1) τ):
  Ev T 196 [.ptr l 0,vx,aC i] h (λv h'=>PV (WT n L F) h' v (Kb τ (n-(i+1)) (i+1) x)/\bE n (Kb τ (n-(i+1)) (i+1) x)/\Fr h h'):=by
 refine cV sD rfl ?_
 simp(disch:=omega)only[go_sem,sD,aD]
 rw[eJ i]
 refine aH (λk' c hh=> ∃(k:Nat) (y:List Nat) (P:V),(∃g:Nat->V,c= [.ptr l 0,P,g 2,g 3,aC k,g 5,g 6,g 7,g 8,g 9,g 10,g 11,g 12,g 13])/\i<k/\k<=n/\Kb τ (n-k) k y=Kb τ (n-(i+1)) (i+1) x/\
   PV (WT n L F) hh P y/\bE n y/\Fr h hh/\k'=n-k) (n-(i+1))
  ⟨i+1,x,vx,aB rfl,om,om,rfl,hx,X,Fr.refl h,rfl⟩ ?_
 rintro k' c N ⟨k,y,P,⟨g,rfl⟩,b3,b2,p,hy,Y,f,rfl⟩
 have W:=R.mono f
 have ct:N.cell l 0=some (aC n):=by rw[H.aF W.t];rfl
 have cl:N.cell l 1=some (.sl L 0 n (.kn n)):=by rw[H.aF W.t];rfl
 simp(disch:=omega)only[go_sem,ct,cl]
 by_cases a1:(k:Int)<(n:Int)
 case neg=>
  rw[bH a1];obtain rfl:k=n:=om
  rw[Nat.sub_self] at p;simp(disch:=omega)only[go_sem];rw[←p];exact⟨hy,Y,f⟩
 have d:k<n:=om
 rw[bP a1]
 have co:N.cell L (k*194+1)=some (F (k*194+1)):=W.cell d om
 have oo:=W.orb k d
 have lo:=cY.lens oo (by rw[aP,aQ])
 have jX:=(t k om d).1
 have b1:=YY jX d
 simp(disch:=omega)only[go_sem,cl,co,lo]
 obtain⟨id,a7,sh,a4,hc⟩:=(show SI N (F (k*194+1)) (zi (τ k).orb) from oo.sv).open
 rw[aQ] at sh a4 hc
 obtain⟨a3,B,a0,o,O⟩:=hy.si.open
 rw[aQ,Y.len] at a0 o O
 refine aH (λm' c hh=> ∃(m b:Nat),(∃g:Nat->V,c= [.ptr l 0,P,g 2,g 3,aC k,aC b,g 6,g 7,F (k*194+1),aC ((τ k).orb.length:Int),aC m,g 11,g 12,g 13])/\m<=(τ k).orb.length/\b<n/\b∈k::(τ k).orb/\
   oI y b ((τ k).orb.drop m)=oI y k (τ k).orb/\Fr N hh/\m'=(τ k).orb.length-m) (τ k).orb.length
  ⟨0,k,aB rfl,iJ _,d,Ab ..,rfl,Fr.refl N,rfl⟩ ?_
 rintro m' c s ⟨m,b,⟨g3,rfl⟩,hm,hb,Q,a,z,rfl⟩
 simp(disch:=omega)only[go_sem]
 by_cases A:(m:Int)<((τ k).orb.length:Int)
 ·rw[bP A]
  have r:m<(τ k).orb.length:=om
  rw[ajU _ _ r] at a
  have cq:s.cell id (a7+m)=some (aC ((τ k).orb.getD m 0:Nat)):=by rw[z.cell (a4 om),hc m r];congr 2;simp [zi,r]
  have G:(τ k).orb.getD m 0∈(τ k).orb:=by rw[cJ r];exact zG r
  have w:=jX.lt d G
  generalize (τ k).orb.getD m 0=q at cq G w a
  have c1:s.cell a3 (B+q)=some (aC (y.getD q 0:Nat)):=by rw[z.cell (o om),O q w];congr 2;simp [zi,Y.len,w]
  have c2:s.cell a3 (B+b)=some (aC (y.getD b 0:Nat)):=by rw[z.cell (o om),O b hb];congr 2;simp [zi,Y.len,hb]
  simp(disch:=omega)only[go_sem,sh.ixa,cq,a0.ixa,c1,c2]
  have fb:Fr N (H.mk s.tr (s.next+9)):=z.bA om
  by_cases Z:((y.getD q 0:Nat):Int)<((y.getD b 0:Nat):Int)
  ·rw[bP Z]
   rw[bF om] at a
   simp(disch:=omega)only[go_sem]
   rw[eJ m]
   exact⟨(τ k).orb.length-(m+1),om,m+1,q,aB rfl,om,w,Cu _ G,a,fb,rfl⟩
  ·rw[bH Z]
   rw[bI om] at a
   simp(disch:=omega)only[go_sem]
   rw[eJ m]
   exact⟨(τ k).orb.length-(m+1),om,m+1,b,aB rfl,om,hb,Q,a,fb,rfl⟩
 rw[bH A]
 have em:m=(τ k).orb.length:=om
 rw[em,List.drop_length] at a
 have a:b=oI y k (τ k).orb:=a
 have K:n-k=(n-(k+1))+1:=om
 rw[K] at p
 have p:Kb τ (n-(k+1)) (k+1) (if oI y k (τ k).orb=k then y else aX (((τ k).to (oI y k (τ k).orb)).getD []) y)=Kb τ (n-(i+1)) (i+1) x:=p
 rw[←a] at p
 have R3:=W.mono z
 have a2:=hy.mono z
 simp(disch:=omega)only[go_sem]
 by_cases J:b=k
 ·rw[bF J] at p
  have e0:decide ((b:Int)≠(k:Int))=false:=bH om
  simp(disch:=omega)only[go_sem,e0]
  rw[eJ k]
  exact⟨n-(k+1),om,k+1,y,P,aB rfl,om,om,p,a2,Y,f.trans z,rfl⟩
 rw[bI J] at p
 have e0:decide ((b:Int)≠(k:Int))=true:=bP om
 have a9:s.cell l 1=some (.sl L 0 n (.kn n)):=by rw[H.aF R3.t];rfl
 have a8:b∈(τ k).orb:=by
  rcases zH.1 Q with e|e
  ·exact absurd e J
  ·exact e
 obtain⟨u,hu⟩:=jX.to a8
 have U:=jX.cU _ _ hu
 have a5:s.cell L (k*194+2+b)=some (F (k*194+2+b)):=R3.Sh d om
 have a6:PV (WT n L F) s (F (k*194+2+b)) u:=by
  have:=R3.to k b d om;rw[hu] at this;exact this
 rw[hu] at p
 simp(disch:=omega)only[go_sem,e0,a9,a5]
 refine (mY oF.ok _ P u y s (by rw[U.len];omega) a6.si a2.si (λj hj=>by rw[Y.len];exact U.iN (by rw[←U.len];exact hj))).mono ?_
 rintro v h4 nw
 simp(disch:=omega)only[go_sem]
 rw[eJ k]
 exact⟨n-(k+1),om,k+1,_,v,aB rfl,om,om,p,nw.pv (λhw=>by have:=R3.Nw hw;omega),U.mul Y,(f.trans z).trans nw.fr,rfl⟩
end Go.Proofs.YtcdbmkidaecdiaaGreat
namespace Go.Proofs.YtcdbmkidaecdiaaGreat
open Go Go.Ay Go.Sort
set_option maxRecDepth 100000
section
variable {h:H} {S N i j a:Nat} {d:Array Int} {lt:Int->Int->Bool}
structure fD (h:H)(S N:Nat)(d:Array Int):Prop where
 get:h.get S=aZ (ints d.toList)
 size:d.size=N
 lt:S<h.next
theorem fD.rd (A:fD h S N d)(hi:i<N):h.cell S i=some (aC d[i]!):=by
 have b:i<d.size:=by rw[A.size];exact hi
 rw[H.aF A.get];simp [ints,b]
theorem fD.fr {h':H}(A:fD h S N d)(f:Fr h h'):fD h' S N d:=⟨by rw[f.get _ A.lt];exact A.get,A.size,iW A.lt f.next⟩
theorem bB (hi:i<d.size)(b:H)(S:Nat)(x:Int):dX (aZ (ints d.toList)) b S i [aC x]=some (b.set S (aZ (ints (d.setIfInBounds i x).toList))):=by
 rw[ajZ (by simpa using hi),Array.toList_setIfInBounds]
theorem aY {y:Int}(hi:i<d.size)(b:H)(S:Nat)(x:Int):dX (aZ (ints (d.setIfInBounds j y).toList)) b S i [aC x]=some (b.set S (aZ (ints ((d.setIfInBounds j y).setIfInBounds i x).toList))):=
 bB (by simpa using hi) b S x
theorem fD.swap {h2:H}(A:fD h S N d){nx:Nat}(b:h.next<=nx)(e:h2=((H.mk h.tr nx).set S (aZ (ints (d.setIfInBounds i d[j]!).toList))).set S (aZ (ints ((d.setIfInBounds i d[j]!).setIfInBounds j d[i]!).toList))):fD h2 S N (swp d i j)/\Fx (· =S) h h2:=by
 subst e;refine⟨⟨?_,?_,iW A.lt b⟩,⟨b,λid _ c=>?_⟩⟩
 ·rw[H.aS];rfl
 ·have:=A.size;simp [swp,this]
 ·rw[H.aG _ c,H.aG _ c];rfl
theorem Cj (a:Int)(h:H):Ev T 198 [aC a] h (λv h'=>v= .bool false/\h'=h):=by
 refine cV mZ rfl ?_;have e:decide (a≠a)=false:=bH om;simp(disch:=omega)only[go_sem,mZ,aD,e]
theorem gV (a b:Int)(h:H):Ev T 144 [aC a,aC b] h (λv h'=>v= .bool (ltInt a b)/\Fr h h'):=by
 refine cV Ai rfl ?_;simp(disch:=omega)only[go_sem,Ai,aD];refine (Cj a h).mono ?_;rintro _ c ⟨rfl,rfl⟩;simp(disch:=omega)only[go_sem];exact⟨rfl,Fr.refl _⟩
theorem dC {a b c:H}(x:Fx (· =S) a b)(y:Fx (· =S) b c):Fx (· =S) a c:=x.trans y λ_ _ h=>h
theorem Vb (b:a<j+1)(h2:lt d[j+1]! d[j]! =true):insInner lt a (j+1) d=insInner lt a j (swp d (j+1) j):=by
 rw[insInner,bF (by simp [b,h2])]
theorem Ud (h2:lt d[j+1]! d[j]! =false):insInner lt a (j+1) d=d:=by
 rw[insInner,bI (by simp [h2])]
theorem Uf (h:j<=a):insInner lt a j d=d:=by
 cases j with
 |zero=>rfl
 |succ j=>rw[insInner,bI (by simp;omega)]
theorem oW (h:H)(S N a b:Nat)(d:Array Int)(w:Kh)(hN:N<1000000)(A:fD h S N d)(Z:b<=N)(Q:a<=b):
  Ev T 234 [.sl S 0 N w,aC a,aC b] h (λ_ h'=>fD h' S N (insertionSort ltInt d a b)/\Fx (· =S) h h'):=by
 refine cV iZ rfl ?_
 simp(disch:=omega)only[go_sem,iZ,aD]
 rw[eJ a]
 refine aH (λs c t=> ∃(i:Nat) (e:Array Int),(∃g:Nat->V,c= [.sl S 0 N w,aC a,aC b,aC i,g 4,g 5,g 6])/\a<i/\i<=b+1/\fD t S N e/\insOuter ltInt a b i e=insertionSort ltInt d a b/\Fx (· =S) h t/\s=b+1-i) (b+1-(a+1))
  ⟨a+1,d,aB rfl,om,om,A,rfl,Fx.refl _ h,rfl⟩ ?_
 clear A
 rintro s c U ⟨i,e,⟨g,rfl⟩,P,G,A,l,F,rfl⟩
 simp(disch:=omega)only[go_sem]
 by_cases q:(i:Int)<(b:Int)
 case neg=>
  rw[bH q];simp(disch:=omega)only[go_sem];rw[insOuter,bI om] at l;rw[←l];exact⟨A,F⟩
 rw[bP q]
 rw[insOuter,bF om] at l
 simp(disch:=omega)only[go_sem]
 refine aH (λs c t=> ∃(j:Nat) (f:Array Int),(∃g:Nat->V,c= [.sl S 0 N w,aC a,aC b,aC i,aC j,g 5,g 6])/\a<=j/\j<=i/\fD t S N f/\insInner ltInt a j f=insInner ltInt a i e/\Fx (· =S) h t/\s=j) i
  ⟨i,e,aB rfl,om,om,A,rfl,F,rfl⟩ ?_
 clear A F
 rintro s c n ⟨j,f,⟨Y,rfl⟩,B,L,A,o,F,hk⟩
 have sz:=A.size
 by_cases r:(a:Int)<(j:Int)
 ·obtain⟨m,rfl⟩: ∃m,j=m+1:=⟨j- 1,om⟩
  have R:=A.rd (i:=m+1) om
  have J:=A.rd (i:=m) om
  have u:=bP r
  have z:((m+1:Nat):Int)- 1=(m:Int):=om
  simp(disch:=omega)only[go_sem,u,z,R,J]
  refine (gV _ _ _).mono ?_
  rintro _ x ⟨rfl,v⟩
  have k:Fr n x:=Fr.trans ((Fr.refl n).bA om) v
  have p:=A.fr k
  have K:=p.rd (i:=m+1) om
  have O:=p.rd (i:=m) om
  cases hl:ltInt f[m+1]! f[m]! with
  |false=>
   rw[Ud hl] at o;simp(disch:=omega)only[go_sem,hl];rw[eJ i];rw[←o] at l;exact⟨b+1-(i+1),om,i+1,f,aB rfl,om,om,p,l,dC F (Fx.of k),rfl⟩
  |true=>
   rw[Vb om hl] at o;simp(disch:=omega)only[go_sem,hl,z,K,O,p.get,bB,aY];have W:=p.swap (i:=m+1) (j:=m) (nx:=x.next+18) om rfl;exact⟨m,om,m,_,aB rfl,om,om,W.1,o,dC (dC F (Fx.of k)) W.2,rfl⟩
 ·have u:=bH r
  rw[Uf om] at o
  simp(disch:=omega)only[go_sem,u]
  rw[eJ i]
  rw[←o] at l
  have y:Fr n (H.mk n.tr (n.next+15)):=(Fr.refl n).bA om
  exact⟨b+1-(i+1),om,i+1,f,aB rfl,om,om,A.fr y,l,dC F (Fx.of y),rfl⟩
end
def Wm (lt:Int->Int->Bool)(hi first root:Nat)(d:Array Int):Nat:=if 2*root+1+1<hi/\lt d[first+(2*root+1)]! d[first+(2*root+1)+1]! =true then 2*root+2 else 2*root+1
theorem xP {lt:Int->Int->Bool}(hi first a:Nat)(d:Array Int):siftDown lt hi first a d=if 2*a+1≥hi then d else
  if lt d[first+a]! d[first+Wm lt hi first a d]! =true then siftDown lt hi first (Wm lt hi first a d) (swp d (first+a) (first+Wm lt hi first a d)) else d:=by
 rw[siftDown]
 unfold Wm
 by_cases b:2*a+1≥hi
 ·rw[dif_pos b,bF b]
 ·rw[dif_neg b,bI b]
  by_cases c:2*a+1+1<hi/\lt d[first+(2*a+1)]! d[first+(2*a+1)+1]! =true
  ·rw[bF (by simpa using c),bF c]
   cases h3:lt d[first+a]! d[first+(2*a+2)]!
   ·simp
   ·simp [show 2*a+2<hi by omega]
  ·rw[bI (by simpa using c),bI c]
   cases h3:lt d[first+a]! d[first+(2*a+1)]! <;>simp
theorem kA  (h:H)(S N u hi first:Nat)(d:Array Int)(Z:Kh)(hN:N<1000000)(A:fD h S N d)(hb:first+hi<=N)(R:u<=hi):
  Ev T 257 [.sl S 0 N Z,aC u,aC hi,aC first] h (λ_ h'=>fD h' S N (siftDown ltInt hi first u d)/\Fx (· =S) h h'):=by
 refine cV kO rfl ?_
 simp(disch:=omega)only[go_sem,kO,aD]
 refine aH (λU q Y=> ∃(r:Nat) (e:Array Int),(∃g:Nat->V,q= [.sl S 0 N Z,aC u,aC hi,aC first,aC r,g 5,g 6,g 7,g 8])/\r<=hi/\fD Y S N e/\siftDown ltInt hi first r e=siftDown ltInt hi first u d/\Fx (· =S) h Y/\U=hi-r) (hi-u)
  ⟨u,d,aB rfl,R,A,rfl,Fx.refl _ h,rfl⟩ ?_
 clear A
 rintro U q o ⟨r,e,⟨g,rfl⟩,hr,A,a,F,rfl⟩
 have Q:2*(r:Int)+1=((2*r+1:Nat):Int):=om
 by_cases y:(hi:Int)<=((2*r+1:Nat):Int)
 ·have J:=bP y
  simp(disch:=omega)only[go_sem,Q,J]
  rw[xP,bF om] at a
  rw[←a]
  exact⟨A,F⟩
 have J:=bH y
 rw[xP,bI om] at a
 have L:((2*r+1:Nat):Int)+1=((2*r+2:Nat):Int):=om
 have c:(first:Int)+(r:Int)=((first+r:Nat):Int):=om
 have f:(first:Int)+((2*r+1:Nat):Int)=((first+(2*r+1):Nat):Int):=om
 have z:(first:Int)+((2*r+2:Nat):Int)=((first+(2*r+2):Nat):Int):=om
 have P:((first+(2*r+1):Nat):Int)+1=((first+(2*r+1)+1:Nat):Int):=om
 have sz:=A.size
 by_cases G:((2*r+2:Nat):Int)<(hi:Int)
 ·have O:=bP G
  have n:=A.rd (i:=first+(2*r+1)) om
  have w:=A.rd (i:=first+(2*r+1)+1) om
  simp(disch:=omega)only[go_sem,Q,J,L,O,f,P,n,w]
  refine (gV _ _ _).mono ?_
  rintro _ B ⟨rfl,K⟩
  have x:Fr o B:=Fr.trans ((Fr.refl o).bA om) K
  have v:=A.fr x
  have m:=v.rd (i:=first+r) om
  have n:=v.rd (i:=first+(2*r+1)) om
  have w:=v.rd (i:=first+(2*r+2)) om
  cases hl:ltInt e[first+(2*r+1)]! e[first+(2*r+1)+1]! with
  |false=>
   have k:Wm ltInt hi first r e=2*r+1:=bI (by rw[hl];simp)
   rw[k] at a;simp(disch:=omega)only[go_sem,hl,c,f,m,n];refine (gV _ _ _).mono ?_;rintro _ p ⟨rfl,l⟩;have s:Fr B p:=Fr.trans ((Fr.refl B).bA om) l;have b:=v.fr s;have m:=b.rd (i:=first+r) om;have n:=b.rd (i:=first+(2*r+1)) om;have t:=dC (dC F (Fx.of x)) (Fx.of s)
   cases hl2:ltInt e[first+r]! e[first+(2*r+1)]! with
   |false=>
    rw[bI (by rw[hl2];simp)] at a;simp(disch:=omega)only[go_sem,hl2];rw[←a];exact⟨b,t⟩
   |true=>
    rw[bF hl2] at a;simp(disch:=omega)only[go_sem,hl2,c,f,m,n,b.get,bB,aY];have W:=b.swap (i:=first+r) (j:=first+(2*r+1)) (nx:=p.next+24) om rfl;exact⟨hi-(2*r+1),om,2*r+1,_,aB rfl,om,W.1,a,dC t W.2,rfl⟩
  |true=>
   have k:Wm ltInt hi first r e=2*r+2:=bF ⟨om,hl⟩
   rw[k] at a;simp(disch:=omega)only[go_sem,hl,L,c,z,m,w];refine (gV _ _ _).mono ?_;rintro _ p ⟨rfl,l⟩;have s:Fr B p:=Fr.trans ((Fr.refl B).bA om) l;have b:=v.fr s;have m:=b.rd (i:=first+r) om;have w:=b.rd (i:=first+(2*r+2)) om;have t:=dC (dC F (Fx.of x)) (Fx.of s)
   cases hl2:ltInt e[first+r]! e[first+(2*r+2)]! with
   |false=>
    rw[bI (by rw[hl2];simp)] at a;simp(disch:=omega)only[go_sem,hl2];rw[←a];exact⟨b,t⟩
   |true=>
    rw[bF hl2] at a;simp(disch:=omega)only[go_sem,hl2,c,z,m,w,b.get,bB,aY];have W:=b.swap (i:=first+r) (j:=first+(2*r+2)) (nx:=p.next+24) om rfl;exact⟨hi-(2*r+2),om,2*r+2,_,aB rfl,om,W.1,a,dC t W.2,rfl⟩
 ·have O:=bH G
  have k:Wm ltInt hi first r e=2*r+1:=bI om
  rw[k] at a
  have x:Fr o (H.mk o.tr (o.next+20)):=(Fr.refl o).bA om
  have v:=A.fr x
  have m:=A.rd (i:=first+r) om
  have n:=A.rd (i:=first+(2*r+1)) om
  simp(disch:=omega)only[go_sem,Q,J,L,O,c,f,m,n]
  refine (gV _ _ _).mono ?_
  rintro _ p ⟨rfl,l⟩
  have s:Fr o p:=Fr.trans ((Fr.refl o).bA om) l
  have b:=A.fr s
  have m:=b.rd (i:=first+r) om
  have n:=b.rd (i:=first+(2*r+1)) om
  have t:=dC F (Fx.of s)
  cases hl2:ltInt e[first+r]! e[first+(2*r+1)]! with
  |false=>
   rw[bI (by rw[hl2];simp)] at a;simp(disch:=omega)only[go_sem,hl2];rw[←a];exact⟨b,t⟩
  |true=>
   rw[bF hl2] at a;simp(disch:=omega)only[go_sem,hl2,c,f,m,n,b.get,bB,aY];have W:=b.swap (i:=first+r) (j:=first+(2*r+1)) (nx:=p.next+24) om rfl;exact⟨hi-(2*r+1),om,2*r+1,_,aB rfl,om,W.1,a,dC t W.2,rfl⟩
theorem qZ  (h:H)(S N a b:Nat)(d:Array Int)(t:Kh)(y:N<1000000)(A:fD h S N d)(hb:b<=N)(R:a<=b):
  Ev T 235 [.sl S 0 N t,aC a,aC b] h (λ_ h'=>fD h' S N (heapSort ltInt d a b)/\Fx (· =S) h h'):=by
 refine cV kQ rfl ?_
 obtain⟨n,O⟩:=exI (b-a)
 have U:(b:Int)-(a:Int)=(n:Int):=om
 have Q:((n:Int)- 1).tdiv 2=(((n- 1)/2+1:Nat):Int)- 1:=by
  by_cases L:n=0
  ·subst L;decide
  ·rw[Int.tdiv_eq_ediv_of_nonneg om];omega
 simp(disch:=omega)only[go_sem,kQ,aD,U,Q]
 refine aH (λl c p=> ∃(k:Nat) (e:Array Int),(∃g:Nat->V,c= [.sl S 0 N t,aC a,aC b,aC a,aC 0,aC n,aC ((k:Int)- 1),g 7,g 8,g 9])/\k<=n+1/\(k=1∨k<=n)/\fD p S N e/\heapBuild ltInt n a k e=heapBuild ltInt n a ((n- 1)/2+1) d/\Fx (· =S) h p/\l=k) ((n- 1)/2+1)
  ⟨(n- 1)/2+1,d,aB rfl,om,om,A,rfl,Fx.refl _ h,rfl⟩ ?_
 clear A
 rintro l c B ⟨k,e,⟨g,rfl⟩,r,w,A,v,F,x⟩
 subst x
 by_cases f:(0:Int)<=(l:Int)- 1
 ·have o:=bP f
  obtain⟨m,rfl⟩: ∃m,l=m+1:=⟨l- 1,om⟩
  have s:((m+1:Nat):Int)- 1=(m:Int):=om
  rw[s] at o
  rw[s]
  simp(disch:=omega)only[go_sem,o]
  refine (kA B S N m n a e t y A om om).mono ?_
  rintro _ z ⟨Y,F2⟩
  simp(disch:=omega)only[go_sem]
  exact⟨m,om,m,_,aB rfl,om,om,Y,v,dC F F2,rfl⟩
 have o:=bH f
 obtain rfl:l=0:=om
 have v:e=heapBuild ltInt n a ((n- 1)/2+1) d:=v
 simp(disch:=omega)only[go_sem,o]
 refine aH (λl c p=> ∃(k:Nat) (q:Array Int),(∃g:Nat->V,c= [.sl S 0 N t,aC a,aC b,aC a,aC 0,aC n,g 6,aC ((k:Int)- 1),g 8,g 9])/\k<=n/\fD p S N q/\heapPop ltInt a k q=heapPop ltInt a n e/\Fx (· =S) h p/\l=k) n
  ⟨n,e,aB rfl,om,A,rfl,F,rfl⟩ ?_
 clear A F f o r w
 rintro l c z ⟨k,q,⟨g,rfl⟩,r,A,u,F,x⟩
 subst x
 have sz:=A.size
 by_cases f:(0:Int)<=(l:Int)- 1
 ·have o:=bP f
  obtain⟨m,rfl⟩: ∃m,l=m+1:=⟨l- 1,om⟩
  have s:((m+1:Nat):Int)- 1=(m:Int):=om
  rw[s] at o
  rw[s]
  have P:(a:Int)+(m:Int)=((a+m:Nat):Int):=om
  have c1:=A.rd (i:=a+m) om
  have K:=A.rd (i:=a) om
  simp(disch:=omega)only[go_sem,o,P,c1,K,A.get,bB,aY]
  have W:=A.swap (i:=a) (j:=a+m) (nx:=z.next+20) om rfl
  have J:=kA _ S N 0 m a _ t y W.1 om om
  refine J.mono ?_
  rintro _ h3 ⟨G,Z⟩
  simp(disch:=omega)only[go_sem]
  exact⟨m,om,m,_,aB rfl,om,G,u,dC (dC F W.2) Z,rfl⟩
 have o:=bH f
 obtain rfl:l=0:=om
 simp(disch:=omega)only[go_sem,o]
 have u:q=heapPop ltInt a n e:=u
 have:heapSort ltInt d a b=q:=by unfold heapSort;rw[O,u,v]
 rw[this]
 exact⟨A,F⟩
def ZH (op:BinOp)(k:IntKind)(x y:V):Option V:=match x,y with
 | .int j a,.int _ b=>if j=k then GS op k a b else none
 |_,_=>none
theorem Gs (ρ:X->V)(h:H)(op:BinOp)(k:IntKind)(x y:X):cI ρ h (.shf op k x y)=(ZH op k (ρ x) (ρ y)).map (·,h):=by
 simp only[cI,ZH];cases ρ x<;>cases ρ y<;>try rfl
 simp only;split<;>rfl
theorem zY (op:BinOp)(k j:IntKind)(a b:Int):ZH op k (.int k a) (.int j b)=GS op k a b:=by simp [ZH]
theorem Yz (n:Int):0<=IntKind.u64.wrap n/\IntKind.u64.wrap n<18446744073709551616:=by
 unfold IntKind.wrap;simp only[IntKind.bits,IntKind.signed];have:=Int.emod_nonneg n (show (18446744073709551616:Int)≠0 by omega);have:=Int.emod_lt_of_pos n (show (0:Int)<18446744073709551616 by omega);simp;omega
theorem dK {n:Int}(a:0<=n)(h2:n<18446744073709551616):IntKind.u64.wrap n=n:=by
 unfold IntKind.wrap;simp only[IntKind.bits,IntKind.signed];have:n%18446744073709551616=n:=Int.emod_eq_of_lt a h2;simp;exact this
theorem yH {n:Int}(a:0<=n)(h2:n<256):IntKind.u8.wrap n=n:=by
 unfold IntKind.wrap;simp only[IntKind.bits,IntKind.signed];have:n%256=n:=Int.emod_eq_of_lt a h2;simp;exact this
theorem HM (a b:Int)(c:0<=b): ∃y,GS .shl .u64 a b=some (.int .u64 y)/\0<=y/\y<18446744073709551616:=by
 unfold GS;rw[bI om];exact⟨_,rfl,Yz _⟩
theorem ZI (a b:Int)(c:0<=b): ∃y,GS .shr .u64 a b=some (.int .u64 y):=by
 unfold GS;rw[bI om];exact⟨_,rfl⟩
theorem JL {x:Nat}:GS .shr .u64 (x:Int) 8=some (.int .u64 ((x/256:Nat):Int)):=by
 unfold GS;rw[bI om];simp only;congr 2;show Int.fdiv (x:Int) 256=_;rw[Int.fdiv_eq_ediv_of_nonneg _ om];rfl
theorem Ub (a b:Int): ∃y,arith .xor .u64 a b=some (.int .u64 y)/\0<=y/\y<18446744073709551616:=⟨_,rfl,Yz _⟩
theorem Uo (a:Int)(b:Nat)(c:b<18446744073709551616): ∃y:Nat,arith .and .u64 a (b:Int)=some (.int .u64 (y:Int))/\y<=b:=by
 refine⟨(BitVec.ofInt 64 a&&&BitVec.ofInt 64 (b:Int)).toNat,?_,?_⟩
 ·rw[MW]
  congr 2;show IntKind.u64.wrap (((BitVec.ofInt 64 a&&&BitVec.ofInt 64 (b:Int)).toNat:Nat):Int)=_;have:=(BitVec.ofInt 64 a&&&BitVec.ofInt 64 (b:Int)).isLt;generalize (BitVec.ofInt 64 a&&&BitVec.ofInt 64 (b:Int)).toNat=w at*;exact dK om om
 ·rw[BitVec.toNat_and]
  have:(BitVec.ofInt 64 (b:Int)).toNat=b:=by
   simp [BitVec.toNat_ofInt];omega
  rw[this];exact Nat.and_le_right
theorem PN: ∀z,z<256->([0,1,2,2,3,3,3,3,4,4,4,4,4,4,4,4,5,5,5,5,5,5,5,5,5,5,5,5,5,5,5,5,6,6,6,6,6,6,6,6,6,6,6,6,6,6,6,6,6,6,6,6,6,6,6,6,6,6,6,6,6,6,6,6,7,7,7,7,7,7,7,7,7,7,7,7,7,7,7,7,7,7,7,7,7,7,7,7,7,7,7,7,7,7,7,7,7,7,7,7,7,7,7,7,7,7,7,7,7,7,7,7,7,7,7,7,7,7,7,7,7,7,7,7,7,7,7,7,8,8,8,8,8,8,8,8,8,8,8,8,8,8,8,8,8,8,8,8,8,8,8,8,8,8,8,8,8,8,8,8,8,8,8,8,8,8,8,8,8,8,8,8,8,8,8,8,8,8,8,8,8,8,8,8,8,8,8,8,8,8,8,8,8,8,8,8,8,8,8,8,8,8,8,8,8,8,8,8,8,8,8,8,8,8,8,8,8,8,8,8,8,8,8,8,8,8,8,8,8,8,8,8,8,8,8,8,8,8,8,8,8,8,8,8,8,8,8,8,8,8,8,8,8,8,8,8][z]? :Option Nat)=some (bitsLen z):=by decide+kernel
theorem FB {z:Nat}(hz:z<256):ZR (.str [0,1,2,2,3,3,3,3,4,4,4,4,4,4,4,4,5,5,5,5,5,5,5,5,5,5,5,5,5,5,5,5,6,6,6,6,6,6,6,6,6,6,6,6,6,6,6,6,6,6,6,6,6,6,6,6,6,6,6,6,6,6,6,6,7,7,7,7,7,7,7,7,7,7,7,7,7,7,7,7,7,7,7,7,7,7,7,7,7,7,7,7,7,7,7,7,7,7,7,7,7,7,7,7,7,7,7,7,7,7,7,7,7,7,7,7,7,7,7,7,7,7,7,7,7,7,7,7,8,8,8,8,8,8,8,8,8,8,8,8,8,8,8,8,8,8,8,8,8,8,8,8,8,8,8,8,8,8,8,8,8,8,8,8,8,8,8,8,8,8,8,8,8,8,8,8,8,8,8,8,8,8,8,8,8,8,8,8,8,8,8,8,8,8,8,8,8,8,8,8,8,8,8,8,8,8,8,8,8,8,8,8,8,8,8,8,8,8,8,8,8,8,8,8,8,8,8,8,8,8,8,8,8,8,8,8,8,8,8,8,8,8,8,8,8,8,8,8,8,8,8,8,8,8,8,8]) (.int .u8 (z:Int))=some (.int .u8 ((bitsLen z:Nat):Int)):=by
 have b:bitsLen z<=8:=(bitsLen_le_iff z 8).2 om;have a:=PN z hz;generalize ([0,1,2,2,3,3,3,3,4,4,4,4,4,4,4,4,5,5,5,5,5,5,5,5,5,5,5,5,5,5,5,5,6,6,6,6,6,6,6,6,6,6,6,6,6,6,6,6,6,6,6,6,6,6,6,6,6,6,6,6,6,6,6,6,7,7,7,7,7,7,7,7,7,7,7,7,7,7,7,7,7,7,7,7,7,7,7,7,7,7,7,7,7,7,7,7,7,7,7,7,7,7,7,7,7,7,7,7,7,7,7,7,7,7,7,7,7,7,7,7,7,7,7,7,7,7,7,7,8,8,8,8,8,8,8,8,8,8,8,8,8,8,8,8,8,8,8,8,8,8,8,8,8,8,8,8,8,8,8,8,8,8,8,8,8,8,8,8,8,8,8,8,8,8,8,8,8,8,8,8,8,8,8,8,8,8,8,8,8,8,8,8,8,8,8,8,8,8,8,8,8,8,8,8,8,8,8,8,8,8,8,8,8,8,8,8,8,8,8,8,8,8,8,8,8,8,8,8,8,8,8,8,8,8,8,8,8,8,8,8,8,8,8,8,8,8,8,8,8,8,8,8,8,8,8,8]:List Nat)=l at*;unfold ZR;simp only;rw[bF om,NK,a];simp only[Option.map_some];rw[Nat.mod_eq_of_lt om]
theorem OO {x:Nat}(h:256<=x):bitsLen x=8+bitsLen (x/256):=by
 apply Nat.le_antisymm
 ·rw[bitsLen_le_iff,Nat.pow_add]
  have:=lt_two_pow_bitsLen (x/256);omega
 ·have a:=lt_two_pow_bitsLen x
  have d: ¬bitsLen x<=8:=λc=>by rw[bitsLen_le_iff] at c;omega
  obtain⟨k,b⟩: ∃k,bitsLen x=8+k:=⟨bitsLen x- 8,om⟩
  rw[b,Nat.pow_add] at a;have:bitsLen (x/256)<=k:=(bitsLen_le_iff _ _).2 om;omega
theorem RM (x:Nat)(h:H)(i:x<65536):Ev T 177 [.int .u64 (x:Int)] h (λv h'=>v= aC (bitsLen x:Nat)/\h'=h):=by
 refine cV oN rfl ?_;have b:decide ((4294967296:Int)<=(x:Int))=false:=bH om;have c:decide ((65536:Int)<=(x:Int))=false:=bH om
 by_cases d:256<=x
 ·have a:decide ((256:Int)<=(x:Int))=true:=bP om
  have j:=OO d;have f:bitsLen (x/256)<=8:=(bitsLen_le_iff _ 8).2 om;simp(disch:=omega)only[go_sem,oN,aD,b,c,a,Gs,zY,JL,GZ,FB,yH];exact⟨by congr 1;omega,trivial⟩
 ·have a:decide ((256:Int)<=(x:Int))=false:=bH om
  have f:bitsLen x<=8:=(bitsLen_le_iff _ 8).2 om;simp(disch:=omega)only[go_sem,oN,aD,b,c,a,GZ,FB,yH];exact⟨by congr 1;omega,trivial⟩
theorem Tx (x:Nat)(h:H)(a:x<65536):Ev T 128 [.int .u64 (x:Int)] h (λv h'=>v= aC (bitsLen x:Nat)/\h'=h):=by
 refine cV yV rfl ?_;simp(disch:=omega)only[go_sem,yV,aD];refine (RM x h a).mono ?_;rintro _ _ ⟨rfl,rfl⟩;simp(disch:=omega)only[go_sem]
theorem Wg (n:Nat)(h:H)(d:n<65536):Ev T 212 [aC n] h (λv h'=>v= .int .u64 ((2^bitsLen n:Nat):Int)/\h'=h):=by
 refine cV nU rfl ?_;have f:bitsLen n<=16:=(bitsLen_le_iff _ 16).2 om;have c:2^bitsLen n<=2^16:=Nat.pow_le_pow_right om f;obtain⟨m,a⟩:=exI (2^bitsLen n);rw[a] at c ⊢
 have b:GS .shl .u64 1 ((bitsLen n:Nat):Int)=some (.int .u64 (m:Int)):=by
  unfold GS;rw[bI om];simp only[NK,IntKind.bits];rw[Nat.min_eq_left om];have e:(1:Int)*2^bitsLen n=(m:Int):=by rw[Int.one_mul,←a];push_cast;rfl
  rw[e,dK om om]
 simp(disch:=omega)only[go_sem,nU,aD,dK (n:=(n:Int)) om om];refine (Tx n h d).mono ?_;rintro _ _ ⟨rfl,rfl⟩;simp(disch:=omega)only[go_sem,Gs,zY,b]
theorem Wd (R:Nat)(x:Int)(h:H)(l:h.get R=some (.cells false [.int .u64 x]))(z:R<h.next):
  Ev T 213 [.ptr R 0] h (λv h'=> ∃y,v= .int .u64 y/\h'.get R=some (.cells false [.int .u64 y])/\Fx (· =R) h h'):=by
 refine cV pF rfl ?_
 have q:h.cell R 0=some (.int .u64 x):=by rw[H.aF l];rfl
 obtain⟨r,j,_⟩:=HM x 13 om
 obtain⟨m,d,_⟩:=Ub x r
 obtain⟨t,b⟩:=ZI m 7 om
 obtain⟨n,i,_⟩:=Ub m t
 obtain⟨p,k,_⟩:=HM n 17 om
 obtain⟨s,f,_⟩:=Ub n p
 have o: ∀(u w:Int) (a:H),dX (some (.cells false [.int .u64 u])) a R 0 [.int .u64 w]=some (a.set R (some (.cells false [.int .u64 w]))):=λu w a=>bN (by simp) a R _
 simp(disch:=omega)only[go_sem,pF,aD,q,Gs,zY,j,d,b,i,k,f,l,o]
 exact⟨s,rfl,rfl,⟨by simp only[H.bY];omega,λid _ c=>by
  rw[H.aG _ c,H.pY,H.aG _ c,H.pY,H.aG _ c,H.pY]⟩⟩
theorem fD.Uc  {h h':H}{S N R:Nat}{d:Array Int}(A:fD h S N d)(f:Fx (· =R) h h')(a:R≠S):fD h' S N d:=⟨by rw[f.get S A.lt (λe=>a e.symm)];exact A.get,A.size,iW A.lt f.next⟩
theorem tZ  (h:H)(S N a b:Nat)(d:Array Int)(n:Kh)(v:N<1000000)(A:fD h S N d)(x:b<=N)(s:a<b):
  Ev T 238 [.sl S 0 N n,aC a,aC b] h (λ_ h'=>fD h' S N (reverseRange d a b)/\Fx (· =S) h h'):=by
 refine cV jC rfl ?_
 have u:(b:Int)- 1=((b- 1:Nat):Int):=om
 simp(disch:=omega)only[go_sem,jC,aD,u]
 refine aH (λc f o=> ∃(i j:Nat) (e:Array Int),(∃g:Nat->V,f= [.sl S 0 N n,aC a,aC b,aC i,aC j,g 5])/\j<b/\i<=b/\fD o S N e/\reverseLoop i j e=reverseLoop a (b- 1) d/\Fx (· =S) h o/\c=j) (b- 1)
  ⟨a,b- 1,d,aB rfl,om,om,A,rfl,Fx.refl _ h,rfl⟩ ?_
 clear A
 rintro c f p ⟨i,j,e,⟨g,rfl⟩,w,hi,A,l,F,r⟩
 subst r
 have sz:=A.size
 rw[reverseLoop] at l
 by_cases k:(i:Int)<(c:Int)
 ·have m:=bP k
  rw[bF om] at l
  have t:=A.rd (i:=i) om
  have q:=A.rd (i:=c) om
  simp(disch:=omega)only[go_sem,m,t,q,A.get,bB,aY]
  have W:=A.swap (i:=i) (j:=c) (nx:=p.next+16) om rfl
  rw[show (i:Int)+1=((i+1:Nat):Int) from om,show (c:Int)- 1=((c- 1:Nat):Int) from om]
  exact⟨c- 1,om,i+1,c- 1,_,aB rfl,om,om,W.1,l,dC F W.2,rfl⟩
 have m:=bH k
 rw[bI om] at l
 simp(disch:=omega)only[go_sem,m]
 unfold reverseRange
 rw[←l]
 exact⟨A,F⟩
theorem Dh (n:Nat){k:Int}{m:Nat}(a:k=(m:Int)):(n:Int).tdiv k=((n/m:Nat):Int):=by
 rw[a,Int.tdiv_eq_ediv_of_nonneg om];rfl
theorem Ba  (h:H)(S N a b:Nat)(d:Array Int)(cp:Kh)(hN:N<60000)(A:fD h S N d)(hb:b<=N)(a3:a<=b):
  Ev T 236 [.sl S 0 N cp,aC a,aC b] h (λ_ h'=> ∃e,fD h' S N e/\PermIn a b d e/\Fx (· =S) h h'):=by
 refine cV fH rfl ?_
 obtain⟨n,hn⟩:=exI (b-a)
 have en:(b:Int)-(a:Int)=(n:Int):=om
 by_cases h8:(8:Int)<=(n:Int)
 case neg=>
  have O:=bH h8;simp(disch:=omega)only[go_sem,fH,aD,en,O];exact⟨d,A,permIn_refl d a b,Fx.refl _ h⟩
 have O:=bP h8
 have G:=Dh n (k:=4) (m:=4) rfl
 obtain⟨q,hq⟩:=exI (n/4)
 rw[hq] at G
 have ei:(a:Int)+(q:Int)*2- 1=((a+q*2- 1:Nat):Int):=om
 have ej:(a:Int)+(q:Int)*2+1=((a+q*2+1:Nat):Int):=om
 have hp:=two_pow_bitsLen_le (show 0<n by omega)
 have a0:=lt_two_pow_bitsLen n
 obtain⟨m,hm⟩:=exI (2^bitsLen n)
 rw[hm] at hp a0
 obtain⟨R,Y⟩:=exI h.next
 have Q:R≠S:=by have:=A.lt;omega
 have U: ∀c:H,dX (aZ [.int .u64 0]) c R 0 [.int .u64 (n:Int)]=some (c.set R (aZ [.int .u64 (n:Int)])):=λc=>bN (by simp) c R _
 have u:(h.new (.cells false [.int .u64 0])).get R=aZ [.int .u64 0]:=by rw[←Y,H.aL]
 simp(disch:=omega)only[go_sem,fH,aD,en,O,Y,dK (n:=(n:Int)) om om,u,U]
 obtain⟨l,f⟩: ∃l,l=(h.new (.cells false [.int .u64 0])).set R (aZ [.int .u64 (n:Int)]):=⟨_,rfl⟩
 rw[←f]
 have g1:l.get R=aZ [.int .u64 (n:Int)]:=by rw[f,H.aS]
 have n1:l.next=R+1:=by rw[f,H.bY,H.aU,Y]
 have f1:Fr h l:=by rw[f];exact ((Fr.refl h).new _).set om _
 clear f
 refine (Wg n l om).mono ?_
 rintro _ a4 ⟨rfl,c⟩
 rw[c,hm]
 simp(disch:=omega)only[go_sem,G,ei]
 refine aH (λk' p c=> ∃(i:Nat) (e:Array Int) (x:Int),(∃g:Nat->V,p= [.sl S 0 N cp,aC a,aC b,aC n,.ptr R 0,.int .u64 (m:Int),aC i,g 7,g 8,g 9,g 10])/\a<=i/\i<=a+q*2+2/\fD c S N e/\PermIn a b d e/\c.get R=aZ [.int .u64 x]/\R<c.next/\Fx (· =S) h c/\k'=a+q*2+2-i) (a+q*2+2-(a+q*2- 1))
  ⟨a+q*2- 1,d,_,aB rfl,om,om,A.fr f1,permIn_refl d a b,g1,om,Fx.of f1,rfl⟩ ?_
 clear A g1 n1 f1 c l
 rintro k' p l ⟨i,e,x,⟨g,rfl⟩,z,a1,A,K,gR,nR,F,rfl⟩
 by_cases t:(i:Int)<=((a+q*2+1:Nat):Int)
 case neg=>
  have L:=bH t;simp(disch:=omega)only[go_sem,G,ej,L];exact⟨e,A,K,F⟩
 have L:=bP t
 simp(disch:=omega)only[go_sem,G,ej,L]
 refine (Wd R x l gR nR).mono ?_
 rintro _ J ⟨y,rfl,B,F2⟩
 have o:=A.Uc F2 Q
 obtain⟨w,hw,a2⟩:=Uo y (m- 1) om
 have em:(m:Int)- 1=((m- 1:Nat):Int):=om
 have sz:=o.size
 have v:Fx (· =S) h J:=⟨mT F.next F2.next,λid h3 h4=>(F2.get id (iW h3 F.next) (λe=>by have:id=R:=e;omega)).trans (F.get id h3 h4)⟩
 have s:R<J.next:=iW nR F2.next
 by_cases r:(n:Int)<=(w:Int)
 ·have P:=bP r
  have e3:(w:Int)-(n:Int)=((w-n:Nat):Int):=om
  have e5:(a:Int)+((w-n:Nat):Int)=((a+(w-n):Nat):Int):=om
  have c1:=o.rd (i:=i) om
  have Z:=o.rd (i:=a+(w-n)) om
  simp(disch:=omega)only[go_sem,em,dK (n:=((m- 1:Nat):Int)) om om,hw,P,e3,e5,c1,Z,o.get,bB,aY]
  have W:=o.swap (i:=i) (j:=a+(w-n)) (nx:=J.next+20) om rfl
  rw[eJ i]
  refine⟨a+q*2+2-(i+1),om,i+1,_,y,aB rfl,om,om,W.1,permIn_trans _ _ _ a b K (swp_permIn e a b i (a+(w-n)) z om om om om),?_,iW s W.2.next,dC v W.2,rfl⟩
  exact B
 ·have P:=bH r
  have e5:(a:Int)+(w:Int)=((a+w:Nat):Int):=om
  have c1:=o.rd (i:=i) om
  have Z:=o.rd (i:=a+w) om
  simp(disch:=omega)only[go_sem,em,dK (n:=((m- 1:Nat):Int)) om om,hw,P,e5,c1,Z,o.get,bB,aY]
  have W:=o.swap (i:=i) (j:=a+w) (nx:=J.next+20) om rfl
  rw[eJ i]
  refine⟨a+q*2+2-(i+1),om,i+1,_,y,aB rfl,om,om,W.1,permIn_trans _ _ _ a b K (swp_permIn e a b i (a+w) z om om om om),?_,iW s W.2.next,dC v W.2,rfl⟩
  exact B
structure Wn (h h':H)(R:Nat):Prop where
 get: ∃s,h'.get R=aZ [aC s]
 fx:Fx (· =R) h h'
theorem Wn.trans {a b c:H}{R:Nat}(x:Wn a b R)(y:Wn b c R):Wn a c R:=⟨y.get,x.fx.trans y.fx λ_ _ h=>h⟩
theorem jU  (h:H)(S N a b R:Nat)(d:Array Int)(q:Kh)(u:N<1000000)(A:fD h S N d)(t:a<N)(y:b<N)(x:R≠S)(k:R<h.next)(s:Int)(p:h.get R=aZ [aC s]):
  Ev T 263 [.sl S 0 N q,aC a,aC b,.ptr R 0] h (λv h'=>(v= .tup [aC a,aC b]∨v= .tup [aC b,aC a])/\Wn h h' R):=by
 refine cV mE rfl ?_
 have r:=A.rd (i:=a) om
 have o:=A.rd (i:=b) om
 simp(disch:=omega)only[go_sem,mE,aD,r,o]
 refine (gV _ _ _).mono ?_
 rintro _ f ⟨rfl,l⟩
 have m:Fr h f:=Fr.trans ((Fr.refl h).bA om) l
 have c:f.get R=aZ [aC s]:=by rw[m.get R k];exact p
 cases hl:ltInt d[b]! d[a]! with
 |false=>
  simp(disch:=omega)only[go_sem,hl];exact⟨.inl trivial,⟨s,c⟩,Fx.of m⟩
 |true=>
  have cR:f.cell R 0=some (aC s):=by rw[H.aF c];rfl
  have n: ∀(w:Int) (j:H),dX (aZ [aC s]) j R 0 [aC w]=some (j.set R (aZ [aC w])):=λw j=>bN (by simp) j R _
  simp(disch:=omega)only[go_sem,hl,cR,c,n];exact⟨.inr trivial,⟨_,by rw[H.aS]⟩,(Fx.of (W:=(· =R)) m).trans (Fx.set f (W:=(· =R)) rfl _) (λ_ _ h=>h)⟩
theorem oD  (h:H)(S N a b c R:Nat)(d:Array Int)(n:Kh)(w:N<1000000)(A:fD h S N d)(p:a<N)(u:b<N)(L:c<N)(j:R≠S)(f:R<h.next)(s:Int)(gR:h.get R=aZ [aC s]):
  Ev T 259 [.sl S 0 N n,aC a,aC b,aC c,.ptr R 0] h (λv h'=>(∃m,v= aC (m:Nat)/\(m=a∨m=b∨m=c))/\Wn h h' R):=by
 refine cV lI rfl ?_
 simp(disch:=omega)only[go_sem,lI,aD]
 refine (jU h S N a b R d n w A p u j f s gR).mono ?_
 rintro v1 Q ⟨q,k⟩
 obtain⟨O,l,rfl,r,i,J⟩: ∃x y,v1= .tup [aC (x:Nat),aC (y:Nat)]/\x<N/\y<N/\((x=a∨x=b)/\(y=a∨y=b)):=by
  rcases q with rfl|rfl
  ·exact⟨a,b,rfl,p,u,.inl rfl,.inr rfl⟩
  ·exact⟨b,a,rfl,u,p,.inr rfl,.inl rfl⟩
 have F:=A.Uc k.fx j
 obtain⟨s1,W⟩:=k.get
 have P:=iW f k.fx.next
 simp(disch:=omega)only[go_sem]
 refine (jU Q S N l c R d n w F i L j P s1 W).mono ?_
 rintro Y h2 ⟨z,o⟩
 obtain⟨K,y2,rfl,t,G⟩: ∃x y,Y= .tup [aC (x:Nat),aC (y:Nat)]/\x<N/\(x=l∨x=c):=by
  rcases z with rfl|rfl
  ·exact⟨l,c,rfl,i,.inl rfl⟩
  ·exact⟨c,l,rfl,L,.inr rfl⟩
 have A2:=F.Uc o.fx j
 obtain⟨U,Z⟩:=o.get
 have n2:=iW P o.fx.next
 simp(disch:=omega)only[go_sem]
 refine (jU h2 S N O K R d n w A2 r t j n2 U Z).mono ?_
 rintro v3 h3 ⟨B,C3⟩
 have C:=(k.trans o).trans C3
 rcases B with rfl|rfl
 ·simp(disch:=omega)only[go_sem]
  exact⟨⟨K,rfl,om⟩,C⟩
 ·simp(disch:=omega)only[go_sem]
  exact⟨⟨O,rfl,om⟩,C⟩
theorem iT  (h:H)(S N a R:Nat)(d:Array Int)(c:Kh)(f:N<1000000)(A:fD h S N d)(p:0<a)(o:a+1<N)(l:R≠S)(b:R<h.next)(s:Int)(k:h.get R=aZ [aC s]):
  Ev T 258 [.sl S 0 N c,aC a,.ptr R 0] h (λv h'=>(∃m,v= aC (m:Nat)/\(m=a- 1∨m=a∨m=a+1))/\Wn h h' R):=by
 refine cV iR rfl ?_
 have j:(a:Int)- 1=((a- 1:Nat):Int):=om
 have n:(a:Int)+1=((a+1:Nat):Int):=om
 simp(disch:=omega)only[go_sem,iR,aD,j,n]
 refine (oD h S N (a- 1) a (a+1) R d c f A om om om l b s k).mono ?_
 rintro _ q ⟨⟨m,rfl,i⟩,C⟩
 simp(disch:=omega)only[go_sem]
 exact⟨⟨m,rfl,i⟩,C⟩
theorem Ar  (h:H)(S N a b:Nat)(d:Array Int)(F:Kh)(U:N<1000000)(A:fD h S N d)(hb:b<=N)(a1:a<b):
  Ev T 237 [.sl S 0 N F,aC a,aC b] h (λv h'=> ∃(p:Nat) (t:Int),v= .tup [aC p,aC t]/\a<=p/\p<b/\Fr h h'):=by
 refine cV dS rfl ?_
 obtain⟨n,hn⟩:=exI (b-a)
 have en:(b:Int)-(a:Int)=(n:Int):=om
 have P:=Dh n (k:=4) (m:=4) rfl
 obtain⟨q,hq⟩:=exI (n/4)
 rw[hq] at P
 have Z:(a:Int)+(q:Int)*1=((a+q:Nat):Int):=om
 have ej:(a:Int)+(q:Int)*2=((a+q*2:Nat):Int):=om
 have ek:(a:Int)+(q:Int)*3=((a+q*3:Nat):Int):=om
 obtain⟨R,J⟩:=exI h.next
 have c:R≠S:=by have:=A.lt;omega
 obtain⟨o,l⟩: ∃o,o=h.new (.cells false [aC 0]):=⟨_,rfl⟩
 have g1:o.get R=aZ [aC 0]:=by rw[l,←J,H.aL]
 have n1:o.next=R+1:=by rw[l,H.aU,J]
 have f1:Fr h o:=by rw[l];exact (Fr.refl h).new _
 have Y:=A.fr f1
 have L: ∀(p:Nat) (f:H),a<=p->p<b->Fx (· =R) o f->a<=p/\p<b/\Fr h f:=λp f x1 x2 x3=>⟨x1,x2,mT f1.next x3.next,λid a0=>(x3.get id om (λe=>by have:id=R:=e;omega)).trans (f1.get id a0)⟩
 by_cases h8:(8:Int)<=(n:Int)
 case neg=>
  have Q:=bH h8;simp(disch:=omega)only[go_sem,dS,aD,en,P,Z,ej,ek,Q];rw[←l];have cR:o.cell R 0=some (aC 0):=by rw[H.aF g1];rfl
  simp(disch:=omega)only[go_sem,J,cR];refine aW (λ_=>?_) (λhc=>(hc (by trivial)).elim);simp(disch:=omega)only[go_sem];exact⟨a+q*2,1,rfl,L _ _ om om (Fx.refl _ _)⟩
 have Q:=bP h8
 have s: ∀(i j k:Nat) (f:H) (G:Int),a<=i->i<b->a<=j->j<b->a<=k->k<b->fD f S N d->f.get R=aZ [aC G]->R<f.next->Fx (· =R) o f->
   Ev T 259 [.sl S 0 N F,aC i,aC j,aC k,.ptr R 0] f (λv h'=> ∃p r,v= aC (p:Nat)/\a<=p/\p<b/\h'.get R=aZ [aC r]/\Fr h h'):=by
  intro i j k f G i1 i2 j1 j2 k1 k2 W g2 n2 F2
  refine (oD f S N i j k R d F U W om om om c n2 G g2).mono ?_
  rintro _ x ⟨⟨p,rfl,hp⟩,⟨r,B⟩,O⟩
  exact⟨p,r,rfl,om,om,B,(L p x om om (F2.trans O λ_ _ h=>h)).2.2⟩
 by_cases K:(50:Int)<=(n:Int)
 case neg=>
  have w:=bH K;simp(disch:=omega)only[go_sem,dS,aD,en,P,Z,ej,ek,Q,w];rw[←l];simp(disch:=omega)only[go_sem,J];refine (s (a+q) (a+q*2) (a+q*3) o 0 om om om om om om Y g1 om (Fx.refl _ _)).mono ?_;rintro _ x ⟨p,r,rfl,u,y,B,z⟩;have cR:x.cell R 0=some (aC r):=by rw[H.aF B];rfl
  simp(disch:=omega)only[go_sem,cR];refine aW (λ_=>?_) (λ_=>?_)
  ·simp(disch:=omega)only[go_sem]
   exact⟨p,1,rfl,u,y,z⟩
  ·simp(disch:=omega)only[go_sem]
   refine aW (λ_=>?_) (λ_=>?_)
   ·simp(disch:=omega)only[go_sem]
    exact⟨p,2,rfl,u,y,z⟩
   ·simp(disch:=omega)only[go_sem]
    exact⟨p,0,rfl,u,y,z⟩
 have w:=bP K
 simp(disch:=omega)only[go_sem,dS,aD,en,P,Z,ej,ek,Q,w]
 rw[←l]
 simp(disch:=omega)only[go_sem,J]
 refine (iT o S N (a+q) R d F U Y om om c om 0 g1).mono ?_
 rintro _ f ⟨⟨i,rfl,hi⟩,⟨G,g2⟩,F2⟩
 have W:=Y.Uc F2 c
 have n2:=F2.next
 simp(disch:=omega)only[go_sem]
 refine (iT f S N (a+q*2) R d F U W om om c om G g2).mono ?_
 rintro _ x ⟨⟨j,rfl,hj⟩,⟨r,B⟩,O⟩
 have A3:=W.Uc O c
 have n3:=O.next
 simp(disch:=omega)only[go_sem]
 refine (iT x S N (a+q*3) R d F U A3 om om c om r B).mono ?_
 rintro _ h4 ⟨⟨k,rfl,hk⟩,⟨s4,g4⟩,F4⟩
 have A4:=A3.Uc F4 c
 have n4:=F4.next
 simp(disch:=omega)only[go_sem]
 refine (s i j k h4 s4 om om om om om om A4 g4 om ((F2.trans O λ_ _ h=>h).trans F4 λ_ _ h=>h)).mono ?_
 rintro _ x ⟨p,r,rfl,u,y,B,z⟩
 have cR:x.cell R 0=some (aC r):=by rw[H.aF B];rfl
 simp(disch:=omega)only[go_sem,cR]
 refine aW (λ_=>?_) (λ_=>?_)
 ·simp(disch:=omega)only[go_sem]
  exact⟨p,1,rfl,u,y,z⟩
 ·simp(disch:=omega)only[go_sem]
  refine aW (λ_=>?_) (λ_=>?_)
  ·simp(disch:=omega)only[go_sem]
   exact⟨p,2,rfl,u,y,z⟩
  ·simp(disch:=omega)only[go_sem]
   exact⟨p,0,rfl,u,y,z⟩
section
variable {lt:Int->Int->Bool} {j b:Nat} {d:Array Int}
theorem GU (h:lt d[j+1]! d[j]! =true):shiftDown lt (j+1) d=shiftDown lt j (swp d (j+1) j):=by rw[shiftDown,bI (by simp [h])]
theorem EK (h:lt d[j+1]! d[j]! =false):shiftDown lt (j+1) d=d:=by rw[shiftDown,bF (by simp [h])]
theorem EY (a:j<b)(h:lt d[j]! d[j- 1]! =true):shiftUp lt b j d=shiftUp lt b (j+1) (swp d j (j- 1)):=by rw[shiftUp,bF a,bI (by simp [h])]
theorem FZ (a:j<b)(h:lt d[j]! d[j- 1]! =false):shiftUp lt b j d=d:=by rw[shiftUp,bF a,bF (by simp [h])]
theorem EH {i:Nat}(hi:i<b)(h:lt d[i]! d[i- 1]! =false):scanSorted lt d b i=scanSorted lt d b (i+1):=by rw[scanSorted,bF (by simp [h,hi])]
theorem Nn {i:Nat}(h: ¬(i<b/\lt d[i]! d[i- 1]! =false)):scanSorted lt d b i=i:=by rw[scanSorted,bI (by simpa using h)]
theorem Lq (lt:Int->Int->Bool)(a b s i:Nat)(d:Array Int):partialIns lt a b (s+1) i d=if scanSorted lt d b i=b then (d,true) else if b-a<50 then (d,false) else
  partialIns lt a b s (scanSorted lt d b i) (if b-scanSorted lt d b i≥2 then shiftUp lt b (scanSorted lt d b i+1) (if scanSorted lt d b i-a≥2 then shiftDown lt (scanSorted lt d b i- 1) (swp d (scanSorted lt d b i) (scanSorted lt d b i- 1)) else swp d (scanSorted lt d b i) (scanSorted lt d b i- 1)) else
   (if scanSorted lt d b i-a≥2 then shiftDown lt (scanSorted lt d b i- 1) (swp d (scanSorted lt d b i) (scanSorted lt d b i- 1)) else swp d (scanSorted lt d b i) (scanSorted lt d b i- 1))):=by rw[partialIns]
theorem tB (h:H)(S N a b:Nat)(d:Array Int)(U:Kh)(hN:N<1000000)(A:fD h S N d)(hb:b<=N)(b9:a<b):
  Ev T 239 [.sl S 0 N U,aC a,aC b] h (λv h'=>v= .bool (partialInsertionSort ltInt d a b).2/\fD h' S N (partialInsertionSort ltInt d a b).1/\Fx (· =S) h h'):=by
 refine cV fX rfl ?_
 simp(disch:=omega)only[go_sem,fX,aD]
 rw[eJ a]
 refine aH (λf c p=> ∃(s i:Nat) (e:Array Int),(∃g:Nat->V,c= [.sl S 0 N U,aC a,aC b,g 3,aC i,aC (5-(s:Int)),g 6,g 7,g 8,g 9,g 10,g 11,g 12,g 13,g 14,g 15,g 16,g 17])/\s<=5/\a<i/\i<=b/\fD p S N e/\partialIns ltInt a b s i e=partialInsertionSort ltInt d a b/\Fx (· =S) h p/\f=s) 5
  ⟨5,a+1,d,aB rfl,om,om,om,A,rfl,Fx.refl _ h,rfl⟩ ?_
 clear A
 rintro f c P ⟨s,i,e,⟨g,rfl⟩,hs,b2,b1,A,k,F,hk⟩
 subst hk
 by_cases L:(5:Int)-(f:Int)<5
 case neg=>
  have l:=bH L;obtain rfl:f=0:=om
  simp(disch:=omega)only[go_sem,l];have k:(e,false)=partialInsertionSort ltInt d a b:=k;rw[←k];exact⟨rfl,A,F⟩
 have l:=bP L
 obtain⟨s,rfl⟩: ∃s,f=s+1:=⟨f- 1,om⟩
 simp(disch:=omega)only[go_sem,l]
 rw[Lq] at k
 refine aH (λf c p=> ∃(m:Nat),(∃g:Nat->V,c= [.sl S 0 N U,aC a,aC b,g 3,aC m,aC (5-((s+1:Nat):Int)),g 6,g 7,g 8,g 9,g 10,g 11,g 12,g 13,g 14,g 15,g 16,g 17])/\a<m/\m<=b/\fD p S N e/\scanSorted ltInt e b m=scanSorted ltInt e b i/\Fx (· =S) h p/\f=b-m) (b-i)
  ⟨i,aB rfl,b2,b1,A,rfl,F,rfl⟩ ?_
 clear A F L l
 rintro f c u ⟨m,⟨g,rfl⟩,b4,b5,A,R,F,rfl⟩
 have sz:=A.size
 have w:(m:Int)- 1=((m- 1:Nat):Int):=om
 have a2:(m:Int)+1=((m+1:Nat):Int):=om
 by_cases a4:(m:Int)<(b:Int)
 case neg=>
  have l:=bH a4;have em:m=b:=om
  rw[Nn om] at R;rw[←R,bF em] at k;have e2:decide ((m:Int)=(b:Int))=true:=bP om;simp(disch:=omega)only[go_sem,l,e2];rw[←k];exact⟨rfl,A.fr ((Fr.refl u).bA om),dC F (Fx.of ((Fr.refl u).bA om))⟩
 have l:=bP a4
 have o:=A.rd (i:=m) om
 have n:=A.rd (i:=m- 1) om
 simp(disch:=omega)only[go_sem,l,w,o,n]
 refine (gV _ _ _).mono ?_
 rintro _ h3 ⟨rfl,a5⟩
 have J:Fr u h3:=Fr.trans ((Fr.refl u).bA om) a5
 have K:=A.fr J
 have F3:=dC F (Fx.of J)
 cases hl:ltInt e[m]! e[m- 1]! with
 |false=>
  rw[EH om hl] at R;simp(disch:=omega)only[go_sem,hl,a2];exact⟨b-(m+1),om,m+1,aB rfl,om,om,K,R,F3,rfl⟩
 |true=>
  rw[Nn (by rw[hl];simp)] at R;rw[←R,bI om] at k;have e2:decide ((m:Int)=(b:Int))=false:=bH om
  by_cases a3:(b:Int)-(a:Int)<50
  ·have B:=bP a3
   rw[bF om] at k;simp(disch:=omega)only[go_sem,hl,e2,B];rw[←k];exact⟨rfl,K,F3⟩
  have B:=bH a3;rw[bI om] at k;have o:=K.rd (i:=m) om;have n:=K.rd (i:=m- 1) om;simp(disch:=omega)only[go_sem,hl,e2,B,w,o,n,K.get,bB,aY];have W:=K.swap (i:=m) (j:=m- 1) (nx:=h3.next+18) om rfl
  obtain⟨h4,a7⟩: ∃h4,h4=((H.mk h3.tr (h3.next+18)).set S (aZ (ints (e.setIfInBounds m e[m- 1]!).toList))).set S (aZ (ints ((e.setIfInBounds m e[m- 1]!).setIfInBounds (m- 1) e[m]!).toList)):=⟨_,rfl⟩
  rw[←a7] at W ⊢;obtain⟨A4,F4⟩:=W;have G:=dC F3 F4;clear a7 F4 K F3 J a5 o n;obtain⟨O,a0⟩:=exI (swp e m (m- 1));rw[a0] at A4 k;refine jT (λvs Q=> ∃Z,(∃g:Nat->V,vs= [.sl S 0 N U,aC a,aC b,g 3,aC m,aC (5-((s+1:Nat):Int)),g 6,g 7,g 8,g 9,g 10,g 11,g 12,g 13,g 14,g 15,g 16,g 17])/\fD Q S N Z/\Z=(if m-a≥2 then shiftDown ltInt (m- 1) O else O)/\Fx (· =S) h Q) ?_ ?_
  ·refine aW (λu=>?_) (λu=>?_)
   ·simp(disch:=omega)only[go_sem,w]
    refine aH (λf c p=> ∃(j:Nat) (x:Array Int),(∃g:Nat->V,c= [.sl S 0 N U,aC a,aC b,g 3,aC m,aC (5-((s+1:Nat):Int)),aC j,g 7,g 8,g 9,g 10,g 11,g 12,g 13,g 14,g 15,g 16,g 17])/\j<b/\fD p S N x/\shiftDown ltInt j x=shiftDown ltInt (m- 1) O/\Fx (· =S) h p/\f=j) (m- 1)
     ⟨m- 1,O,aB rfl,om,A4,rfl,G,rfl⟩ ?_
    rintro f c Q ⟨j,x,⟨g,rfl⟩,hj,t,y,F5,hk⟩;subst hk;have b6:=t.size
    by_cases P:(1:Int)<=(f:Int)
    ·have l:=bP P
     obtain⟨q,rfl⟩: ∃q,f=q+1:=⟨f- 1,om⟩
     have a8:((q+1:Nat):Int)- 1=(q:Int):=om
     have o:=t.rd (i:=q+1) om;have n:=t.rd (i:=q) om;simp(disch:=omega)only[go_sem,l,a8,o,n];refine (gV _ _ _).mono ?_;rintro _ h6 ⟨rfl,b3⟩;have f6:Fr Q h6:=Fr.trans ((Fr.refl Q).bA om) b3;have r:=t.fr f6;have F6:=dC F5 (Fx.of f6)
     cases hl:ltInt x[q+1]! x[q]! with
     |false=>
      rw[EK hl] at y;simp(disch:=omega)only[go_sem,hl];exact .inl ⟨x,aB rfl,r,by rw[bF om,←y],F6⟩
     |true=>
      rw[GU hl] at y;have o:=r.rd (i:=q+1) om;have n:=r.rd (i:=q) om;simp(disch:=omega)only[go_sem,hl,a8,o,n,r.get,bB,aY];have W:=r.swap (i:=q+1) (j:=q) (nx:=h6.next+18) om rfl;exact⟨q,om,q,_,aB rfl,om,W.1,y,dC F6 W.2,rfl⟩
    ·have l:=bH P
     obtain rfl:f=0:=om
     simp(disch:=omega)only[go_sem,l];have y:x=shiftDown ltInt (m- 1) O:=y;exact .inl ⟨x,aB rfl,t,by rw[bF om,←y],F5⟩
   ·simp(disch:=omega)only[go_sem]
    exact .inl ⟨O,aB rfl,A4,by rw[bI om],G⟩
  ·rintro c Q ⟨Z,⟨g,rfl⟩,t,a1,F5⟩
   rw[←a1] at k;clear A4 G a1 a0;simp(disch:=omega)only[go_sem];have z:(5:Int)-((s+1:Nat):Int)+1=5-(s:Int):=om
   refine aW (λu=>?_) (λu=>?_)
   ·rw[bF om] at k
    simp(disch:=omega)only[go_sem,a2];refine aH (λf c p=> ∃(j:Nat) (x:Array Int),(∃g:Nat->V,c= [.sl S 0 N U,aC a,aC b,g 3,aC m,aC (5-((s+1:Nat):Int)),g 6,aC j,g 8,g 9,g 10,g 11,g 12,g 13,g 14,g 15,g 16,g 17])/\0<j/\j<=b/\fD p S N x/\shiftUp ltInt b j x=shiftUp ltInt b (m+1) Z/\Fx (· =S) h p/\f=b-j) (b-(m+1))
     ⟨m+1,Z,aB rfl,om,om,t,rfl,F5,rfl⟩ ?_
    rintro f c h6 ⟨j,x,⟨g,rfl⟩,b8,hj,r,Y,F6,rfl⟩;have b7:=r.size
    by_cases P:(j:Int)<(b:Int)
    ·have l:=bP P
     have a6:(j:Int)- 1=((j- 1:Nat):Int):=om
     have b0:(j:Int)+1=((j+1:Nat):Int):=om
     have o:=r.rd (i:=j) om;have n:=r.rd (i:=j- 1) om;simp(disch:=omega)only[go_sem,l,a6,o,n];refine (gV _ _ _).mono ?_;rintro _ h7 ⟨rfl,a9⟩;have f7:Fr h6 h7:=Fr.trans ((Fr.refl h6).bA om) a9;have A7:=r.fr f7;have F7:=dC F6 (Fx.of f7)
     cases hl:ltInt x[j]! x[j- 1]! with
     |false=>
      rw[FZ om hl] at Y;rw[←Y] at k;simp(disch:=omega)only[go_sem,hl,z];exact⟨s,om,s,m,x,aB rfl,om,om,om,A7,k,F7,rfl⟩
     |true=>
      rw[EY om hl] at Y;have o:=A7.rd (i:=j) om;have n:=A7.rd (i:=j- 1) om;simp(disch:=omega)only[go_sem,hl,a6,b0,o,n,A7.get,bB,aY];have W:=A7.swap (i:=j) (j:=j- 1) (nx:=h7.next+18) om rfl;exact⟨b-(j+1),om,j+1,_,aB rfl,om,om,W.1,Y,dC F7 W.2,rfl⟩
    ·have l:=bH P
     rw[shiftUp,bI om] at Y;rw[←Y] at k;simp(disch:=omega)only[go_sem,l,z];exact⟨s,om,s,m,x,aB rfl,om,om,om,r,k,F6,rfl⟩
   ·rw[bI om] at k
    simp(disch:=omega)only[go_sem,z];exact⟨s,om,s,m,Z,aB rfl,om,om,om,t,k,F5,rfl⟩
end
section
variable {p:Int->Bool} {d:Array Int} {j i:Nat}
theorem yY (a:i<=j)(h2:p d[i]! =true):scanUp p d j i=scanUp p d j (i+1):=by rw[scanUp,bF (by simp [a,h2])]
theorem qA (h: ¬(i<=j/\p d[i]! =true)):scanUp p d j i=i:=by rw[scanUp,bI (by simpa using h)]
theorem Dc (a:i<=j+1)(h2:p d[j+1]! =true):scanDown p d i (j+1)=scanDown p d i j:=by rw[scanDown,bF (by simp [a,h2])]
theorem oP (h: ¬(i<=j/\p d[j]! =true)):scanDown p d i j=j:=by
 cases j with
 |zero=>rfl
 |succ j=>rw[scanDown,bI (by simpa using h)]
theorem kW (p:Int->Bool)(d:Array Int)(j i:Nat):scanUp p d j i<=max i (j+1):=by
 obtain⟨n,a⟩:=exI (j+1-i)
 induction n generalizing i with
 |zero=>rw[qA (λh=>by have:=h.1;omega)];omega
 |succ n ih=>
  by_cases h:i<=j/\p d[i]! =true
  ·rw[yY h.1 h.2]
   have:=ih (i+1) om;omega
  ·rw[qA h];omega
theorem pG (h:H)(S N a b pv:Nat)(d:Array Int)(U:Kh)(hN:N<1000000)(A:fD h S N d)(hb:b<=N)(b8:a<=pv)(b7:pv<b):
  Ev T 241 [.sl S 0 N U,aC a,aC b,aC pv] h (λv h'=>v= .tup [aC ((partition ltInt d a b pv).1:Nat),.bool (partition ltInt d a b pv).2.1]/\fD h' S N (partition ltInt d a b pv).2.2/\Fx (· =S) h h'):=by
 refine cV jY rfl ?_
 have sz:=A.size
 have O:=A.rd (i:=a) om
 have J:=A.rd (i:=pv) om
 simp(disch:=omega)only[go_sem,jY,aD,O,J,A.get,bB,aY]
 have W:=A.swap (i:=a) (j:=pv) (nx:=h.next+16) om rfl
 obtain⟨h1,b2⟩: ∃h1,h1=((H.mk h.tr (h.next+16)).set S (aZ (ints (d.setIfInBounds a d[pv]!).toList))).set S (aZ (ints ((d.setIfInBounds a d[pv]!).setIfInBounds pv d[a]!).toList)):=⟨_,rfl⟩
 rw[←b2] at W ⊢
 obtain⟨A1,F1⟩:=W
 obtain⟨e,he⟩:=exI (swp d a pv)
 rw[he] at A1
 clear b2 O J A
 have eb:(b:Int)- 1=((b- 1:Nat):Int):=om
 have ea:(a:Int)+1=((a+1:Nat):Int):=om
 have hP:partition ltInt d a b pv=if scanUp (λx=>ltInt x e[a]!) e (b- 1) (a+1)>scanDown (λx=>!ltInt x e[a]!) e (scanUp (λx=>ltInt x e[a]!) e (b- 1) (a+1)) (b- 1) then
   (scanDown (λx=>!ltInt x e[a]!) e (scanUp (λx=>ltInt x e[a]!) e (b- 1) (a+1)) (b- 1),true,swp e (scanDown (λx=>!ltInt x e[a]!) e (scanUp (λx=>ltInt x e[a]!) e (b- 1) (a+1)) (b- 1)) a) else
   ((partLoop ltInt a (scanUp (λx=>ltInt x e[a]!) e (b- 1) (a+1)+1) (scanDown (λx=>!ltInt x e[a]!) e (scanUp (λx=>ltInt x e[a]!) e (b- 1) (a+1)) (b- 1)- 1) (swp e (scanUp (λx=>ltInt x e[a]!) e (b- 1) (a+1)) (scanDown (λx=>!ltInt x e[a]!) e (scanUp (λx=>ltInt x e[a]!) e (b- 1) (a+1)) (b- 1)))).1,false,
    swp (partLoop ltInt a (scanUp (λx=>ltInt x e[a]!) e (b- 1) (a+1)+1) (scanDown (λx=>!ltInt x e[a]!) e (scanUp (λx=>ltInt x e[a]!) e (b- 1) (a+1)) (b- 1)- 1) (swp e (scanUp (λx=>ltInt x e[a]!) e (b- 1) (a+1)) (scanDown (λx=>!ltInt x e[a]!) e (scanUp (λx=>ltInt x e[a]!) e (b- 1) (a+1)) (b- 1)))).2 (partLoop ltInt a (scanUp (λx=>ltInt x e[a]!) e (b- 1) (a+1)+1) (scanDown (λx=>!ltInt x e[a]!) e (scanUp (λx=>ltInt x e[a]!) e (b- 1) (a+1)) (b- 1)- 1) (swp e (scanUp (λx=>ltInt x e[a]!) e (b- 1) (a+1)) (scanDown (λx=>!ltInt x e[a]!) e (scanUp (λx=>ltInt x e[a]!) e (b- 1) (a+1)) (b- 1)))).1 a):=by
  rw[←he];rfl
 obtain⟨R,a9⟩:=exI (partition ltInt d a b pv)
 rw[a9] at hP
 rw[a9]
 simp(disch:=omega)only[go_sem,ea,eb]
 refine bJ (λL c=>(∃g:Nat->V,L= [.sl S 0 N U,aC a,aC b,aC pv,g 4,g 5,aC (scanUp (λx=>ltInt x e[a]!) e (b- 1) (a+1):Nat),aC ((b- 1):Nat),g 8,g 9,g 10,g 11,g 12,g 13])/\fD c S N e/\Fx (· =S) h c) ?_ ?_
 ·refine aH (λG L c=> ∃(k:Nat),(∃g:Nat->V,L= [.sl S 0 N U,aC a,aC b,aC pv,g 4,g 5,aC (k:Nat),aC ((b- 1):Nat),g 8,g 9,g 10,g 11,g 12,g 13])/\(a+1)<=k/\k<=N+2/\fD c S N e/\scanUp (λx=>ltInt x e[a]!) e (b- 1) k=scanUp (λx=>ltInt x e[a]!) e (b- 1) (a+1)/\Fx (· =S) h c/\G=(b- 1)+1-k) ((b- 1)+1-(a+1))
   ⟨(a+1),aB rfl,om,om,A1,rfl,F1,rfl⟩ ?_
  rintro G l K ⟨k,⟨g,rfl⟩,a5,b5,t,n,Fs,rfl⟩
  by_cases f:(k:Int)<=(((b- 1):Nat):Int)
  ·have q:decide ((k:Int)<=(((b- 1):Nat):Int))=true:=bP f
   have eK:(k:Int)+1=((k+1:Nat):Int):=om
   have a6:=t.size
   have O:=t.rd (i:=k) om
   have J:=t.rd (i:=a) om
   simp(disch:=omega)only[go_sem,q,O,J]
   refine (gV _ _ _).mono ?_
   rintro _ P ⟨rfl,z⟩
   have s:Fr K P:=Fr.trans ((Fr.refl K).bA om) z
   have B:=t.fr s
   have y:=dC Fs (Fx.of s)
   cases hl:ltInt e[k]! e[a]! with
   |false=>
    rw[qA (λc=>by have:=c.2;simp [hl] at this)] at n;simp(disch:=omega)only[go_sem,hl];exact⟨by rw[←n];exact aB rfl,B,y⟩
   |true=>
    rw[yY om (by simp [hl])] at n;simp(disch:=omega)only[go_sem,hl,eK];exact⟨(b- 1)+1-(k+1),om,k+1,aB rfl,om,om,B,n,y,rfl⟩
  ·have q:decide ((k:Int)<=(((b- 1):Nat):Int))=false:=bH f
   rw[qA (λc=>f (by have:=c.1;omega))] at n
   simp(disch:=omega)only[go_sem,q]
   exact⟨by rw[←n];exact aB rfl,t.fr ((Fr.refl K).bA om),dC Fs (Fx.of ((Fr.refl K).bA om))⟩
 ·rintro l h9 ⟨⟨g,rfl⟩,A9,F9⟩
  have a1:=scanUp_ge (λx=>ltInt x e[a]!) e (b- 1) (a+1)
  have a0:=kW (λx=>ltInt x e[a]!) e (b- 1) (a+1)
  obtain⟨o,Z⟩: ∃x,scanUp (λx=>ltInt x e[a]!) e (b- 1) (a+1)=x:=⟨_,rfl⟩
  rw[Z] at a1 a0
  rw[Z]
  simp(disch:=omega)only[go_sem]
  refine bJ (λL c=>(∃g:Nat->V,L= [.sl S 0 N U,aC a,aC b,aC pv,g 4,g 5,aC (o:Nat),aC (scanDown (λx=>!ltInt x e[a]!) e o (b- 1):Nat),g 8,g 9,g 10,g 11,g 12,g 13])/\fD c S N e/\Fx (· =S) h c) ?_ ?_
  ·refine aH (λG L c=> ∃(k:Nat),(∃g:Nat->V,L= [.sl S 0 N U,aC a,aC b,aC pv,g 4,g 5,aC (o:Nat),aC (k:Nat),g 8,g 9,g 10,g 11,g 12,g 13])/\k<=(b- 1)/\fD c S N e/\scanDown (λx=>!ltInt x e[a]!) e o k=scanDown (λx=>!ltInt x e[a]!) e o (b- 1)/\Fx (· =S) h c/\G=k) (b- 1)
    ⟨(b- 1),aB rfl,om,A9,rfl,F9,rfl⟩ ?_
   rintro G l K ⟨k,⟨g,rfl⟩,a5,t,n,Fs,a3⟩
   subst a3
   by_cases f:((o:Nat):Int)<=(G:Int)
   ·have q:=bP f
    obtain⟨k,rfl⟩: ∃k,G=k+1:=⟨G- 1,om⟩
    have eK:((k+1:Nat):Int)- 1=(k:Int):=om
    have a6:=t.size
    have O:=t.rd (i:=k+1) om
    have J:=t.rd (i:=a) om
    simp(disch:=omega)only[go_sem,q,O,J]
    refine (gV _ _ _).mono ?_
    rintro _ P ⟨rfl,z⟩
    have s:Fr K P:=Fr.trans ((Fr.refl K).bA om) z
    have B:=t.fr s
    have y:=dC Fs (Fx.of s)
    cases hl:ltInt e[k+1]! e[a]! with
    |true=>
     rw[oP (λc=>by have:=c.2;simp [hl] at this)] at n;simp(disch:=omega)only[go_sem,hl];exact⟨by rw[←n];exact aB rfl,B,y⟩
    |false=>
     rw[Dc om (by simp [hl])] at n;simp(disch:=omega)only[go_sem,hl,eK];exact⟨k,om,k,aB rfl,om,B,n,y,rfl⟩
   ·have q:=bH f
    rw[oP (λc=>f (by have:=c.1;omega))] at n
    simp(disch:=omega)only[go_sem,q]
    exact⟨by rw[←n];exact aB rfl,t.fr ((Fr.refl K).bA om),dC Fs (Fx.of ((Fr.refl K).bA om))⟩
  ·rintro l h2 ⟨⟨g,rfl⟩,A2,F2⟩
   have a4:=scanDown_le (λx=>!ltInt x e[a]!) e o (b- 1)
   obtain⟨F,a2⟩: ∃x,scanDown (λx=>!ltInt x e[a]!) e o (b- 1)=x:=⟨_,rfl⟩
   rw[a2] at a4
   rw[a2]
   rw[Z,a2] at hP
   have b4:=A2.size
   by_cases Q:(F:Int)<(o:Int)
   ·have q:=bP Q
    rw[bF om] at hP
    have O:=A2.rd (i:=F) om
    have J:=A2.rd (i:=a) om
    simp(disch:=omega)only[go_sem,q,O,J,A2.get,bB,aY]
    have W:=A2.swap (i:=F) (j:=a) (nx:=h2.next+16) om rfl
    rw[hP]
    exact⟨rfl,W.1,dC F2 W.2⟩
   have q:=bH Q
   rw[bI om] at hP
   have O:=A2.rd (i:=o) om
   have J:=A2.rd (i:=F) om
   simp(disch:=omega)only[go_sem,q,O,J,A2.get,bB,aY]
   have W:=A2.swap (i:=o) (j:=F) (nx:=h2.next+16) om rfl
   obtain⟨h3,b0⟩: ∃h3,h3=((H.mk h2.tr (h2.next+16)).set S (aZ (ints (e.setIfInBounds o e[F]!).toList))).set S (aZ (ints ((e.setIfInBounds o e[F]!).setIfInBounds F e[o]!).toList)):=⟨_,rfl⟩
   rw[←b0] at W ⊢
   obtain⟨A3,b1⟩:=W
   have F3:=dC F2 b1
   have a7:o<=F:=om
   obtain⟨e0,b3⟩:=exI (swp e o F)
   rw[b3] at A3 hP
   clear b0 O J A2 A9 F9 A1 F1 he Q q
   have ei:(o:Int)+1=((o+1:Nat):Int):=om
   have ej:(F:Int)- 1=((F- 1:Nat):Int):=om
   simp(disch:=omega)only[go_sem,ei,ej]
   refine bJ (λL c=>(∃g:Nat->V,L= [.sl S 0 N U,aC a,aC b,aC pv,g 4,g 5,g 6,aC (((partLoop ltInt a (o+1) (F- 1) e0).1:Nat):Int),g 8,g 9,g 10,g 11,g 12,g 13])/\fD c S N (partLoop ltInt a (o+1) (F- 1) e0).2/\(partLoop ltInt a (o+1) (F- 1) e0).1<b/\Fx (· =S) h c) ?_ ?_
   ·refine aH (λG L c=> ∃(i j:Nat) (e:Array Int),(∃g:Nat->V,L= [.sl S 0 N U,aC a,aC b,aC pv,g 4,g 5,aC i,aC j,g 8,g 9,g 10,g 11,g 12,g 13])/\a<i/\i<=b+1/\j<b/\fD c S N e/\partLoop ltInt a i j e=partLoop ltInt a (o+1) (F- 1) e0/\Fx (· =S) h c/\G=j) (F- 1)
     ⟨o+1,F- 1,e0,aB rfl,om,om,om,A3,rfl,F3,rfl⟩ ?_
    obtain⟨R2,a8⟩:=exI (partLoop ltInt a (o+1) (F- 1) e0)
    rw[a8]
    clear hP a8 Z a2 b3 ei ej a4 a1 a0 F3 b1 A3 b4 h3 a7
    clear o F
    rintro G l h3 ⟨i,j,e,⟨g,rfl⟩,c0,Z,hj,A3,hL,F3,a3⟩
    rw[partLoop_eq] at hL
    simp(disch:=omega)only[go_sem]
    refine bJ (λL c=>(∃g:Nat->V,L= [.sl S 0 N U,aC a,aC b,aC pv,g 4,g 5,aC (scanUp (λx=>ltInt x e[a]!) e j i:Nat),aC (j:Nat),g 8,g 9,g 10,g 11,g 12,g 13])/\fD c S N e/\Fx (· =S) h c) ?_ ?_
    ·refine aH (λG L c=> ∃(k:Nat),(∃g:Nat->V,L= [.sl S 0 N U,aC a,aC b,aC pv,g 4,g 5,aC (k:Nat),aC (j:Nat),g 8,g 9,g 10,g 11,g 12,g 13])/\i<=k/\k<=N+2/\fD c S N e/\scanUp (λx=>ltInt x e[a]!) e j k=scanUp (λx=>ltInt x e[a]!) e j i/\Fx (· =S) h c/\G=j+1-k) (j+1-i)
      ⟨i,aB rfl,om,om,A3,rfl,F3,rfl⟩ ?_
     rintro G l K ⟨k,⟨g,rfl⟩,a5,b5,t,n,Fs,rfl⟩
     by_cases f:(k:Int)<=((j:Nat):Int)
     ·have q:=bP f
      have eK:(k:Int)+1=((k+1:Nat):Int):=om
      have a6:=t.size
      have O:=t.rd (i:=k) om
      have J:=t.rd (i:=a) om
      simp(disch:=omega)only[go_sem,q,O,J]
      refine (gV _ _ _).mono ?_
      rintro _ P ⟨rfl,z⟩
      have s:Fr K P:=Fr.trans ((Fr.refl K).bA om) z
      have B:=t.fr s
      have y:=dC Fs (Fx.of s)
      cases hl:ltInt e[k]! e[a]! with
      |false=>
       rw[qA (λc=>by have:=c.2;simp [hl] at this)] at n;simp(disch:=omega)only[go_sem,hl];exact⟨by rw[←n];exact aB rfl,B,y⟩
      |true=>
       rw[yY om (by simp [hl])] at n;simp(disch:=omega)only[go_sem,hl,eK];exact⟨j+1-(k+1),om,k+1,aB rfl,om,om,B,n,y,rfl⟩
     ·have q:=bH f
      rw[qA (λc=>f (by have:=c.1;omega))] at n
      simp(disch:=omega)only[go_sem,q]
      exact⟨by rw[←n];exact aB rfl,t.fr ((Fr.refl K).bA om),dC Fs (Fx.of ((Fr.refl K).bA om))⟩
    ·rintro l h9 ⟨⟨g,rfl⟩,A9,F9⟩
     have a1:=scanUp_ge (λx=>ltInt x e[a]!) e j i
     have a0:=kW (λx=>ltInt x e[a]!) e j i
     obtain⟨u,hu⟩: ∃x,scanUp (λx=>ltInt x e[a]!) e j i=x:=⟨_,rfl⟩
     rw[hu] at a1 a0
     rw[hu]
     simp(disch:=omega)only[go_sem]
     refine bJ (λL c=>(∃g:Nat->V,L= [.sl S 0 N U,aC a,aC b,aC pv,g 4,g 5,aC (u:Nat),aC (scanDown (λx=>!ltInt x e[a]!) e u j:Nat),g 8,g 9,g 10,g 11,g 12,g 13])/\fD c S N e/\Fx (· =S) h c) ?_ ?_
     ·refine aH (λG L c=> ∃(k:Nat),(∃g:Nat->V,L= [.sl S 0 N U,aC a,aC b,aC pv,g 4,g 5,aC (u:Nat),aC (k:Nat),g 8,g 9,g 10,g 11,g 12,g 13])/\k<=j/\fD c S N e/\scanDown (λx=>!ltInt x e[a]!) e u k=scanDown (λx=>!ltInt x e[a]!) e u j/\Fx (· =S) h c/\G=k) j
       ⟨j,aB rfl,om,A9,rfl,F9,rfl⟩ ?_
      rintro G l K ⟨k,⟨g,rfl⟩,a5,t,n,Fs,a3⟩
      subst a3
      by_cases f:((u:Nat):Int)<=(G:Int)
      ·have q:=bP f
       obtain⟨k,rfl⟩: ∃k,G=k+1:=⟨G- 1,om⟩
       have eK:((k+1:Nat):Int)- 1=(k:Int):=om
       have a6:=t.size
       have O:=t.rd (i:=k+1) om
       have J:=t.rd (i:=a) om
       simp(disch:=omega)only[go_sem,q,O,J]
       refine (gV _ _ _).mono ?_
       rintro _ P ⟨rfl,z⟩
       have s:Fr K P:=Fr.trans ((Fr.refl K).bA om) z
       have B:=t.fr s
       have y:=dC Fs (Fx.of s)
       cases hl:ltInt e[k+1]! e[a]! with
       |true=>
        rw[oP (λc=>by have:=c.2;simp [hl] at this)] at n;simp(disch:=omega)only[go_sem,hl];exact⟨by rw[←n];exact aB rfl,B,y⟩
       |false=>
        rw[Dc om (by simp [hl])] at n;simp(disch:=omega)only[go_sem,hl,eK];exact⟨k,om,k,aB rfl,om,B,n,y,rfl⟩
      ·have q:=bH f
       rw[oP (λc=>f (by have:=c.1;omega))] at n
       simp(disch:=omega)only[go_sem,q]
       exact⟨by rw[←n];exact aB rfl,t.fr ((Fr.refl K).bA om),dC Fs (Fx.of ((Fr.refl K).bA om))⟩
     ·rintro l h4 ⟨⟨g,rfl⟩,A4,F4⟩
      have a4:=scanDown_le (λx=>!ltInt x e[a]!) e u j
      obtain⟨w,hw⟩: ∃x,scanDown (λx=>!ltInt x e[a]!) e u j=x:=⟨_,rfl⟩
      rw[hw] at a4
      rw[hw]
      rw[hu,hw] at hL
      have b6:=A4.size
      by_cases Q:(w:Int)<(u:Int)
      ·have q:=bP Q
       rw[bF om] at hL
       simp(disch:=omega)only[go_sem,q]
       rw[←hL]
       exact⟨aB rfl,A4,om,F4⟩
      have q:=bH Q
      rw[bI om] at hL
      have O:=A4.rd (i:=u) om
      have J:=A4.rd (i:=w) om
      have ei:(u:Int)+1=((u+1:Nat):Int):=om
      have ej:(w:Int)- 1=((w- 1:Nat):Int):=om
      simp(disch:=omega)only[go_sem,q,O,J,A4.get,bB,aY,ei,ej]
      have W:=A4.swap (i:=u) (j:=w) (nx:=h4.next+16) om rfl
      exact⟨w- 1,om,u+1,w- 1,_,aB rfl,om,om,om,W.1,hL,dC F4 W.2,rfl⟩
   ·rintro l h5 ⟨⟨g,rfl⟩,A5,Y,F5⟩
    generalize partLoop ltInt a (o+1) (F- 1) e0=r at hP A5 Y
    obtain⟨m,e5⟩:=r
    have Y:m<b:=Y
    have A5:fD h5 S N e5:=A5
    have b9:=A5.size
    have O:=A5.rd (i:=m) om
    have J:=A5.rd (i:=a) om
    simp(disch:=omega)only[go_sem,O,J,A5.get,bB,aY]
    have W:=A5.swap (i:=m) (j:=a) (nx:=h5.next+16) om rfl
    rw[hP]
    exact⟨rfl,W.1,dC F5 W.2⟩
theorem xB (h:H)(S N a b pv:Nat)(d:Array Int)(K:Kh)(hN:N<1000000)(A:fD h S N d)(hb:b<=N)(a7:a<=pv)(a6:pv<b):
  Ev T 240 [.sl S 0 N K,aC a,aC b,aC pv] h (λv h'=>v= aC ((partitionEqual ltInt d a b pv).1:Nat)/\fD h' S N (partitionEqual ltInt d a b pv).2/\Fx (· =S) h h'):=by
 refine cV iQ rfl ?_
 have sz:=A.size
 have G:=A.rd (i:=a) om
 have F:=A.rd (i:=pv) om
 simp(disch:=omega)only[go_sem,iQ,aD,G,F,A.get,bB,aY]
 have W:=A.swap (i:=a) (j:=pv) (nx:=h.next+16) om rfl
 obtain⟨Z,Y⟩: ∃Z,Z=((H.mk h.tr (h.next+16)).set S (aZ (ints (d.setIfInBounds a d[pv]!).toList))).set S (aZ (ints ((d.setIfInBounds a d[pv]!).setIfInBounds pv d[a]!).toList)):=⟨_,rfl⟩
 rw[←Y] at W ⊢
 obtain⟨A1,F1⟩:=W
 have eb:(b:Int)- 1=((b- 1:Nat):Int):=om
 have ea:(a:Int)+1=((a+1:Nat):Int):=om
 unfold partitionEqual
 obtain⟨O,he⟩: ∃e,swp d a pv=e:=⟨_,rfl⟩
 rw[he] at A1 ⊢
 clear Y G F A
 simp(disch:=omega)only[go_sem,ea,eb]
 refine bJ (λy c=>(∃g:Nat->V,y= [.sl S 0 N K,aC a,aC b,aC pv,g 4,aC (((partEqLoop ltInt a (a+1) (b- 1) O).1:Nat):Int),g 6,g 7,g 8,g 9])/\fD c S N (partEqLoop ltInt a (a+1) (b- 1) O).2/\Fx (· =S) h c) ?_ ?_
 ·refine aH (λo y c=> ∃(i j:Nat) (e:Array Int),(∃g:Nat->V,y= [.sl S 0 N K,aC a,aC b,aC pv,g 4,aC i,aC j,g 7,g 8,g 9])/\a<i/\i<=b+1/\j<b/\fD c S N e/\partEqLoop ltInt a i j e=partEqLoop ltInt a (a+1) (b- 1) O/\Fx (· =S) h c/\o=j) (b- 1)
   ⟨a+1,b- 1,O,aB rfl,om,om,om,A1,rfl,F1,rfl⟩ ?_
  obtain⟨R2,Q⟩:=exI (partEqLoop ltInt a (a+1) (b- 1) O)
  rw[Q]
  clear Q F1 A1 Z he O
  rintro o f h3 ⟨i,j,e,⟨g,rfl⟩,b0,a8,hj,A3,L,F3,R⟩
  rw[partEqLoop_eq] at L
  simp(disch:=omega)only[go_sem]
  refine bJ (λy c=>(∃g:Nat->V,y= [.sl S 0 N K,aC a,aC b,aC pv,g 4,aC (scanUp (λx=>!ltInt e[a]! x) e j i:Nat),aC (j:Nat),g 7,g 8,g 9])/\fD c S N e/\Fx (· =S) h c) ?_ ?_
  ·refine aH (λo y c=> ∃(k:Nat),(∃g:Nat->V,y= [.sl S 0 N K,aC a,aC b,aC pv,g 4,aC (k:Nat),aC (j:Nat),g 7,g 8,g 9])/\i<=k/\k<=N+2/\fD c S N e/\scanUp (λx=>!ltInt e[a]! x) e j k=scanUp (λx=>!ltInt e[a]! x) e j i/\Fx (· =S) h c/\o=j+1-k) (j+1-i)
    ⟨i,aB rfl,om,om,A3,rfl,F3,rfl⟩ ?_
   rintro o f B ⟨k,⟨g,rfl⟩,a2,a9,r,m,U,rfl⟩
   by_cases l:(k:Int)<=((j:Nat):Int)
   ·have q:=bP l
    have eK:(k:Int)+1=((k+1:Nat):Int):=om
    have a4:=r.size
    have G:=r.rd (i:=k) om
    have F:=r.rd (i:=a) om
    simp(disch:=omega)only[go_sem,q,G,F]
    refine (gV _ _ _).mono ?_
    rintro _ J ⟨rfl,t⟩
    have n:Fr B J:=Fr.trans ((Fr.refl B).bA om) t
    have z:=r.fr n
    have s:=dC U (Fx.of n)
    cases hl:ltInt e[a]! e[k]! with
    |true=>
     rw[qA (λc=>by have:=c.2;simp [hl] at this)] at m;simp(disch:=omega)only[go_sem,hl];exact⟨by rw[←m];exact aB rfl,z,s⟩
    |false=>
     rw[yY om (by simp [hl])] at m;simp(disch:=omega)only[go_sem,hl,eK];exact⟨j+1-(k+1),om,k+1,aB rfl,om,om,z,m,s,rfl⟩
   ·have q:=bH l
    rw[qA (λc=>l (by have:=c.1;omega))] at m
    simp(disch:=omega)only[go_sem,q]
    exact⟨by rw[←m];exact aB rfl,r.fr ((Fr.refl B).bA om),dC U (Fx.of ((Fr.refl B).bA om))⟩
  ·rintro f h9 ⟨⟨g,rfl⟩,A9,F9⟩
   have a1:=scanUp_ge (λx=>!ltInt e[a]! x) e j i
   have a0:=kW (λx=>!ltInt e[a]! x) e j i
   obtain⟨u,hu⟩: ∃x,scanUp (λx=>!ltInt e[a]! x) e j i=x:=⟨_,rfl⟩
   rw[hu] at a1 a0
   rw[hu]
   simp(disch:=omega)only[go_sem]
   refine bJ (λy c=>(∃g:Nat->V,y= [.sl S 0 N K,aC a,aC b,aC pv,g 4,aC (u:Nat),aC (scanDown (λx=>ltInt e[a]! x) e u j:Nat),g 7,g 8,g 9])/\fD c S N e/\Fx (· =S) h c) ?_ ?_
   ·refine aH (λo y c=> ∃(k:Nat),(∃g:Nat->V,y= [.sl S 0 N K,aC a,aC b,aC pv,g 4,aC (u:Nat),aC (k:Nat),g 7,g 8,g 9])/\k<=j/\fD c S N e/\scanDown (λx=>ltInt e[a]! x) e u k=scanDown (λx=>ltInt e[a]! x) e u j/\Fx (· =S) h c/\o=k) j
     ⟨j,aB rfl,om,A9,rfl,F9,rfl⟩ ?_
    rintro o f B ⟨k,⟨g,rfl⟩,a2,r,m,U,R⟩
    subst R
    by_cases l:((u:Nat):Int)<=(o:Int)
    ·have q:=bP l
     obtain⟨k,rfl⟩: ∃k,o=k+1:=⟨o- 1,om⟩
     have eK:((k+1:Nat):Int)- 1=(k:Int):=om
     have a4:=r.size
     have G:=r.rd (i:=k+1) om
     have F:=r.rd (i:=a) om
     simp(disch:=omega)only[go_sem,q,G,F]
     refine (gV _ _ _).mono ?_
     rintro _ J ⟨rfl,t⟩
     have n:Fr B J:=Fr.trans ((Fr.refl B).bA om) t
     have z:=r.fr n
     have s:=dC U (Fx.of n)
     cases hl:ltInt e[a]! e[k+1]! with
     |false=>
      rw[oP (λc=>by have:=c.2;simp [hl] at this)] at m;simp(disch:=omega)only[go_sem,hl];exact⟨by rw[←m];exact aB rfl,z,s⟩
     |true=>
      rw[Dc om (by simp [hl])] at m;simp(disch:=omega)only[go_sem,hl,eK];exact⟨k,om,k,aB rfl,om,z,m,s,rfl⟩
    ·have q:=bH l
     rw[oP (λc=>l (by have:=c.1;omega))] at m
     simp(disch:=omega)only[go_sem,q]
     exact⟨by rw[←m];exact aB rfl,r.fr ((Fr.refl B).bA om),dC U (Fx.of ((Fr.refl B).bA om))⟩
   ·rintro f h4 ⟨⟨g,rfl⟩,A4,F4⟩
    have a3:=scanDown_le (λx=>ltInt e[a]! x) e u j
    obtain⟨w,hw⟩: ∃x,scanDown (λx=>ltInt e[a]! x) e u j=x:=⟨_,rfl⟩
    rw[hw] at a3
    rw[hw]
    rw[hu,hw] at L
    have a5:=A4.size
    by_cases P:(w:Int)<(u:Int)
    ·have q:=bP P
     rw[bF om] at L
     simp(disch:=omega)only[go_sem,q]
     rw[←L]
     exact⟨aB rfl,A4,F4⟩
    have q:=bH P
    rw[bI om] at L
    have G:=A4.rd (i:=u) om
    have F:=A4.rd (i:=w) om
    have ei:(u:Int)+1=((u+1:Nat):Int):=om
    have ej:(w:Int)- 1=((w- 1:Nat):Int):=om
    simp(disch:=omega)only[go_sem,q,G,F,A4.get,bB,aY,ei,ej]
    have W:=A4.swap (i:=u) (j:=w) (nx:=h4.next+16) om rfl
    exact⟨w- 1,om,u+1,w- 1,_,aB rfl,om,om,om,W.1,L,dC F4 W.2,rfl⟩
 ·rintro f h5 ⟨⟨g,rfl⟩,A5,F5⟩
  simp(disch:=omega)only[go_sem]
  exact⟨A5,F5⟩
end
def My  (n:Nat):Prop:= ∀(h:H) (S N a b:Nat) (lim:Int) (d:Array Int) (cp:Kh),N<60000->fD h S N d->a<=b->b<=N->b-a<=n->0<=lim->lim<1000000->Below ltInt a b d->
 Ev T 197 [.sl S 0 N cp,aC a,aC b,aC lim] h (λ_ h'=> ∃e,fD h' S N e/\PermIn a b d e/\SortedIn ltInt a b e/\Fx (· =S) h h')
theorem Pg  (n:Nat)(ih: ∀m,m<n->My m):My n:=by
 intro h S N a b a8 d o hN A a9 a7 hn s q hB;refine cV kZ rfl ?_;simp(disch:=omega)only[go_sem,kZ,aD]
 refine aH (λk' u P=> ∃(f c:Nat) (Z:Int) (J wp:Bool) (e:Array Int),(∃g:Nat->V,u= [.sl S 0 N o,aC (f:Int),aC (c:Int),aC Z,.bool J,.bool wp,g 6,g 7,g 8,g 9,g 10,g 11,g 12,g 13,g 14,g 15,g 16,g 17,g 18,g 19,g 20,g 21,g 22])/\f<=c/\c<=N/\a<=f/\c<=b/\0<=Z/\Z<1000000/\Below ltInt f c e/\fD P S N e/\Fx (· =S) h P/\
   (∀R,PermIn f c e R->SortedIn ltInt f c R->PermIn a b d R/\SortedIn ltInt a b R)/\k'=c-f) (b-a)
  ⟨a,b,a8,true,true,d,aB rfl,a9,a7,fM _,fM _,s,q,hB,A,Fx.refl _ h,λR h1 h2=>⟨h1,h2⟩,rfl⟩ ?_
 clear A hB s q;rintro k' u h1 ⟨f,c,Z,J,wp,e,⟨g,rfl⟩,w,j,a6,a3,s,q,hB,A,F,K,rfl⟩;obtain⟨m,hm⟩:=exI (c-f);have em:(c:Int)-(f:Int)=(m:Int):=om
 have ez: ∀{x:Array Int} {hx:H},fD hx S N x->c<=x.size:=λA=>by rw[A.size];exact j
 by_cases a2:(m:Int)<=12
 ·have Q:=bP a2
  simp(disch:=omega)only[go_sem,em,Q];refine (oW h1 S N f c e o om A j w).mono ?_;rintro _ h2 ⟨A2,F2⟩;obtain⟨p1,p2⟩:=insertionSort_holds swo_ltInt e f c w (ez A);obtain⟨W,q2⟩:=K _ p1 p2;simp(disch:=omega)only[go_sem];exact⟨_,A2,W,q2,dC F F2⟩
 have Q:=bH a2
 by_cases hl:Z=0
 ·have z:=bP hl
  simp(disch:=omega)only[go_sem,em,Q,z];refine (qZ h1 S N f c e o om A j w).mono ?_;rintro _ h2 ⟨A2,F2⟩;obtain⟨p1,p2⟩:=heapSort_holds swo_ltInt e f c w (ez A);obtain⟨W,q2⟩:=K _ p1 p2;simp(disch:=omega)only[go_sem];exact⟨_,A2,W,q2,dC F F2⟩
 have z:=bH hl;simp(disch:=omega)only[go_sem,em,Q,z];refine jT (λU P=> ∃(z:Array Int) (y:Int) (g:Nat->V),U= [.sl S 0 N o,aC (f:Int),aC (c:Int),aC y,.bool J,.bool wp,aC m,g 7,g 8,g 9,g 10,g 11,g 12,g 13,g 14,g 15,g 16,g 17,g 18,g 19,g 20,g 21,g 22]/\0<=y/\y<1000000/\fD P S N z/\PermIn f c e z/\Fx (· =S) h P) ?_ ?_
 ·cases J with
  |true=>
   simp(disch:=omega)only[go_sem];exact .inl ⟨e,Z,_,(aB rfl: ∃g:Nat->V,_= [.sl S 0 N o,aC (f:Int),aC (c:Int),aC Z,.bool true,.bool wp,aC m,g 7,g 8,g 9,g 10,g 11,g 12,g 13,g 14,g 15,g 16,g 17,g 18,g 19,g 20,g 21,g 22]).choose_spec,s,q,A,permIn_refl e f c,F⟩
  |false=>
   simp(disch:=omega)only[go_sem];refine (Ba h1 S N f c e o hN A j w).mono ?_;rintro _ h2 ⟨z,A2,p2,F2⟩;simp(disch:=omega)only[go_sem];exact .inl ⟨z,Z- 1,_,(aB rfl: ∃g:Nat->V,_= [.sl S 0 N o,aC (f:Int),aC (c:Int),aC (Z- 1),.bool false,.bool wp,aC m,g 7,g 8,g 9,g 10,g 11,g 12,g 13,g 14,g 15,g 16,g 17,g 18,g 19,g 20,g 21,g 22]).choose_spec,om,om,A2,p2,dC F F2⟩
 clear A F s q hl z g;rintro u h2 ⟨z,y,g,rfl,s,q,A,P2,F⟩;have B2:=hB.perm (by rw[←P2.1];exact ez A) P2;simp(disch:=omega)only[go_sem];refine (Ar h2 S N f c z o om A j om).mono ?_;rintro _ h3 ⟨p,t,rfl,O,G,f3⟩;have A3:=A.fr f3;have F3:=dC F (Fx.of f3);clear A F;simp(disch:=omega)only[go_sem];refine jT (λU P=> ∃(e3:Array Int) (p2:Nat) (t2:Int) (g:Nat->V),U= [.sl S 0 N o,aC (f:Int),aC (c:Int),aC y,.bool J,.bool wp,aC m,aC p2,aC t2,g 9,g 10,g 11,g 12,g 13,g 14,g 15,g 16,g 17,g 18,g 19,g 20,g 21,g 22]/\f<=p2/\p2<c/\fD P S N e3/\PermIn f c z e3/\Fx (· =S) h P) ?_ ?_
 ·refine aW (λht=>?_) (λht=>?_)
  ·simp(disch:=omega)only[go_sem]
   refine (tZ h3 S N f c z o om A3 j om).mono ?_;rintro _ h4 ⟨A4,F4⟩;have Y:(c:Int)- 1-((p:Int)-(f:Int))=(((c- 1)-(p-f):Nat):Int):=om
   simp(disch:=omega)only[go_sem,Y];exact .inl ⟨_,(c- 1)-(p-f),1,_,(aB rfl: ∃g:Nat->V,_= [.sl S 0 N o,aC (f:Int),aC (c:Int),aC y,.bool J,.bool wp,aC m,aC ((c- 1)-(p-f):Nat),aC 1,g 9,g 10,g 11,g 12,g 13,g 14,g 15,g 16,g 17,g 18,g 19,g 20,g 21,g 22]).choose_spec,om,om,A4,reverseRange_holds z f c w (ez A3),dC F3 F4⟩
  ·simp(disch:=omega)only[go_sem]
   exact .inl ⟨z,p,t,_,(aB rfl: ∃g:Nat->V,_= [.sl S 0 N o,aC (f:Int),aC (c:Int),aC y,.bool J,.bool wp,aC m,aC p,aC t,g 9,g 10,g 11,g 12,g 13,g 14,g 15,g 16,g 17,g 18,g 19,g 20,g 21,g 22]).choose_spec,O,G,A3,permIn_refl z f c,F3⟩
 have a0:=ez A3;clear A3 F3 O G f3 p t g;rintro u h4 ⟨e3,p,t,g,rfl,O,G,A,P3,F⟩;have B3:=B2.perm a0 P3;have a1:=permIn_trans _ _ _ f c P2 P3;have a5:c<=z.size:=a0;clear a0 B2 hB;refine xW (λU P=> ∃(B:Array Int) (g:Nat->V),U= [.sl S 0 N o,aC (f:Int),aC (c:Int),aC y,.bool J,.bool wp,aC m,aC p,g 8,g 9,g 10,g 11,g 12,g 13,g 14,g 15,g 16,g 17,g 18,g 19,g 20,g 21,g 22]/\fD P S N B/\PermIn f c e B/\Below ltInt f c B/\Fx (· =S) h P) ?_ ?_
 ·have skip: ∀(U:List V),(∃g:Nat->V,U= [.sl S 0 N o,aC (f:Int),aC (c:Int),aC y,.bool J,.bool wp,aC m,aC p,g 8,g 9,g 10,g 11,g 12,g 13,g 14,g 15,g 16,g 17,g 18,g 19,g 20,g 21,g 22])-> ∃(B:Array Int) (g:Nat->V),U= [.sl S 0 N o,aC (f:Int),aC (c:Int),aC y,.bool J,.bool wp,aC m,aC p,g 8,g 9,g 10,g 11,g 12,g 13,g 14,g 15,g 16,g 17,g 18,g 19,g 20,g 21,g 22]/\fD h4 S N B/\PermIn f c e B/\Below ltInt f c B/\Fx (· =S) h h4:=λU ⟨g,hv⟩=>⟨e3,g,hv,A,a1,B3,F⟩
  have run: ∀g:Nat->V,Ev T 239 [.sl S 0 N o,aC (f:Int),aC (c:Int)] h4 (λv h'=> ∃r:Array Int×Bool,v= .bool r.2/\fD h' S N r.1/\Fx (· =S) h4 h'/\PermIn f c e3 r.1/\(r.2=true->SortedIn ltInt f c r.1)):=λ_=>by
   refine (tB h4 S N f c e3 o om A j om).mono ?_;rintro v h5 ⟨hv,A5,F5⟩;obtain⟨W,q2⟩:=partialInsertionSort_holds swo_ltInt e3 f c om (ez A) B3;exact⟨_,hv,A5,F5,W,q2⟩
  cases J with
  |false=>
   simp(disch:=omega)only[go_sem];exact .inl (skip _ (aB rfl))
  |true=>cases wp with
   |false=>
    simp(disch:=omega)only[go_sem]
    exact .inl (skip _ (aB rfl))
   |true=>
    simp(disch:=omega)only[go_sem]
    refine aW (λht=>?_) (λht=>?_)
    ·simp(disch:=omega)only[go_sem]
     refine (run g).mono ?_
     rintro v h5 ⟨⟨Y,r5⟩,rfl,A5,F5,W,q2⟩
     have A5:fD h5 S N Y:=A5
     have W:PermIn f c e3 Y:=W
     have P5:=permIn_trans _ _ _ f c a1 W
     cases r5 with
     |false=>
      simp(disch:=omega)only[go_sem];exact .inl ⟨Y,_,(aB rfl: ∃g:Nat->V,_= [.sl S 0 N o,aC (f:Int),aC (c:Int),aC y,.bool true,.bool true,aC m,aC p,g 8,g 9,g 10,g 11,g 12,g 13,g 14,g 15,g 16,g 17,g 18,g 19,g 20,g 21,g 22]).choose_spec,A5,P5,B3.perm (ez A) W,dC F F5⟩
     |true=>
      obtain⟨w1,w2⟩:=K _ P5 (q2 rfl);simp(disch:=omega)only[go_sem];exact .inr ⟨by simp,Y,A5,w1,w2,dC F F5⟩
    ·simp(disch:=omega)only[go_sem]
     exact .inl (skip _ (aB rfl))
 clear A P3 a1 B3 F P2 a5 e3 z;rintro u h5 ⟨B,g,rfl,A,P4,B4,F⟩;have a4:=ez A;refine xW (λU P=> ∃(g:Nat->V),U= [.sl S 0 N o,aC (f:Int),aC (c:Int),aC y,.bool J,.bool wp,aC m,aC p,g 8,g 9,g 10,g 11,g 12,g 13,g 14,g 15,g 16,g 17,g 18,g 19,g 20,g 21,g 22]/\fD P S N B/\Fx (· =S) h P) ?_ ?_
 ·by_cases h0:(0:Int)<(f:Int)
  case neg=>
   have Q:=bH h0;simp(disch:=omega)only[go_sem,Q];exact .inl ⟨_,(aB rfl: ∃g:Nat->V,_= [.sl S 0 N o,aC (f:Int),aC (c:Int),aC y,.bool J,.bool wp,aC m,aC p,g 8,g 9,g 10,g 11,g 12,g 13,g 14,g 15,g 16,g 17,g 18,g 19,g 20,g 21,g 22]).choose_spec,A.fr ((Fr.refl h5).bA om),dC F (Fx.of ((Fr.refl h5).bA om))⟩
  have Q:=bP h0;have ea:(f:Int)- 1=((f- 1:Nat):Int):=om
  have c1:=A.rd (i:=f- 1) om;have c2:=A.rd (i:=p) om;simp(disch:=omega)only[go_sem,Q,ea,c1,c2];refine (gV _ _ _).mono ?_;rintro _ h6 ⟨rfl,b0⟩;have f6:Fr h5 h6:=Fr.trans ((Fr.refl h5).bA om) b0;have A6:=A.fr f6;have F6:=dC F (Fx.of f6)
  cases hl:ltInt B[f- 1]! B[p]! with
  |true=>
   simp(disch:=omega)only[go_sem,hl];exact .inl ⟨_,(aB rfl: ∃g:Nat->V,_= [.sl S 0 N o,aC (f:Int),aC (c:Int),aC y,.bool J,.bool wp,aC m,aC p,g 8,g 9,g 10,g 11,g 12,g 13,g 14,g 15,g 16,g 17,g 18,g 19,g 20,g 21,g 22]).choose_spec,A6,F6⟩
  |false=>
   obtain⟨w1,w2,w3,w4,w5⟩:=round_eq swo_ltInt (partitionEqual_holds ltInt) om O G a4 B4 hl (Prod.eta (partitionEqual ltInt B f c p)).symm;simp(disch:=omega)only[go_sem,hl];refine (xB h6 S N f c p B o om A6 j O G).mono ?_;rintro _ h7 ⟨rfl,A7,F7⟩;simp(disch:=omega)only[go_sem];refine .inr ⟨by simp,c-(partitionEqual ltInt B f c p).1,om,(partitionEqual ltInt B f c p).1,c,y,J,wp,_,aB rfl,w2,j,om,a3,s,q,w4,A7,dC F6 F7,λR r1 r2=>?_,rfl⟩;obtain⟨t1,t2⟩:=w5 R r1 r2;exact K R (permIn_trans _ _ _ f c P4 t1) t2
 clear A F;rintro u h6 ⟨g,rfl,A,F⟩;have e8:=Dh m (k:=8) (m:=8) rfl;simp(disch:=omega)only[go_sem];refine (pG h6 S N f c p B o om A j O G).mono ?_;obtain⟨r,hr⟩:=exI (partition ltInt B f c p);rw[hr];obtain⟨l,ap,Y⟩:=r;obtain⟨w1,w2,w3,w4,w5,w6,w7⟩:=round_part swo_ltInt (partition_holds ltInt) O G a4 B4 hr;rintro _ h7 ⟨rfl,A7,F7⟩;have A7:fD h7 S N Y:=A7;have F7:=dC F F7;have el:(l:Int)-(f:Int)=((l-f:Nat):Int):=om
 have er:(c:Int)-(l:Int)=((c-l:Nat):Int):=om
 have Q:(l:Int)+1=((l+1:Nat):Int):=om
 simp(disch:=omega)only[go_sem,el,er,e8];refine aW (λht=>?_) (λht=>?_)
 ·simp(disch:=omega)only[go_sem]
  refine (ih (l-f) om h7 S N f l y Y o hN A7 w1 om (fM _) s q w4).mono ?_;rintro _ h8 ⟨L,A8,p8,s8,F8⟩;obtain⟨u1,u2⟩:=w6 L p8 s8;simp(disch:=omega)only[go_sem,Q];refine⟨c-(l+1),om,l+1,c,y,_,ap,L,aB rfl,om,j,om,a3,s,q,u1,A8,dC F7 F8,λR r1 r2=>?_,rfl⟩;obtain⟨t1,t2⟩:=u2 R r1 r2;exact K R (permIn_trans _ _ _ f c P4 t1) t2
 ·simp(disch:=omega)only[go_sem,Q]
  refine (ih (c-(l+1)) om h7 S N (l+1) c y Y o hN A7 om j (fM _) s q w5).mono ?_;rintro _ h8 ⟨L,A8,p8,s8,F8⟩;obtain⟨u1,u2⟩:=w7 L p8 s8;simp(disch:=omega)only[go_sem];refine⟨l-f,om,f,l,y,_,ap,L,aB rfl,om,om,a6,om,s,q,u1,A8,dC F7 F8,λR r1 r2=>?_,rfl⟩;obtain⟨t1,t2⟩:=u2 R r1 r2;exact K R (permIn_trans _ _ _ f c P4 t1) t2
theorem Ha  (n:Nat):My n:=by
 induction n using Nat.strongRecOn with
 |_ n ih=>exact Pg n  ih
theorem CP (h:H)(S N:Nat)(d:Array Int)(a:Kh)(c:N<60000)(A:fD h S N d):
  Ev T 143 [.sl S 0 N a] h (λ_ h'=> ∃e,fD h' S N e/\PermIn 0 N d e/\SortedIn ltInt 0 N e/\Fx (· =S) h h'):=by
 refine cV pV rfl ?_
 have j:bitsLen N<=16:=(bitsLen_le_iff _ 16).2 om
 simp(disch:=omega)only[go_sem,pV,aD,dK (n:=(N:Int)) om om]
 refine (Tx N h om).mono ?_
 rintro _ b ⟨rfl,f⟩
 subst f
 simp(disch:=omega)only[go_sem]
 refine (Ha N b S N 0 N _ d a c A om om om om om (.inl rfl)).mono ?_
 rintro _ k ⟨e,i,p,s,F⟩
 simp(disch:=omega)only[go_sem]
 exact⟨e,i,p,s,F⟩
theorem Pa {l:List Int}{N:Nat}(f:l.length=N){e:Array Int}(n:PermIn 0 N l.toArray e)(h:SortedIn ltInt 0 N e):e.toList.Perm l/\e.toList.Pairwise (· <= ·):=by
 obtain⟨k,s,o⟩:=n;have a:e.size=N:=by rw[k];simpa using f
 refine⟨?_,?_⟩
 ·have q:(e.extract 0 N).toList=e.toList:=by rw[←a];simp
  have m:(l.toArray.extract 0 N).toList=l:=by rw[←f];simp
  rwa [q,m] at o
 ·rw[JX]
  intro i j hi d b;have c:j<N:=by simpa [a] using d
  have:=h i j (iJ _) b c;unfold ltInt at this;have p:e[i]! =e.toList[i]:=by simp at hi;simp [hi]
  have r:e[j]! =e.toList[j]:=by simp at d;simp [d]
  rw[p,r] at this;simpa using this
theorem Lm (h:H)(S:Nat)(l:List Int)(a:Kh)(c:l.length<60000)(f:h.get S=aZ (ints l))(b:S<h.next):
  Ev T 143 [.sl S 0 l.length a] h (λ_ h'=> ∃l',h'.get S=aZ (ints l')/\l'.Perm l/\l'.Pairwise (· <= ·)/\Fx (· =S) h h'):=by
 refine (CP h S l.length l.toArray a c ⟨f,by simp,b⟩).mono ?_
 rintro _ h' ⟨e,A,p,s,F⟩
 obtain⟨i,d⟩:=Pa rfl p s
 exact⟨e.toList,A.get,i,d,F⟩
theorem AN {a b:List Int}(h:a.Perm b)(c:a.Pairwise (· <= ·))(f:b.Pairwise (· <= ·)):a=b:=
 h.eq_of_pairwise (λ_ _ _ _ d i=>Int.le_antisymm d i) c f
end Go.Proofs.YtcdbmkidaecdiaaGreat
namespace Go.Proofs.YtcdbmkidaecdiaaGreat
open Go Go.Ay Go.Pm
set_option maxRecDepth 100000
theorem CX (id b:Nat)(d:V)(l:List Int)(h:H)(K:l.length<1000000)(J:Nat->H->Prop)(D:H->Prop)(p:J 0 h)
  (m: ∀i hh,J i hh->hh.get b=aZ [d]/\SI hh d l)
  (y: ∀i hh,i<l.length->J i hh->Ey T id [aC (l.getD i 0)] hh (λv h'=>v= .bool true/\J (i+1) h'∨v= .bool false/\D h')):
  Ev T 232 [.yl id,.ptr b 0] h (λ_ h'=>J l.length h'∨D h'):=by
 refine cV mM rfl ?_
 obtain⟨s,r⟩:=m 0 h p
 have u:h.cell b 0=some d:=by rw[H.aF s];rfl
 have A:=r.lens
 simp(disch:=omega)only[go_sem,mM,aD,u,A]
 refine aH (λo a hh=> ∃(i:Nat),(∃g:Nat->V,a= [.yl id,.ptr b 0,g 2,d,aC (l.length:Int),aC i,g 6,g 7])/\i<=l.length/\J i hh/\o=l.length-i) l.length
  ⟨0,aB rfl,iJ _,p,rfl⟩ ?_
 rintro o a n ⟨i,⟨g,rfl⟩,hi,f,rfl⟩
 by_cases c:(i:Int)<(l.length:Int)
 ·have j:=bP c
  obtain⟨G,q⟩:=m i n f
  obtain⟨B,w,z,x,t⟩:=q.open
  have ci:=t i om
  simp(disch:=omega)only[go_sem,j,z.ixa,ci]
  refine (y i n om f).mono ?_
  rintro v F (⟨rfl,k⟩|⟨rfl,k⟩)
  ·simp(disch:=omega)only[go_sem]
   rw[eJ i]
   exact⟨l.length-(i+1),om,i+1,aB rfl,om,k,rfl⟩
  ·simp(disch:=omega)only[go_sem]
   exact .inr k
 have j:=bH c
 obtain rfl:i=l.length:=om
 simp(disch:=omega)only[go_sem,j]
 exact .inl f
theorem BZ (b:Nat)(N:V)(l:List Int)(h:H)(hn:l.length<100000)(hb:h.get b=aZ [N])(L:b<h.next)(Z:SI h N l):
  Ev T 231 [.fn 232 [] [.ptr b 0]] h (λv h'=>cY h' v 1 (ints l) h.next/\(v= .aE∨ ∃id cap,v= .sl id 0 l.length cap/\h.next<=id/\id<h'.next/\h'.get id=aZ (ints l))/\Fr h h'):=by
 refine cV qW rfl ?_
 simp(disch:=omega)only[go_sem,qW,aD]
 refine Ev.mono (Q:=λv h'=>cY h' v 1 (ints l) h.next/\(v= .aE∨ ∃id cap,v= .sl id 0 l.length cap/\h.next<=id/\id<h'.next/\h'.get id=aZ (ints l))/\Fr h h') ?_ (λv h' Z=>by simp(disch:=omega)only[go_sem];exact Z)
 refine cV lT rfl ?_
 simp(disch:=omega)only[go_sem,lT,aD,mF (x:= .aE) rfl rfl]
 obtain⟨B,K⟩:=exI h.next
 obtain⟨t,s⟩: ∃t,t=h.new (.cells false [.aE]):=⟨_,rfl⟩
 have g1:t.get B=aZ [.aE]:=by rw[s,←K,H.aL]
 have n1:t.next=B+1:=by rw[s,H.aU,K]
 have f1:Fr h t:=by rw[s];exact (Fr.refl h).new _
 rw[←s,K]
 refine⟨rfl,?_⟩
 refine uJ λr q=>?_
 refine (CX (B+1) b N l _ om (λi d=>d.get (B+1)=some (.loop r)/\B+1<d.next/\Fr h d/\ ∃o,d.get B=aZ [o]/\cY d o 1 (ints (l.take i)) (B+2)/\(o= .aE∨ ∃id cap,o= .sl id 0 i cap/\B+2<=id/\id<d.next/\d.get id=aZ (ints (l.take i)))) (λ_=>False) ?_ ?_ ?_).mono ?_
 ·have e:=H.aL t (.loop r)
  rw[n1] at e
  refine⟨e,by rw[H.aU];omega,f1.new _,.aE,by rw[H.bG t om];exact g1,cY.aE _ _ _,.inl rfl⟩
 ·rintro i d ⟨_,_,f,_⟩
  exact⟨by rw[f.get b L];exact hb,Z.mono f⟩
 ·rintro i d hi ⟨O,nr,f,o,J,F,R⟩
  have iP:r.st= .ready:=by rw[q]
  have P:r.pend=none:=by rw[q]
  refine sZ O (by rw[q];rfl) iP λw g2 n2 o2=>?_
  rw[congrArg eH.assign q,congrArg eH.vars q,congrArg eH.pars q]
  simp(disch:=omega)only[go_sem,List.zip_cons_cons,List.zip_nil_left]
  rw[congrArg eH.body q]
  have W:w.cell B 0=some o:=by unfold H.cell;rw[o2 B om,J];rfl
  simp(disch:=omega)only[go_sem,W,cT w (z:= aC 0) (v:= aC (l.getD i 0)) rfl rfl,n2]
  obtain⟨a,p⟩: ∃a,a=w.new (.cells false [aC (l.getD i 0)]):=⟨_,rfl⟩
  have g3:a.get d.next=aZ [aC (l.getD i 0)]:=by rw[p,←n2,H.aL]
  have n3:a.next=d.next+1:=by rw[p,H.aU,n2]
  have U: ∀k,k<d.next->k≠B+1->a.get k=d.get k:=λk j y=>by rw[p,H.bG w om,o2 k y]
  have r3:a.get (B+1)=some (.loop (pW r)):=by rw[p,H.bG w om,g2]
  rw[←p]
  have Y:cY a o 1 (ints (l.take i)) (B+2):=F.mono om λid G n c e j y=>U id y om
  have a0:(l.take i).length=i:=by rw[Fj];omega
  obtain⟨j,a4,A⟩:=Y.push (bytes:=8) (SV.one om g3 (.kn 1)) (n:=i) (m:=1) (by rw[aP,a0,uW]) rfl om om om
  have ap: ∀k,k<B+2->dL o k:=λk hk id G n c e e2=>by
   have:=(F.in _ _ _ _ e).2.1;omega
  have g4:j.get B=aZ [o]:=by rw[A.old B om (ap B om),U B om om];exact J
  have r4:j.get (B+1)=some (.loop (pW r)):=by rw[A.old (B+1) om (ap (B+1) om)];exact r3
  have pt:dX (aZ [o]) j B 0 [.sl a.next 0 (i+1) (.un 1)]=some (j.set B (aZ [.sl a.next 0 (i+1) (.un 1)])):=bN (by simp) j B _
  simp(disch:=omega)only[go_sem,a4,g4,pt]
  refine oX iP P (by rw[H.aG j om];exact r4) (.inl ⟨rfl,?_⟩)
  have et:ints (l.take (i+1))=ints (l.take i)++ [aC (l.getD i 0)]:=by
   rw[←List.take_append_getElem hi,uT];simp [ints,List.getD,hi]
  have n4:=A.next
  have g5:((j.set B (aZ [.sl a.next 0 (i+1) (.un 1)])).set (B+1) (some (.loop r))).get a.next=aZ (ints (l.take (i+1))):=by
   rw[H.aG _ om,H.aG _ om,A.get,et]
  refine⟨by rw[H.aS],by simp only[H.bY];omega,⟨by simp only[H.bY];have:=f.next;omega,λid u=>?_⟩,_,by rw[H.aG _ om,H.aS],?_,.inr ⟨a.next,_,rfl,om,by simp only[H.bY];omega,g5⟩⟩
  ·rw[H.aG _ om,H.aG _ om,A.old id (by have:=f.next;omega) (ap id om),U id (by have:=f.next;omega) om]
   exact f.get id u
  ·exact .inr ⟨a.next,i+1,_, [],rfl,by rw[aP,Fj];omega,.inl rfl,om,by simp only[H.bY];omega,by rw[vF];exact g5⟩
 ·rintro _ w (⟨O,nr,f,o,J,F,R⟩|h)
  case inr=>exact h.elim
  refine⟨r,O,by rw[q];simp,?_⟩
  have W:(w.set (B+1) (some (.loop {r with st:= .out}))).cell B 0=some o:=by unfold H.cell;rw[H.aG _ om,J];rfl
  have en:r.pend.getD .norm= .norm:=by rw[q];rfl
  rw[en]
  simp(disch:=omega)only[go_sem,W]
  rw[List.take_length] at F R
  refine⟨?_,?_,⟨by simp only[H.bY];have:=f.next;omega,λid u=>by rw[H.aG _ om];exact f.get id u⟩⟩
  ·refine (F.mono (by simp only[H.bY];omega) λid G n c e j y=>H.aG _ om _).le om
  ·rcases R with rfl|⟨id,cap,rfl,a,j,y⟩
   ·exact .inl rfl
   ·exact .inr ⟨id,cap,rfl,om,j,by rw[H.aG _ om];exact y⟩
theorem MG (b:Nat)(d:V)(l:List Int)(h:H)(z:0<l.length)(y:l.length<50000)(t:h.get b=aZ [d])(a:b<h.next)(s:SI h d l):
  Ev T 194 [.fn 232 [] [.ptr b 0]] h (λv h'=> ∃id cap l',v= .sl id 0 l.length cap/\h.next<=id/\id<h'.next/\h'.get id=aZ (ints l')/\l'.Perm l/\l'.Pairwise (· <= ·)/\Fr h h'):=by
 refine cV rY rfl ?_
 simp(disch:=omega)only[go_sem,rY,aD]
 refine (BZ b d l h om t a s).mono ?_
 rintro v m ⟨u,r,f⟩
 rcases r with rfl|⟨id,cap,rfl,p,i,o⟩
 ·exfalso
  rcases u with ⟨_,e⟩|⟨_,_,_,_,e,_⟩
  ·have:=congrArg List.length e
   rw[aP,List.length_nil] at this
   omega
  ·cases e
 simp(disch:=omega)only[go_sem]
 refine (Lm m id l cap om o i).mono ?_
 rintro _ x ⟨l',w,q,n,c⟩
 simp(disch:=omega)only[go_sem]
 exact⟨id,cap,l',rfl,p,iW i c.next,w,q,n,mT f.next c.next,λk j=>(c.get k (iW j f.next) (λe=>by have:k=id:=e;omega)).trans (f.get k j)⟩
section
variable {v vO vR:V} {b C D n:Nat} {r O:LN} {wsO wsR:List V}
structure zD (h h':H)(v:V)(l:List Int):Prop where
 ex: ∃id cap,v= .sl id 0 l.length cap/\h.next<=id/\id<h'.next/\h'.get id=aZ (ints l)/\(cap= .un 1∨cap= .kn l.length)
 fr:Fr h h'
theorem zD.pv {h h':H}{l:List Nat}(f:zD h h' v (zi l)){W:Nat->Prop}(a: ∀id,W id->id<h.next):PV W h' v l:=by
 obtain⟨id,i,rfl,k,j,c,_⟩:=f.ex;exact⟨SV.all (by rw[aP,uW]) j c _,λd=>by have:=a id d;omega⟩
theorem zD.si {h h':H}{l:List Int}(f:zD h h' v l):SI h' v l:=by
 obtain⟨id,a,rfl,i,c,d,_⟩:=f.ex;exact SV.all (by rw[aP,uW]) c d _
theorem zD.own {h h':H}{l:List Int}(f:zD h h' v l):cY h' v 1 (ints l) h.next:=by
 obtain⟨id,a,rfl,c,j,d,i⟩:=f.ex;exact .inr ⟨id,l.length,a, [],rfl,by rw[aP,uW],by rcases i with e|e;exact .inl e;exact .inr ⟨e,rfl⟩,c,j,by rw[vF];exact d⟩
theorem Mz (u:V)(l:List Int)(h:H)(t:0<l.length)(B:l.length<1000000)(i:SI h u l):
  Ev T 138 [u] h (λv h'=>zD h h' v l):=by
 refine cV lD rfl ?_
 have s:Hg false u=some (.bool false):=by
  rcases i with ⟨_,e⟩|⟨id,a,len,y,G,F,rfl,_⟩
  ·have:=congrArg List.length e
   rw[aP,List.length_nil] at this;omega
  ·rfl
 simp(disch:=omega)only[go_sem,lD,aD,s]
 have p:Fr h (h.new (.cells false [])):=(Fr.refl h).new _
 have q:cY (h.new (.cells false [])) (.sl h.next 0 0 (.kn 0)) 1 [] 0:=cY.new h 1 0 0 [] rfl (iJ _)
 obtain⟨z,k,f⟩:=q.push (bytes:=8) (i.mono p) (n:=0) (m:=l.length) rfl (by rw[aP,uW]) om t om
 have o:(h.new (.cells false [])).next=h.next+1:=H.aU ..
 rw[o] at k
 have x:=f.next
 have j:=f.get
 rw[o] at x j
 simp(disch:=omega)only[go_sem,k]
 refine⟨⟨h.next+1,_,rfl,om,om,j,.inl rfl⟩,om,λid d=>?_⟩
 rw[f.old id om (λw a n c e A=>by cases e;omega)]
 exact p.get id d
def HK (v:V):Prop:= ∀id off len cap,v= .sl id off len cap->cap= .un 1∨ ∃c,cap= .kn c/\len<=c
theorem cY.NN {h:H}{ws:List V}(o:cY h v 1 ws b):HK v:=by
 rintro id a len c rfl;rcases o with ⟨e,_⟩|⟨_,_,_,_,e,_,d,_⟩
 ·cases e
 ·cases e
  rcases d with e|⟨e,_⟩
  ·exact .inl e
  ·exact .inr ⟨_,e,fM _⟩
def SRR (h:H)(v:V)(R:List (List (List Int))):Prop:= ∃ws,SV h v 1 ws/\aM (SR h) ws R/\ ∀w∈ws,HK w
theorem SRR.mono {h h':H}{R:List (List (List Int))}(s:SRR h v R)(f:Fr h h'):SRR h' v R:=by
 obtain⟨c,s,a,k⟩:=s;exact⟨c,s.mono f,a.mono λ_ _ x=>x.mono f,k⟩
def WI (h:H)(v:V)(d:Int)(O:List (List Int))(R:List (List (List Int))):Prop:= ∃vO vR,v= .agg [aC d,vO,vR]/\SR h vO O/\SRR h vR R
theorem WI.mono {h h':H}{d:Int}{O:List (List Int)}{R:List (List (List Int))}(s:WI h v d O R)(f:Fr h h'):WI h' v d O R:=by
 obtain⟨vO,vR,e,a,c⟩:=s;exact⟨vO,vR,e,a.mono f,c.mono f⟩
def PL (W:Nat->Prop)(h:H)(v:V)(r:LN):Prop:= ∃ws,SV h v 1 ws/\Mq W v/\fW W h ws r/\HK v
section
variable {W W':Nat->Prop} {h h' hh:H}
theorem PL.go (p:PL W h v r)(f:Fx W h h')(c: ∀id,id<h.next->W' id->W id):PL W' h' v r:=by
 obtain⟨d,s,o,a,k⟩:=p;exact⟨d,s.fx o f,o.lH s c,fW.go a f c,k⟩
theorem PL.sp (p:PL W h v r):SP h v r:=by
 obtain⟨d,s,o,a,_⟩:=p;refine⟨d,s,?_⟩;have c:=aM.length a
 exact aM.mQ (by simpa using c) λi hi f=>by
  have:=(aM.get a i hi om).si;simpa using this
def Hq (W:Nat->Prop)(v:V):Prop:= ∀id off n c,v= .sl id off n c->W id
structure Ae (h hh:H)(C D:Nat)(W:Nat->Prop)(n:Nat)(O:LN)(R:jI)(vO vR:V)(wsO wsR:List V):Prop where
 get:hh.get C=aZ [aC n,vO,vR]
 oO:cY hh vO 1 wsO h.next
 oR:cY hh vR 1 wsR h.next
 aO:fW W hh wsO O
 aR:aM (PL W hh) wsR R
 bO:Hq W vO
 bR:Hq W vR
 pO:dL vO C
 pR:dL vR C
 qO:dL vO D
 qR:dL vR D
 d:W D
 cd:C≠D
 IQ:Dis vO vR
 wb: ∀id,W id->id<hh.next
 low: ∀id,id<h.next->W id
 hC:h.next<=C
 hD:h.next<=D
 c:W C
 fr:Fr h hh
theorem Ae.start (i:h.next<=C)(c:C<hh.next)(k:h.next<=D)(d:D<hh.next)(a:C≠D)(f:Fr h hh)(j:hh.get C=aZ [aC n,.aE,.aE]):Ae h hh C D (λid=>id=C∨id=D∨id<h.next) n [] [] .aE .aE [] []:=
 ⟨j,cY.aE _ _ _,cY.aE _ _ _,trivial,trivial,λ_ _ _ _ e=>(by cases e),λ_ _ _ _ e=>(by cases e),dL.aE _,dL.aE _,dL.aE _,dL.aE _,.inr (.inl rfl),a,λ_ _ _ _ e=>(by cases e),λid e=>by rcases e with rfl|rfl|e;exact c;exact d;exact iW e f.next,λid e=> .inr (.inr e),i,k,.inl rfl,f⟩
theorem Ae.mono {R:jI}(A:Ae h hh C D W n O R vO vR wsO wsR){h2:H}(f:Fr hh h2):Ae h h2 C D W n O R vO vR wsO wsR:=
 ⟨by rw[f.get C (A.wb C A.c)];exact A.get,A.oO.fr f,A.oR.fr f,fW.go A.aO (Fx.of f) (λ_ _ h=>h),A.aR.mono λ_ _ x=>x.go (Fx.of f) (λ_ _ h=>h),A.bO,A.bR,A.pO,A.pR,A.qO,A.qR,A.d,A.cd,A.IQ,λid h=>iW (A.wb id h) f.next,A.low,A.hC,A.hD,A.c,A.fr.trans f⟩
theorem Ae.step {R:jI}(A:Ae h hh C D W n O R vO vR wsO wsR){v4 v5:V}{o:List Nat}(N:PV W hh v4 o)(L:PL W hh v5 r)
  {h6:H} {a k1 k2:Nat} (Q:hh.next<=a) (hb:hh.next<=b) (z:a≠b) (u:a<h6.next) (w:b<h6.next) (B:wsO.length+1=k1) (G:wsR.length+1=k2)
  (P:h6.get C=aZ [aC n,.sl a 0 k1 (.un 1),.sl b 0 k2 (.un 1)]) (J:h6.get a=aZ (wsO++ [v4])) (F:h6.get b=aZ (wsR++ [v5]))
  (p: ∀k,k<hh.next->k≠C->dL vO k->dL vR k->h6.get k=hh.get k):
  Ae h h6 C D (λid=>W id∨id=a∨id=b) n (O++ [o]) (R++ [r]) (.sl a 0 k1 (.un 1)) (.sl b 0 k2 (.un 1)) (wsO++ [v4]) (wsR++ [v5]):=by
 have t:Fx W hh h6:=⟨om,λid j l=>p id j (λe=>l (e▸A.c)) (λm f n c e q=>l (q▸A.bO _ _ _ _ e)) (λm f n c e q=>l (q▸A.bR _ _ _ _ e))⟩
 have s: ∀id,id<hh.next->(W id∨id=a∨id=b)->W id:=λid j l=>by
  rcases l with l|l|l
  ·exact l
  ·omega
  ·omega
 have Z:=A.wb C A.c
 have dn:=A.wb D A.d
 have fn:=A.fr.next
 refine⟨P,.inr ⟨a,k1,_, [],rfl,by rw[jZ];simp;omega,.inl rfl,om,u,by rw[vF];exact J⟩,.inr ⟨b,k2,_, [],rfl,by rw[jZ];simp;omega,.inl rfl,om,w,by rw[vF];exact F⟩,
  (fW.go A.aO t s).append (fW.one (PV.go N t s)),(A.aR.mono λ_ _ x=>x.go t s).append ⟨L.go t s,trivial⟩,λid f n c e=>by cases e;exact .inr (.inl rfl),λid f n c e=>by cases e;exact .inr (.inr rfl),
  dL.sl om,dL.sl om,dL.sl om,dL.sl om,.inl A.d,A.cd,λi o n c e U o' Y c' K=>by cases e;cases K;exact z,λid j=>?_,λid j=> .inl (A.low id j),A.hC,A.hD,.inl A.c,⟨om,λid y=>?_⟩⟩
 ·rcases j with j|j|j
  ·have:=A.wb id j;omega
  ·omega
  ·omega
 ·have hC:=A.hC
  rw[p id om om (λm f n c e q=>by have:=(A.oO.in _ _ _ _ e).2.1;omega) (λm f n c e q=>by have:=(A.oR.in _ _ _ _ e).2.1;omega)]
  exact A.fr.get id y
theorem Ae.box {R:jI}(A:Ae h hh C D W n O R vO vR wsO wsR){h3:H}{o:Option Ob}(e:h3=hh.set D o):Ae h h3 C D W n O R vO vR wsO wsR:=by
 subst e;have f:Fx W hh (hh.set D o):=Fx.set hh A.d o;have j:=A.wb D A.d
 refine⟨by rw[H.aG hh A.cd];exact A.get,A.oO.mono (fM _) λid a m c e _ _=>H.aG hh (λi=>A.qO _ _ _ _ e i.symm) o,A.oR.mono (fM _) λid a m c e _ _=>H.aG hh (λi=>A.qR _ _ _ _ e i.symm) o,
  fW.go A.aO f (λ_ _ h=>h),A.aR.mono λ_ _ x=>x.go f (λ_ _ h=>h),A.bO,A.bR,A.pO,A.pR,A.qO,A.qR,A.d,A.cd,A.IQ,A.wb,A.low,A.hC,A.hD,A.c,?_⟩
 exact A.fr.set A.hD o
end
def NL (W:Nat->Prop)(h:H)(v:V)(n:Nat)(O:LN)(R:jI):Prop:= ∃vO vR wsO wsR,v= .agg [aC n,vO,vR]/\SV h vO 1 wsO/\Mq W vO/\fW W h wsO O/\SV h vR 1 wsR/\Mq W vR/\aM (PL W h) wsR R
section
variable {W W':Nat->Prop} {h h' hh:H}
theorem NL.go {R:jI}(c:NL W h v n O R)(f:Fx W h h')(a: ∀id,id<h.next->W' id->W id):NL W' h' v n O R:=by
 obtain⟨vO,vR,wsO,wsR,e,k,j,m,i,d,l⟩:=c;exact⟨vO,vR,wsO,wsR,e,k.fx j f,j.lH k a,fW.go m f a,i.fx d f,d.lH i a,l.mono λ_ _ x=>x.go f a⟩
theorem NL.mono {R:jI}(c:NL W h v n O R)(f:Fr h h'):NL W h' v n O R:=c.go (Fx.of f) λ_ _ h=>h
theorem NL.ch {R:jI}(c:NL W h v n O R):WI h v (n:Int) (O.map zi) (R.map (List.map zi)):=by
 obtain⟨vO,vR,wsO,wsR,e,o,q,f,l,p,a⟩:=c;refine⟨vO,vR,e,⟨wsO,o,?_⟩,⟨wsR,l,?_,λw j=>?_⟩⟩
 ·have d:=aM.length f
  exact aM.mQ (by simpa using d) λi hi m=>by
   have:=(aM.get f i hi om).si;simpa using this
 ·have d:=aM.length a
  exact aM.mQ (by simpa using d) λi hi m=>by
   have:=(aM.get a i hi om).sp;simpa using this
 ·obtain⟨i,hi,rfl⟩:=zF.1 j
  have d:=aM.length a;obtain⟨_,_,_,_,k⟩:=aM.get a i hi om;exact k
theorem DO {sz:Nat}{ws:List V}(o:cY h v sz ws b):Mq (λid=>id<b) v:=by
 cases v with
 |sl id off m c=>exact λe=>by have:=(o.in _ _ _ _ rfl).2.1;omega
 |_=>trivial
theorem Ae.chw {R:jI}(A:Ae h hh C D W n O R vO vR wsO wsR):NL (λid=>id<h.next) hh (.agg [aC n,vO,vR]) n O R:=
 ⟨vO,vR,wsO,wsR,rfl,A.oO.sv,DO A.oO,fW.lH A.aO λid _ h=>A.low id h,A.oR.sv,DO A.oR,A.aR.mono λ_ _ x=>x.go (Fx.refl _ _) λid _ h=>A.low id h⟩
end
theorem oNs {h:H}{O:List (List Int)}(s:SR h v O):v.one=true:=by
 obtain⟨_,t,_⟩:=s;exact t.cK.2.1
theorem oNt {h:H}{O:List (List (List Int))}(s:SRR h v O):v.one=true:=by
 obtain⟨_,t,_⟩:=s;exact t.cK.2.1
end
def ChL (τ:pM)(n j:Nat)(o:List Nat)(r:LN):Prop:=o.Pairwise (· < ·)/\(∀p,p∈o↔p∈(τ j).orb)/\r.length=o.length/\ ∀k,k<o.length-> ∀y,(τ j).to (o.getD k 0)=some y->r.getD k []=Kb τ (n-(j+1)) (j+1) y
theorem aaX {l:List Int}{a:List Nat}(h:l.Perm (zi a)): ∃q,l=zi q/\q.Perm a:=by
 refine⟨l.map Int.toNat,?_,?_⟩
 ·unfold zi
  rw[List.map_map];refine (List.map_id l).symm.trans (Vy λx b=>?_);have:=h.mem_iff.1 b;obtain⟨k,_,rfl⟩:=uF.1 this;simp
 ·have:=h.map Int.toNat
  have e:(zi a).map Int.toNat=a:=by
   unfold zi;rw[List.map_map];exact (Vy λx _=>by simp).trans (List.map_id a)
  rwa [e] at this
theorem aeL {q:List Nat}(h:(zi q).Pairwise (· <= ·))(nd:q.Nodup):q.Pairwise (· < ·):=by
 unfold zi at h;rw[List.pairwise_map] at h;rw[nPN] at nd;exact (h.and nd).imp λ⟨a,h2⟩=>om
theorem LO (u:V)(a:u.cells= [u])(b:u.one=true)(h:H):Ev T 195 [u] h (λv h'=>v= .fn 232 [] [.ptr h.next 0]/\h'.get h.next=aZ [u]/\h'.next=h.next+1/\Fr h h'):=by
 refine cV oE rfl ?_;simp(disch:=omega)only[go_sem,oE,aD,mF a b];exact (Fr.refl h).new _
theorem mI {α:Type}{a:List α}{x:α}{j:Nat}{d:α}(h:j<a.length):(a++ [x]).getD j d=a.getD j d:=by
 rw[List.getD,List.getD,Dv h]
theorem kG {α:Type}{a:List α}{x d:α}:(a++ [x]).getD a.length d=x:=by
 rw[List.getD,gAR (fM _),Nat.sub_self];rfl
theorem Qt (h:H)(n s L:Nat)(F:Nat->V)(τ:pM)(hn:n<=7)(R:rX h n s L F τ)(t:pI n 0 τ):
  Ev T 142 [.ptr s 0] h (λv h'=> ∃O R',NL (λid=>id<h.next) h' v n O R'/\bC n (S n τ 0) O R'/\Fr h h'):=by
 refine cV rW rfl ?_
 obtain⟨B,hB⟩:=exI h.next
 have tn:=R.tn
 have ln:=R.ln
 have ct:h.cell s 0=some (aC n):=by rw[H.aF R.t];rfl
 have bl:rO [aC 0,.aE,.aE] [(0,1,aC n)]=some (.agg [aC n,.aE,.aE]):=by
  have e1:putAt [aC 0,.aE,.aE] 0 [aC n]=some [aC n,.aE,.aE]:=by simp [putAt]
  simp [rO,iS,e1,V.cells,V.one]
 obtain⟨U,a3⟩: ∃U,U=(h.new (.cells false [aC 0,.aE,.aE])).new (.cells false [aC 0,.aE,.aE]):=⟨_,rfl⟩
 have n1:U.next=B+2:=by rw[a3,H.aU,H.aU,hB]
 have g1:U.get (B+1)=aZ [aC 0,.aE,.aE]:=by
  rw[a3];have:=H.aL (h.new (.cells false [aC 0,.aE,.aE])) (.cells false [aC 0,.aE,.aE]);rwa [H.aU,hB] at this
 have g0:U.get B=aZ [aC 0,.aE,.aE]:=by rw[a3,H.bG _ (by rw[H.aU,hB];omega),←hB,H.aL]
 have f1:Fr h U:=by rw[a3];exact ((Fr.refl h).new _).new _
 have f0:U.cell s 0=some (aC n):=by rw[f1.cell tn];exact ct
 simp(disch:=omega)only[go_sem,rW,aD,hB,ct,bl]
 rw[←a3]
 simp(disch:=omega)only[go_sem,bW U (B+1) 0 (v:= aC n) (u:= .aE) (w:= .aE) rfl rfl rfl,g1,cF]
 obtain⟨l,a2⟩: ∃l,l=U.set (B+1) (aZ [aC n,.aE,.aE]):=⟨_,rfl⟩
 have n2:l.next=B+2:=by rw[a2];exact n1
 have f2:Fr h l:=by rw[a2];exact f1.set om _
 have g2:l.get (B+1)=aZ [aC n,.aE,.aE]:=by rw[a2,H.aS]
 have c7:l.get B=aZ [aC 0,.aE,.aE]:=by rw[a2,H.aG _ om];exact g0
 have d0:U.cell s 1=some (.sl L 0 n (.kn n)):=by rw[H.aF (R.mono f1).t];rfl
 rw[←a2]
 simp(disch:=omega)only[go_sem,d0]
 clear a3 a2 f1 g0 g1 f0 d0 n1 U
 refine aH (λk' a1 J=> ∃(i:Nat) (W:Nat->Prop) (O:LN) (R':jI) (vO N:V) (c1 b9:List V),(∃g:Nat->V,a1= [.ptr s 0,.ptr B 0,.ptr (B+1) 0,g 3,g 4,g 5,g 6,aC n,aC i,g 9,g 10,g 11,g 12,g 13])/\i<=n/\Ae h J (B+1) B W n O R' vO N c1 b9/\
   J.get B=aZ [aC 0,.aE,.aE]/\O.length=i/\R'.length=i/\(∀j,j<i->ChL τ n j (O.getD j []) (R'.getD j []))/\k'=n-i) n
  ⟨0,_, [], [],_,_,_,_,aB rfl,iJ _,Ae.start om om om om om f2 g2,c7,rfl,rfl,λj hj=>om,rfl⟩ ?_
 clear f2 g2 c7 n2 l
 rintro k' a1 l ⟨i,W,O,R',vO,N,c1,b9,⟨g,rfl⟩,hi,A,gB,lO,lR,hC,rfl⟩
 by_cases d6:(i:Int)<(n:Int)
 case neg=>
  have e1:=bH d6;obtain rfl:i=n:=om
  have hr:=aI A.get;have nB:=A.fr.next;simp(disch:=omega)only[go_sem,e1,hr,bW l B 0 (v:= aC i) (u:=vO) (w:=N) rfl (SV.cK A.oO.sv).2.1 (SV.cK A.oR.sv).2.1,gB,cF];have e5:=aI (h:=l.set B (aZ [aC i,vO,N])) (H.aS ..);have fB:Fx (· =B) l (l.set B (aZ [aC i,vO,N])):=Fx.set l (W:=(· =B)) rfl _;simp(disch:=omega)only[go_sem,e5]
  obtain⟨h3,c6⟩: ∃h3,h3=l.set B (aZ [aC i,vO,N]):=⟨_,rfl⟩
  rw[←c6] at fB ⊢;have A3:=A.box c6;refine⟨O,R',by rw[←hB];exact A3.chw,?_,A3.fr⟩;have X:=t.chain (O:=O) (R:=R') lO lR (λj hj=>(hC j hj).1) (λj hj=>(hC j hj).2.1) (λj hj=>(hC j hj).2.2.1) (λj hj=>(hC j hj).2.2.2);exact X
 have e1:=bP d6
 have Z:i<n:=om
 have R2:=R.mono A.fr
 have cl:l.cell s 1=some (.sl L 0 n (.kn n)):=by rw[H.aF R2.t];rfl
 have co:l.cell L (i*194+1)=some (F (i*194+1)):=R2.cell Z om
 have oo:=R2.orb i Z
 obtain⟨jX,_⟩:=t i (iJ _) Z
 have j2:=YY jX Z
 have c8:0<(τ i).orb.length:=HJ jX.base
 simp(disch:=omega)only[go_sem,e1,cl,co]
 refine (LO (F (i*194+1)) (SV.cK oo.sv).1 (SV.cK oo.sv).2.1 l).mono ?_
 rintro _ h3 ⟨rfl,g3,n3,f3⟩
 simp(disch:=omega)only[go_sem]
 have c9:SI h3 (F (i*194+1)) (zi (τ i).orb):=(show SI l _ _ from oo.sv).mono f3
 refine (MG l.next _ (zi (τ i).orb) h3 (by rw[aQ];exact c8) (by rw[aQ];omega) g3 om c9).mono ?_
 rintro _ h4 ⟨P,cp,l',rfl,j4,c2,gP,pm,d5,f4⟩
 obtain⟨q,rfl,b8⟩:=aaX pm
 have c5:=aeL d5 (b8.nodup_iff.2 jX.nd)
 have lq:q.length=(τ i).orb.length:=b8.length_eq
 have b4: ∀p,p∈q↔p∈(τ i).orb:=λp=>b8.mem_iff
 rw[aQ,←lq]
 have A4:=A.mono (f3.trans f4)
 have pq:PV W h4 (.sl P 0 q.length cp) q:=⟨SV.all (by rw[aP,aQ,uW]) c2 gP _,λhw=>by have:=A.wb P hw;omega⟩
 have e4:h4.get B=aZ [aC 0,.aE,.aE]:=by rw[(f3.trans f4).get B (A.wb B A.d)];exact gB
 clear A gB g3 c9 oo co cl R2 pm d5
 simp(disch:=omega)only[go_sem]
 refine bJ (λvs J=> ∃(Q:V) (r:LN),(∃g:Nat->V,vs= [.ptr s 0,.ptr B 0,.ptr (B+1) 0,aC i,.sl P 0 q.length cp,Q,g 6,aC n,aC i,g 9,g 10,g 11,g 12,g 13])/\PL W J Q r/\ChL τ n i q r/\Fr h4 J) ?_ ?_
 ·refine aH (λk' vs J=> ∃(k:Nat) (Q:V) (ws:List V) (r:LN) (W':Nat->Prop),(∃g:Nat->V,vs= [.ptr s 0,.ptr B 0,.ptr (B+1) 0,aC i,.sl P 0 q.length cp,Q,g 6,aC n,aC i,g 9,.sl P 0 q.length cp,aC (q.length:Int),aC k,g 13])/\k<=q.length/\cY J Q 1 ws h4.next/\fW W' J ws r/\Hq W' Q/\(∀id,W id->W' id)/\(∀id,W' id->id<J.next/\(W id∨h4.next<=id))/\r.length=k/\
    (∀j,j<k-> ∀y,(τ i).to (q.getD j 0)=some y->r.getD j []=Kb τ (n-(i+1)) (i+1) y)/\Fr h4 J/\k'=q.length-k) q.length
   ⟨0,.aE, [], [],W,aB rfl,iJ _,cY.aE _ _ _,trivial,λ_ _ _ _ e=>(by cases e),λ_ h=>h,λid h=>⟨A4.wb id h,.inl h⟩,rfl,λj hj=>om,Fr.refl _,rfl⟩ ?_
  rintro k' a1 f ⟨k,Q,ws,r,W',⟨g,rfl⟩,hk,ow,b5,e6,d8,d4,lr,hr,f5,rfl⟩
  by_cases b3:(k:Int)<(q.length:Int)
  case neg=>
   have e2:=bH b3;obtain rfl:k=q.length:=om
   simp(disch:=omega)only[go_sem,e2];refine⟨Q,r,aB rfl,⟨ws,ow.sv,?_,b5.lH (λid _ h=>d8 id h),cY.NN ow⟩,⟨c5,b4,lr,hr⟩,f5⟩
   cases Q with
   |sl id b0 m c=>exact λh=>by have:=(ow.in _ _ _ _ rfl).2.1;have:=A4.wb id h;omega
   |_=>trivial
  have e2:=bP b3
  have b6:k<q.length:=om
  obtain⟨p,hp⟩:=exI (q.getD k 0)
  have d1:=pq.mono f5
  have ck:f.cell P k=some (aC p):=by
   rw[H.aF (by rw[f5.get P c2];exact gP),Ip b6,hp]
  have d7:p∈(τ i).orb:=(b4 p).1 (by rw[←hp,cJ b6];exact zG b6)
  have j0:=jX.lt Z d7
  obtain⟨y,hy⟩:=jX.to d7
  have Y:=jX.cU _ _ hy
  have R5:=R.mono (A4.fr.trans f5)
  have cl:f.cell s 1=some (.sl L 0 n (.kn n)):=by rw[H.aF R5.t];rfl
  have e3:f.cell L (i*194+2+p)=some (F (i*194+2+p)):=R5.Sh Z om
  have i0:PV (WT n L F) f (F (i*194+2+p)) y:=by
   have:=R5.to i p Z om;rw[hy] at this;exact this
  simp(disch:=omega)only[go_sem,e2,ck,cl,e3]
  refine (RI f n s L F τ _ y i hn R5 i0 Y Z (t.mono om)).mono ?_
  rintro v6 h6 ⟨p6,Q6,f6⟩
  simp(disch:=omega)only[go_sem]
  refine (Mz v6 _ h6 (by rw[aQ,Q6.len];omega) (by rw[aQ,Q6.len];omega) p6.si).mono ?_
  rintro v7 h7 d3
  have f7:=d3.fr
  have p7:PV W' h7 v7 (Kb τ (n-(i+1)) (i+1) y):=d3.pv λid h=>iW (d4 id h).1 f6.next
  simp(disch:=omega)only[go_sem,cT h7 (z:= .aE) p7.fG.1 p7.fG.2]
  obtain⟨h8,K⟩: ∃h8,h8=h7.new (.cells false [v7]):=⟨_,rfl⟩
  have g8:h8.get h7.next=aZ [v7]:=by rw[K,H.aL]
  have n8:h8.next=h7.next+1:=by rw[K,H.aU]
  have f8:Fr h7 h8:=by rw[K];exact (Fr.refl h7).new _
  rw[←K]
  have b2:=(f6.trans f7).trans f8
  have g9:=ow.fr b2
  have i8:=aM.length b5
  obtain⟨h9,a9,p9⟩:=g9.push (bytes:=24) (SV.one om g8 (.kn 1)) (n:=k) (m:=1) om rfl om om om
  simp(disch:=omega)only[go_sem,a9]
  rw[eJ k]
  have n9:=p9.next
  have f9:Fx W' h8 h9:=p9.fx e6
  have i5:=b2.next
  have d2: ∀id,id<h8.next->(W' id∨id=h8.next)->W' id:=λid U l=>by
   rcases l with l|l
   ·exact l
   ·omega
  refine⟨q.length-(k+1),om,k+1,_,_,r++ [Kb τ (n-(i+1)) (i+1) y],λid=>W' id∨id=h8.next,aB rfl,om,p9.own om rfl (by have:=f5.next;omega),?_,λid b0 m c e=>by cases e;exact .inr rfl,λid h=> .inl (d8 id h),λid h=>?_,by rw[jZ,lr];rfl,λj hj z hz=>?_,?_,rfl⟩
  ·exact (fW.go (fW.go b5 (Fx.of b2) (λ_ _ h=>h)) f9 d2).append (fW.one (PV.go (p7.mono f8) f9 d2))
  ·rcases h with h|h
   ·have:=d4 id h;exact⟨om,this.2⟩
   ·have:=f5.next;exact⟨om,.inr om⟩
  ·by_cases e:j=k
   ·subst e
    rw[hp,hy] at hz
    cases hz
    rw[←lr,kG]
   ·rw[mI om]
    exact hr j om z hz
  ·refine⟨by have:=f5.next;omega,λid b1=>?_⟩
   rw[p9.old id (by have:=f5.next;omega) (λi4 b0 m c e e2=>by have:=(ow.in _ _ _ _ e).2.1;omega),b2.get id (by have:=f5.next;omega)]
   exact f5.get id b1
 rintro a1 f ⟨Q,r,⟨g,rfl⟩,pl,i1,f5⟩
 have G:=A4.mono f5
 have d1:=pq.mono f5
 have i2:f.get B=aZ [aC 0,.aE,.aE]:=by rw[f5.get B (A4.wb B A4.d)];exact e4
 have cO:f.cell (B+1) 1=some vO:=by rw[H.aF G.get];rfl
 have cR:f.cell (B+1) 2=some N:=by rw[H.aF G.get];rfl
 obtain⟨ws,c0,i3,e0,g5⟩:=pl
 have pl:PL W f Q r:=⟨ws,c0,i3,e0,g5⟩
 have i9:=G.fr.next
 have c4:=G.wb _ G.c
 simp(disch:=omega)only[go_sem,cO,cR,cT _ (z:= .aE) (v:= .sl P 0 q.length cp) rfl rfl]
 obtain⟨h6,a8⟩: ∃h6:H,h6=H.mk ((H.mk f.tr (f.next+3)).new (Ob.cells false [.sl P 0 q.length cp])).tr (f.next+14):=⟨_,rfl⟩
 rw[←a8]
 have g6:h6.get (f.next+3)=aZ [.sl P 0 q.length cp]:=by rw[a8];exact H.aL (H.mk f.tr (f.next+3)) _
 have n6:h6.next=f.next+14:=by rw[a8]
 have o6: ∀k,k≠f.next+3->h6.get k=f.get k:=λk hk=>by rw[a8];exact H.bG (H.mk f.tr (f.next+3)) (by simpa using hk) _
 have f6:Fr f h6:=⟨om,λid b1=>o6 id om⟩
 have j1:=aM.length G.aO
 have i7:=aM.length G.aR
 obtain⟨h7,a7,p7⟩:=(G.oO.fr f6).push (bytes:=24) (SV.one om g6 (.kn 1)) (n:=i) (m:=1) om rfl om om om
 have n7:=p7.next
 have a5: ∀k,k<f.next->dL vO k->h7.get k=f.get k:=λk U l=>by rw[p7.old k om l,o6 k om]
 have h0:h7.cell (B+1) 2=some N:=by unfold H.cell;rw[a5 (B+1) c4 G.pO,G.get];rfl
 have eR:dE N N=true:=G.oR.sv.dE
 have c3:Q.cells= [Q]/\Q.one=true:=⟨(SV.cK c0).1,(SV.cK c0).2.1⟩
 simp(disch:=omega)only[go_sem,a7,h0,eR,cT _ (z:= .aE) c3.1 c3.2]
 obtain⟨h8,K⟩: ∃h8:H,h8=H.mk ((H.mk h7.tr (f.next+8)).new (Ob.cells false [Q])).tr h7.next:=⟨_,rfl⟩
 rw[←K]
 have g8:h8.get (f.next+8)=aZ [Q]:=by rw[K];exact H.aL (H.mk h7.tr (f.next+8)) _
 have n8:h8.next=h7.next:=by rw[K]
 have o8: ∀k,k≠f.next+8->h8.get k=h7.get k:=λk hk=>by rw[K];exact H.bG (H.mk h7.tr (f.next+8)) (by simpa using hk) _
 have g7:cY h8 N 1 b9 h.next:=G.oR.mono om λid b0 m c e _ b1=>by
  rw[o8 id om,a5 id b1 (λi4 i6 n' c' e' e2=>G.IQ _ _ _ _ e' _ _ _ _ e e2.symm)]
 obtain⟨h9,a9,p9⟩:=g7.push (bytes:=24) (SV.one om g8 (.kn 1)) (n:=i) (m:=1) om rfl om om om
 have n9:=p9.next
 have e9: ∀k,f.next<=k->dL N k:=λk hk id b0 m c e e2=>by have:=(G.oR.in _ _ _ _ e).1;omega
 have a4: ∀k,k<f.next->dL vO k->dL N k->h9.get k=f.get k:=λk U l h3=>by rw[p9.old k om h3,o8 k om,a5 k U l]
 have e7:h9.get (B+1)=aZ [aC n,vO,N]:=by rw[a4 _ c4 G.pO G.pR];exact G.get
 have g4: ∀(J:H) (x:V),dX (aZ [aC n,vO,N]) J (B+1) 1 [x]=some (J.set (B+1) (aZ [aC n,x,N])):=λJ x=>bN (by simp) J _ x
 have e8: ∀(J:H) (x y:V),dX (aZ [aC n,x,N]) J (B+1) 2 [y]=some (J.set (B+1) (aZ [aC n,x,y])):=λJ x y=>bN (by simp) J _ y
 simp(disch:=omega)only[go_sem,a9,e7,g4,e8]
 rw[eJ i]
 obtain⟨ha,hb⟩:h6.next=f.next+14/\h8.next=f.next+15:=⟨n6,om⟩
 rw[ha,hb]
 obtain⟨a6,a0⟩: ∃a6,a6=(h9.set (B+1) (aZ [aC n,.sl (f.next+14) 0 (i+1) (.un 1),N])).set (B+1) (aZ [aC n,.sl (f.next+14) 0 (i+1) (.un 1),.sl (f.next+15) 0 (i+1) (.un 1)]):=⟨_,rfl⟩
 rw[←a0]
 have b7: ∀k,k≠B+1->a6.get k=h9.get k:=λk hk=>by rw[a0,H.aG _ hk,H.aG _ hk]
 have j3:a6.next=f.next+16:=by rw[a0];show h9.next=_;omega
 have d9:=G.step (v4:= .sl P 0 q.length cp) (v5:=Q) (o:=q) (r:=r) (h6:=a6) (a:=f.next+14) (b:=f.next+15) (k1:=i+1) (k2:=i+1) d1 pl om om om om om om om (by rw[a0,H.aS])
  (by rw[b7 _ om,p9.old _ om (e9 _ om),o8 _ om,←ha];exact p7.get) (by rw[b7 _ om,←hb];exact p9.get) (λk U l h3 h4=>by rw[b7 k l];exact a4 k U h3 h4)
 refine⟨n-(i+1),om,i+1,_,_,_,_,_,_,_,aB rfl,om,d9,?_,by rw[jZ,lO];rfl,by rw[jZ,lR];rfl,λj hj=>?_,rfl⟩
 ·rw[a4 B (G.wb B G.d) G.qO G.qR];exact i2
 ·by_cases e:j=i
  ·subst e
   have e1:(O++ [q]).getD j []=q:=by rw[←lO];exact kG
   have e2:(R'++ [r]).getD j []=r:=by rw[←lR];exact kG
   rw[e1,e2]
   exact i1
  ·rw[mI om,mI om]
   exact hC j om
end Go.Proofs.YtcdbmkidaecdiaaGreat
namespace Go.Ay
set_option maxRecDepth 100000
def sm:Nat->(Nat->Int)->Int
 |0,_=>0
 |n+1,f=>sm n f+f n
def ab (x:Int):Int:=if x<0 then -x else x
end Go.Ay
namespace Go.Proofs.YtcdbmkidaecdiaaGreat
open Go Go.Ay
set_option maxRecDepth 100000
section
variable {h h' a:H} {l:List Int} {n:Int} {u:V} {b x:Nat}
def SL (h:H)(l:List Int)(v:V)(h':H):Prop:=cY h' v 1 (ints l) h.next/\Fr h h'/\(0<l.length-> ∃id,v= .sl id 0 l.length (.un 1)/\h.next<=id/\id<h'.next/\h'.get id=aZ (ints l))
theorem ZJ {v:V}(d:SI h v l)(k:l.length<1000000): ∃v' h',xQ (h.new (.cells false [])) 1 8 (.sl h.next 0 0 (.kn 0)) v=some (v',h')/\SL h l v' h':=by
 obtain⟨v',h',e,a⟩:=(cY.new h 1 0 h.next [] rfl (fM _)).app (bytes:=8) (n:=0) (by rw[H.aU];omega) (SV.mono d ((Fr.refl h).new _)) (m:=l.length) rfl (by rw[aP,uW]) om om;refine⟨v',h',e,a.own,a.fr h ((Fr.refl h).new _) (fM _),λo=>?_⟩;rcases a.cK with ⟨c,_⟩|⟨id,c,j,f,i⟩
 ·omega
 ·exact⟨id,by rw[c,Nat.zero_add],j,f,i⟩
theorem afK (v:V)(l:List Int)(h:H)(d:SI h v l)(f:l.length<1000000):Ev T 150 [v] h (SL h l):=by
 refine cV Dq rfl ?_;simp only[Dq,aD,go_sem];obtain⟨i,h',e,c⟩:=ZJ d f;simp only[e,go_sem];exact c
theorem TZ (n d:Nat):(n:Int).tmod (d:Int)=((n%d:Nat):Int):=rfl
theorem alE (a:Int)(c:0<n): -n<a.tmod n/\a.tmod n<n:=by
 have f:=Int.tmod_lt_of_pos a c;refine⟨?_,f⟩;rcases Int.le_total 0 a with h|h
 ·have:=Int.tmod_nonneg n h;omega
 ·have d:=Int.tmod_lt_of_pos (-a) c
  rw[Int.neg_tmod] at d;omega
theorem amJ (a:Int)(c:0<n):(if a.tmod n<0 then a.tmod n+n else a.tmod n)=a%n:=by
 have j:=alE a c;have f:a.tmod n=a-n*(a.tdiv n):=by have:=Int.mul_tdiv_add_tmod a n;omega
 have i:a%n=a-n*(a/n):=Int.emod_def a n;have k:=Int.emod_nonneg a (show n≠0 by omega);have m:=Int.emod_lt_of_pos a c
 have d:(a.tmod n)%n=a%n:=by
  rw[f,Int.sub_emod,Int.mul_emod_right,Int.sub_zero,Int.emod_emod]
 split
 ·rw[←d,←Int.emod_eq_of_lt (a:=a.tmod n+n) (b:=n) om om,Int.add_emod_right]
 ·rw[←d,Int.emod_eq_of_lt om om]
theorem akK (a n:Int)(h:H)(i:0<n)(j:n<1000000000):Ev T 38 [aC a,aC n] h (λv h'=>v= aC (a%n)/\h'=h):=by
 refine cV ajC rfl ?_;have k:=alE a i;have c:=amJ a i;simp (disch:=first|omega|(simp only[Qn];(try omega);done)|fail) only[go_sem,ajC,aD];refine aW (λf=>?_) (λd=>?_)
 ·rw[bF f] at c
  simp (disch:=first|omega|(simp only[Qn];(try omega);done)|fail) only[go_sem];exact⟨by rw[c],trivial⟩
 ·rw[bI d] at c
  simp (disch:=first|omega|(simp only[Qn];(try omega);done)|fail) only[go_sem];exact⟨by rw[c],trivial⟩
theorem Nb {a b:List Int}(d:a.length=b.length)(h: ∀j,j<a.length->a.getD j 0=b.getD j 0):a=b:=by
 apply List.ext_getElem d;intro i c f;have:=h i c;rw[WN,dD c,WN,dD f] at this;exact this
theorem Qs {g:Nat}(w:T g=some kE.fn)(B y:V)(a b:List Int)(h:H)(s:SI h B a)(L:SI h y b)(a1:a.length<1000000)(W:b.length<1000000):Ev T g [B,y] h (λv h'=>v= .bool (decide (a=b))/\Fr h h'):=by
 refine Ko w rfl ?_;obtain⟨id,U,A,z,hc⟩:=s.open;obtain⟨a0,P,r,q,F⟩:=L.open;simp (disch:=first|omega|(simp only[Qn];(try omega);done)|fail) only[go_sem,kE,aD,s.lens,L.lens];refine aW (λm=>?_) (λp=>?_)
 ·simp (disch:=first|omega|(simp only[Qn];(try omega);done)|fail) only[go_sem]
  have:a≠b:=λe=>m (by rw[e])
  exact⟨by rw[bH this],Fr.refl h⟩
 have p:a.length=b.length:=om
 simp (disch:=first|omega|(simp only[Qn];(try omega);done)|fail) only[go_sem,s.lens];refine aH (λk f O=> ∃(i:Nat) (K N G:V),f= [B,y,.bool false,K,.bool (decide ((a.length:Int)≠(b.length:Int))),aC (a.length:Int),aC i,N,G]/\i<=a.length/\(∀j,j<i->a.getD j 0=b.getD j 0)/\Fr h O/\k=a.length-i) a.length
  ⟨0,_,_,_,rfl,iJ _,λj J=>om,Fr.refl h,rfl⟩ ?_
 rintro k f O ⟨i,K,N,G,rfl,hi,d,c,rfl⟩;simp (disch:=first|omega|(simp only[Qn];(try omega);done)|fail) only[go_sem];refine aW (λQ=>?_) (λY=>?_)
 ·have t:=Fe c z hc
  have o:=Fe c q F;simp (disch:=first|omega|(simp only[Qn];(try omega);done)|fail) only[go_sem,A.ixa,r.ixa,t,o,NK];refine aW (λm=>?_) (λZ=>?_)
  ·simp (disch:=first|omega|(simp only[Qn];(try omega);done)|fail) only[go_sem]
   have:a≠b:=λe=>m (by rw[e])
   exact⟨by rw[bH this],c.bA om⟩
  ·simp (disch:=first|omega|(simp only[Qn];(try omega);done)|fail) only[go_sem]
   rw[eJ i];refine⟨a.length-(i+1),om,i+1,_,_,_,rfl,om,λj J=>?_,c.bA om,rfl⟩
   by_cases R:j=i
   ·rw[R];exact Decidable.byContradiction Z
   ·exact d j om
 ·simp (disch:=first|omega|(simp only[Qn];(try omega);done)|fail) only[go_sem]
  have:a=b:=Nb p λj J=>d j om
  exact⟨by rw[bP this],c⟩
theorem Wr (d c:V)(a b:List Int)(h:H)(j:SI h d a)(k:SI h c b)(f:a.length<1000000)(i:b.length<1000000):Ev T 105 [d,c] h (λv h'=>v= .bool (decide (a=b))/\Fr h h'):=Qs kE.ok d c a b h j k f i
theorem GV (A w:V)(a b:List Int)(h:H)(s:SI h A a)(G:SI h w b)(a0:a.length<1000000)(P:b.length<1000000):Ev T 97 [A,w] h (λv h'=>v= .bool (decide (a=b))/\Fr h h'):=by
 refine cV Ac rfl ?_;obtain⟨id,O,z,y,Y⟩:=s.open;obtain⟨U,K,r,q,B⟩:=G.open;simp (disch:=first|omega|(simp only[Qn];(try omega);done)|fail) only[go_sem,Ac,aD,s.lens,G.lens];refine aW (λm=>?_) (λp=>?_)
 ·simp (disch:=first|omega|(simp only[Qn];(try omega);done)|fail) only[go_sem]
  have:a≠b:=λe=>m (by rw[e])
  exact⟨by rw[bH this],Fr.refl h⟩
 have p:a.length=b.length:=om
 simp (disch:=first|omega|(simp only[Qn];(try omega);done)|fail) only[go_sem,s.lens];refine aH (λk f J=> ∃(i:Nat) (x4 W Z:V),f= [A,w,.bool false,aC i,x4,W,Z]/\i<=a.length/\(∀j,j<i->a.getD j 0=b.getD j 0)/\Fr h J/\k=a.length-i) a.length
  ⟨0,_,_,_,rfl,iJ _,λj F=>om,Fr.refl h,rfl⟩ ?_
 rintro k f J ⟨i,x3,x7,x8,rfl,hi,d,c,rfl⟩;simp (disch:=first|omega|(simp only[Qn];(try omega);done)|fail) only[go_sem,s.lens];refine aW (λL=>?_) (λQ=>?_)
 ·have t:=Fe c y Y
  have o:=Fe c q B;simp (disch:=first|omega|(simp only[Qn];(try omega);done)|fail) only[go_sem,z.ixa,r.ixa,t,o,NK];refine aW (λm=>?_) (λR=>?_)
  ·simp (disch:=first|omega|(simp only[Qn];(try omega);done)|fail) only[go_sem]
   have:a≠b:=λe=>m (by rw[e])
   exact⟨by rw[bH this],c.bA om⟩
  ·simp (disch:=first|omega|(simp only[Qn];(try omega);done)|fail) only[go_sem]
   rw[eJ i];refine⟨a.length-(i+1),om,i+1,_,_,_,rfl,om,λj F=>?_,c.bA om,rfl⟩
   by_cases N:j=i
   ·rw[N];exact Decidable.byContradiction R
   ·exact d j om
 ·simp (disch:=first|omega|(simp only[Qn];(try omega);done)|fail) only[go_sem]
  have:a=b:=Nb p λj F=>d j om
  exact⟨by rw[bP this],c⟩
def Frs (u:V)(b:Nat):Prop:= ∀id off n c,u= .sl id off n c->b<=id
theorem Frs.ne {id off n:Nat}{c:Kh}(f:Frs u b)(h:id<b):u≠ .sl id off n c:=λe=>by have:=f _ _ _ _ e;omega
theorem Frs.le {i:Nat}(f:Frs u b)(h:i<=b):Frs u i:=λid d n c e=>mT h (f id d n c e)
theorem Frs.own {v:V}{sz:Nat}{ws:List V}(o:cY h v sz ws b):Frs v b:=λid i n c e=>by
 rcases o with ⟨d,_⟩|⟨f,_,_,_,d,_,_,j,_⟩
 ·rw[d] at e;cases e
 ·rw[d] at e;cases e;exact j
structure AU (x:Nat)(h h':H):Prop where
 next:h.next<=h'.next
 get: ∀id,id<h.next->id≠x->h'.get id=h.get id
theorem AU.refl (x:Nat)(h:H):AU x h h:=⟨fM _,λ_ _ _=>rfl⟩
theorem AU.of (f:Fr h h'):AU x h h':=⟨f.next,λid c _=>f.get id c⟩
theorem AU.trans {b c:H}(f:AU x a b)(g:AU x b c):AU x a c:=⟨mT f.next g.next,λid d i=>(g.get id (iW d f.next) i).trans (f.get id d i)⟩
theorem AU.set {b:H}(f:AU x a b)(o:Option Ob):AU x a (b.set x o):=⟨f.next,λid c d=>(H.aG b d o).trans (f.get id c d)⟩
theorem AU.fr {b c:H}(f:Fr a b)(i:a.next<=x)(g:AU x b c):Fr a c:=⟨mT f.next g.next,λid d=>(g.get id (iW d f.next) om).trans (f.get id d)⟩
theorem SI.fx {j:Nat}(s:SI h u l)(q:Frs u j)(w:x<j)(f:AU x h h'):SI h' u l:=by
 rcases s with s|⟨id,c,len,d,r,m,rfl,t,i,k,o,v⟩
 ·exact .inl s
 ·have p:=q _ _ _ _ rfl
  exact .inr ⟨id,c,len,d,r,m,rfl,t,iW i f.next,by rw[f.get id i om];exact k,o,v⟩
def Tk (h:H)(x:Nat)(l:List Int):Prop:= ∃vl,∃a:Nat,h.get x=aZ [vl,aC a]/\SI h vl l/\(∀id off len c,vl= .sl id off len c->id<x)/\a<=l.length/\x<h.next
theorem Tk.mono (t:Tk h x l)(f:Fr h h'):Tk h' x l:=by
 obtain⟨k,a,i,d,j,m,c⟩:=t;exact⟨k,a,(f.get x c).trans i,d.mono f,j,m,iW c f.next⟩
theorem Tk.low (t:Tk h x l)(j:h.next<=h'.next)(i: ∀id,id<=x->h'.get id=h.get id):Tk h' x l:=by
 obtain⟨s,a,k,p,f,o,m⟩:=t;refine⟨s,a,(i x (fM _)).trans k,?_,f,o,iW m j⟩;rcases p with r|⟨id,c,len,d,B,v,e,A,w,y,q,z⟩
 ·exact .inl r
 ·have:=f _ _ _ _ e
  exact .inr ⟨id,c,len,d,B,v,e,A,iW w j,(i id om).trans y,q,z⟩
theorem Tk.set {y:Nat}(t:Tk h x l)(c:h.next<=y)(o:Option Ob):Tk (h.set y o) x l:=t.mono ((Fr.refl h).set c o)
theorem akU (a:Int)(c:0<n):0<=a%n/\a%n<n:=⟨Int.emod_nonneg a om,Int.emod_lt_of_pos a c⟩
def agU (n:Nat):Nat->Nat->Nat
 |0,_=>n
 |f+1,d=>if d*d<=n then (if n%d=0 then d else agU n f (d+1)) else n
def aiG (n:Nat):Nat:=agU n 1000 2
def cU (n:Int):Bool:=decide (1<n)&&(decide (n<1000000)&&decide (aiG n.toNat=n.toNat))
end
end Go.Proofs.YtcdbmkidaecdiaaGreat
namespace Go.Proofs.YtcdbmkidaecdiaaGreat
open Go Go.Ay Go.Pm
set_option maxRecDepth 100000
theorem vC {g:Nat}(t:T g=some eV.fn)(f:Nat)(p r:V)(a b:List V)(e:Nat->Bool)(h:H)(B:SV h p 1 a)(L:SV h r 1 b)(Z:a.length<1000000)(Q:b.length<1000000)
  (Y:a.length=b.length-> ∀i,i<a.length-> ∀hh,Fr h hh->Ev T f [a.getD i .undef,b.getD i .undef] hh (λv h'=>v= .bool (e i)/\Fr hh h')):
  Ev T g [p,r,.fn f [] []] h (λv h'=>v= .bool (decide (a.length=b.length/\ ∀i,i<a.length->e i=true))/\Fr h h'):=by
 refine Ko t rfl ?_
 have K:bT p=some (aC (a.length:Int)):=by unfold bT;rw[B.len (n:=a.length) om om];rfl
 have N:bT r=some (aC (b.length:Int)):=by unfold bT;rw[L.len (n:=b.length) om om];rfl
 obtain⟨id,s,W,x,R⟩:=B.shape a.length om om
 obtain⟨u,q,z,o,y⟩:=L.shape b.length om om
 simp(disch:=omega)only[go_sem,eV,aD,K,N]
 refine aW (λA=>?_) (λk=>?_)
 ·simp(disch:=omega)only[go_sem]
  exact⟨by rw[bH (λh=>A om)],Fr.refl h⟩
 have k:a.length=b.length:=om
 simp(disch:=omega)only[go_sem,K]
 refine aH (λG d hh=> ∃(i:Nat),(∃g:Nat->V,d= [p,r,.fn f [] [],g 3,g 4,g 5,g 6,g 7,p,aC (a.length:Int),aC i,g 11,g 12])/\i<=a.length/\(∀j,j<i->e j=true)/\Fr h hh/\G=a.length-i) a.length
  ⟨0,aB rfl,iJ _,λj P=>om,Fr.refl h,rfl⟩ ?_
 rintro G d hh ⟨i,⟨g,rfl⟩,hi,m,F,rfl⟩
 by_cases l:(i:Int)<(a.length:Int)
 ·have w:=bP l
  have c:i<a.length:=om
  have c1:hh.cell id (s+i)=some (a.getD i .undef):=by rw[F.cell (x om),R i c,List.getD,dD c];rfl
  have O:hh.cell u (q+i)=some (b.getD i .undef):=by rw[F.cell (o om),y i om,List.getD,dD om];rfl
  simp(disch:=omega)only[go_sem,w,W.ixa,z.ixa,c1,O]
  refine (Y k i c hh F).mono ?_
  rintro _ h2 ⟨rfl,J⟩
  cases he:e i with
  |true=>
   simp(disch:=omega)only[go_sem];rw[eJ i];refine⟨a.length-(i+1),om,i+1,aB rfl,om,λj P=>?_,F.trans J,rfl⟩
   by_cases U:j=i
   ·rw[U];exact he
   ·exact m j om
  |false=>
   simp(disch:=omega)only[go_sem];exact⟨by rw[bH (λh=>by have:=h.2 i c;rw[he] at this;cases this)],F.trans J⟩
 have w:=bH l
 obtain rfl:i=a.length:=om
 simp(disch:=omega)only[go_sem,w]
 exact⟨by rw[bP ⟨k,m⟩],F⟩
theorem iG {α β:Type}{R:α->β->Prop}{c:List α}{b:List β}(a:aM R c b){i:Nat}(hi:i<b.length)(d:α)(e:β):R (c.getD i d) (b.getD i e):=by
 have f:=a.length;rw[List.getD,dD om,List.getD,dD hi];exact a.get i om hi
theorem vE {α:Type}[DecidableEq α]{a b:List α}(d:α):decide (a=b)=decide (a.length=b.length/\ ∀i,i<a.length->decide (a.getD i d=b.getD i d)=true):=by
 congr 1;rw[eq_iff_iff];constructor
 ·rintro rfl;exact⟨rfl,λi _=>by simp⟩
 ·rintro⟨h1,h2⟩
  exact Ff (d:=d) h1 λi hi=>by simpa using h2 i hi
def Mf (R:List (List (List Int))):Prop:=R.length<1000000/\ ∀i,i<R.length->(R.getD i []).length<1000000
def sN (R:List (List (List Int))):Prop:=R.length<1000000/\ ∀i,i<R.length->(R.getD i []).length<1000000/\ ∀k,k<(R.getD i []).length->((R.getD i []).getD k []).length<1000000
def zV (O:List (List Int)):Prop:=O.length<1000000/\ ∀i,i<O.length->(O.getD i []).length<1000000
theorem VI (va vb:V)(d o:Int)(O A:List (List Int))(R K:List (List (List Int)))(h:H)(ha:WI h va d O R)(hb:WI h vb o A K)(so:zV O)(t:zV A)(sr:sN R)(p:sN K):
  Ev T 178 [va,vb] h (λv h'=>v= .bool (decide (d=o/\O=A/\R=K))/\Fr h h'):=by
 obtain⟨s,G,rfl,sO,sR⟩:=ha
 obtain⟨j,l,rfl,a1,a2⟩:=hb
 refine cV Hc rfl ?_
 obtain⟨wO,tO,aO⟩:=sO
 obtain⟨W,q,x⟩:=a1
 obtain⟨wR,tR,aR,_⟩:=sR
 obtain⟨U,z,y,_⟩:=a2
 have lO:=aO.length
 have B:=x.length
 have lR:=aR.length
 have r:=y.length
 simp(disch:=omega)only[go_sem,Hc,aD,bM h (v:= aC d) (u:=s) (w:=G) rfl tO.cK.2.1 tR.cK.2.1]
 obtain⟨a,n⟩: ∃a,a=h.new (.cells false [aC d,s,G]):=⟨_,rfl⟩
 have g1:a.get h.next=some (.cells false [aC d,s,G]):=by rw[n,H.aL]
 have n1:a.next=h.next+1:=by rw[n,H.aU]
 have f1:Fr h a:=by rw[n];exact (Fr.refl h).new _
 rw[←n]
 simp(disch:=omega)only[go_sem,bM a (v:= aC o) (u:=j) (w:=l) rfl q.cK.2.1 z.cK.2.1]
 obtain⟨b,m⟩: ∃b,b=a.new (.cells false [aC o,j,l]):=⟨_,rfl⟩
 have g2:b.get a.next=some (.cells false [aC o,j,l]):=by rw[m,H.aL]
 have n2:b.next=a.next+1:=by rw[m,H.aU]
 have f2:Fr a b:=by rw[m];exact (Fr.refl a).new _
 rw[←m]
 have ga: ∀c,Fr b c-> ∀i,c.cell h.next i= [aC d,s,G][i]? :=λc f i=>by rw[H.aF (by rw[f.get _ om,f2.get _ om];exact g1)]
 have gb: ∀c,Fr b c-> ∀i,c.cell a.next i= [aC o,j,l][i]? :=λc f i=>by rw[H.aF (by rw[f.get _ om];exact g2)]
 have F2:=f1.trans f2
 by_cases P:d=o
 case neg=>
  have e1:=bH P;simp(disch:=omega)only[go_sem,H.aF g1,ga b (Fr.refl _),gb b (Fr.refl _),e1];exact⟨by rw[bH (λh=>P h.1)],F2⟩
 have e1:=bP P
 simp(disch:=omega)only[go_sem,H.aF g1,ga b (Fr.refl _),gb b (Fr.refl _),e1]
 refine (vC eV.ok 105 s j wO W (λi=>decide (O.getD i []=A.getD i [])) b (tO.mono F2) (q.mono F2) (by rw[lO];exact so.1) (by rw[B];exact t.1) (λhl i hi c f=>?_)).mono ?_
 ·exact Wr _ _ _ _ c ((iG aO om _ _).mono (F2.trans f)) ((iG x om _ _).mono (F2.trans f)) (so.2 i om) (t.2 i om)
 rw[lO,B,←vE]
 rintro _ h3 ⟨rfl,N⟩
 by_cases L:O=A
 case neg=>
  rw[bH L];simp(disch:=omega)only[go_sem];exact⟨by rw[bH (λh=>L h.2.1)],F2.trans N⟩
 rw[bP L]
 simp(disch:=omega)only[go_sem,ga h3 N,gb h3 N]
 have J:=F2.trans N
 refine (vC iC.ok 218 G l wR U (λi=>decide (R.getD i []=K.getD i [])) h3 (tR.mono J) (z.mono J) (by rw[lR];exact sr.1) (by rw[r];exact p.1) (λhl i hi c f=>?_)).mono ?_
 ·refine cV Bd rfl ?_
  simp(disch:=omega)only[go_sem,Bd,aD]
  obtain⟨ws,s1,s2⟩:=(iG aR (i:=i) om .undef []).mono (J.trans f)
  obtain⟨a0,Y,F⟩:=(iG y (i:=i) om .undef []).mono (J.trans f)
  have k1:=s2.length
  have k2:=F.length
  refine (vC fY.ok 220 _ _ ws a0 (λk=>decide ((R.getD i []).getD k []=(K.getD i []).getD k [])) c s1 Y (by rw[k1];exact (sr.2 i om).1) (by rw[k2];exact (p.2 i om).1) (λa3 k hk h4 Q=>?_)).mono ?_
  ·refine cV wE rfl ?_
   simp(disch:=omega)only[go_sem,wE,aD]
   refine (Qs agO.ok _ _ _ _ h4 ((iG s2 om _ _).mono Q) ((iG F om _ _).mono Q) ((sr.2 i om).2 k om) ((p.2 i om).2 k om)).mono ?_
   rintro _ h5 ⟨rfl,Z⟩
   simp(disch:=omega)only[go_sem]
   exact Z
  rw[k1,k2,←vE]
  rintro _ h5 ⟨rfl,Z⟩
  simp(disch:=omega)only[go_sem]
  exact Z
 rw[lR,r,←vE]
 rintro _ h4 ⟨rfl,Q⟩
 simp(disch:=omega)only[go_sem]
 refine⟨?_,J.trans Q⟩
 congr 2
 rw[eq_iff_iff]
 exact⟨λh=>⟨P,L,h⟩,λh=>h.2.2⟩
section
variable {i:Nat} {a:List Int}
def mV (a:List Int):Bool:=decide a.Nodup&&a.all λx=>decide (0<=x)&&decide (x<(a.length:Int))
def AT (a:List Int):Int:=if a.length<1∨64<a.length then 2 else if mV a=true then 0 else 3
structure WC (a:List Int)(i:Nat):Prop where
 nd:(a.take i).Nodup
 rg: ∀x∈a.take i,0<=x/\x<(a.length:Int)
theorem Xb {l:List Int}(hi:i<l.length):l.take (i+1)=l.take i++ [l.getD i 0]:=by
 rw[List.take_add_one,dD hi];simp [List.getD,hi]
theorem WC.zero (a:List Int):WC a 0:=⟨by simp,λx b=>by simp at b⟩
theorem WC.succ (p:WC a i)(hi:i<a.length)(d:0<=a.getD i 0)(c:a.getD i 0<(a.length:Int))(h2:a.getD i 0∉a.take i):WC a (i+1):=by
 refine⟨?_,λx b=>?_⟩
 ·rw[Xb hi,List.nodup_append]
  exact⟨p.nd,by simp,λx b y f=>by
   have e:y=a.getD i 0:=by simpa using f
   intro h;rw[h,e] at b
   exact h2 b⟩
 ·rw[Xb hi] at b
  rcases pH.1 b with b|b
  ·exact p.rg x b
  ·simp at b;subst b;exact⟨d,c⟩
theorem WC.all (p:WC a a.length):mV a=true:=by
 have e:a.take a.length=a:=List.take_length;unfold mV;simp only[vN,decide_eq_true_eq,Kv];exact⟨e▸p.nd,λx b=>p.rg x (by rw[e];exact b)⟩
theorem Bz (hi:i<a.length)(h:a.getD i 0<0∨(a.length:Int)<=a.getD i 0∨a.getD i 0∈a.take i):mV a=false:=by
 cases e:mV a with
 |false=>rfl
 |true=>
  exfalso;unfold mV at e;simp only[vN,decide_eq_true_eq,Kv] at e;obtain⟨c,d⟩:=e
  have f:a.getD i 0∈a:=by
   have:a.getD i 0=a[i]:=by simp [List.getD,hi]
   rw[this];exact zG hi
  have:=d _ f;rcases h with h|h|h
  ·omega
  ·omega
  ·have b:(a.take (i+1)).Nodup:=c.sublist (List.take_sublist _ _)
   rw[Xb hi,List.nodup_append] at b;exact b.2.2 _ h _ (by simp) rfl
theorem ES: [V.bool false,.bool false,.bool false,.bool false,.bool false,.bool false,.bool false,.bool false,.bool false,.bool false,.bool false,.bool false,.bool false,.bool false,.bool false,.bool false,
 .bool false,.bool false,.bool false,.bool false,.bool false,.bool false,.bool false,.bool false,.bool false,.bool false,.bool false,.bool false,.bool false,.bool false,.bool false,.bool false,
 .bool false,.bool false,.bool false,.bool false,.bool false,.bool false,.bool false,.bool false,.bool false,.bool false,.bool false,.bool false,.bool false,.bool false,.bool false,.bool false,
 .bool false,.bool false,.bool false,.bool false,.bool false,.bool false,.bool false,.bool false,.bool false,.bool false,.bool false,.bool false,.bool false,.bool false,.bool false,.bool false]=rc 64 (λ_=> .bool false):=rfl
theorem aiM (u:V)(a:List Int)(h:H)(hl:a.length<1000000)(L:SI h u a):
  Ev T 140 [u] h (λv h'=>v= aC (AT a)/\Fr h h'):=by
 refine cV agN rfl ?_
 have m:=L.lens
 obtain⟨id,off,z,G,W⟩:=L.open
 by_cases J:a.length<1
 ·have w:decide ((a.length:Int)<1)=true:=bP om
  simp(disch:=omega)only[go_sem,agN,aD,m,w]
  exact⟨by unfold AT;rw[bF (.inl J)],Fr.refl h⟩
 have w:decide ((a.length:Int)<1)=false:=bH om
 by_cases Y:64<a.length
 ·have A:decide ((64:Int)<(a.length:Int))=true:=bP om
  simp(disch:=omega)only[go_sem,agN,aD,m,w,A]
  exact⟨by unfold AT;rw[bF (.inr Y)],Fr.refl h⟩
 have A:decide ((64:Int)<(a.length:Int))=false:=bH om
 have t:AT a=if mV a=true then 0 else 3:=by unfold AT;rw[bI om]
 simp(disch:=omega)only[go_sem,agN,aD,m,w,A,ES]
 have p:Fr h (h.new (.cells false (rc 64 λ_=>V.bool false))):=(Fr.refl h).new _
 have l:(h.new (.cells false (rc 64 λ_=>V.bool false))).get h.next=some (.cells false (rc 64 λ_=>V.bool false)):=H.aL ..
 have q:(h.new (.cells false (rc 64 λ_=>V.bool false))).next=h.next+1:=H.aU ..
 generalize h.new (.cells false (rc 64 λ_=>V.bool false))=J at*
 obtain⟨S,U⟩:=exI h.next
 rw[U] at l q
 rw[U]
 refine aH (λN c O=> ∃(i:Nat),(∃j:Nat->V,c= [u,aC 0,.ptr S 0,j 3,j 4,u,aC (a.length:Int),aC i,j 8,j 9])/\i<=a.length/\WC a i/\
   O.get S=some (.cells false (rc 64 λj=> .bool ((a.take i).contains (j:Int))))/\Fr h O/\N=a.length-i) a.length
  ⟨0,aB rfl,iJ _,WC.zero a,by rw[l];rfl,p,rfl⟩ ?_
 clear l p q
 rintro N c K ⟨i,⟨jk,rfl⟩,hi,o,Q,F,rfl⟩
 simp(disch:=omega)only[go_sem]
 by_cases n:(i:Int)<(a.length:Int)
 ·rw[bP n]
  have b:i<a.length:=om
  have ci:K.cell id (off+i)=some (aC (a.getD i 0)):=by rw[F.cell (G om),W i b]
  generalize d:a.getD i 0=x at ci
  by_cases f:x<0
  ·have r:=bP f
   simp(disch:=omega)only[go_sem,z.ixa,ci,r]
   refine⟨?_,F⟩
   rw[t,Bz b (.inl (by rw[d];exact f))];rfl
  have r:=bH f
  by_cases B:(a.length:Int)<=x
  ·have y:decide ((a.length:Int)<=x)=true:=bP om
   simp(disch:=omega)only[go_sem,z.ixa,ci,r,y,m]
   refine⟨?_,F⟩
   rw[t,Bz b (.inr (.inl (by rw[d];exact B)))];rfl
  have y:decide ((a.length:Int)<=x)=false:=bH om
  obtain⟨k,rfl⟩: ∃k:Nat,x=(k:Int):=⟨x.toNat,om⟩
  have R:k<64:=om
  have s:=Bw Q R
  cases hm:(a.take i).contains (k:Int) with
  |true=>
   rw[hm] at s;simp(disch:=omega)only[go_sem,z.ixa,ci,r,y,m,s];refine⟨?_,F⟩;rw[t,Bz b (.inr (.inr (by rw[d];simpa using hm)))];rfl
  |false=>
   rw[hm] at s;have P:=bN (vs:=rc 64 λj=> .bool ((a.take i).contains (j:Int))) (off:=k) (by rw[kH];exact R) K S (.bool true);rw[mS] at P;simp(disch:=omega)only[go_sem,z.ixa,ci,r,y,m,s,Q,P];rw[eJ i];refine⟨a.length-(i+1),om,i+1,aB rfl,om,o.succ b (by rw[d];omega) (by rw[d];omega) (by rw[d];simpa using hm),?_,F.set om _,rfl⟩;congr 2;refine dB λj Z=>?_
   rw[Xb b,d]
   by_cases e:j=k
   ·subst e;rw[bF rfl];simp
   ·rw[bI e]
    congr 1;rw[Py];simp only[List.contains_iff_mem,pH,List.mem_singleton];constructor
    ·exact .inl
    ·rintro (h|h)
     ·exact h
     ·omega
 rw[bH n]
 obtain rfl:i=a.length:=om
 simp(disch:=omega)only[go_sem]
 refine⟨?_,F⟩
 rw[t,o.all];rfl
end
theorem Sd (a:H)(c:Nat)(b:c<=100000):Jo a 1 1 [.bool false] (aC c) (aC c)=some (.sl a.next 0 c (.kn c),a.new (.cells false (rc c λ_=> .bool false))):=by
 rw[tU om (Int.le_refl _) om om,NK,uW];congr 4;refine List.ext_getElem (by simp [cX,rc]) λi _ _=>?_
 simp [cX,Nat.mod_one,rc]
theorem YD (u:V)(a:List Int)(h:H)(U:a.length<=1000)(B:SI h u a):
  Ev T 129 [u,aC (a.length:Int)] h (λv h'=>v= .bool (mV a)/\Fr h h'):=by
 refine cV Mn rfl ?_
 have s:=B.lens
 obtain⟨id,off,w,z,P⟩:=B.open
 simp(disch:=omega)only[go_sem,Mn,aD,s]
 rw[bH (show ¬((a.length:Int)≠(a.length:Int)) by omega)]
 simp(disch:=omega)only[go_sem,Sd _ a.length om]
 have o:Fr h (h.new (.cells false (rc a.length λ_=>V.bool false))):=(Fr.refl h).new _
 have l:(h.new (.cells false (rc a.length λ_=>V.bool false))).get h.next=some (.cells false (rc a.length λ_=>V.bool false)):=H.aL ..
 have p:(h.new (.cells false (rc a.length λ_=>V.bool false))).next=h.next+1:=H.aU ..
 generalize h.new (.cells false (rc a.length λ_=>V.bool false))=Q at*
 obtain⟨S,O⟩:=exI h.next
 rw[O] at l p
 rw[O]
 refine aH (λG c J=> ∃(i:Nat),(∃j:Nat->V,c= [u,aC (a.length:Int),j 2,.sl S 0 a.length (.kn a.length),aC i,j 5,j 6,j 7])/\i<=a.length/\WC a i/\
   J.get S=some (.cells false (rc a.length λj=> .bool ((a.take i).contains (j:Int))))/\Fr h J/\G=a.length-i) a.length
  ⟨0,aB rfl,iJ _,WC.zero a,by rw[l];rfl,o,rfl⟩ ?_
 clear l o p
 rintro G c A ⟨i,⟨W,rfl⟩,hi,n,L,F,rfl⟩
 simp(disch:=omega)only[go_sem]
 by_cases m:(i:Int)<(a.length:Int)
 ·rw[bP m]
  have b:i<a.length:=om
  have ci:A.cell id (off+i)=some (aC (a.getD i 0)):=by rw[F.cell (z om),P i b]
  generalize d:a.getD i 0=x at ci
  by_cases f:x<0
  ·have q:=bP f
   simp(disch:=omega)only[go_sem,w.ixa,ci,q]
   refine⟨?_,F⟩
   rw[Bz b (.inl (by rw[d];exact f))]
  have q:=bH f
  by_cases y:(a.length:Int)<=x
  ·have t:decide ((a.length:Int)<=x)=true:=bP om
   simp(disch:=omega)only[go_sem,w.ixa,ci,q,t,s]
   refine⟨?_,F⟩
   rw[Bz b (.inr (.inl (by rw[d];exact y)))]
  have t:decide ((a.length:Int)<=x)=false:=bH om
  obtain⟨k,rfl⟩: ∃k:Nat,x=(k:Int):=⟨x.toNat,om⟩
  have N:k<a.length:=om
  have r:=Bw L N
  cases hm:(a.take i).contains (k:Int) with
  |true=>
   rw[hm] at r;simp(disch:=omega)only[go_sem,w.ixa,ci,q,t,s,r];refine⟨?_,F⟩;rw[Bz b (.inr (.inr (by rw[d];simpa using hm)))]
  |false=>
   rw[hm] at r;have K:=bN (vs:=rc a.length λj=> .bool ((a.take i).contains (j:Int))) (off:=k) (by rw[kH];exact N) A S (.bool true);rw[mS] at K;simp(disch:=omega)only[go_sem,w.ixa,ci,q,t,s,r,L,K];rw[eJ i];refine⟨a.length-(i+1),om,i+1,aB rfl,om,n.succ b (by rw[d];omega) (by rw[d];omega) (by rw[d];simpa using hm),?_,F.set om _,rfl⟩;congr 2;refine dB λj R=>?_
   rw[Xb b,d]
   by_cases e:j=k
   ·subst e;rw[bF rfl];simp
   ·rw[bI e]
    congr 1;rw[Py];simp only[List.contains_iff_mem,pH,List.mem_singleton];constructor
    ·exact .inl
    ·rintro (h|h)
     ·exact h
     ·omega
 rw[bH m]
 obtain rfl:i=a.length:=om
 simp(disch:=omega)only[go_sem]
 refine⟨?_,F⟩
 rw[n.all]
theorem Vs (u:V)(a:List Int)(h:H)(l:a.length<1000000)(f:SI h u a):
  Ev T 85 [u] h (λv h'=>v= aC (AT a)/\Fr h h'):=by
 refine cV qQ rfl ?_
 have d:=f.lens
 by_cases k:a.length<1
 ·have b:decide ((a.length:Int)<1)=true:=bP om
  simp(disch:=omega)only[go_sem,qQ,aD,d,b]
  exact⟨by unfold AT;rw[bF (.inl k)],Fr.refl h⟩
 have b:decide ((a.length:Int)<1)=false:=bH om
 by_cases j:64<a.length
 ·have c:decide ((64:Int)<(a.length:Int))=true:=bP om
  simp(disch:=omega)only[go_sem,qQ,aD,d,b,c]
  exact⟨by unfold AT;rw[bF (.inr j)],Fr.refl h⟩
 have c:decide ((64:Int)<(a.length:Int))=false:=bH om
 have i:AT a=if mV a=true then 0 else 3:=by unfold AT;rw[bI om]
 simp(disch:=omega)only[go_sem,qQ,aD,d,b,c]
 refine (YD u a h om f).mono ?_
 rintro _ j ⟨rfl,F⟩
 cases e:mV a with
 |true=>
  simp(disch:=omega)only[go_sem];exact⟨by rw[i,e];rfl,F⟩
 |false=>
  simp(disch:=omega)only[go_sem];exact⟨by rw[i,e];rfl,F⟩
theorem Iz {a:List Int}(h:mV a=true):a=zi (a.map Int.toNat)/\bE a.length (a.map Int.toNat):=by
 unfold mV at h;simp only[vN,decide_eq_true_eq,Kv] at h;obtain⟨f,c⟩:=h
 have e:a=zi (a.map Int.toNat):=by
  unfold zi;rw[List.map_map];refine (List.map_id a).symm.trans (Vy λx b=>?_);have:=(c x b).1
  show x=((x.toNat:Nat):Int)
  omega
 refine⟨e,by simp,?_,λx b=>?_⟩
 ·rw[nPN,List.pairwise_map]
  rw[nPN] at f;refine f.imp_of_mem λ{x y} b d i j=>?_
  have:=(c x b).1;have:=(c y d).1;omega
 ·obtain⟨y,d,rfl⟩:=uF.1 b
  have:=c y d;omega
theorem Yd {n:Nat}{l:List Nat}(L:bE n l):mV (zi l)=true:=by
 unfold mV;simp only[vN,decide_eq_true_eq,Kv];refine⟨?_,λx b=>?_⟩
 ·unfold zi
  have:=L.nd;rw[nPN] at this ⊢;rw[List.pairwise_map];exact this.imp λa e=>a om
 ·obtain⟨k,c,rfl⟩:=uF.1 b
  have:=L.lt k c;rw[aQ,L.len];omega
def yU:List Nat->List Nat->Bool
 |x::a,y::b=>if x=y then yU a b else decide (x<y)
 |a,b=>decide (a.length<b.length)
theorem Zf: ∀{a b:List Nat} {i:Nat},(∀j,j<i->a.getD j 0=b.getD j 0)->i<a.length->i<b.length->a.getD i 0≠b.getD i 0->yU a b=decide (a.getD i 0<b.getD i 0)
 | [],_,i,_,h,_,_=>by simp at h
 |_::_, [],i,_,_,h,_=>by simp at h
 |x::a,y::b,0,_,_,_,hne=>by
  have:x≠y:=by simpa using hne
  simp [yU,this]
 |x::a,y::b,i+1,h,h1,h2,hne=>by
  have e:x=y:=by simpa using h 0 om
  unfold yU;rw[bF e,Zf (a:=a) (b:=b) (i:=i) (λj c=>by simpa using h (j+1) om) (by simpa using h1) (by simpa using h2) (by simpa using hne)];simp
theorem aiP: ∀a:List Nat,yU a a=false
 | []=>by simp [yU]
 |x::a=>by unfold yU;rw[bF rfl];exact aiP a
theorem Cb {a b:List Nat}(n:a.length=b.length):yU a b=true↔Lt a b:=by
 by_cases h: ∃i,i<a.length/\a.getD i 0≠b.getD i 0
 ·have o: ∃i,(i<a.length/\a.getD i 0≠b.getD i 0)/\ ∀j,j<i-> ¬(j<a.length/\a.getD j 0≠b.getD j 0):=by
   obtain⟨i,hi⟩:=h
   induction i using Nat.strongRecOn with
   |_ i ih=>
    by_cases l: ∃j,j<i/\j<a.length/\a.getD j 0≠b.getD j 0
    ·obtain⟨j,d,f⟩:=l;exact ih j d f
    ·exact⟨i,hi,λj d f=>l ⟨j,d,f⟩⟩
  obtain⟨i,⟨d,f⟩,p⟩:=o;have c: ∀j,j<i->a.getD j 0=b.getD j 0:=λj l=>Jg λm=>p j l ⟨om,m⟩
  rw[Zf c d om f,decide_eq_true_eq];constructor
  ·intro h;exact⟨i,d,c,h⟩
  ·rintro⟨k,h4,h5,h6⟩
   rcases Nat.lt_trichotomy i k with h|h|h
   ·exact absurd (h5 i h) f
   ·subst h;exact h6
   ·have:=c k h;omega
 ·have e:a=b:=yC n λi hi=>Jg λm=>h ⟨i,hi,m⟩
  subst e;rw[aiP];constructor
  ·intro h;cases h
  ·exact λh=>(h.asymm h).elim
theorem amF (u w:V)(n:Nat)(a b:List Nat)(h:H)(U:n<100000)(y:a.length=n)(lb:b.length=n)(K:SI h u (zi a))(G:SI h w (zi b)):
  Ev T 134 [u,w] h (λv h'=>v= .bool (yU a b)/\Fr h h'):=by
 refine cV akJ rfl ?_
 have s:=K.lens
 rw[aQ,y] at s
 have t:=G.lens
 rw[aQ,lb] at t
 obtain⟨id,x,A,p,P⟩:=K.open
 rw[aQ,y] at A p P
 obtain⟨z,q,m,k,r⟩:=G.open
 rw[aQ,lb] at m k r
 simp(disch:=omega)only[go_sem,akJ,aD]
 refine aH (λL f R=> ∃(i:Nat),(∃j:Nat->V,f= [u,w,.bool false,aC i,j 4,j 5])/\i<=n/\(∀j,j<i->a.getD j 0=b.getD j 0)/\Fr h R/\L=n-i) n
  ⟨0,aB rfl,iJ _,λ_ h=>om,Fr.refl h,rfl⟩ ?_
 rintro L f J ⟨i,⟨W,rfl⟩,hi,l,F,rfl⟩
 by_cases o:(i:Int)<(n:Int)
 ·have d:=bP o
  have c:i<n:=om
  have ci:J.cell id (x+i)=some (aC (a.getD i 0:Nat)):=by rw[F.cell (p om),P i c];congr 2;simp [zi,y,c]
  have O:J.cell z (q+i)=some (aC (b.getD i 0:Nat)):=by rw[F.cell (k om),r i c];congr 2;simp [zi,lb,c]
  by_cases N:a.getD i 0=b.getD i 0
  ·have B:decide (((a.getD i 0:Nat):Int)≠((b.getD i 0:Nat):Int))=false:=bH om
   simp(disch:=omega)only[go_sem,s,t,d,A.ixa,m.ixa,ci,O,B]
   rw[eJ i]
   refine⟨n-(i+1),om,i+1,aB rfl,om,λj Q=>?_,?_,rfl⟩
   ·by_cases e:j=i
    ·rw[e];exact N
    ·exact l j om
   ·first|exact F|exact F.bA om
  ·have B:decide (((a.getD i 0:Nat):Int)≠((b.getD i 0:Nat):Int))=true:=bP om
   simp(disch:=omega)only[go_sem,s,t,d,A.ixa,m.ixa,ci,O,B]
   refine⟨?_,?_⟩
   ·rw[Zf l om om N]
    congr 1
    rw[Py];simp
   ·first|exact F|exact F.bA om|exact (F.bA om).bA (by simp;omega)
 have d:=bH o
 have Y:decide ((n:Int)<(n:Int))=false:=bH om
 obtain rfl:i=n:=om
 simp(disch:=omega)only[go_sem,s,t,d]
 have e:a=b:=yC om λj Q=>l j om
 refine⟨?_,F⟩
 rw[e,aiP]
end Go.Proofs.YtcdbmkidaecdiaaGreat
