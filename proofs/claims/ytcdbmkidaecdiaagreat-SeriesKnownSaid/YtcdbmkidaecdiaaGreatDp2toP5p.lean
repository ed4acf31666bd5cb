/- Texts of the claim. -/
import Derived.Test.YtcdbmkidaecdiaaGreatDp1
import Derived.Test.YtcdbmkidaecdiaaGreatP5a
import Derived.Test.YtcdbmkidaecdiaaGreatAy39
import Derived.Test.YtcdbmkidaecdiaaGreatC16code
import Derived.Sort.AssemblyPlain
import Derived.Test.YtcdbmkidaecdiaaGreatAy26
set_option maxHeartbeats 32000000
namespace Go.Pm
set_option maxRecDepth 100000
section
variable {j p:Nat}
structure Lv where
 gens:zI
 orb:List Nat
 to:Nat->Option (List Nat)
 tr:Nat->Nat
abbrev pM:=Nat->Lv
def Fix (i:Nat)(x:List Nat):Prop:= ∀k,k<i->x.getD k 0=k
def InS (n:Nat)(τ:pM):Nat->Nat->List Nat->Prop
 |_,0,x=>x=bL n
 |i,d+1,x=> ∃p y h,(τ i).to p=some y/\InS n τ (i+1) d h/\x=aX h y
def S (n:Nat)(τ:pM)(i:Nat)(x:List Nat):Prop:=InS n τ i (n-i) x
section
variable {n:Nat} {τ τ':pM} {x y z:List Nat} {i:Nat}
theorem vB:S n τ n x↔x=bL n:=by unfold S;rw[Nat.sub_self];exact Iff.rfl
theorem qD (hi:i<n):S n τ i x↔ ∃p y h,(τ i).to p=some y/\S n τ (i+1) h/\x=aX h y:=by
 unfold S;rw[show n-i=(n-(i+1))+1 from oq];exact Iff.rfl
theorem Qw: ∀(d i:Nat) (x:List Nat),(∀j,i<=j->j<i+d->τ j=τ' j)->(InS n τ i d x↔InS n τ' i d x)
 |0,_,_,_=>Iff.rfl
 |d+1,i,x,h=>by
  simp only[InS];rw[h i (Nat.le_refl _) oq];have a:=λg=>Qw d (i+1) g (λj b c=>h j oq oq)
  simp only[a]
theorem EL (h: ∀j,i<=j->j<n->τ j=τ' j):S n τ i x↔S n τ' i x:=
 Qw _ _ _ λj a b=>h j a oq
structure TE (n j:Nat)(l:Lv):Prop where
 nd:l.orb.Nodup
 base:j∈l.orb
 one:l.to j=some (bL n)
 iff: ∀p,p∈l.orb↔(l.to p).isSome
 cU: ∀p y,l.to p=some y->bE n y
 fix: ∀p y,l.to p=some y->Fix j y
 maps: ∀p y,l.to p=some y->y.getD j 0=p
 gen: ∀p y,l.to p=some y->bX n (· ∈l.gens) y
 gP: ∀s∈l.gens,bE n s
 gF: ∀s∈l.gens,Fix j s
 gN:l.gens.Nodup
 le: ∀q,l.tr q<=l.gens.length
 zero: ∀q,q∉l.orb->l.tr q=0
theorem TE.lt {l:Lv}(L:TE n j l)(c:j<n)(b:p∈l.orb):p<n:=by
 obtain⟨y,a⟩:=Option.isSome_iff_exists.1 ((L.iff p).1 b);rw[←L.maps p y a];exact (L.cU p y a).iN c
theorem TE.to {l:Lv}(L:TE n j l)(a:p∈l.orb): ∃y,l.to p=some y:=Option.isSome_iff_exists.1 ((L.iff p).1 a)
theorem TE.mem {l:Lv}(L:TE n j l){y:List Nat}(h:l.to p=some y):p∈l.orb:=(L.iff p).2 (by rw[h];rfl)
def Cl (n j:Nat)(τ:pM):Prop:= ∀q y,(τ j).to q=some y-> ∀k s,k<(τ j).tr q->(τ j).gens[k]? =some s->
 ∃u,(τ j).to ((aX y s).getD j 0)=some u/\S n τ (j+1) (aX (aX y s) (dA u))
def Full (l:Lv):Prop:= ∀q∈l.orb,l.tr q=l.gens.length
def Dn (n j:Nat)(τ:pM):Prop:=j+1<n-> ∀s∈(τ (j+1)).gens,bX n (· ∈(τ j).gens) s
def pI (n i:Nat)(τ:pM):Prop:= ∀j,i<=j->j<n->TE n j (τ j)/\Cl n j τ/\Full (τ j)/\Dn n j τ
theorem pI.mono (t:pI n i τ){k:Nat}(h:i<=k):pI n k τ:=λj b a=>t j oq a
theorem pI.congr (t:pI n i τ)(h: ∀j,i<=j->j<n->τ j=τ' j):pI n i τ':=λj o g=>by
 obtain⟨a,b,c,d⟩:=t j o g;have e:=h j o g;refine⟨e▸a,λq y m k s r f=>?_,e▸c,λl s f=>?_⟩
 ·rw[←e] at m r f ⊢
  obtain⟨u,w,A⟩:=b q y m k s r f;exact⟨u,w,(EL λk B v=>h k oq v).1 A⟩
 ·rw[←h (j+1) oq l] at f
  rw[←e];exact d l s f
theorem Fix.one (n i:Nat)(hi:i<=n):Fix i (bL n):=λk a=>fQ oq
theorem Fix.mul (X:bE n x)(hi:i<=n)(a:Fix i x)(b:Fix i y):Fix i (aX x y):=λk c=>by
 rw[cM (by rw[X.len];omega),a k c,b k c]
theorem Fix.inv (X:bE n x)(hi:i<=n)(a:Fix i x):Fix i (dA x):=λk b=>by
 have:=vM X (show k<n by omega);rwa [a k b] at this
theorem Fix.mono (a:Fix j x)(h:i<=j):Fix i x:=λk b=>a k oq
theorem Fix.succ (a:Fix i x)(h:x.getD i 0=i):Fix (i+1) x:=λk b=>by
 by_cases e:k=i
 ·rw[e];exact h
 ·exact a k oq
theorem Fix.all (X:bE n x)(a:Fix n x):x=bL n:=by
 refine yC (by rw[X.len,jG]) λk b=>?_
 rw[X.len] at b;rw[a k b,fQ b]
theorem bX.fix {L:List Nat->Prop}(b: ∀g,L g->bE n g)(hi:i<=n)(a: ∀g,L g->Fix i g)(h:bX n L x):Fix i x:=by
 induction h with
 |one=>exact Fix.one n i hi
 |mul hx hg ih=>exact Fix.mul (hx.cU b) hi ih (a _ hg)
theorem pI.HU: ∀(d i:Nat),i+d=n->pI n i τ-> ∀x,(S n τ i x->bE n x/\Fix i x)/\(i<n->(S n τ i x↔bX n (· ∈(τ i).gens) x))
 |0,i,h,_,x=>by
  obtain rfl:i=n:=oq
  refine⟨λa=>?_,λh=>oq⟩;rw[vB] at a;subst a;exact⟨bE.one i,Fix.one i i (Nat.le_refl _)⟩
 |d+1,i,h,t,x=>by
  have hi:i<n:=oq
  have m:=pI.HU d (i+1) oq (t.mono oq);obtain⟨L,C,F,D⟩:=t i (Nat.le_refl _) hi;have o: ∀g,g∈(τ i).gens->bE n g:=L.gP
  have Q: ∀z,S n τ (i+1) z->bX n (· ∈(τ i).gens) z:=by
   intro z f
   by_cases c:i+1<n
   ·exact ((m z).2 c|>.1 f).le (bX.dN o) (D c)
   ·obtain rfl:i+1=n:=oq
    rw[vB] at f;subst f;exact .one
  have v: ∀u z,S n τ (i+1) u->S n τ (i+1) z->S n τ (i+1) (aX u z):=by
   intro u z l f
   by_cases c:i+1<n
   ·obtain⟨O,_⟩:=t (i+1) oq c
    exact ((m _).2 c).2 ((((m u).2 c).1 l).app O.gP (((m z).2 c).1 f))
   ·obtain rfl:i+1=n:=oq
    rw[vB] at l f ⊢;subst l f;exact bZ (bE.one _)
  have r:S n τ (i+1) (bL n):=by
   by_cases c:i+1<n
   ·exact ((m _).2 c).2 .one
   ·obtain rfl:i+1=n:=oq
    exact vB.2 rfl
  have b:S n τ i x->bX n (· ∈(τ i).gens) x:=by
   intro a;obtain⟨p,y,g,w,A,rfl⟩:=(qD hi).1 a;exact (Q g A).app o (L.gen p y w)
  refine⟨λa=>⟨(b a).cU o,(b a).fix o oq L.gF⟩,λ_=>⟨b,λN=>?_⟩⟩;clear b
  induction N with
  |one=>exact (qD hi).2 ⟨i,bL n,bL n,L.one,r,(bZ (bE.one n)).symm⟩
  |mul hx a hind=>
   rename_i R s;obtain⟨q,y,g,w,A,e⟩:=(qD hi).1 hind;obtain⟨k,K,J⟩:=List.mem_iff_getElem.1 a;obtain⟨u,l,P⟩:=C q y w k s (by rw[F q (L.mem w)];exact K) (by rw[List.getElem?_eq_getElem K,J]);refine (qD hi).2 ⟨_,u,aX g (aX (aX y s) (dA u)),l,v _ _ A P,?_⟩;have G:=((m g).1 A).1;have Y:=L.cU q y w;have U:=L.cU _ u l;have B:=o s a;rw[e,aV G Y B,aV G ((Y.mul B).mul U.inv) U,aV (Y.mul B) U.inv U,iE U,bZ (Y.mul B)]
theorem pI.gen (t:pI n i τ)(hi:i<n):S n τ i x↔bX n (· ∈(τ i).gens) x:=(pI.HU (n-i) i oq t x).2 hi
theorem pI.cU (t:pI n i τ)(hi:i<=n)(h:S n τ i x):bE n x:=((pI.HU (n-i) i oq t x).1 h).1
theorem pI.fix (t:pI n i τ)(hi:i<=n)(h:S n τ i x):Fix i x:=((pI.HU (n-i) i oq t x).1 h).2
theorem pI.dN (t:pI n i τ)(hi:i<=n):iX n (S n τ i):=by
 by_cases h:i<n
 ·have g:=bX.dN (n:=n) (L:=(· ∈(τ i).gens)) (t i (Nat.le_refl _) h).1.gP
  exact⟨λa=>t.cU hi a,(t.gen h).2 g.one,λa b=>(t.gen h).2 (g.mul ((t.gen h).1 a) ((t.gen h).1 b)),λa=>(t.gen h).2 (g.inv ((t.gen h).1 a))⟩
 ·obtain rfl:i=n:=oq
  refine⟨λa=>t.cU hi a,vB.2 rfl,λa b=>?_,λa=>?_⟩
  ·rw[vB] at a b ⊢;subst a b;exact bZ (bE.one _)
  ·rw[vB] at a ⊢;subst a;exact oJ _
theorem pI.sift (t:pI n i τ)(hi:i<n)(h:S n τ i x): ∃y,(τ i).to (x.getD i 0)=some y/\S n τ (i+1) (aX x (dA y)):=by
 obtain⟨p,y,g,b,a,rfl⟩:=(qD hi).1 h;have L:=(t i (Nat.le_refl _) hi).1;have c:=t.mono (Nat.le_succ i);have G:=c.cU hi a;have Y:=L.cU p y b
 have e:(aX g y).getD i 0=p:=by
  rw[cM (by rw[G.len];exact hi),c.fix hi a i oq,L.maps p y b]
 refine⟨y,by rw[e];exact b,?_⟩;rw[aV G Y Y.inv,fC Y,bZ G];exact a
theorem pI.back (t:pI n i τ)(hi:i<n){y:List Nat}(a:bE n x)(b:(τ i).to (x.getD i 0)=some y)(h2:S n τ (i+1) (aX x (dA y))):S n τ i x:=by
 have Y:=(t i (Nat.le_refl _) hi).1.cU _ y b;refine (qD hi).2 ⟨_,y,_,b,h2,?_⟩;rw[aV a Y.inv Y,iE Y,bZ a]
theorem pI.ahX (t:pI n i τ)(hi:i<n):S n τ (i+1) x↔S n τ i x/\x.getD i 0=i:=by
 have L:=(t i (Nat.le_refl _) hi).1;have b:=t.mono (Nat.le_succ i);constructor
 ·intro h
  have e:=b.fix hi h i oq;have X:=b.cU hi h;refine⟨t.back hi X (y:=bL n) (by rw[e];exact L.one) ?_,e⟩;rw[oJ,bZ X];exact h
 ·rintro⟨h,e⟩
  obtain⟨y,a,c⟩:=t.sift hi h;rw[e,L.one] at a;cases a;rwa [oJ,bZ (t.cU oq h)] at c
theorem pI.Xo (t:pI n i τ): ∀{k:Nat},i<=k->k<=n->(S n τ k x↔S n τ i x/\Fix k x):=by
 intro k
 induction k with
 |zero=>
  intro h _;obtain rfl:i=0:=oq
  exact⟨λh=>⟨h,λ_ h=>oq⟩,λh=>h.1⟩
 |succ k ih=>
  intro g f
  by_cases e:i=k+1
  ·subst e
   exact⟨λh=>⟨h,t.fix f h⟩,λh=>h.1⟩
  ·have a:=ih oq oq
   rw[(t.mono oq).ahX (i:=k) f,a];constructor
   ·rintro⟨⟨b,c⟩,d⟩;exact⟨b,c.succ d⟩
   ·rintro⟨b,c⟩;exact⟨⟨b,c.mono oq⟩,c k oq⟩
end
end
section
variable {j k q:Nat}
def vI (τ:pM)(i:Nat)(l:Lv):pM:=λj=>if j=i then l else τ j
theorem bU (τ:pM)(i:Nat)(l:Lv):vI τ i l i=l:=by simp [vI]
theorem dZ (τ:pM){i:Nat}(l:Lv)(h:j≠i):vI τ i l j=τ j:=by simp [vI,h]
def Lv.tick (l:Lv)(q:Nat):Lv:={l with tr:=λr=>if r=q then l.tr q+1 else l.tr r}
def Lv.reach (l:Lv)(p:Nat)(y:List Nat):Lv:={l with orb:=l.orb++ [p],to:=λr=>if r=p then some y else l.to r}
def Lv.more (l:Lv)(r:List Nat):Lv:={l with gens:=l.gens++ [r]}
structure CI (n i:Nat)(τ:pM):Prop where
 jX:TE n i (τ i)
 cl:Cl n i τ
 dn:Dn n i τ
 up:pI n (i+1) τ
section
variable {n:Nat} {τ τ':pM} {x y z s u w:List Nat} {i:Nat}
theorem CI.full (c:CI n i τ)(a:Full (τ i)):pI n i τ:=λj d b=>by
 by_cases e:j=i
 ·subst e;exact⟨c.jX,c.cl,a,c.dn⟩
 ·exact c.up j oq b
theorem acV {l:Lv}(h:i<k):S n (vI τ i l) k x↔S n τ k x:=EL λj a _=>dZ τ l oq
theorem pI.afT {l:Lv}(h:i<k)(t:pI n k τ):pI n k (vI τ i l):=t.congr λj a _=>(dZ τ l oq).symm
theorem CI.Mu (c:CI n i τ)(hi:i<n)(d:(τ i).to q=some y)(f:s∈(τ i).gens)(a:(τ i).to ((aX y s).getD i 0)=some u):
  bE n (aX (aX y s) (dA u))/\Fix (i+1) (aX (aX y s) (dA u))/\bX n (· ∈(τ i).gens) (aX (aX y s) (dA u)):=by
 have L:=c.jX
 have Y:=L.cU q y d
 have U:=L.cU _ u a
 have g:=L.gP s f
 have e:=Y.mul g
 have b:bX n (· ∈(τ i).gens) (aX (aX y s) (dA u)):=((L.gen q y d).mul f).app L.gP ((L.gen _ u a).inv L.gP)
 refine⟨e.mul U.inv,Fix.succ (b.fix L.gP oq L.gF) ?_,b⟩
 rw[cM (by rw[e.len];exact hi)]
 have:=vM U hi
 rwa [L.maps _ u a] at this
theorem CI.tick (c:CI n i τ)(A:(τ i).to q=some y)(O:(τ i).tr q=k)(o:(τ i).gens[k]? =some s)(N:(τ i).to ((aX y s).getD i 0)=some u)
  (J:S n τ (i+1) (aX (aX y s) (dA u))):CI n i (vI τ i ((τ i).tick q)):=by
 have L:=c.jX
 have f:k<(τ i).gens.length:=(List.getElem?_eq_some_iff.1 o).1
 refine⟨?_,?_,?_,c.up.afT oq⟩
 ·rw[bU]
  refine⟨L.nd,L.base,L.one,L.iff,L.cU,L.fix,L.maps,L.gen,L.gP,L.gF,L.gN,λr=>?_,λr B=>?_⟩
  ·show (if r=q then (τ i).tr q+1 else (τ i).tr r)<=_
   split
   ·rw[O];exact f
   ·exact L.le r
  ·show (if r=q then (τ i).tr q+1 else (τ i).tr r)=0
   have:r≠q:=λe=>B (by rw[e];exact L.mem A)
   rw[if_neg this];exact L.zero r B
 ·intro r v l j t p h
  rw[bU] at l p h ⊢
  simp only[acV (Nat.lt_succ_self i)]
  have a:j<(if r=q then (τ i).tr q+1 else (τ i).tr r):=p
  by_cases e:r=q/\j=k
  ·obtain⟨rfl,rfl⟩:=e
   have b:(τ i).to r=some v:=l
   have d:(τ i).gens[j]? =some t:=h
   rw[A] at b;cases b
   rw[o] at d;cases d
   exact⟨u,N,J⟩
  ·refine c.cl r v l j t ?_ h
   split at a
   ·rename_i K;subst K
    have:j≠k:=λG=>e ⟨rfl,G⟩
    omega
   ·exact a
 ·intro F g m
  rw[dZ τ _ oq] at m
  rw[bU]
  exact c.dn F g m
theorem CI.reach (c:CI n i τ)(hi:i<n){p:Nat}(B:(τ i).to p=none)(Y:bE n y)(F:Fix i y)(W:y.getD i 0=p)(P:bX n (· ∈(τ i).gens) y):CI n i (vI τ i ((τ i).reach p y)):=by
 have L:=c.jX;have m:p∉(τ i).orb:=λh=>by have:=(L.iff p).1 h;rw[B] at this;cases this
 have d: ∀r v,((τ i).reach p y).to r=some v->(r=p/\v=y)∨(r≠p/\(τ i).to r=some v):=by
  intro r v h;have o:(if r=p then some y else (τ i).to r)=some v:=h;split at o
  ·rename_i e;cases o;exact .inl ⟨e,rfl⟩
  ·rename_i e;exact .inr ⟨e,o⟩
 have f: ∀r v,(τ i).to r=some v->((τ i).reach p y).to r=some v:=by
  intro r v h;have:r≠p:=λe=>by rw[e,B] at h;cases h
  show (if r=p then some y else (τ i).to r)=some v;rw[if_neg this];exact h
 refine⟨?_,?_,?_,c.up.afT oq⟩
 ·rw[bU]
  refine⟨?_,List.mem_append_left _ L.base,f _ _ L.one,λr=>?_,λr v h=>?_,λr v h=>?_,λr v h=>?_,λr v h=>?_,L.gP,L.gF,L.gN,L.le,λr U=>?_⟩
  ·show ((τ i).orb++ [p]).Nodup
   rw[List.nodup_append];exact⟨L.nd,by simp,λa O b K=>by simp at K;subst K;exact λe=>m (e▸O)⟩
  ·show r∈(τ i).orb++ [p]↔(if r=p then some y else (τ i).to r).isSome
   by_cases e:r=p
   ·subst e;simp
   ·rw[if_neg e,←L.iff r];simp [e]
  ·rcases d r v h with ⟨_,rfl⟩|⟨_,h⟩
   ·exact Y
   ·exact L.cU r v h
  ·rcases d r v h with ⟨_,rfl⟩|⟨_,h⟩
   ·exact F
   ·exact L.fix r v h
  ·rcases d r v h with ⟨rfl,rfl⟩|⟨_,h⟩
   ·exact W
   ·exact L.maps r v h
  ·rcases d r v h with ⟨_,rfl⟩|⟨_,h⟩
   ·exact P
   ·exact L.gen r v h
  ·exact L.zero r λh=>U (List.mem_append_left _ h)
 ·intro r v J j t A G
  rw[bU] at J A G ⊢;simp only[acV (Nat.lt_succ_self i)];rcases d r v J with ⟨rfl,rfl⟩|⟨_,h⟩
  ·have hz:(τ i).tr r=0:=L.zero r m
   have Q:j<(τ i).tr r:=A;omega
  ·obtain⟨a,Z,N⟩:=c.cl r v h j t A G
   exact⟨a,f _ _ Z,N⟩
 ·intro R g l
  rw[dZ τ _ oq] at l;rw[bU];exact c.dn R g l
theorem CI.found (c:CI n i τ)(hi:i<n){p:Nat}(b:(τ i).to q=some y)(t:(τ i).tr q=k)(l:(τ i).gens[k]? =some s)(r:(aX y s).getD i 0=p)(m:(τ i).to p=none):
  CI n i (vI τ i (((τ i).tick q).reach p (aX y s))):=by
 have L:=c.jX
 have a:s∈(τ i).gens:=List.mem_of_getElem? l
 have Y:=L.cU q y b
 have g:=L.gP s a
 have o:=c.reach hi m (Y.mul g) (Fix.mul Y oq (L.fix q y b) (L.gF s a)) r ((L.gen q y b).mul a)
 have f:q≠p:=λe=>by rw[e,m] at b;cases b
 have d:(vI τ i ((τ i).reach p (aX y s)) i).to p=some (aX y s):=by
  rw[bU];show (if p=p then some (aX y s) else (τ i).to p)=_;rw[if_pos rfl]
 have A:S n (vI τ i ((τ i).reach p (aX y s))) (i+1) (aX (aX y s) (dA (aX y s))):=by
  rw[fC (Y.mul g)];exact (o.up.dN oq).one
 have v:=o.tick (q:=q) (k:=k) (y:=y) (s:=s) (u:=aX y s) (by
  rw[bU];show (if q=p then some (aX y s) else (τ i).to q)=_
  rw[if_neg f];exact b) (by rw[bU];exact t) (by rw[bU];exact l) (by rw[r];exact d) A
 have e:vI (vI τ i ((τ i).reach p (aX y s))) i ((vI τ i ((τ i).reach p (aX y s)) i).tick q)=vI τ i (((τ i).tick q).reach p (aX y s)):=by
  funext j
  by_cases h:j=i
  ·subst h;rw[bU,bU,bU];rfl
  ·rw[dZ _ _ h,dZ _ _ h,dZ _ _ h]
 rwa [e] at v
structure Iw (n i:Nat)(x:List Nat)(τ τ':pM):Prop where
 low: ∀j,j<i->τ' j=τ j
 tw:pI n i τ'
 old: ∀s∈(τ i).gens,s∈(τ' i).gens
 new: ∀s∈(τ' i).gens,bX n (λg=>g∈(τ i).gens∨g=x) s
 has:bX n (· ∈(τ' i).gens) x
theorem Iw.S (a:Iw n i x τ τ')(t:pI n i τ)(hi:i<n)(h:Go.Pm.S n τ i z):Go.Pm.S n τ' i z:=
 (a.tw.gen hi).2 (((t.gen hi).1 h).mono a.old)
theorem CI.added (c:CI n i τ)(d:i+1<n)(a:Iw n (i+1) z τ τ')(o:bX n (· ∈(τ i).gens) z):CI n i τ'/\Go.Pm.S n τ' (i+1) z:=by
 have e:=a.low i oq;refine⟨⟨e▸c.jX,λq y f k s m l=>?_,λh g b=>?_,a.tw⟩,(a.tw.gen d).2 a.has⟩
 ·rw[e] at f m l ⊢
  obtain⟨u,r,p⟩:=c.cl q y f k s m l;exact⟨u,r,a.S c.up d p⟩
 ·rw[e]
  refine (a.new g b).le (bX.dN c.jX.gP) λg b=>?_
  rcases b with b|rfl
  ·exact c.dn d g b
  ·exact o
def Zc (n:Nat)(τ:pM):Nat->Nat->List Nat->Nat×List Nat
 |0,i,x=>(i,x)
 |d+1,i,x=>match (τ i).to (x.getD i 0) with
  |none=>(i,x)
  |some y=>Zc n τ d (i+1) (if x.getD i 0=i then x else aX x (dA y))
structure SfP (n i:Nat)(τ:pM)(x:List Nat)(k:Nat)(r:List Nat):Prop where
 ge:i<=k
 le:k<=n
 cU:bE n r
 fix:Fix k r
 out:k<n->(τ k).to (r.getD k 0)=none
 rest:i<n-> ∃w,bX n (· ∈(τ i).gens) w/\x=aX r w
theorem TR: ∀(d i:Nat) (x:List Nat),i+d=n->pI n i τ->bE n x->Fix i x->SfP n i τ x (Zc n τ d i x).1 (Zc n τ d i x).2
 |0,i,x,h,_,X,F=>⟨Nat.le_refl _,by show i<=n;omega,X,F,λb=>by have:i<n:=b;omega,λb=>oq⟩
 |d+1,i,x,h,t,X,F=>by
  have hi:i<n:=oq
  obtain⟨L,C,A,D⟩:=t i (Nat.le_refl _) hi;unfold Zc
  cases e:(τ i).to (x.getD i 0) with
  |none=>exact⟨Nat.le_refl _,by show i<=n;omega,X,F,λ_=>e,λ_=>⟨bL n,.one,(bZ X).symm⟩⟩
  |some y=>
   simp only;have Y:=L.cU _ y e
   have l: ∀f,f=(if x.getD i 0=i then x else aX x (dA y))->bE n f/\Fix (i+1) f/\x=aX f y:=by
    intro f b
    by_cases g:x.getD i 0=i
    ·rw[if_pos g] at b
     subst b;rw[g,L.one] at e;cases e;exact⟨X,F.succ g,(bZ X).symm⟩
    ·rw[if_neg g] at b
     subst b;refine⟨X.mul Y.inv,(Fix.mul X oq F (Fix.inv Y oq (L.fix _ y e))).succ ?_,by rw[aV X Y.inv Y,iE Y,bZ X]⟩;rw[cM (by rw[X.len];exact hi)];have:=vM Y hi;rwa [L.maps _ y e] at this
   obtain⟨o,F2,ex⟩:=l _ rfl;have a:=TR d (i+1) _ oq (t.mono oq) o F2;refine⟨by have:=a.ge;omega,a.le,a.cU,a.fix,a.out,λ_=>?_⟩
   by_cases m:i+1<n
   ·obtain⟨w,v,r⟩:=a.rest m
    have c:bX n (· ∈(τ i).gens) w:=v.le (bX.dN L.gP) (D m);refine⟨aX w y,c.app L.gP (L.gen _ y e),?_⟩;rw[←aV a.cU (c.cU L.gP) Y,←r];exact ex
   ·have p:d=0:=oq
    subst p;exact⟨y,L.gen _ y e,ex⟩
theorem SfP.in (f:SfP n i τ x n w)(t:pI n i τ)(hi:i<n):S n τ i x:=by
 obtain⟨v,a,e⟩:=f.rest hi;have:=f.fix.all f.cU;rw[this,eP (a.cU (t i (Nat.le_refl _) hi).1.gP)] at e;subst e;exact (t.gen hi).2 a
theorem SfP.ahM (f:SfP n i τ x k w)(t:pI n i τ)(b:k<n)(c:i<=j)(h2:j<=k): ¬S n τ j w:=by
 intro h;have e:=t.mono c;have d:=(e.Xo h2 oq).2 ⟨h,f.fix⟩;obtain⟨y,a,_⟩:=(t.mono f.ge).sift b d;rw[f.out b] at a;cases a
def push (τ:pM)(i k:Nat)(r:List Nat):pM:=λj=>if i<=j/\j<=k then (τ j).more r else τ j
theorem HC (τ:pM){i:Nat}(r:List Nat)(a:i<=j)(h2:j<=k):push τ i k r j=(τ j).more r:=by simp [push,a,h2]
theorem Mc (τ:pM){i:Nat}(r:List Nat)(h:j<i∨k<j):push τ i k r j=τ j:=by
 unfold push;rw[if_neg oq]
structure Nu (n i k:Nat)(r:List Nat)(τ τ':pM)(j:Nat):Prop where
 low: ∀m,m<j->τ' m=push τ i k r m
 tw:pI n j τ'
 gens:j<=k->(τ' j).gens=(τ j).gens++ [r]
 same:k<j->τ' j=τ j
theorem Nu.start (f:SfP n i τ x k w)(t:pI n i τ)(_:k<n):Nu n i k w τ (push τ i k w) (k+1):=
 ⟨λ_ _=>rfl,(t.mono (by have:=f.ge;omega)).congr λj a _=>(Mc τ w (.inr oq)).symm,λh=>oq,λ_=>Mc τ w (.inr oq)⟩
theorem Nu.ci (f:SfP n i τ x k w)(t:pI n i τ)(Y:k<n)(a:Nu n i k w τ τ' (j+1))(B:i<=j)(h2:j<=k):CI n j τ':=by
 have O:j<n:=oq
 obtain⟨L,C,Fu,D⟩:=t j B O;have e:τ' j=(τ j).more w:=(a.low j oq).trans (HC τ w B h2);have tj:=t.mono B;have J:w∉(τ j).gens:=λhw=>f.ahM t Y B h2 ((tj.gen O).2 (bX.of L.gP hw))
 have K: ∀z,S n τ (j+1) z->S n τ' (j+1) z:=by
  intro z G
  by_cases A:j+1<n
  ·have F:=t.mono (show i<=j+1 by omega)
   refine (a.tw.gen A).2 (((F.gen A).1 G).mono λg c=>?_)
   by_cases o:j+1<=k
   ·rw[a.gens o];exact List.mem_append_left _ c
   ·rw[a.same oq];exact c
  ·obtain rfl:j+1=n:=oq
   rw[vB] at G ⊢;exact G
 have l: ∀g,g∈(τ j).gens->g∈(τ j).gens++ [w]:=λg c=>List.mem_append_left _ c
 have r: ∀g,g∈(τ j).gens++ [w]->bE n g:=λg c=>by
  rcases List.mem_append.1 c with c|c
  ·exact L.gP g c
  ·simp at c;subst c;exact f.cU
 refine⟨?_,λq y P m s Q d=>?_,λA s d=>?_,a.tw⟩
 ·rw[e]
  refine⟨L.nd,L.base,L.one,L.iff,L.cU,L.fix,L.maps,λp y h=>(L.gen p y h).mono l,r,λg c=>?_,?_,λq=>?_,L.zero⟩
  ·rcases List.mem_append.1 c with c|c
   ·exact L.gF g c
   ·simp at c;subst c;exact f.fix.mono h2
  ·show ((τ j).gens++ [w]).Nodup
   rw[List.nodup_append];exact⟨L.gN,by simp,λa W b R=>by simp at R;subst R;exact λe=>J (e▸W)⟩
  ·show (τ j).tr q<=((τ j).gens++ [w]).length
   have:=L.le q;simp;omega
 ·rw[e] at P Q d ⊢
  have N:m<(τ j).tr q:=Q;have v:((τ j).gens++ [w])[m]? =some s:=d;rw[List.getElem?_append_left (by have:=L.le q;omega)] at v;obtain⟨u,U,Z⟩:=C q y P m s N v;exact⟨u,U,K _ Z⟩
 ·rw[e]
  show bX n (· ∈(τ j).gens++ [w]) s
  by_cases o:j+1<=k
  ·rw[a.gens o] at d
   rcases List.mem_append.1 d with d|d
   ·exact (D A s d).mono l
   ·simp at d;subst d
    exact bX.of r (List.mem_append_right _ (by simp))
  ·rw[a.same oq] at d
   exact (D A s d).mono l
theorem Nu.next {b:pM}(a:Nu n i k w τ τ' (j+1))(c:i<=j)(h2:j<=k)(low: ∀m,m<j->b m=τ' m)(g:(b j).gens=(τ' j).gens)(t:pI n j b):Nu n i k w τ b j:=
 ⟨λm d=>(low m d).trans (a.low m oq),t,λ_=>by rw[g,a.low j oq,HC τ w c h2];rfl,λh=>oq⟩
theorem Nu.done (f:SfP n i τ x k w)(t:pI n i τ)(X:bE n x)(p:k<n)(a:Nu n i k w τ τ' i):Iw n i x τ τ':=by
 have hi:i<n:=by have:=f.ge;omega
 have L:=(t i (Nat.le_refl _) hi).1;have c:=a.gens f.ge;obtain⟨v,l,e⟩:=f.rest hi;have V:=l.cU L.gP;refine⟨λj m=>(a.low j m).trans (Mc τ w (.inl m)),a.tw,λs d=>?_,λs d=>?_,?_⟩
 ·rw[c];exact List.mem_append_left _ d
 ·have b: ∀g,(g∈(τ i).gens∨g=x)->bE n g:=λg c=>by
   rcases c with c|rfl
   ·exact L.gP g c
   ·exact X
  rw[c] at d;rcases List.mem_append.1 d with d|d
  ·exact bX.of b (.inl d)
  ·simp at d;subst d
   have o:s=aX x (dA v):=by rw[e,aV f.cU V V.inv,fC V,bZ f.cU]
   rw[o];exact (bX.of b (.inr rfl)).app b ((l.mono λg c=>Or.inl c).inv b)
 ·have b: ∀g,g∈(τ' i).gens->bE n g:=(a.tw i (Nat.le_refl _) hi).1.gP
  rw[e];exact (bX.of b (by rw[c];exact List.mem_append_right _ (by simp))).app b (l.mono λg h=>by rw[c];exact List.mem_append_left _ h)
theorem Iw.none (t:pI n i τ)(hi:i<n)(h:Go.Pm.S n τ i x):Iw n i x τ τ:=by
 have L:=(t i (Nat.le_refl _) hi).1
 have c: ∀g,(g∈(τ i).gens∨g=x)->bE n g:=λg a=>by
  rcases a with a|rfl
  ·exact L.gP g a
  ·exact t.cU oq h
 exact⟨λ_ _=>rfl,t,λ_ b=>b,λs b=>bX.of c (.inl b),(t.gen hi).1 h⟩
theorem TE.many {l:Lv}(L:TE n j l):l.gens.length<=n^n:=Be L.gN L.gP
def PX (n:Nat):pM:=λj=>⟨[], [j],λp=>if p=j then some (bL n) else none,λ_=>0⟩
theorem PI (n:Nat):pI n 0 (PX n):=λj _ f=>by
 refine⟨⟨by simp [PX],by simp [PX],by simp [PX],λp=>?_,λp y h=>?_,λp y h=>?_,λp y h=>?_,λp y h=>?_,λs b=>?_,λs b=>?_,by simp [PX],λq=>Nat.le_refl _,λ_ _=>rfl⟩,λq y g k s d=>?_,λq _=>rfl,λ_ s b=>?_⟩
 ·show p∈ [j]↔(if p=j then some (bL n) else none).isSome
  by_cases e:p=j<;>simp [e]
 all_goals first
  |(have a:(if p=j then some (bL n) else none)=some y:=h
    split at a
    ·rename_i e
     cases a
     first
      |exact bE.one n
      |exact Fix.one n j oq
      |(rw[e];exact fQ f)
      |exact .one
    ·cases a)
  |(cases b;done)
  |(have c:k<0:=d;omega)
end
end
end Go.Pm
namespace Go.Proofs.YtcdbmkidaecdiaaGreat
open Go Go.Ay Go.Pm
set_option maxRecDepth 100000
def Slot (W:Nat->Prop)(h:H)(v:V):Option (List Nat)->Prop
 |none=>v= .aE
 |some y=>PV W h v y
def uA (F:Nat->V)(s:Nat):V:=F (s/2*194+s%2)
def WT (n L:Nat)(F:Nat->V)(id:Nat):Prop:=id=L∨ ∃s,s<2*n/\ ∃off len c,uA F s= .sl id off len c
structure rX (h:H)(n tid L:Nat)(F:Nat->V)(τ:pM):Prop where
 t:h.get tid=some (.cells false [aC n,.sl L 0 n (.kn n)])
 l:h.get L=some (.cells false (rc (n*194) F))
 tn:tid<h.next
 ln:L<h.next
 tw: ¬WT n L F tid
 to: ∀j p,j<n->p<64->Slot (WT n L F) h (F (j*194+2+p)) ((τ j).to p)
 iv: ∀j p,j<n->p<64->Slot (WT n L F) h (F (j*194+66+p)) (((τ j).to p).map dA)
 tr: ∀j p,j<n->p<64->F (j*194+130+p)= aC ((τ j).tr p:Nat)
 gens: ∀j,j<n-> ∃vs,cY h (F (j*194)) 1 vs 0/\fW (WT n L F) h vs (τ j).gens
 orb: ∀j,j<n->cY h (F (j*194+1)) 1 (ints (zi (τ j).orb)) 0
 IQ: ∀s s',s<2*n->s'<2*n->s≠s'->Dis (uA F s) (uA F s')
 ap: ∀s,s<2*n->dL (uA F s) L
section
variable {h h':H} {n tid L:Nat} {F:Nat->V} {τ:pM}
theorem Slot.fx {W:Nat->Prop}{v:V}{o:Option (List Nat)}(s:Slot W h v o)(f:Fx W h h'):Slot W h' v o:=by
 cases o with
 |none=>exact s
 |some y=>exact PV.fx s f
theorem Slot.lH {W W':Nat->Prop}{v:V}{o:Option (List Nat)}(s:Slot W h v o)(a: ∀id,id<h.next->W' id->W id):Slot W' h v o:=by
 cases o with
 |none=>exact s
 |some y=>exact PV.lH s a
theorem Hr (F:Nat->V)(j:Nat):uA F (2*j)=F (j*194):=by
 unfold uA;congr 1;omega
theorem Jw (F:Nat->V)(j:Nat):uA F (2*j+1)=F (j*194+1):=by
 unfold uA;congr 1;omega
theorem rX.own (R:rX h n tid L F τ){s:Nat}(c:s<2*n): ∃ws,cY h (uA F s) 1 ws 0:=by
 rcases Nat.mod_two_eq_zero_or_one s with e|e
 ·obtain⟨b,a,_⟩:=R.gens (s/2) om
  exact⟨b,by unfold uA;rw[e];exact a⟩
 ·exact⟨_,by unfold uA;rw[e];exact R.orb (s/2) om⟩
theorem rX.Nw (R:rX h n tid L F τ){id:Nat}(b:WT n L F id):id<h.next:=by
 rcases b with rfl|⟨s,a,d,len,c,e⟩
 ·exact R.ln
 ·obtain⟨f,o⟩:=R.own a
  exact (o.in _ _ _ _ e).1
theorem rX.mono (R:rX h n tid L F τ)(f:Fr h h'):rX h' n tid L F τ:=by
 refine⟨by rw[f.get _ R.tn];exact R.t,by rw[f.get _ R.ln];exact R.l,iW R.tn f.next,iW R.ln f.next,R.tw,
  λj p a b=>(R.to j p a b).fx (Fx.of f),λj p a b=>(R.iv j p a b).fx (Fx.of f),R.tr,λj c=>?_,λj c=>(R.orb j c).fr f,R.IQ,R.ap⟩
 obtain⟨d,a,b⟩:=R.gens j c;exact⟨d,a.fr f,b.fx (Fx.of f)⟩
theorem rX.cell (R:rX h n tid L F τ){j c:Nat}(a:j<n)(b:c<194):h.cell L (j*194+c)=some (F (j*194+c)):=
 sL R.l (by
         have:(j+1)*194<=n*194:=Nat.mul_le_mul_right _ a
         omega)
theorem rX.Sh (R:rX h n tid L F τ){j c p:Nat}(b:j<n)(a:c+p<194):h.cell L (j*194+c+p)=some (F (j*194+c+p)):=by
 rw[Nat.add_assoc];exact R.cell b a
end
theorem PE {n:Nat}{τ:pM}{d i:Nat}{x:List Nat}(h:(τ i).to (x.getD i 0)=none):Zc n τ (d+1) i x=(i,x):=by
 rw[Zc,h]
theorem RH {n:Nat}{τ:pM}{d i:Nat}{x z:List Nat}(h:(τ i).to (x.getD i 0)=some z):Zc n τ (d+1) i x=Zc n τ d (i+1) (if x.getD i 0=i then x else aX x (dA z)):=by
 rw[Zc,h]
theorem aaD (h:H)(n tid L:Nat)(F:Nat->V)(τ:pM)(vx:V)(x:List Nat)(a:Nat)(hn:n<=64)(h0:0<n)(R:rX h n tid L F τ)(hx:PV (WT n L F) h vx x)(X:bE n x)(a2:a<=n)(t:pI n a τ):
  Ev T 229 [.ptr tid 0,vx,aC a] h (λv h'=> ∃vr,v= .tup [aC (((Zc n τ (n-a) a x).1:Nat):Int),vr]/\PV (WT n L F) h' vr (Zc n τ (n-a) a x).2/\bE n (Zc n τ (n-a) a x).2/\Fr h h'):=by
 refine cV tH rfl ?_
 simp(disch:=omega)only[go_sem,tH,aD]
 refine aH (λk' m hh=> ∃(i:Nat) (y:List Nat) (q:V),(∃g:Nat->V,m= [.ptr tid 0,q,g 2,g 3,g 4,aC i,g 6,g 7,g 8,g 9])/\a<=i/\i<=n/\Zc n τ (n-i) i y=Zc n τ (n-a) a x/\
   PV (WT n L F) hh q y/\bE n y/\Fr h hh/\k'=n-i) (n-a)
  ⟨a,x,vx,aB rfl,fM _,a2,rfl,hx,X,Fr.refl h,rfl⟩ ?_
 rintro k' m d ⟨i,y,q,⟨g,rfl⟩,P,a4,e,s,Y,f,rfl⟩
 have J:=R.mono f
 have ct:d.cell tid 0=some (aC n):=by rw[H.aF J.t];rfl
 have Q:d.cell tid 1=some (.sl L 0 n (.kn n)):=by rw[H.aF J.t];rfl
 simp(disch:=omega)only[go_sem,ct,Q]
 by_cases B:(i:Int)<(n:Int)
 ·have b:i<n:=om
  rw[bP B]
  obtain⟨id,a3,G,K,hc⟩:=s.si.open
  rw[aQ,Y.len] at G K hc
  have ci:d.cell id (a3+i)=some (aC (y.getD i 0:Nat)):=by rw[hc i b];congr 2;simp [zi,Y.len,b]
  have r:=Y.iN b
  have lv:=(t i P b).1
  generalize O:y.getD i 0=k at ci r
  have cb:=J.Sh (c:=66) (p:=k) b om
  have A:=J.iv i k b om
  simp(disch:=omega)only[go_sem,ct,Q,G.ixa,ci,cb]
  generalize F (i*194+66+k)=W at A cb
  have o:n-i=(n-(i+1))+1:=om
  rw[o] at e
  cases hto:(τ i).to k with
  |none=>
   rw[hto] at A;rw[PE (by rw[O];exact hto)] at e;have l:W= .aE:=A;subst l;simp(disch:=omega)only[go_sem];rw[←e];exact⟨q,rfl,s.fx (Fx.of ((Fr.refl d).bA om)),Y,f.bA om⟩
  |some z=>
   rw[hto] at A;rw[RH (by rw[O];exact hto),O] at e;have Z:=lv.cU _ _ hto;have l:PV (WT n L F) d W (dA z):=A;have sn:=Hv l (bE.ne h0 Z.inv) false;have w:Fr d (H.mk d.tr (d.next+14)):=(Fr.refl d).bA om
   by_cases u:k=i
   ·have U:decide ((k:Int)≠(i:Int))=false:=bH om
    rw[bF u] at e;simp(disch:=omega)only[go_sem,sn,G.ixa,ci,U];rw[eJ i];exact⟨n-(i+1),om,i+1,y,q,aB rfl,om,om,e,s.fx (Fx.of w),Y,f.trans w,rfl⟩
   ·have U:decide ((k:Int)≠(i:Int))=true:=bP om
    rw[bI u] at e;simp(disch:=omega)only[go_sem,sn,G.ixa,ci,U];have a0:=s.fx (Fx.of w);have a1:=l.fx (Fx.of w);have f':=f.trans w;generalize H.mk d.tr (d.next+14)=h3 at*;refine (mY oF.ok q W y (dA z) h3 (by rw[Y.len];omega) a0.si a1.si (λj hj=>by rw[jQ,Z.len];exact Y.iN (by rw[←Y.len];exact hj))).mono ?_;rintro v h4 nw;have f4:=f'.trans nw.fr;simp(disch:=omega)only[go_sem];rw[eJ i];refine⟨n-(i+1),om,i+1,_,v,aB rfl,om,om,e,nw.pv (λhw=>?_),Y.mul Z.inv,f4,rfl⟩;have:=R.Nw hw;have:=f'.next;omega
 ·rw[bH B]
  obtain rfl:i=n:=om
  simp(disch:=omega)only[go_sem,ct,Q]
  rw[Nat.sub_self] at e
  have N:Zc i τ (i-a) a x=(i,y):=e.symm
  rw[N]
  exact⟨q,rfl,s,Y,f⟩
section
variable {h h' h2:H} {n tid L i:Nat} {F F':Nat->V} {τ τ':pM}
theorem PC (b: ∀s,s<2*n->uA F' s=uA F s)(id:Nat):WT n L F' id↔WT n L F id:=by
 unfold WT;constructor
 ·rintro (e|⟨s,a,h2⟩)
  ·exact .inl e
  ·exact .inr ⟨s,a,by rw[←b s a];exact h2⟩
 ·rintro (e|⟨s,a,h2⟩)
  ·exact .inl e
  ·exact .inr ⟨s,a,by rw[b s a];exact h2⟩
theorem QK {j:Nat}(P: ∀s,s<2*n->uA F' s=uA F s)(a:j<n):F' (j*194)=F (j*194)/\F' (j*194+1)=F (j*194+1):=
 ⟨(Hr F' j).symm.trans ((P _ om).trans (Hr F j)),(Jw F' j).symm.trans ((P _ om).trans (Jw F j))⟩
theorem PV.go {W W':Nat->Prop}{v:V}{l:List Nat}(p:PV W h v l)(f:Fx W h h')(a: ∀id,id<h.next->W' id->W id):PV W' h' v l:=⟨p.si.fx p.off f,p.off.lH p.si a⟩
theorem Slot.go {W W':Nat->Prop}{v:V}{o:Option (List Nat)}(s:Slot W h v o)(f:Fx W h h')(a: ∀id,id<h.next->W' id->W id):Slot W' h' v o:=by
 cases o with
 |none=>exact s
 |some y=>exact PV.go s f a
theorem fW.go {W W':Nat->Prop}{vs:List V}{ls:LN}(s:fW W h vs ls)(f:Fx W h h')(a: ∀id,id<h.next->W' id->W id):fW W' h' vs ls:=s.mono λ_ _ x=>PV.go x f a
theorem rX.cells (R:rX h n tid L F τ)(l:h.next<=h'.next)(w: ∀id,id≠L->id<h.next->h'.get id=h.get id)(G:h'.get L=some (.cells false (rc (n*194) F')))
  (g: ∀s,s<2*n->uA F' s=uA F s) (v: ∀j,j<n->(τ' j).gens=(τ j).gens/\(τ' j).orb=(τ j).orb)
  (q: ∀j p,j<n->p<64->Slot (WT n L F) h' (F' (j*194+2+p)) ((τ' j).to p)) (r: ∀j p,j<n->p<64->Slot (WT n L F) h' (F' (j*194+66+p)) (((τ' j).to p).map dA))
  (u: ∀j p,j<n->p<64->F' (j*194+130+p)= aC ((τ' j).tr p:Nat)):rX h' n tid L F' τ'/\Fx (WT n L F) h h'/\ ∀id,WT n L F' id↔WT n L F id:=by
 have f:Fx (WT n L F) h h':=⟨l,λid b h2=>w id (λe=>h2 (.inl e)) b⟩
 have y:=PC (L:=L) g
 have o:WT n L F'=WT n L F:=funext λid=>propext (y id)
 have x: ∀s,s<2*n-> ∀id a len c,uA F s= .sl id a len c->id<h.next->h'.get id=h.get id:=λs b id a len c e h2=>w id (λB=>(R.ap s b _ _ _ _ e) B.symm) h2
 refine⟨⟨?_,G,iW R.tn l,iW R.ln l,by rw[o];exact R.tw,by rw[o];exact q,by rw[o];exact r,u,λj d=>?_,λj d=>?_,λs z b h2 k=>by rw[g s b,g z h2];exact R.IQ s z b h2 k,λs b=>by rw[g s b];exact R.ap s b⟩,f,y⟩
 ·rw[f.get tid R.tn R.tw];exact R.t
 ·obtain⟨A,b,h2⟩:=R.gens j d
  rw[(QK g d).1,o,(v j d).1]
  exact⟨A,b.zA l λid a m c e k=>x (2*j) om id a m c (by rw[Hr];exact e) k,h2.fx f⟩
 ·rw[(QK g d).2,(v j d).2]
  exact (R.orb j d).zA l λid a m c e k=>x (2*j+1) om id a m c (by rw[Jw];exact e) k
structure aiH (h h':H)(n tid L:Nat)(F F':Nat->V)(s0:Nat):Prop where
 fx:Fx (WT n L F) h h'
 wt: ∀id,id<h.next->WT n L F' id->WT n L F id
 IQ: ∀s s',s<2*n->s'<2*n->s≠s'->Dis (uA F' s) (uA F' s')
 ap: ∀s,s<2*n->dL (uA F' s) L
 own: ∀s,s<2*n->s≠s0->uA F' s=uA F s/\ ∀ws,cY h (uA F s) 1 ws 0->cY h' (uA F s) 1 ws 0
theorem rX.aiD (R:rX h n tid L F τ){s0 x m:Nat}(y:s0<2*n){ws us:List V}(p:uL h (uA F s0) x m 1 ws us h2)(g: ∀s,s<2*n->s≠s0->uA F' s=uA F s){N:lI}(f:uA F' s0= .sl h.next 0 (x+m) N)(o:Option Ob):
  aiH h (h2.set L o) n tid L F F' s0:=by
 have j: ∀s,s<2*n-> ∀id a len c,uA F s= .sl id a len c->id<h.next:=λs r id a len c e=>by
  obtain⟨ws,o⟩:=R.own r;exact (o.in _ _ _ _ e).1
 have B:Fx (WT n L F) h h2:=p.fx λid a len c e=> .inr ⟨s0,y,a,len,c,e⟩
 refine⟨B.trans (Fx.set h2 (.inl rfl:WT n L F L) o) (λ_ _ h=>h),λid d O=>?_,λs l d h2 q=>?_,λs d=>?_,λs d q=>⟨g s d q,λws A=>?_⟩⟩
 ·rcases O with e|⟨s,r,a,len,c,e⟩
  ·exact .inl e
  ·by_cases b:s=s0
   ·rw[b,f] at e;cases e;omega
   ·exact .inr ⟨s,r,a,len,c,by rw[←g s r b];exact e⟩
 ·by_cases b:s=s0
  ·rw[b,f,g l h2 om]
   intro i o n c e J K t v k
   cases e
   have:=j l h2 _ _ _ _ k
   omega
  ·rw[g s d b]
   by_cases u:l=s0
   ·rw[u,f]
    intro i o n c e J K t v k
    cases k
    have:=j s d _ _ _ _ e
    omega
   ·rw[g l h2 u];exact R.IQ s l d h2 q
 ·by_cases b:s=s0
  ·rw[b,f]
   exact dL.sl (by have:=R.ln;omega)
  ·rw[g s d b];exact R.ap s d
 ·refine A.zA (show h.next<=h2.next by rw[p.next];omega) λid a m c e z=>?_
  rw[H.aG h2 (λb:id=L=>(R.ap s d _ _ _ _ e) b.symm)]
  refine p.old id om λG w t v k b=>?_
  exact R.IQ s s0 d y q _ _ _ _ e _ _ _ _ k b
def F1 (F:Nat->V)(k:Nat)(v:V):Nat->V:=λc=>if c=k then v else F c
theorem rX.slot (R:rX h n tid L F τ){e g m:Nat}(hi:i<n)(U:e<2){ws us:List V}(p:uL h (F (i*194+e)) g m 1 ws us h2){h3:H}{v:V}{o:lI}(w:o= .un 1∨o= .kn (g+m))(z:v= .sl h.next 0 (g+m) o)(k:h3=h2.set L (some (.cells false (rc (n*194) (F1 F (i*194+e) v)))))
  (a: ∀j,j<n->(τ' j).to=(τ j).to/\(τ' j).tr=(τ j).tr)
  (J:Fx (WT n L F) h h3->(∀id,id<h.next->WT n L (F1 F (i*194+e) v) id->WT n L F id)->(∀s,s<2*n->s≠2*i+e-> ∀ws,cY h (uA F s) 1 ws 0->cY h3 (uA F s) 1 ws 0)->cY h3 v 1 (ws++us) 0->ws.length=g*1/\us.length=m*1->
   (∀j,j<n-> ∃vs,cY h3 (F1 F (i*194+e) v (j*194)) 1 vs 0/\fW (WT n L (F1 F (i*194+e) v)) h3 vs (τ' j).gens)/\ ∀j,j<n->cY h3 (F1 F (i*194+e) v (j*194+1)) 1 (ints (zi (τ' j).orb)) 0)
  (x:ws.length=g*1/\us.length=m*1):
  rX h3 n tid L (F1 F (i*194+e) v) τ'/\Fx (WT n L F) h h3/\ ∀id,id<h.next->WT n L (F1 F (i*194+e) v) id->WT n L F id:=by
 have y: ∀s,s<2*n->s≠2*i+e->uA (F1 F (i*194+e) v) s=uA F s:=λs d h2=>by
  unfold uA F1;rw[bI om]
 have f:(2*i+e)/2*194+(2*i+e)%2=i*194+e:=om
 have r:uA F (2*i+e)=F (i*194+e):=by unfold uA;rw[f]
 have u:uA (F1 F (i*194+e) v) (2*i+e)= .sl h.next 0 (g+m) o:=by unfold uA F1;rw[f,bF rfl,z]
 have G:=R.aiD (F':=F1 F (i*194+e) v) (s0:=2*i+e) om (by rw[r];exact p) y u (some (.cells false (rc (n*194) (F1 F (i*194+e) v))))
 rw[←k] at G
 obtain⟨A,B⟩:=J G.fx G.wt (λs d h2=>(G.own s d h2).2) (by
  rw[z,k];have N:cY h2 (.sl h.next 0 (g+m) o) 1 (ws++us) 0:= .inr ⟨h.next,g+m,o, [],rfl,by rw[jZ,x.1,x.2];omega,by rcases w with e|e;exact .inl e;exact .inr ⟨e,rfl⟩,iJ _,by rw[p.next];omega,by rw[vF];exact p.get⟩;refine N.zA (fM _) λid P m c e K=>?_
  cases e
  exact H.aG h2 (by have:=R.ln;omega) _) x
 have O: ∀j c,2<=c->c<194->F1 F (i*194+e) v (j*194+c)=F (j*194+c):=λj c d h2=>by
  unfold F1;rw[bI om]
 have l: ∀j b c,2<=b->b+c<194->F1 F (i*194+e) v (j*194+b+c)=F (j*194+b+c):=λj b c d h2=>by
  rw[Nat.add_assoc];exact O j (b+c) om h2
 have q:=G.fx.next
 refine⟨⟨?_,by rw[k,H.aS],iW R.tn q,iW R.ln q,λQ=>R.tw (G.wt _ R.tn Q),λj p d h2=>?_,λj p d h2=>?_,λj p d h2=>?_,A,B,G.IQ,G.ap⟩,G.fx,G.wt⟩
 ·rw[G.fx.get tid R.tn R.tw];exact R.t
 ·rw[l j 2 p om om,(a j d).1];exact (R.to j p d h2).go G.fx G.wt
 ·rw[l j 66 p om om,(a j d).1];exact (R.iv j p d h2).go G.fx G.wt
 ·rw[l j 130 p om om,(a j d).2];exact R.tr j p d h2
theorem rX.more (R:rX h n tid L F τ)(hi:i<n){vs:List V}{c:V}{r:List Nat}(pv:fW (WT n L F) h vs (τ i).gens)(l:PV (WT n L F) h c r)(p:uL h (F (i*194)) (τ i).gens.length 1 1 vs [c] h2){h3:H}{v:V}(q:v= .sl h.next 0 ((τ i).gens.length+1) (.un 1))(b:h3=h2.set L (some (.cells false (rc (n*194) (F1 F (i*194) v))))):
  rX h3 n tid L (F1 F (i*194) v) (vI τ i ((τ i).more r))/\Fx (WT n L F) h h3/\ ∀id,id<h.next->WT n L (F1 F (i*194) v) id->WT n L F id:=by
 refine R.slot (e:=0) hi om p (.inl rfl) q b (λj a=>?_) (λf d k m s=>⟨λj a=>?_,λj a=>?_⟩) ⟨by have:=aM.length pv;omega,rfl⟩
 ·by_cases e:j=i
  ·subst e;rw[bU];exact⟨rfl,rfl⟩
  ·rw[dZ _ _ e];exact⟨rfl,rfl⟩
 ·by_cases e:j=i
  ·subst e
   rw[bU]
   refine⟨vs++ [c],?_,(fW.go pv f d).append (fW.one (PV.go l f d))⟩
   unfold F1;rw[bF (Nat.add_zero _).symm];exact m
  ·rw[dZ _ _ e]
   obtain⟨g,o,h2⟩:=R.gens j a
   refine⟨g,?_,fW.go h2 f d⟩
   have:=k (2*j) om om g (by rw[Hr];exact o)
   rw[Hr] at this
   unfold F1;rw[bI om];exact this
 ·have:=k (2*j+1) om om _ (by rw[Jw];exact R.orb j a)
  rw[Jw] at this
  unfold F1;rw[bI om]
  by_cases e:j=i
  ·subst e;rw[bU];exact this
  ·rw[dZ _ _ e];exact this
theorem rX.UW (R:rX h n tid L F τ)(hi:i<n){q:Nat}(p:uL h (F (i*194+1)) (τ i).orb.length 1 1 (ints (zi (τ i).orb)) [aC q] h2){h3:H}{v:V}{c:lI}(d:c= .un 1∨c= .kn ((τ i).orb.length+1))(r:v= .sl h.next 0 ((τ i).orb.length+1) c)(b:h3=h2.set L (some (.cells false (rc (n*194) (F1 F (i*194+1) v))))):
  rX h3 n tid L (F1 F (i*194+1) v) (vI τ i {τ i with orb:=(τ i).orb++ [q]})/\Fx (WT n L F) h h3/\ ∀id,id<h.next->WT n L (F1 F (i*194+1) v) id->WT n L F id:=by
 refine R.slot (e:=1) hi om p d r b (λj a=>?_) (λf l k m t=>⟨λj a=>?_,λj a=>?_⟩) ⟨by rw[aP,aQ,uW],rfl⟩
 ·by_cases e:j=i
  ·subst e;rw[bU];exact⟨rfl,rfl⟩
  ·rw[dZ _ _ e];exact⟨rfl,rfl⟩
 ·obtain⟨g,o,h2⟩:=R.gens j a
  have:=k (2*j) om om g (by rw[Hr];exact o)
  rw[Hr] at this
  refine⟨g,?_,?_⟩
  ·unfold F1;rw[bI om];exact this
  ·by_cases e:j=i
   ·subst e;rw[bU];exact fW.go h2 f l
   ·rw[dZ _ _ e];exact fW.go h2 f l
 ·by_cases e:j=i
  ·subst e
   rw[bU]
   have s:ints (zi ((τ j).orb++ [q]))=ints (zi (τ j).orb)++ [aC q]:=by simp [zi,ints]
   show cY h3 _ 1 (ints (zi ((τ j).orb++ [q]))) 0
   rw[s]
   unfold F1;rw[bF rfl];exact m
  ·rw[dZ _ _ e]
   have:=k (2*j+1) om om _ (by rw[Jw];exact R.orb j a)
   rw[Jw] at this
   unfold F1;rw[bI om];exact this
theorem rX.tick (R:rX h n tid L F τ)(hi:i<n){q:Nat}(k:q<64){z:Int}(g:z=((τ i).tr q:Nat)+1){h3:H}(c:h3=h.set L (some (.cells false (rc (n*194) (F1 F (i*194+130+q) (aC z)))))):
  rX h3 n tid L (F1 F (i*194+130+q) (aC z)) (vI τ i ((τ i).tick q))/\Fx (WT n L F) h h3/\ ∀id,WT n L (F1 F (i*194+130+q) (aC z)) id↔WT n L F id:=by
 subst c
 have f:Fx (WT n L F) h (h.set L (some (.cells false (rc (n*194) (F1 F (i*194+130+q) (aC z)))))):=Fx.set h (.inl rfl) _
 have b: ∀j,(vI τ i ((τ i).tick q) j).to=(τ j).to/\(vI τ i ((τ i).tick q) j).gens=(τ j).gens/\(vI τ i ((τ i).tick q) j).orb=(τ j).orb:=λj=>by
  by_cases e:j=i
  ·subst e;rw[bU];exact⟨rfl,rfl,rfl⟩
  ·rw[dZ _ _ e];exact⟨rfl,rfl,rfl⟩
 refine R.cells (fM _) (λid a _=>H.aG h a _) (H.aS ..) (λs l=>?_) (λj _=>(b j).2) (λj p a h2=>?_) (λj p a h2=>?_) (λj p a h2=>?_)
 ·unfold uA F1;rw[bI om]
 ·rw[(b j).1]
  have:=(R.to j p a h2).fx f
  unfold F1;rw[bI om];exact this
 ·rw[(b j).1]
  have:=(R.iv j p a h2).fx f
  unfold F1;rw[bI om];exact this
 ·have:=R.tr j p a h2
  unfold F1
  by_cases e:j=i
  ·subst e
   rw[bU]
   show _=aC (if p=q then (τ j).tr q+1 else (τ j).tr p:Nat)
   by_cases d:p=q
   ·subst d;rw[bF rfl,bF rfl,g];rfl
   ·rw[bI om,bI d];exact this
  ·rw[bI om,dZ _ _ e];exact this
theorem rX.way (R:rX h n tid L F τ)(hi:i<n){q:Nat}(v:q<64){g d:V}{y:List Nat}(m:PV (WT n L F) h g y)(t:PV (WT n L F) h d (dA y)){h3:H}(l:h.next<=h3.next)(k: ∀id,id≠L->id<h.next->h3.get id=h.get id)
  (o:h3.get L=some (.cells false (rc (n*194) (F1 (F1 F (i*194+2+q) g) (i*194+66+q) d)))):
  rX h3 n tid L (F1 (F1 F (i*194+2+q) g) (i*194+66+q) d) (vI τ i {τ i with to:=λr=>if r=q then some y else (τ i).to r})/\Fx (WT n L F) h h3/\ ∀id,WT n L (F1 (F1 F (i*194+2+q) g) (i*194+66+q) d) id↔WT n L F id:=by
 have f:Fx (WT n L F) h h3:=⟨l,λid a h2=>k id (λe=>h2 (.inl e)) a⟩
 have b: ∀j,(vI τ i {τ i with to:=λr=>if r=q then some y else (τ i).to r} j).tr=(τ j).tr/\(vI τ i {τ i with to:=λr=>if r=q then some y else (τ i).to r} j).gens=(τ j).gens/\(vI τ i {τ i with to:=λr=>if r=q then some y else (τ i).to r} j).orb=(τ j).orb:=λj=>by
  by_cases e:j=i
  ·subst e;rw[bU];exact⟨rfl,rfl,rfl⟩
  ·rw[dZ _ _ e];exact⟨rfl,rfl,rfl⟩
 refine R.cells l k o (λs u=>?_) (λj _=>(b j).2) (λj p a h2=>?_) (λj p a h2=>?_) (λj p a h2=>?_)
 ·unfold uA F1;rw[bI om,bI om]
 ·have:=(R.to j p a h2).fx f
  unfold F1
  by_cases e:j=i
  ·subst e
   rw[bU]
   show Slot _ _ _ (if p=q then some y else (τ j).to p)
   by_cases c:p=q
   ·subst c;rw[bI om,bF rfl,bF rfl];exact PV.fx m f
   ·rw[bI om,bI om,bI c];exact this
  ·rw[bI om,bI om,dZ _ _ e];exact this
 ·have:=(R.iv j p a h2).fx f
  unfold F1
  by_cases e:j=i
  ·subst e
   rw[bU]
   show Slot _ _ _ ((if p=q then some y else (τ j).to p).map dA)
   by_cases c:p=q
   ·subst c;rw[bF rfl,bF rfl];exact PV.fx t f
   ·rw[bI om,bI om,bI c];exact this
  ·rw[bI om,bI om,dZ _ _ e];exact this
 ·rw[(b j).1]
  have:=R.tr j p a h2
  unfold F1;rw[bI om,bI om];exact this
end
theorem CK {l:List Nat}(nd:l.Nodup){k:Nat}(a:k<l.length):l.getD k 0∉l.take k:=by
 intro h;obtain⟨m,c,e⟩:=zF.1 h;have b:m<k:=by simp at c;omega
 rw[List.getElem_take,cJ a] at e;have d:=nd.idxOf_getElem m om;have f:=nd.idxOf_getElem k a;rw[e] at d;omega
theorem aeG {n i:Nat}{τ b:pM}{y s u z:List Nat}{q k:Nat}(c:CI n i τ)(F:i+1<n)(x:(τ i).to q=some y)(J:(τ i).tr q=k)(g:(τ i).gens[k]? =some s)(B:(τ i).to ((aX y s).getD i 0)=some u)
  (w:z=aX (aX y s) (dA u)) (a:Iw n (i+1) z (vI τ i ((τ i).tick q)) b):CI n i b/\b i=(τ i).tick q/\ ∀j,j<i->b j=τ j:=by
 have t:b i=(τ i).tick q:=(a.low i om).trans (bU ..)
 have f: ∀j,j<i->b j=τ j:=λj r=>(a.low j om).trans (dZ _ _ om)
 have G:Iw n (i+1) z τ (vI b i (τ i)):=by
  have A: ∀j,i<j->vI τ i ((τ i).tick q) j=τ j:=λj r=>dZ _ _ om
  have d: ∀j,i<j->vI b i (τ i) j=b j:=λj r=>dZ _ _ om
  refine⟨λj r=>?_,a.tw.congr λj L _=>(d j om).symm,λs g=>?_,λs g=>?_,?_⟩
  ·by_cases e:j=i
   ·subst e;exact bU ..
   ·rw[dZ _ _ e];exact f j om
  ·rw[d _ om];exact a.old s (by rw[A _ om];exact g)
  ·rw[d _ om] at g
   have:=a.new s g;rwa [A _ om] at this
  ·rw[d _ om];exact a.has
 have l:s∈(τ i).gens:=AW g
 obtain⟨_,_,p⟩:=c.Mu om x l B
 obtain⟨K,o⟩:=c.added F G (by rw[w];exact p)
 have m:vI b i (τ i) i=τ i:=bU ..
 have v:=K.tick (q:=q) (k:=k) (y:=y) (s:=s) (u:=u) (by rw[m];exact x) (by rw[m];exact J) (by rw[m];exact g) (by rw[m];exact B) (by rw[←w];exact o)
 have e:vI (vI b i (τ i)) i ((vI b i (τ i) i).tick q)=b:=by
  funext j
  by_cases h:j=i
  ·subst h;rw[bU,bU,t]
  ·rw[dZ _ _ h,dZ _ _ h]
 rw[e] at v
 exact⟨v,t,f⟩
theorem cY.lens {h:H}{v:V}{ws:List V}{b n:Nat}(o:cY h v 1 ws b)(a:ws.length=n):bT v=some (aC n):=by
 unfold bT;rw[o.sv.len (n:=n) om om];rfl
theorem EX {F:Nat->V}{k c:Nat}{v:V}(h:c≠k):F1 F k v c=F c:=bI h
theorem Jr {N k:Nat}{F:Nat->V}(b:k<N)(a:H)(L:Nat)(v:V):dX (some (.cells false (rc N F))) a L k [v]=some (a.set L (some (.cells false (rc N (F1 F k v))))):=by
 rw[bN (by rw[kH];exact b),mS];rfl
def XQ (h:H)(n tid L:Nat)(F:Nat->V)(τ:pM)(i:Nat)(x:List Nat):V->H->Prop:=λ_ h'=> ∃F' τ',rX h' n tid L F' τ'/\Iw n i x τ τ'/\Fx (WT n L F) h h'/\ ∀id,id<h.next->WT n L F' id->WT n L F id
def MB (h:H)(n tid L:Nat)(F:Nat->V)(τ:pM)(i:Nat):V->H->Prop:=λ_ h'=> ∃F' τ',rX h' n tid L F' τ'/\pI n i τ'/\(∀j,j<i->τ' j=τ j)/\(τ' i).gens=(τ i).gens/\Fx (WT n L F) h h'/\ ∀id,id<h.next->WT n L F' id->WT n L F id
def XH (n i:Nat):Prop:= ∀(h:H) (tid L:Nat) (F:Nat->V) (τ:pM) (vx:V) (x:List Nat),rX h n tid L F τ->PV (WT n L F) h vx x->bE n x->Fix i x->pI n i τ->Ev T 193 [.ptr tid 0,vx,aC i] h (XQ h n tid L F τ i x)
def Wa (n i:Nat):Prop:= ∀(h:H) (tid L:Nat) (F:Nat->V) (τ:pM),rX h n tid L F τ->CI n i τ->Ev T 230 [.ptr tid 0,aC i] h (MB h n tid L F τ i)
structure ClS (h:H)(n tid L:Nat)(F:Nat->V)(τ:pM)(i:Nat)(h':H)(F':Nat->V)(τ':pM)(k:Nat):Prop where
 R:rX h' n tid L F' τ'
 c:CI n i τ'
 hk:k<=(τ' i).orb.length
 done: ∀r∈(τ' i).orb.take k,(τ' i).tr r=(τ' i).gens.length
 low: ∀j,j<i->τ' j=τ j
 gens:(τ' i).gens=(τ i).gens
 fx:Fx (WT n L F) h h'
 wt: ∀id,id<h.next->WT n L F' id->WT n L F id
theorem YY {n j:Nat}{l:Lv}(V:TE n j l)(b:j<n):l.orb.length<=n:=by
 have:=List.Nodup.length_le_of_subset V.nd (l₂:=List.range n) λx a=>Gu.2 (V.lt b a)
 simpa using this
theorem Vp (n i:Nat)(hn:n<=7)(hi:i<n)(A:i+1<n->XH n (i+1)):Wa n i:=by
 intro h a0 L F τ R c;refine cV rT rfl ?_;have cl:h.cell a0 1=some (.sl L 0 n (.kn n)):=by rw[H.aF R.t];rfl
 simp(disch:=omega)only[go_sem,rT,aD,cl];refine aH (λm N hh=> ∃(k:Nat) (F':Nat->V) (a1:pM),(∃g:Nat->V,N= [.ptr a0 0,aC i,.ptr L (i*194),aC k,g 4,g 5,g 6,g 7,g 8,g 9,g 10,g 11])/\ClS h n a0 L F τ i hh F' a1 k/\m=n-k) n
  ⟨0,F,τ,aB rfl,⟨R,c,iJ _,λr d=>by simp at d,λ_ _=>rfl,rfl,Fx.refl _ h,λ_ _ h=>h⟩,rfl⟩ ?_
 rintro m N x ⟨k,a5,o,⟨g,rfl⟩,S,rfl⟩;have co:x.cell L (i*194+1)=some (a5 (i*194+1)):=S.R.cell hi om;have oo:=S.R.orb i hi;have lo:=cY.lens oo (by rw[aP,aQ]);have d3:=YY S.c.jX hi;simp(disch:=omega)only[go_sem,co,lo]
 by_cases a2:(k:Int)<((o i).orb.length:Int)
 case neg=>
  rw[bH a2];simp(disch:=omega)only[go_sem];refine⟨a5,o,S.R,S.c.full λq hq=>S.done q ?_,S.low,S.gens,S.fx,S.wt⟩;rw[Tn om];exact hq
 rw[bP a2];have b:k<(o i).orb.length:=om
 obtain⟨id,e4,sh,d1,hc⟩:=(show SI x (a5 (i*194+1)) (zi (o i).orb) from oo.sv).open;rw[aQ] at sh d1 hc;obtain⟨q,hq⟩:=exI ((o i).orb.getD k 0);have ck:x.cell id (e4+k)=some (aC q):=by rw[hc k b];congr 2;simp [zi,b,←hq]
 simp(disch:=omega)only[go_sem,co,sh.ixa,ck];have b1:q∈(o i).orb:=by rw[←hq,cJ b];exact zG b
 have e8:q<n:=S.c.jX.lt hi b1;clear sh d1 hc ck co lo oo d3 b1
 refine aH (λm N hh=> ∃(F':Nat->V) (a1:pM),(∃g:Nat->V,N= [.ptr a0 0,aC i,.ptr L (i*194),aC k,aC q,g 5,g 6,g 7,g 8,g 9,g 10,g 11])/\ClS h n a0 L F τ i hh F' a1 k/\
   k<(a1 i).orb.length/\(a1 i).orb.getD k 0=q/\m=(a1 i).gens.length-(a1 i).tr q) ((o i).gens.length-(o i).tr q)
  ⟨a5,o,aB rfl,S,b,hq,rfl⟩ ?_
 clear a2 b hq S o a5;rintro m N K ⟨F2,a,⟨g2,rfl⟩,S,b,hq,rfl⟩;have R2:=S.R;have jX:=S.c.jX;have b1:q∈(a i).orb:=by rw[←hq,cJ b];exact zG b
 obtain⟨y,hy⟩:=jX.to b1;have Y:=jX.cU _ _ hy;have b6:K.cell L (i*194+130+q)=some (aC ((a i).tr q:Nat)):=by rw[R2.Sh hi om,R2.tr i q hi om]
 have cg:K.cell L (i*194)=some (F2 (i*194)):=by
  have:=R2.cell (c:=0) hi om;rwa [Nat.add_zero] at this
 obtain⟨vs,og,b0⟩:=R2.gens i hi;have lg:=cY.lens og (aM.length b0);have d3:=YY jX hi;simp(disch:=omega)only[go_sem,b6,cg,lg]
 by_cases a2:(((a i).tr q:Nat):Int)<((a i).gens.length:Int)
 case neg=>
  rw[bH a2];simp(disch:=omega)only[go_sem];rw[eJ k];have fb:Fr K (H.mk K.tr (K.next+12)):=(Fr.refl K).bA om;have e9:=jX.le q;refine⟨n-(k+1),om,k+1,F2,a,aB rfl,⟨R2.mono fb,S.c,b,λr d=>?_,S.low,S.gens,⟨mT S.fx.next fb.next,S.fx.get⟩,S.wt⟩,rfl⟩;rw[List.take_add_one,dD b,←cJ b,hq] at d;rcases pH.1 d with d|d
  ·exact S.done r d
  ·simp at d;subst d;omega
 rw[bP a2];obtain⟨t,ht⟩:=exI ((a i).tr q);rw[ht] at a2 b6;have f0:(a i).gens.length<=1000000:=mT jX.many (mT (Nat.pow_le_pow_left hn n) (mT (Nat.pow_le_pow_right om hn) (by decide)));obtain⟨e7,c4,c8,c7,d2⟩:=og.sv.shape (a i).gens.length (by have:=aM.length b0;omega) om;obtain⟨vS,c5,pS⟩:=b0.at (i:=t) om;obtain⟨s,hs⟩:=exI ((a i).gens.getD t []);rw[hs] at pS
 have a4:(a i).gens[t]? =some s:=by
  rw[←hs,List.getD,dD om];rfl
 have Sp:=jX.gP s (AW a4);have cS:K.cell e7 (c4+t)=some vS:=by rw[d2 t (by have:=aM.length b0;omega)];exact c5
 have pT:PV (WT n L F2) K (F2 (i*194+2+q)) y:=by
  have:=R2.to i q hi om;rw[hy] at this;exact this
 have hN:i*194+194<=n*194:=om
 simp(disch:=omega)only[go_sem,b6,cg,lg,c8.ixa,cS,R2.l,Jr,Mi,EX];have fb:Fr K (H.mk K.tr (K.next+12+13+11)):=(Fr.refl K).bA om
 obtain⟨h3,c2⟩: ∃h3,h3=(H.mk K.tr (K.next+12+13+11)).set L (some (.cells false (rc (n*194) (F1 F2 (i*194+130+q) (aC ((t:Int)+1)))))):=⟨_,rfl⟩
 rw[←c2];obtain⟨R3,f3,w3⟩:=(R2.mono fb).tick hi (q:=q) om (z:=(t:Int)+1) (by rw[ht]) c2;have c1:=(Fx.of (W:=WT n L F2) fb).trans f3 (λ_ _ h=>h);have c0:=PV.go pT c1 (λid _ h=>(w3 id).1 h);have d4:=PV.go pS c1 (λid _ h=>(w3 id).1 h);generalize F2 (i*194+2+q)=vt at pT c0;clear c2 pT pS b6 cg lg c8 c7 d2 cS c5 b0 og
 obtain⟨J,e0⟩: ∃J,J=F1 F2 (i*194+130+q) (aC ((t:Int)+1)):=⟨_,rfl⟩
 rw[←e0] at R3 w3 c0 d4
 obtain⟨B,w⟩: ∃B,B=vI a i ((a i).tick q):=⟨_,rfl⟩
 rw[←w] at R3;have e3:B i=(a i).tick q:=by rw[w];exact bU ..
 refine (mY oF.ok vt vS y s h3 (by rw[Y.len];omega) c0.si d4.si (λj hj=>by rw[Sp.len];exact Y.iN (by rw[←Y.len];exact hj))).mono ?_;rintro v O nw;have P:=Y.mul Sp;obtain⟨p,hp⟩:=exI ((aX y s).getD i 0);have f1:p<n:=by rw[←hp];exact P.iN hi
 have R4:=R3.mono nw.fr;have pv:=nw.pv (W:=WT n L J) (λG=>by have:=R3.Nw G;omega)
 have cp:O.cell h3.next i=some (aC p):=by
  rw[H.aF nw.get,Ip (by rw[P.len];exact hi),hp]
 have d9:O.cell L (i*194+2+p)=some (J (i*194+2+p)):=R4.Sh hi om;have f:=R4.to i p hi om;have ev:=nw.val;rw[P.len] at ev;have f4:Fx (WT n L F2) K O:=c1.trans (Fx.of (W:=WT n L F2) nw.fr) (λ_ _ h=>h);simp(disch:=omega)only[go_sem,ev,cp,d9];rw[←ev];have Q: ∀r∈(a i).orb.take k,r≠q:=λr d e=>CK jX.nd b (by rw[hq,←e];exact d)
 cases hpo:(a i).to p with
 |none=>
  have a7:J (i*194+2+p)= .aE:=by
   rw[e3] at f;have f:Slot _ _ _ ((a i).to p):=f;rw[hpo] at f;exact f
  simp(disch:=omega)only[go_sem,a7];refine (Ce zT.ok v n (aX y s) (H.mk O.tr (O.next+15)) om P (pv.mono ((Fr.refl O).bA om)).si).mono ?_;rintro vu h5 nu;have f5:Fr O h5:=((Fr.refl O).bA om:Fr O (H.mk O.tr (O.next+15))).trans nu.fr;have R5:=R4.mono f5;have c3:=pv.mono f5;have b9:=nu.pv (W:=WT n L J) (λG=>by have:=R4.Nw G;simp at this;omega);simp(disch:=omega)only[go_sem,R5.l,lG c3.fG.1 c3.fG.2,lG b9.fG.1 b9.fG.2,Jr,Mi,EX]
  obtain⟨F6,d5⟩: ∃F6,F6=F1 (F1 J (i*194+2+p) v) (i*194+66+p) vu:=⟨_,rfl⟩
  obtain⟨h6,b5⟩: ∃h6,h6=(h5.set L (some (Ob.cells false (rc (n*194) (F1 J (i*194+2+p) v))))).set L (some (Ob.cells false (rc (n*194) (F1 (F1 J (i*194+2+p) v) (i*194+66+p) vu)))):=⟨_,rfl⟩
  rw[←b5];obtain⟨R6,f6,w6⟩:=R5.way hi (q:=p) om c3 b9 (h3:=h6) (by rw[b5];exact fM _) (λid x _=>by rw[b5,H.aG _ x,H.aG _ x]) (by rw[b5,H.aS]);have eO:J (i*194+1)=F6 (i*194+1):=by rw[d5,EX om,EX om]
  rw[←d5] at R6 w6
  obtain⟨a3,a9⟩: ∃a3,a3=vI B i {B i with to:=λr=>if r=p then some (aX y s) else (B i).to r}:=⟨_,rfl⟩
  rw[←a9] at R6;have e6:a3 i={B i with to:=λr=>if r=p then some (aX y s) else (B i).to r}:=by rw[a9];exact bU ..
  have b7:(a3 i).orb=(a i).orb:=by rw[e6,e3];rfl
  simp(disch:=omega)only[go_sem,cT h6 (z:= aC 0) (v:= aC p) rfl rfl,eO]
  obtain⟨h7,b3⟩: ∃h7,h7=h6.new (.cells false [aC p]):=⟨_,rfl⟩
  have f7:Fr h6 h7:=by rw[b3];exact (Fr.refl h6).new _
  have n7:h7.next=h6.next+1:=by rw[b3];exact H.aU ..
  have g7:h7.get h6.next=some (.cells false [aC p]):=by rw[b3];exact H.aL ..
  rw[←b3];have R7:=R6.mono f7;have o7:=R7.orb i hi;rw[b7] at o7;obtain⟨h8,a8,p8⟩:=o7.push (bytes:=8) (SV.one om g7 (.kn 1)) (n:=(a i).orb.length) (m:=1) (by rw[aP,aQ,uW]) rfl om om om
  have gL:h8.get L=some (.cells false (rc (n*194) F6)):=by
   rw[p8.old L (by have:=R7.ln;omega) (by have:=R7.ap (2*i+1) om;rw[Jw] at this;exact this)];exact R7.l
  simp(disch:=omega)only[go_sem,a8,gL,Jr]
  obtain⟨h9,d0⟩: ∃h9,h9=h8.set L (some (.cells false (rc (n*194) (F1 F6 (i*194+1) (.sl h7.next 0 ((a i).orb.length+1) (.un 1)))))):=⟨_,rfl⟩
  rw[←d0];obtain⟨R9,f9,w9⟩:=R7.UW hi (q:=p) (by rw[b7];exact p8) (.inl rfl) (by rw[b7]) d0;rw[b7] at R9
  have eT:vI a3 i {a3 i with orb:=(a i).orb++ [p]}=vI a i (((a i).tick q).reach p (aX y s)):=by
   funext j
   by_cases e:j=i
   ·subst e
    rw[bU,bU,e6,e3];rfl
   ·rw[dZ _ _ e,dZ _ _ e,a9,dZ _ _ e,w,dZ _ _ e]
  rw[eT] at R9;have c9:=S.c.found hi hy ht a4 hp hpo;have ei:vI a i (((a i).tick q).reach p (aX y s)) i=((a i).tick q).reach p (aX y s):=bU ..
  have W9: ∀id,id<K.next->WT n L (F1 F6 (i*194+1) (.sl h7.next 0 ((a i).orb.length+1) (.un 1))) id->WT n L F2 id:=λid x G=>
   (w3 id).1 ((w6 id).1 (w9 id (by have:=f4.next;have:=f5.next;have:=f6.next;have:=f7.next;omega) G))
  have b2:WT n L J=WT n L F2:=funext λid=>propext (w3 id)
  have d6:WT n L F6=WT n L F2:=(funext λid=>propext (w6 id)).trans b2;rw[b2] at f6;rw[d6] at f9;have d8:Fx (WT n L F2) K h9:=f4.trans ((Fx.of f5).trans (f6.trans ((Fx.of f7).trans f9 (λ_ _ h=>h)) (λ_ _ h=>h)) (λ_ _ h=>h)) (λ_ _ h=>h);refine⟨(a i).gens.length-(t+1),om,_,_,aB rfl,⟨R9,c9,?_,?_,λj hj=>(dZ _ _ om).trans (S.low j hj),?_,S.fx.trans d8 λid x G=>S.wt id x G,λid x G=>S.wt id x (W9 id (by have:=S.fx.next;omega) G)⟩,?_,?_,?_⟩
  all_goals rw[ei]
  ·show k<=((a i).orb++ [p]).length
   rw[jZ];omega
  ·intro r d
   have d:r∈((a i).orb++ [p]).take k:=d;rw[List.take_append_of_le_length om] at d;show (if r=q then (a i).tr q+1 else (a i).tr r)=(a i).gens.length;rw[bI (Q r d)];exact S.done r d
  ·exact S.gens
  ·show k<((a i).orb++ [p]).length
   rw[jZ];omega
  ·show ((a i).orb++ [p]).getD k 0=q
   rw[←hq,List.getD,List.getD,Dv b]
  ·show _=(a i).gens.length-(if q=q then (a i).tr q+1 else (a i).tr q)
   rw[bF rfl,ht]
 |some u=>
  have U:=jX.cU _ _ hpo
  have a7:PV (WT n L J) O (J (i*194+2+p)) u:=by
   rw[e3] at f;have f:Slot _ _ _ ((a i).to p):=f;rw[hpo] at f;exact f
  have sn:=Hv a7 (bE.ne om U) false;have ct:O.cell a0 0=some (aC n):=by rw[H.aF R4.t];rfl
  have e1:O.cell L (i*194+66+p)=some (J (i*194+66+p)):=R4.Sh hi om
  have d7:PV (WT n L J) O (J (i*194+66+p)) (dA u):=by
   have:=R4.iv i p hi om;rw[e3] at this;have this:Slot _ _ _ (((a i).to p).map dA):=this;rw[hpo] at this;exact this
  simp(disch:=omega)only[go_sem,sn,ct]
  by_cases b8:(i:Int)+1<(n:Int)
  ·rw[bP b8]
   simp(disch:=omega)only[go_sem,e1];refine (mY oF.ok v _ (aX y s) (dA u) O (by rw[P.len];omega) pv.si d7.si (λj hj=>by rw[jQ,U.len];exact P.iN (by rw[←P.len];exact hj))).mono ?_;rintro v2 h5 nu;have R5:=R4.mono nu.fr;have Z:=P.mul U.inv;have pz:=nu.pv (W:=WT n L J) (λG=>by have:=R4.Nw G;omega);obtain⟨_,b4,_⟩:=S.c.Mu hi hy (AW a4) (by rw[hp];exact hpo);simp(disch:=omega)only[go_sem];rw[eJ i];refine (A om h5 a0 L J B v2 _ R5 pz Z b4 ?_).mono ?_
   ·rw[w];exact S.c.up.afT om
   rintro vv h6 ⟨F6,a3,R6,a6,f6,w6⟩;rw[w] at a6;obtain⟨c6,e6,l6⟩:=aeG S.c om hy ht a4 (by rw[hp];exact hpo) rfl a6;have b2:WT n L J=WT n L F2:=funext λid=>propext (w3 id)
   rw[b2] at f6 w6;have e5:Fx (WT n L F2) K h6:=f4.trans ((Fx.of nu.fr).trans f6 (λ_ _ h=>h)) (λ_ _ h=>h);simp(disch:=omega)only[go_sem];refine⟨(a i).gens.length-(t+1),om,_,_,aB rfl,⟨R6,c6,?_,?_,λj hj=>(l6 j hj).trans (S.low j hj),?_,S.fx.trans e5 λid x G=>S.wt id x G,λid x G=>S.wt id x (w6 id (by have:=S.fx.next;have:=f4.next;have:=nu.fr.next;omega) G)⟩,?_,?_,?_⟩
   all_goals rw[e6]
   ·exact Nat.le_of_lt b
   ·intro r d
    have d:r∈(a i).orb.take k:=d;show (if r=q then (a i).tr q+1 else (a i).tr r)=(a i).gens.length;rw[bI (Q r d)];exact S.done r d
   ·exact S.gens
   ·exact b
   ·exact hq
   ·show _=(a i).gens.length-(if q=q then (a i).tr q+1 else (a i).tr q)
    rw[bF rfl,ht]
  ·rw[bH b8]
   obtain⟨e2,b4,_⟩:=S.c.Mu hi hy (AW a4) (by rw[hp];exact hpo);have en:i+1=n:=om
   have c6:=S.c.tick hy ht a4 (by rw[hp];exact hpo) (by
    rw[en];rw[en] at b4
    exact vB.2 (b4.all e2))
   simp(disch:=omega)only[go_sem];rw[w] at R4;have e6:vI a i ((a i).tick q) i=(a i).tick q:=bU ..;refine⟨(a i).gens.length-(t+1),om,_,_,aB rfl,⟨R4,c6,?_,?_,λj hj=>(dZ _ _ om).trans (S.low j hj),?_,S.fx.trans f4 λid x G=>S.wt id x G,λid x G=>S.wt id x ((w3 id).1 G)⟩,?_,?_,?_⟩
   all_goals rw[e6]
   ·exact Nat.le_of_lt b
   ·intro r d
    have d:r∈(a i).orb.take k:=d;show (if r=q then (a i).tr q+1 else (a i).tr r)=(a i).gens.length;rw[bI (Q r d)];exact S.done r d
   ·exact S.gens
   ·exact b
   ·exact hq
   ·show _=(a i).gens.length-(if q=q then (a i).tr q+1 else (a i).tr q)
    rw[bF rfl,ht]
def yX (τ:pM)(i m:Nat)(r:List Nat):pM:=λj=>if i<=j/\j<m then (τ j).more r else τ j
theorem DQ (τ:pM)(i:Nat)(r:List Nat):yX τ i i r=τ:=by
 funext j;unfold yX;rw[bI om]
theorem BW (τ:pM){i m:Nat}(r:List Nat)(h:i<=m):vI (yX τ i m r) m ((yX τ i m r m).more r)=yX τ i (m+1) r:=by
 funext j
 by_cases e:j=m
 ·subst e
  rw[bU];unfold yX;rw[bI om,bF om]
 ·rw[dZ _ _ e]
  unfold yX
  by_cases a:i<=j/\j<m
  ·rw[bF a,bF om]
  ·rw[bI a,bI om]
theorem EC (τ:pM)(i k:Nat)(r:List Nat):yX τ i (k+1) r=push τ i k r:=by
 funext j;unfold yX push
 by_cases h:i<=j/\j<=k
 ·rw[bF h,bF om]
 ·rw[bI h,bI om]
theorem aeY (a b c:Nat)(d:lI):dE (.sl a b c d) (.sl a b c d)=true:=by simp [dE]
theorem Tv (n b:Nat)(hn:n<=7)(hi:b<n)(C: ∀j,b<=j->j<n->Wa n j):XH n b:=by
 intro h a L F τ vx x R hx X Fi t;refine cV uH rfl ?_;simp(disch:=omega)only[go_sem,uH,aD];refine (aaD h n a L F τ vx x b om om R hx X om t).mono ?_;have G:=TR (n-b) b x om t X Fi;obtain⟨k,hk⟩:=exI ((Zc n τ (n-b) b x).1);obtain⟨r,hr⟩:=exI ((Zc n τ (n-b) b x).2);rw[hk,hr] at G ⊢;rintro _ q ⟨vr,rfl,B,Rr,f1⟩;have R1:=R.mono f1;have ct:q.cell a 0=some (aC n):=by rw[H.aF R1.t];rfl
 simp(disch:=omega)only[go_sem,ct]
 by_cases a0:(k:Int)=(n:Int)
 ·rw[bP a0]
  have e:k=n:=om
  subst e;simp(disch:=omega)only[go_sem];exact⟨F,τ,R1,Iw.none t hi (G.in t hi),Fx.of f1,λ_ _ h=>h⟩
 rw[bH a0];have o:k<n:=by have:=G.le;omega
 have a8:=G.ge;simp(disch:=omega)only[go_sem]
 refine aH (λs d P=> ∃(m:Nat) (O:Nat->V),(∃g:Nat->V,d= [.ptr a 0,g 1,aC b,aC k,vr,aC m,g 6,g 7,g 8,g 9])/\b<=m/\m<=k+1/\rX P n a L O (yX τ b m r)/\PV (WT n L O) P vr r/\
   Fx (WT n L F) h P/\(∀id,id<h.next->WT n L O id->WT n L F id)/\s=k+1-m) (k+1-b)
  ⟨b,F,aB rfl,fM _,om,by rw[DQ];exact R1,B,Fx.of f1,λ_ _ h=>h,rfl⟩ ?_
 clear R1 ct B f1;rintro s d i ⟨m,F2,⟨g,rfl⟩,y,a1,A,B,f2,w2,rfl⟩;simp(disch:=omega)only[go_sem]
 by_cases f:(m:Int)<=(k:Int)
 ·rw[bP f]
  have u:m<n:=om
  have cl:i.cell a 1=some (.sl L 0 n (.kn n)):=by rw[H.aF A.t];rfl
  have cg:i.cell L (m*194)=some (F2 (m*194)):=by
   have:=A.cell (c:=0) u om;rwa [Nat.add_zero] at this
  have z:yX τ b m r m=τ m:=by unfold yX;rw[bI om]
  have ln:=A.ln;have tn:=A.tn;simp(disch:=omega)only[go_sem,cl,cg,cT _ B.fG.1 B.fG.2]
  obtain⟨p,v⟩: ∃p:H,p=H.mk ((H.mk i.tr (i.next+14)).new (Ob.cells false [vr])).tr (i.next+19):=⟨_,rfl⟩
  rw[←v];have g3:p.get (i.next+14)=aZ [vr]:=by rw[v];exact H.aL (H.mk i.tr (i.next+14)) _
  have n3:p.next=i.next+19:=by rw[v]
  have K:Fr i p:=⟨om,λid a7=>by rw[v];exact H.bG (H.mk i.tr (i.next+14)) (by simp;omega) _⟩
  have w:=A.mono K;have Q:=B.mono K;obtain⟨vs,o3,J⟩:=w.gens m u;rw[z] at J;have jX:=(t m y u).1;have a9:(τ m).gens.length<=1000000:=mT jX.many (mT (Nat.pow_le_pow_left hn n) (mT (Nat.pow_le_pow_right om hn) (by decide)));obtain⟨h4,a4,p4⟩:=o3.push (bytes:=24) (SV.one om g3 (.kn 1)) (n:=(τ m).gens.length) (m:=1) (by have:=aM.length J;omega) rfl om om om;have gt:h4.get a=p.get a:=p4.old a om (λid a3 nn c e e2=>w.tw (.inr ⟨2*m,om,a3,nn,c,by rw[Hr,e2];exact e⟩))
  have gL:h4.get L=aZ (rc (n*194) F2):=by
   rw[p4.old L om (by have:=w.ap (2*m) om;rw[Hr] at this;exact this)];exact w.l
  have a6:h4.cell a 1=some (.sl L 0 n (.kn n)):=by unfold H.cell;rw[gt,w.t];rfl
  have hN:m*194+194<=n*194:=om
  simp(disch:=omega)only[go_sem,a4,a6,aeY,gL,Jr]
  obtain⟨h5,Z⟩: ∃h5,h5=h4.set L (aZ (rc (n*194) (F1 F2 (m*194) (.sl p.next 0 ((τ m).gens.length+1) (.un 1))))):=⟨_,rfl⟩
  rw[←Z];obtain⟨R5,f5,w5⟩:=w.more u (by rw[z];exact J) Q (by rw[z];exact p4) (by rw[z]) Z;rw[BW τ r y] at R5;rw[eJ m];refine⟨k+1-(m+1),om,m+1,_,aB rfl,om,om,R5,PV.go Q f5 w5,f2.trans ((Fx.of (W:=WT n L F2) K).trans f5 (λ_ _ h=>h)) (λid q N=>w2 id q N),λid q N=>w2 id q (w5 id (by have:=f2.next;omega) N),rfl⟩
 rw[bH f];have z:m=k+1:=om
 subst z;rw[EC] at A;simp(disch:=omega)only[go_sem];have U:=Nu.start G t o
 refine aH (λs d P=> ∃(m:Nat) (O:Nat->V) (Y:pM),(∃g:Nat->V,d= [.ptr a 0,g 1,aC b,g 3,g 4,g 5,aC ((m:Int)- 1),g 7,g 8,g 9])/\b<=m/\m<=k+1/\rX P n a L O Y/\Nu n b k r τ Y m/\
   Fx (WT n L F) h P/\(∀id,id<h.next->WT n L O id->WT n L F id)/\s=m) (k+1)
  ⟨k+1,F2,_,aB (by rw[show ((k+1:Nat):Int)- 1=(k:Int) from om];rfl),om,om,A,U,f2,w2,rfl⟩ ?_
 clear A U f2 w2 B f y a1;rintro s d p ⟨m,F3,a2,⟨g3,rfl⟩,y,a1,w,AI,K,w3,hm⟩;subst hm;simp(disch:=omega)only[go_sem]
 by_cases f:(b:Int)<=(s:Int)- 1
 ·rw[bP f]
  obtain⟨j,rfl⟩: ∃j,s=j+1:=⟨s- 1,om⟩
  have ci:=AI.ci G t o om om;simp(disch:=omega)only[go_sem];rw[show ((j+1:Nat):Int)- 1=(j:Int) from om];refine (C j om om p a L F3 a2 w ci).mono ?_;rintro _ h4 ⟨F4,a5,R4,t4,l4,g4,f4,w4⟩;simp(disch:=omega)only[go_sem];refine⟨j,om,j,F4,a5,aB rfl,om,om,R4,AI.next om om l4 g4 t4,K.trans f4 (λid q N=>w3 id q N),λid q N=>w3 id q (w4 id (by have:=K.next;omega) N),rfl⟩
 rw[bH f];have z:s=b:=om
 rw[z] at AI;simp(disch:=omega)only[go_sem];exact⟨F3,a2,w,AI.done G t X o,K,w3⟩
theorem Vf (n:Nat)(b:n<=7): ∀d i,i+d=n->(i<n->XH n i)/\(i<n->Wa n i)
 |0,i,h=>⟨λa=>om,λa=>om⟩
 |d+1,i,h=>by
  have g:=Vf n b d (i+1) om
  have c: ∀j,i<=j->j<n->Wa n j:=λj k a=>by
   by_cases e:j=i
   ·subst e;exact Vp n j b a λf=>g.1 f
   ·exact (Vf n b (n-j) j om).2 a
  exact⟨λa=>Tv n i b a c,λa=>c i (fM _) a⟩
termination_by d=>d
theorem adY (n:Nat)(a:n<=7)(b:0<n):XH n 0:=(Vf n a n 0 om).1 b
end Go.Proofs.YtcdbmkidaecdiaaGreat
namespace Go.Pm
set_option maxRecDepth 100000
section
variable {x y:List Nat} {R:PZ}
def Lt (x y:List Nat):Prop:= ∃k,k<x.length/\(∀j,j<k->x.getD j 0=y.getD j 0)/\x.getD k 0<y.getD k 0
def Le (x y:List Nat):Prop:=x=y∨Lt x y
theorem Lt.asymm (a:Lt x y)(b:Lt y x):False:=by
 obtain⟨k,_,d,e⟩:=a;obtain⟨m,_,c,f⟩:=b;rcases Nat.lt_trichotomy k m with h|h|h
 ·have:=c k h;omega
 ·subst h;omega
 ·have:=d m h;omega
theorem Le.antisymm (a:Le x y)(b:Le y x):x=y:=by
 rcases a with a|a
 ·exact a
 ·rcases b with b|b
  ·exact b.symm
  ·exact (a.asymm b).elim
def oI (x:List Nat):Nat->List Nat->Nat
 |b, []=>b
 |b,q::l=>oI x (if x.getD q 0<x.getD b 0 then q else b) l
theorem EZ (x:List Nat): ∀(l:List Nat) (b:Nat),oI x b l∈b::l/\ ∀q∈b::l,x.getD (oI x b l) 0<=x.getD q 0
 | [],b=>⟨by simp [oI],λq d=>by simp at d;subst d;exact Nat.le_refl _⟩
 |q::l,b=>by
  have c:=EZ x l (if x.getD q 0<x.getD b 0 then q else b);unfold oI;refine⟨?_,λr a=>?_⟩
  ·rcases List.mem_cons.1 c.1 with h|h
   ·rw[h];split<;>simp
   ·exact List.mem_cons_of_mem _ (List.mem_cons_of_mem _ h)
  ·have e:=c.2 _ (List.mem_cons_self ..)
   rcases List.mem_cons.1 a with rfl|a
   ·split at e<;>(split<;>omega)
   ·rcases List.mem_cons.1 a with rfl|a
    ·split at e<;>(split<;>omega)
    ·exact c.2 r (List.mem_cons_of_mem _ a)
def Kb (τ:pM):Nat->Nat->List Nat->List Nat
 |0,_,x=>x
 |d+1,k,x=>Kb τ d (k+1) (if oI x k (τ k).orb=k then x else aX (((τ k).to (oI x k (τ k).orb)).getD []) x)
section
variable {n:Nat} {τ:pM} {G:List Nat->Prop}
theorem VH: ∀(d k:Nat) (x:List Nat),k+d=n->pI n k τ->bE n x-> ∃h,S n τ k h/\Kb τ d k x=aX h x/\ ∀g,S n τ k g->Le (Kb τ d k x) (aX g x)
 |0,k,x,h,_,X=>by
  obtain rfl:k=n:=oq
  refine⟨bL k,vB.2 rfl,(eP X).symm,λg f=> .inl ?_⟩;rw[vB] at f;subst f;exact (eP X).symm
 |d+1,k,x,h,t,X=>by
  have a:k<n:=oq
  have L:=(t k (Nat.le_refl _) a).1;have m:=t.mono (Nat.le_succ k);obtain⟨K,J⟩:=EZ x (τ k).orb k
  have B:oI x k (τ k).orb∈(τ k).orb:=by
   rcases List.mem_cons.1 K with h|h
   ·rw[h];exact L.base
   ·exact h
  obtain⟨y,b⟩:=L.to B;have Y:=L.cU _ y b
  have w:(if oI x k (τ k).orb=k then x else aX (((τ k).to (oI x k (τ k).orb)).getD []) x)=aX y x:=by
   split
   ·rename_i e
    rw[e,L.one] at b;cases b;exact (eP X).symm
   ·rw[b];rfl
  unfold Kb;rw[w];obtain⟨g,f,e,o⟩:=VH d (k+1) (aX y x) oq m (Y.mul X);have l:=m.cU a f;have r:S n τ k (aX g y):=(qD a).2 ⟨_,y,g,b,f,rfl⟩;refine⟨aX g y,r,by rw[e,aV l Y X],λu q=>?_⟩;have U:=t.cU oq q;obtain⟨v,i,s⟩:=t.sift a q;have c:=L.mem i;have V:=L.cU _ v i;have F:(aX u x).getD k 0=x.getD (u.getD k 0) 0:=cM (by rw[U.len];exact a)
  have N:(aX g (aX y x)).getD k 0=x.getD (oI x k (τ k).orb) 0:=by
   rw[cM (by rw[l.len];exact a),m.fix a f k oq,cM (by rw[Y.len];exact a),L.maps _ y b]
  have O:=J _ (List.mem_cons_of_mem _ c)
  by_cases z:x.getD (oI x k (τ k).orb) 0<x.getD (u.getD k 0) 0
  ·rw[e]
   refine .inr ⟨k,by rw[eY,l.len];exact a,λj A=>?_,by rw[F,N];exact z⟩;rw[cM (by rw[l.len];omega),m.fix a f j oq,cM (by rw[Y.len];omega),L.fix _ y b j A,cM (by rw[U.len];omega),t.fix oq q j A]
  ·have p:oI x k (τ k).orb=u.getD k 0:=X.inj (L.lt a B) (L.lt a c) oq
   rw[←p,b] at i;cases i;have:=o _ s;rwa [aV U Y.inv (Y.mul X),←aV Y.inv Y X,iE Y,eP X] at this
structure Xf (n:Nat)(G:List Nat->Prop)(i p:Nat)(x:List Nat):Prop where
 mem:G x
 fix:Fix i x
 maps:x.getD i 0=p
 least: ∀y,G y->Fix i y->y.getD i 0=p->Le x y
theorem Xf.uniq {i p:Nat}(a:Xf n G i p x)(b:Xf n G i p y):x=y:=
 (a.least y b.mem b.fix b.maps).antisymm (b.least x a.mem a.fix a.maps)
structure bC (n:Nat)(G:List Nat->Prop)(O:zI)(R:PZ):Prop where
 lo:O.length=n
 lr:R.length=n
 asc: ∀i,i<n->(O.getD i []).Pairwise (· < ·)
 mem: ∀i,i<n-> ∀p,p∈O.getD i []↔ ∃x,G x/\Fix i x/\x.getD i 0=p
 rl: ∀i,i<n->(R.getD i []).length=(O.getD i []).length
 rep: ∀i,i<n-> ∀k,k<(O.getD i []).length->Xf n G i ((O.getD i []).getD k 0) ((R.getD i []).getD k [])
theorem oQ: ∀{a b:List Nat},a.Pairwise (· < ·)->b.Pairwise (· < ·)->(∀p,p∈a↔p∈b)->a=b
 | [], [],_,_,_=>rfl
 | [],y::b,_,_,h=>by have:=(h y).2 (by simp);simp at this
 |x::a, [],_,_,h=>by have:=(h x).1 (by simp);simp at this
 |x::a,y::b,ha,hb,h=>by
  obtain⟨i,l⟩:=List.pairwise_cons.1 ha;obtain⟨j,k⟩:=List.pairwise_cons.1 hb
  have e:x=y:=by
   have d:=(h x).1 (by simp);have c:=(h y).2 (by simp);rcases List.mem_cons.1 d with d|d
   ·exact d
   ·rcases List.mem_cons.1 c with c|c
    ·exact c.symm
    ·have:=j x d;have:=i y c;omega
  subst e;congr 1
  refine oQ l k λp=>⟨λf=>?_,λf=>?_⟩
  ·rcases List.mem_cons.1 ((h p).1 (List.mem_cons_of_mem _ f)) with e|g
   ·subst e;have:=i p f;omega
   ·exact g
  ·rcases List.mem_cons.1 ((h p).2 (List.mem_cons_of_mem _ f)) with e|g
   ·subst e;have:=j p f;omega
   ·exact g
theorem Ff {α:Type}{d:α}{a b:List α}(f:a.length=b.length)(h: ∀i,i<a.length->a.getD i d=b.getD i d):a=b:=by
 refine List.ext_getElem f λi c e=>?_
 have:=h i c;simpa [List.getD,c,e] using this
theorem bC.uniq {O f:zI}{g:PZ}(a:bC n G O R)(b:bC n G f g):O=f/\R=g:=by
 have e:O=f:=Ff (d:= []) (by rw[a.lo,b.lo]) λi hi=>by
  rw[a.lo] at hi;exact oQ (a.asc i hi) (b.asc i hi) λp=>(a.mem i hi p).trans (b.mem i hi p).symm
 subst e;refine⟨rfl,Ff (d:= []) (by rw[a.lr,b.lr]) λi hi=>?_⟩;rw[a.lr] at hi;refine Ff (d:= []) (by rw[a.rl i hi,b.rl i hi]) λk c=>?_
 rw[a.rl i hi] at c;exact (a.rep i hi k c).uniq (b.rep i hi k c)
theorem bC.congr {H:List Nat->Prop}{O:zI}(a:bC n G O R)(h: ∀x,G x↔H x):bC n H O R:=by
 have:G=H:=funext λx=>propext (h x)
 exact this▸a
theorem pI.chain (t:pI n 0 τ){O:zI}(J:O.length=n)(B:R.length=n)
  (r: ∀i,i<n->(O.getD i []).Pairwise (· < ·)) (mem: ∀i,i<n-> ∀p,p∈O.getD i []↔p∈(τ i).orb) (F: ∀i,i<n->(R.getD i []).length=(O.getD i []).length)
  (o: ∀i,i<n-> ∀k,k<(O.getD i []).length-> ∀y,(τ i).to ((O.getD i []).getD k 0)=some y->(R.getD i []).getD k []=Kb τ (n-(i+1)) (i+1) y):bC n (S n τ 0) O R:=by
 refine⟨J,B,r,λi hi p=>?_,F,λi hi k s=>?_⟩
 ·have L:=(t i (Nat.zero_le _) hi).1
  have c:=t.mono (Nat.zero_le i)
  rw[mem i hi p]
  constructor
  ·intro j
   obtain⟨y,a⟩:=L.to j
   have K:S n τ i y:=(c.gen hi).2 (L.gen p y a)
   have:=(t.Xo (Nat.zero_le i) oq).1 K
   exact⟨y,this.1,this.2,L.maps p y a⟩
  ·rintro⟨x,d,g,rfl⟩
   obtain⟨y,a,_⟩:=c.sift hi ((t.Xo (Nat.zero_le i) oq).2 ⟨d,g⟩)
   exact L.mem a
 ·have L:=(t i (Nat.zero_le _) hi).1
  have c:=t.mono (Nat.zero_le i)
  have m:=t.mono (Nat.zero_le (i+1))
  have j:(O.getD i []).getD k 0∈O.getD i []:=by
   rw[cJ s];exact List.getElem_mem s
  obtain⟨y,a⟩:=L.to ((mem i hi _).1 j)
  rw[o i hi k s y a]
  generalize (O.getD i []).getD k 0=p at a
  have Y:=L.cU p y a
  obtain⟨h,q,e,b⟩:=VH (n-(i+1)) (i+1) y oq m Y
  have H:=m.cU hi q
  have l:S n τ i (aX h y):=(qD hi).2 ⟨p,y,h,a,q,rfl⟩
  have u:=(t.Xo (Nat.zero_le i) oq).1 l
  rw[e] at b ⊢
  refine⟨u.1,u.2,?_,λz d g A=>?_⟩
  ·rw[cM (by rw[H.len];exact hi),m.fix hi q i oq,L.maps p y a]
  ·obtain⟨v,w,f⟩:=c.sift hi ((t.Xo (Nat.zero_le i) oq).2 ⟨d,g⟩)
   rw[A,a] at w
   cases w
   have Z:=t.cU (Nat.zero_le _) d
   have:=b _ f
   rwa [aV Z Y.inv Y,iE Y,bZ Z] at this
theorem Iw.group {i:Nat}{c:pM}(a:Iw n i x τ c)(t:pI n i τ)(hi:i<n)(X:bE n x)(z:List Nat):Go.Pm.S n c i z↔bX n (λg=>Go.Pm.S n τ i g∨g=x) z:=by
 have L:=(t i (Nat.le_refl _) hi).1
 have e: ∀g,(Go.Pm.S n τ i g∨g=x)->bE n g:=λg b=>by
  rcases b with b|rfl
  ·exact t.cU oq b
  ·exact X
 rw[a.tw.gen hi];constructor
 ·intro h
  refine h.le (bX.dN e) λg b=>(a.new g b).mono λu d=>?_
  rcases d with d|d
  ·exact .inl ((t.gen hi).2 (bX.of L.gP d))
  ·exact .inr d
 ·intro h
  refine h.le (bX.dN (a.tw i (Nat.le_refl _) hi).1.gP) λg b=>?_
  rcases b with b|rfl
  ·exact ((t.gen hi).1 b).mono a.old
  ·exact a.has
end
end
section
variable {j:Nat} {y:List Nat}
abbrev rL:=Nat->Nat->Option (List Nat)
def ins (t:rL):Nat->Nat->List Nat->Option (Nat×List Nat)
 |0,_,_=>none
 |d+1,i,x=>if x.getD i 0=i then ins t d (i+1) x else
  match t i (x.getD i 0) with
  |none=>some (i,x)
  |some y=>ins t d (i+1) (aX x (dA y))
def dd:zI->zI
 | []=> []
 |a::l=>if a∈dd l then dd l else a::dd l
theorem Vh {a:List Nat}: ∀{l:zI},a∈dd l↔a∈l
 | []=>Iff.rfl
 |b::l=>by
  unfold dd;have c:=Vh (a:=a) (l:=l);split
  ·rename_i h
   rw[c];constructor
   ·exact List.mem_cons_of_mem _
   ·intro d
    rcases List.mem_cons.1 d with rfl|d
    ·exact c.1 h
    ·exact d
  ·simp [c]
theorem Ms: ∀l:zI,(dd l).Nodup
 | []=>List.nodup_nil
 |b::l=>by
  unfold dd;split
  ·exact Ms l
  ·rename_i h;exact List.nodup_cons.2 ⟨h,Ms l⟩
def fR (n:Nat)(t:rL)(j:Nat):zI:=(List.range n).flatMap λi=>if j<=i then (List.range n).filterMap λp=>t i p else []
theorem fV {n:Nat}{t:rL}:y∈fR n t j↔ ∃i p,j<=i/\i<n/\p<n/\t i p=some y:=by
 simp only[fR,List.mem_flatMap,List.mem_range];constructor
 ·rintro⟨i,hi,h⟩
  split at h
  ·rename_i a
   obtain⟨p,b,e⟩:=List.mem_filterMap.1 h;exact⟨i,p,a,hi,List.mem_range.1 b,e⟩
  ·simp at h
 ·rintro⟨i,p,a,hi,b,e⟩
  refine⟨i,hi,?_⟩;rw[if_pos a];exact List.mem_filterMap.2 ⟨p,List.mem_range.2 b,e⟩
def kX (n:Nat)(t:rL):pM:=λj=>
 {gens:=dd (fR n t j)
  orb:=(List.range n).filter λp=>p==j||(t j p).isSome
  to:=λp=>if p=j then some (bL n) else t j p
  tr:=λq=>if q=j∨(t j q).isSome then (dd (fR n t j)).length else 0}
structure oK (n:Nat)(t:rL):Prop where
 lt: ∀i p y,t i p=some y->i<n/\p<n/\p≠i
 cU: ∀i p y,t i p=some y->bE n y
 fix: ∀i p y,t i p=some y->Fix i y
 maps: ∀i p y,t i p=some y->y.getD i 0=p
def Jh (n:Nat)(t:rL):Prop:= ∀a b,a∈fR n t 0->b∈fR n t 0->ins t n 0 (aX a b)=none
section
variable {n:Nat} {t:rL}
theorem uN {p:Nat}(T:oK n t)(b:j<n)(h:(kX n t j).to p=some y):bE n y/\Fix j y/\y.getD j 0=p/\(p=j/\y=bL n∨t j p=some y):=by
 have a:(if p=j then some (bL n) else t j p)=some y:=h;split at a
 ·rename_i e
  cases a;exact⟨bE.one n,Fix.one n j oq,by rw[e];exact fQ b,.inl ⟨e,rfl⟩⟩
 ·exact⟨T.cU _ _ _ a,T.fix _ _ _ a,T.maps _ _ _ a,.inr a⟩
theorem QM (T:oK n t): ∀(d j:Nat) (x:List Nat),j+d=n->S n (kX n t) j x->bE n x/\Fix j x
 |0,j,x,h,hs=>by
  obtain rfl:j=n:=oq
  rw[vB] at hs;subst hs;exact⟨bE.one j,Fix.one j j (Nat.le_refl _)⟩
 |d+1,j,x,h,hs=>by
  obtain⟨p,y,g,b,a,rfl⟩:=(qD oq).1 hs;obtain⟨G,F⟩:=QM T d (j+1) g oq a;obtain⟨Y,F2,_⟩:=uN T oq b;exact⟨G.mul Y,Fix.mul G oq (F.mono oq) F2⟩
theorem Ng (j:Nat)(a:j<n){x:List Nat}(X:bE n x)(h:S n (kX n t) (j+1) x):S n (kX n t) j x:=
 (qD a).2 ⟨j,bL n,x,by show (if j=j then some (bL n) else t j j)=_;rw[if_pos rfl],h,(bZ X).symm⟩
theorem Zr: ∀(d j:Nat),j+d=n->S n (kX n t) j (bL n)
 |0,j,h=>by
         obtain rfl:j=n:=oq
         exact vB.2 rfl
 |d+1,j,h=>Ng j oq (bE.one n) (Zr d (j+1) oq)
theorem Mw (T:oK n t): ∀(d j:Nat) (x:List Nat),j+d=n->bE n x->Fix j x->ins t d j x=none->S n (kX n t) j x
 |0,j,x,h,X,F,_=>by
  obtain rfl:j=n:=oq
  exact vB.2 (F.all X)
 |d+1,j,x,h,X,F,hi=>by
  unfold ins at hi;split at hi
  ·rename_i e
   exact Ng j oq X (Mw T d (j+1) x oq X (F.succ e) hi)
  ·rename_i e
   split at hi
   ·cases hi
   ·rename_i y a
    have Y:=T.cU _ _ _ a;have F2:=T.fix _ _ _ a;refine (qD oq).2 ⟨x.getD j 0,y,aX x (dA y),?_,?_,by rw[aV X Y.inv Y,iE Y,bZ X]⟩
    ·show (if x.getD j 0=j then some (bL n) else t j (x.getD j 0))=_
     rw[if_neg e];exact a
    ·refine Mw T d (j+1) _ oq (X.mul Y.inv) ((Fix.mul X oq F (Fix.inv Y oq F2)).succ ?_) hi
     rw[cM (by rw[X.len];omega)];have:=vM Y (show j<n by omega);rwa [T.maps _ _ _ a] at this
theorem Zg: ∀(k d j:Nat) (x:List Nat),Fix (j+k) x->ins t (d+k) j x=ins t d (j+k) x
 |0,_,_,_,_=>rfl
 |k+1,d,j,x,F=>by
  have e:ins t (d+k+1) j x=ins t (d+k) (j+1) x:=by
   show (if x.getD j 0=j then ins t (d+k) (j+1) x else _)=_;rw[if_pos (F j oq)]
  rw[show d+(k+1)=(d+k)+1 from rfl,e,Zg k d (j+1) x (by rw[show j+1+k=j+(k+1) from oq];exact F),show j+1+k=j+(k+1) from oq]
theorem OC (T:oK n t)(c:Jh n t){a b:List Nat}(e:j<=n)(f:a∈fR n t 0)(g:b∈fR n t 0)(A:bE n a)(B:bE n b)(i:Fix j a)(d:Fix j b):S n (kX n t) j (aX a b):=by
 have F:=Fix.mul A e i d;have h:=c a b f g;rw[show n=(n-j)+j from oq,Zg j (n-j) 0 _ (by rw[Nat.zero_add];exact F),Nat.zero_add] at h;exact Mw T (n-j) j _ oq (A.mul B) F h
theorem ahI (T:oK n t)(h:y∈fR n t j):S n (kX n t) j y:=by
 obtain⟨i,p,d,b,c,e⟩:=fV.1 h;have Y:=T.cU _ _ _ e
 have a:S n (kX n t) i y:=by
  refine (qD b).2 ⟨p,y,bL n,?_,Zr (n-(i+1)) (i+1) oq,(eP Y).symm⟩;show (if p=i then some (bL n) else t i p)=_;rw[if_neg (T.lt _ _ _ e).2.2];exact e
 have: ∀k,k<=i->S n (kX n t) (i-k) y:=by
  intro k
  induction k with
  |zero=>intro _;exact a
  |succ k ih=>
   intro f;refine Ng (i-(k+1)) oq Y ?_;rw[show i-(k+1)+1=i-k from oq];exact ih oq
 have:=this (i-j) oq;rwa [show i-(i-j)=j from oq] at this
theorem EM (T:oK n t)(c:Jh n t):pI n 0 (kX n t):=λj _ f=>by
 have d: ∀p,p∈(kX n t j).orb↔((kX n t j).to p).isSome:=by
  intro p;show p∈(List.range n).filter (λp=>p==j||(t j p).isSome)↔(if p=j then some (bL n) else t j p).isSome;rw[List.mem_filter,List.mem_range]
  by_cases e:p=j
  ·subst e;simp [f]
  ·simp only[beq_iff_eq,e,if_neg,Bool.or_eq_true,false_or]
   constructor
   ·exact λh=>h.2
   ·intro h
    obtain⟨y,A⟩:=Option.isSome_iff_exists.1 h;exact⟨(T.lt _ _ _ A).2.1,h⟩
 have b: ∀s,s∈(kX n t j).gens↔s∈fR n t j:=λs=>Vh
 have a: ∀s,s∈fR n t j->bE n s/\Fix j s/\s∈fR n t 0:=λs l=>by
  obtain⟨i,p,w,r,o,e⟩:=fV.1 l;exact⟨T.cU _ _ _ e,(T.fix _ _ _ e).mono w,fV.2 ⟨i,p,Nat.zero_le _,r,o,e⟩⟩
 refine⟨⟨List.nodup_range.filter _,(d j).2 ?_,?_,d,λp y h=>(uN T f h).1,λp y h=>(uN T f h).2.1,λp y h=>(uN T f h).2.2.1,λp y h=>?_,λs l=>(a s ((b s).1 l)).1,λs l=>(a s ((b s).1 l)).2.1,Ms _,λq=>?_,λq x=>?_⟩,λq y A k s Z l=>?_,λq x=>?_,λh s l=>?_⟩
 ·show (if j=j then some (bL n) else t j j).isSome
  rw[if_pos rfl];rfl
 ·show (if j=j then some (bL n) else t j j)=_
  rw[if_pos rfl]
 ·rcases (uN T f h).2.2.2 with ⟨_,rfl⟩|e
  ·exact .one
  ·refine bX.of (λg z=>(a g ((b g).1 z)).1) ((b y).2 (fV.2 ⟨j,p,Nat.le_refl _,f,(T.lt _ _ _ e).2.1,e⟩))
 ·show (if q=j∨(t j q).isSome then (dd (fR n t j)).length else 0)<=_
  split
  ·exact Nat.le_refl _
  ·exact Nat.zero_le _
 ·show (if q=j∨(t j q).isSome then (dd (fR n t j)).length else 0)=0
  rw[if_neg];rintro (e|e)
  ·exact x ((d q).2 (by show (if q=j then some (bL n) else t j q).isSome;rw[if_pos e];rfl))
  ·refine x ((d q).2 ?_)
   show (if q=j then some (bL n) else t j q).isSome;split
   ·rfl
   ·exact e
 ·--closure
  have v:s∈fR n t j:=(b s).1 (List.mem_of_getElem? l);obtain⟨J,O,G⟩:=a s v;obtain⟨Y,L,W,m⟩:=uN T f A
  have R:S n (kX n t) j (aX y s):=by
   rcases m with ⟨_,rfl⟩|e
   ·rw[eP J];exact ahI T v
   ·exact OC T c oq (fV.2 ⟨j,q,Nat.zero_le _,f,(T.lt _ _ _ e).2.1,e⟩) G Y J L O
  obtain⟨p,u,g,w,r,o⟩:=(qD f).1 R;obtain⟨U,fu,Q,_⟩:=uN T f w;obtain⟨F,P⟩:=QM T (n-(j+1)) (j+1) g oq r
  have N:(aX y s).getD j 0=p:=by
   rw[o,cM (by rw[F.len];exact f),P j oq,Q]
  refine⟨u,by rw[N];exact w,?_⟩;rw[o,aV F U U.inv,fC U,bZ F];exact r
 ·show (if q=j∨(t j q).isSome then (dd (fR n t j)).length else 0)=(dd (fR n t j)).length
  rw[if_pos];have:=(d q).1 x;have K:(if q=j then some (bL n) else t j q).isSome:=this;split at K
  ·rename_i e;exact .inl e
  ·exact .inr K
 ·have B:s∈fR n t (j+1):=Vh.1 l
  obtain⟨i,p,w,r,o,e⟩:=fV.1 B;exact bX.of (λg z=>(a g ((b g).1 z)).1) ((b s).2 (fV.2 ⟨i,p,oq,r,o,e⟩))
theorem DJ (T:oK n t)(c:Jh n t)(a:0<n)(x:List Nat):S n (kX n t) 0 x↔bX n (· ∈fR n t 0) x:=by
 rw[(EM T c).gen a];have:(λg=>g∈(kX n t 0).gens)=λg=>g∈fR n t 0:=funext λg=>propext Vh
 rw[this]
def put (t:rL)(i p:Nat)(x:List Nat):rL:=λj q=>if j=i/\q=p then some x else t j q
def jJ (t:rL)(n:Nat)(x:List Nat):rL:=match ins t n 0 x with
 |none=>t
 |some (i,r)=>put t i (r.getD i 0) r
theorem Bu (T:oK n t): ∀(d j:Nat) (x:List Nat) (i:Nat) (r:List Nat),j+d=n->bE n x->Fix j x->ins t d j x=some (i,r)->
  j<=i/\i<n/\bE n r/\Fix i r/\r.getD i 0≠i/\t i (r.getD i 0)=none/\ ∃w,bX n (· ∈fR n t 0) w/\x=aX r w
 |0,_,_,_,_,_,_,_,h=>by cases h
 |d+1,j,x,i,r,h,X,F,hi=>by
  unfold ins at hi;split at hi
  ·rename_i e
   obtain⟨s,b⟩:=Bu T d (j+1) x i r oq X (F.succ e) hi;exact⟨oq,b⟩
  ·rename_i e
   split at hi
   ·rename_i q
    cases hi;exact⟨Nat.le_refl _,oq,X,F,e,q,bL n,.one,(bZ X).symm⟩
   ·rename_i y a
    have Y:=T.cU _ _ _ a
    have l: ∀g,g∈fR n t 0->bE n g:=λg m=>by
     obtain⟨_,_,_,_,_,e⟩:=fV.1 m;exact T.cU _ _ _ e
    obtain⟨s,b,f,o,p,v,w,k,u⟩:=Bu T d (j+1) _ i r oq (X.mul Y.inv) ((Fix.mul X oq F (Fix.inv Y oq (T.fix _ _ _ a))).succ (by
     rw[cM (by rw[X.len];omega)];have:=vM Y (show j<n by omega)
     rwa [T.maps _ _ _ a] at this)) hi
    have c:y∈fR n t 0:=fV.2 ⟨j,_,Nat.zero_le _,oq,(T.lt _ _ _ a).2.1,a⟩;refine⟨oq,b,f,o,p,v,aX w y,k.mul c,?_⟩;rw[←aV f (k.cU l) Y,←u,aV X Y.inv Y,iE Y,bZ X]
theorem xS (T:oK n t): ∀(d j:Nat) (x:List Nat),j+d=n->bE n x->Fix j x->ins t d j x=none->bX n (· ∈fR n t 0) x
 |0,j,x,h,X,F,_=>by
  obtain rfl:j=n:=oq
  rw[F.all X];exact .one
 |d+1,j,x,h,X,F,hi=>by
  unfold ins at hi;split at hi
  ·rename_i e
   exact xS T d (j+1) x oq X (F.succ e) hi
  ·rename_i e
   split at hi
   ·cases hi
   ·rename_i y a
    have Y:=T.cU _ _ _ a
    have b:=xS T d (j+1) _ oq (X.mul Y.inv) ((Fix.mul X oq F (Fix.inv Y oq (T.fix _ _ _ a))).succ (by
     rw[cM (by rw[X.len];omega)];have:=vM Y (show j<n by omega)
     rwa [T.maps _ _ _ a] at this)) hi
    have:=b.mul (fV.2 ⟨j,_,Nat.zero_le _,oq,(T.lt _ _ _ a).2.1,a⟩);rwa [aV X Y.inv Y,iE Y,bZ X] at this
def Sub (t t':rL):Prop:= ∀i p y,t i p=some y->t' i p=some y
theorem Fg {a:rL}(s:Sub t a): ∀(d j:Nat) (x:List Nat),ins t d j x=none->ins a d j x=none
 |0,_,_,_=>rfl
 |d+1,j,x,h=>by
  unfold ins at h ⊢;split at h
  ·rename_i e;rw[if_pos e];exact Fg s d _ _ h
  ·rename_i e
   rw[if_neg e];split at h
   ·cases h
   ·rename_i y b
    rw[s _ _ _ b];exact Fg s d _ _ h
theorem EW {i p:Nat}{x:List Nat}(h:t i p=none):Sub t (put t i p x):=λj q y a=>by
 unfold put;rw[if_neg (λe=>by rw[e.1,e.2,h] at a;cases a)];exact a
theorem Ui (T:oK n t): ∀(d j:Nat) (x:List Nat) (i:Nat) (r:List Nat),j+d=n->bE n x->Fix j x->ins t d j x=some (i,r)->ins (put t i (r.getD i 0) r) d j x=none
 |0,_,_,_,_,_,_,_,h=>by cases h
 |d+1,j,x,i,r,h,X,F,hi=>by
  obtain⟨k,f,l,m,o,c,_⟩:=Bu T (d+1) j x i r h X F hi;have sub:=EW (t:=t) (x:=r) c;unfold ins at hi ⊢;split at hi
  ·rename_i e;rw[if_pos e];exact Ui T d (j+1) x i r oq X (F.succ e) hi
  ·rename_i e
   rw[if_neg e];split at hi
   ·cases hi
    have:put t j (x.getD j 0) x j (x.getD j 0)=some x:=by unfold put;rw[if_pos ⟨rfl,rfl⟩]
    rw[this];simp only;rw[fC X]
    have: ∀(d j:Nat),j+d=n-> ∀b:rL,ins b d j (bL n)=none:=by
     intro d
     induction d with
     |zero=>intro _ _ _;rfl
     |succ d ih=>intro j g b;unfold ins;rw[if_pos (fQ oq)];exact ih (j+1) oq b
    exact this d (j+1) oq _
   ·rename_i y a
    have Y:=T.cU _ _ _ a;rw[sub _ _ _ a]
    exact Ui T d (j+1) _ i r oq (X.mul Y.inv) ((Fix.mul X oq F (Fix.inv Y oq (T.fix _ _ _ a))).succ (by
     rw[cM (by rw[X.len];omega)];have:=vM Y (show j<n by omega)
     rwa [T.maps _ _ _ a] at this)) hi
end
end
section
variable {x:List Nat}
section
variable {n:Nat} {t:rL}
theorem oK.MK (T:oK n t){j:Nat}: ∀g,g∈fR n t j->bE n g:=λg a=>by
 obtain⟨_,_,_,_,_,e⟩:=fV.1 a;exact T.cU _ _ _ e
theorem Sub.refl (t:rL):Sub t t:=λ_ _ _ h=>h
theorem Sub.trans {a b c:rL}(x:Sub a b)(y:Sub b c):Sub a c:=λi p z h=>y i p z (x i p z h)
theorem oK.empty (n:Nat):oK n (λ_ _=>none):=⟨λ_ _ _ h=>(by cases h),λ_ _ _ h=>(by cases h),λ_ _ _ h=>(by cases h),λ_ _ _ h=>(by cases h)⟩
theorem aaG (T:oK n t)(X:bE n x):oK n (jJ t n x)/\Sub t (jJ t n x)/\ins (jJ t n x) n 0 x=none/\ ∀g,g∈fR n (jJ t n x) 0->bX n (λu=>u∈fR n t 0∨u=x) g:=by
 unfold jJ
 cases h:ins t n 0 x with
 |none=>exact⟨T,Sub.refl t,h,λg l=>bX.of (λu c=>by rcases c with c|rfl;exact T.MK u c;exact X) (.inl l)⟩
 |some q=>
  obtain⟨i,r⟩:=q;have o:Fix 0 x:=λk K=>oq
  obtain⟨L,m,f,J,z,A,w,p,G⟩:=Bu T n 0 x i r oq X o h
  have a: ∀j q y,put t i (r.getD i 0) r j q=some y->(j=i/\q=r.getD i 0/\y=r)∨t j q=some y:=λj q y b=>by
   unfold put at b;split at b
   ·rename_i e;cases b;exact .inl ⟨e.1,e.2,rfl⟩
   ·exact .inr b
  refine⟨⟨λj q y b=>?_,λj q y b=>?_,λj q y b=>?_,λj q y b=>?_⟩,EW A,Ui T n 0 x i r oq X o h,λg l=>?_⟩
  ·rcases a j q y b with ⟨rfl,rfl,rfl⟩|h
   ·exact⟨m,f.iN m,z⟩
   ·exact T.lt _ _ _ h
  ·rcases a j q y b with ⟨rfl,rfl,rfl⟩|h
   ·exact f
   ·exact T.cU _ _ _ h
  ·rcases a j q y b with ⟨rfl,rfl,rfl⟩|h
   ·exact J
   ·exact T.fix _ _ _ h
  ·rcases a j q y b with ⟨rfl,rfl,rfl⟩|h
   ·rfl
   ·exact T.maps _ _ _ h
  ·have d: ∀u,(u∈fR n t 0∨u=x)->bE n u:=λu c=>by
    rcases c with c|rfl
    ·exact T.MK u c
    ·exact X
   obtain⟨j,q,B,v,s,e⟩:=fV.1 l;rcases a j q g e with ⟨_,_,rfl⟩|h
   ·have W:=p.cU T.MK
    have F:g=aX x (dA w):=by rw[G,aV f W W.inv,fC W,bZ f]
    rw[F];exact (bX.of d (.inr rfl)).app d ((p.mono λu c=>Or.inl c).inv d)
   ·exact bX.of d (.inl (fV.2 ⟨j,q,B,v,s,h⟩))
structure Oo (n:Nat)(L:List Nat->Prop)(t:rL):Prop where
 tab:oK n t
 gen: ∀g,g∈fR n t 0->bX n L g
variable {L:List Nat->Prop}
theorem Oo.ins (a:Oo n L t)(d: ∀g,L g->bE n g)(c:bX n L x):Oo n L (jJ t n x)/\Sub t (jJ t n x)/\Go.Pm.ins (jJ t n x) n 0 x=none:=by
 obtain⟨j,f,e,i⟩:=aaG a.tab (c.cU d);refine⟨⟨j,λg h=>(i g h).le (bX.dN d) λu b=>?_⟩,f,e⟩;rcases b with b|rfl
 ·exact a.gen u b
 ·exact c
theorem Oo.group (a:Oo n L t)(b: ∀g,L g->bE n g)(e:0<n)(c:Jh n t)(hi: ∀g,L g->Go.Pm.ins t n 0 g=none)(x:List Nat):S n (kX n t) 0 x↔bX n L x:=by
 rw[DJ a.tab c e];constructor
 ·exact λh=>h.le (bX.dN b) a.gen
 ·exact λh=>h.le (bX.dN a.tab.MK) λg d=>xS a.tab n 0 g oq (b g d) (λk f=>oq) (hi g d)
structure SK (n:Nat)(L:List Nat->Prop)(τ:pM):Prop where
 tw:pI n 0 τ
 group: ∀x,S n τ 0 x↔bX n L x
theorem SK.start (a:0<n):SK n (λ_=>False) (PX n):=by
 refine⟨PI n,λx=>?_⟩;rw[(PI n).gen a];have:(λg=>g∈(PX n 0).gens)=λ_=>False:=funext λg=>propext ⟨λh=>(by cases h),λh=>h.elim⟩
 rw[this]
theorem SK.add {τ d:pM}(a:SK n L τ)(j:0<n)(e: ∀g,L g->bE n g)(X:bE n x)(b:Iw n 0 x τ d):SK n (λg=>L g∨g=x) d:=by
 refine⟨b.tw,λz=>?_⟩
 have f: ∀g,(L g∨g=x)->bE n g:=λg c=>by
  rcases c with c|rfl
  ·exact e g c
  ·exact X
 rw[b.group a.tw j X z];constructor
 ·intro h
  refine h.le (bX.dN f) λg c=>?_
  rcases c with c|rfl
  ·exact ((a.group g).1 c).mono λu i=> .inl i
  ·exact bX.of f (.inr rfl)
 ·intro h
  refine h.mono λg c=>?_
  rcases c with c|rfl
  ·exact .inl ((a.group g).2 (bX.of e c))
  ·exact .inr rfl
theorem SK.congr {M:List Nat->Prop}{τ:pM}(a:SK n L τ)(h: ∀g,L g↔M g):SK n M τ:=by
 have:L=M:=funext λg=>propext (h g)
 exact this▸a
end
def BV (n:Nat)(R:PZ):List Nat->Prop:=bX n λg=>g∈R.flatten
def Valid (n:Nat)(O:zI)(R:PZ):Prop:=(∀g∈R.flatten,bE n g)/\bC n (BV n R) O R
theorem Valid.iff {n:Nat}{O a:zI}{R b:PZ}(d: ∀g∈R.flatten,bE n g)(c:bC n (BV n R) a b):Valid n O R↔O=a/\R=b:=by
 constructor
 ·rintro⟨_,h⟩;exact h.uniq c
 ·rintro⟨rfl,rfl⟩;exact⟨d,c⟩
theorem Valid.dN {n:Nat}{O:zI}{R:PZ}(v:Valid n O R):iX n (BV n R):=bX.dN v.1
end
end Go.Pm
namespace Go.Proofs.YtcdbmkidaecdiaaGreat
open Go Go.Ay Go.Pm
set_option maxRecDepth 100000
def Kx (c:Nat):V:=if c<130 then .aE else aC 0
def lv0:Lv:=⟨[], [],λ_=>none,λ_=>0⟩
theorem XF: [V.aE,V.aE,V.aE,V.aE,V.aE,V.aE,V.aE,V.aE,V.aE,V.aE,V.aE,V.aE,V.aE,V.aE,V.aE,V.aE,V.aE,V.aE,V.aE,V.aE,V.aE,V.aE,V.aE,V.aE,V.aE,V.aE,V.aE,V.aE,V.aE,V.aE,V.aE,V.aE,V.aE,V.aE,V.aE,V.aE,V.aE,V.aE,V.aE,V.aE,V.aE,V.aE,V.aE,V.aE,V.aE,V.aE,V.aE,V.aE,V.aE,V.aE,V.aE,V.aE,V.aE,V.aE,V.aE,V.aE,V.aE,V.aE,V.aE,V.aE,V.aE,V.aE,V.aE,V.aE,V.aE,V.aE,V.aE,V.aE,V.aE,V.aE,V.aE,V.aE,V.aE,V.aE,V.aE,V.aE,V.aE,V.aE,V.aE,V.aE,V.aE,V.aE,V.aE,V.aE,V.aE,V.aE,V.aE,V.aE,V.aE,V.aE,V.aE,V.aE,V.aE,V.aE,V.aE,V.aE,V.aE,V.aE,V.aE,V.aE,V.aE,V.aE,V.aE,V.aE,V.aE,V.aE,V.aE,V.aE,V.aE,V.aE,V.aE,V.aE,V.aE,V.aE,V.aE,V.aE,V.aE,V.aE,V.aE,V.aE,V.aE,V.aE,V.aE,V.aE,V.aE,V.aE,V.aE,V.aE,V.aE,V.aE,(aC 0),(aC 0),(aC 0),(aC 0),(aC 0),(aC 0),(aC 0),(aC 0),(aC 0),(aC 0),(aC 0),(aC 0),(aC 0),(aC 0),(aC 0),(aC 0),(aC 0),(aC 0),(aC 0),(aC 0),(aC 0),(aC 0),(aC 0),(aC 0),(aC 0),(aC 0),(aC 0),(aC 0),(aC 0),(aC 0),(aC 0),(aC 0),(aC 0),(aC 0),(aC 0),(aC 0),(aC 0),(aC 0),(aC 0),(aC 0),(aC 0),(aC 0),(aC 0),(aC 0),(aC 0),(aC 0),(aC 0),(aC 0),(aC 0),(aC 0),(aC 0),(aC 0),(aC 0),(aC 0),(aC 0),(aC 0),(aC 0),(aC 0),(aC 0),(aC 0),(aC 0),(aC 0),(aC 0),(aC 0)]=rc 194 Kx:=rfl
theorem KT (n:Nat):cX (rc 194 Kx) (n*194)=rc (n*194) λc=>Kx (c%194):=by
 refine List.ext_getElem (by simp [cX,kH]) λi b a=>?_
 simp [cX,rc];rw[List.getElem?_range (Nat.mod_lt _ om)];rfl
def OD (n i:Nat):pM:=λj=>if j<i then PX n j else lv0
theorem rX.congr {h:H}{n d L:Nat}{F:Nat->V}{τ b:pM}(R:rX h n d L F τ)(e: ∀j,j<n->τ j=b j):rX h n d L F b:=
 ⟨R.t,R.l,R.tn,R.ln,R.tw,λj p a c=>by rw[←e j a];exact R.to j p a c,λj p a c=>by rw[←e j a];exact R.iv j p a c,λj p a c=>by rw[←e j a];exact R.tr j p a c,
  λj f=>by rw[←e j f];exact R.gens j f,λj f=>by rw[←e j f];exact R.orb j f,R.IQ,R.ap⟩
theorem Yr (n:Nat)(h:H)(h0:0<n)(hn:n<=7):
  Ev T 192 [aC n] h (λv h'=> ∃tid L F,v= .ptr tid 0/\rX h' n tid L F (PX n)/\Fr h h'/\ ∀id,WT n L F id->h.next<=id):=by
 refine cV wT rfl ?_
 have hm:Jo h 194 3632 (rc 194 Kx) (aC n) (aC n)=some (.sl h.next 0 n (.kn n),h.new (.cells false (rc (n*194) λc=>Kx (c%194)))):=by
  rw[tU om (Int.le_refl _) om om,NK,KT]
 obtain⟨w,K⟩: ∃w:Nat->V,w=λc=>Kx (c%194):=⟨_,rfl⟩
 obtain⟨L,U⟩:=exI h.next
 rw[U,←K] at hm
 simp(disch:=omega)only[go_sem,wT,aD,XF,hm,PW (z1:= aC 0) (z2:= .aE) (v:= aC n) (u:= .sl L 0 n (.kn n)) rfl rfl rfl rfl,wW _ (v:= aC n) (u:= .sl L 0 n (.kn n)) rfl rfl,U]
 obtain⟨d,m⟩: ∃d,d=(h.new (.cells false (rc (n*194) w))).new (.cells false [aC n,.sl L 0 n (.kn n)]):=⟨_,rfl⟩
 rw[←m]
 have g1:d.get L=some (.cells false (rc (n*194) w)):=by rw[m,H.bG _ (by rw[H.aU];omega),←U,H.aL]
 have g2:d.get (L+1)=some (.cells false [aC n,.sl L 0 n (.kn n)]):=by
  rw[m];have:=H.aL (h.new (.cells false (rc (n*194) w))) (.cells false [aC n,.sl L 0 n (.kn n)]);rwa [H.aU,U] at this
 have n2:d.next=L+2:=by rw[m,H.aU,H.aU,U]
 have f2:Fr h d:=by rw[m];exact ((Fr.refl h).new _).new _
 clear m hm
 have Z: ∀s,s<2*n->uA w s= .aE:=λs _=>by
  unfold uA Kx at*;rw[K];simp only;rw[bF om]
 have w0: ∀id,WT n L w id->id=L:=λid B=>by
  rcases B with e|⟨s,hs,a4,len,c,e⟩
  ·exact e
  ·rw[Z s hs] at e;cases e
 have z0: ∀j c,c<194->w (j*194+c)=Kx c:=λj c hc=>by
  rw[K];simp only;rw[Nat.mul_comm,Nat.mul_add_mod,Nat.mod_eq_of_lt hc]
 have z1: ∀j b c,b+c<194->w (j*194+b+c)=Kx (b+c):=λj b c hc=>by rw[Nat.add_assoc];exact z0 j (b+c) hc
 have R:rX d n (L+1) L w (OD n 0):=by
  refine⟨g2,g1,om,om,λB=>by have:=w0 _ B;omega,λj p a d=>?_,λj p a d=>?_,λj p a d=>?_,λj hj=>⟨[],?_,trivial⟩,λj hj=>?_,λs s' a d _=>?_,λs a=>?_⟩
  ·rw[z1 j 2 p om];unfold Kx;rw[bF om];rfl
  ·rw[z1 j 66 p om];unfold Kx;rw[bF om];rfl
  ·rw[z1 j 130 p om];unfold Kx;rw[bI om];rfl
  ·have:=z0 j 0 om
   rw[Nat.add_zero] at this;rw[this];exact cY.aE ..
  ·rw[z0 j 1 om];exact cY.aE ..
  ·rw[Z s a];intro i o n c e;cases e
  ·rw[Z s a];exact dL.aE _
 have a3:d.cell (L+1) 1=some (.sl L 0 n (.kn n)):=by rw[H.aF g2];rfl
 simp(disch:=omega)only[go_sem,a3]
 refine aH (λk' G hh=> ∃(i:Nat) (F:Nat->V),(∃g:Nat->V,G= [aC n,g 1,.ptr (L+1) 0,g 3,g 4,aC n,aC i,g 7])/\i<=n/\rX hh n (L+1) L F (OD n i)/\Fr h hh/\(∀id,WT n L F id->h.next<=id)/\k'=n-i) n
  ⟨0,w,aB rfl,iJ _,R,f2,λid B=>by rw[w0 id B];omega,rfl⟩ ?_
 clear R g1 g2 n2 f2 Z w0 z0 z1
 rintro k' G h3 ⟨i,F,⟨g,rfl⟩,hi,R,f,B,rfl⟩
 simp(disch:=omega)only[go_sem]
 by_cases Y:(i:Int)<(n:Int)
 ·rw[bP Y]
  have P:i<n:=om
  have cl:h3.cell (L+1) 1=some (.sl L 0 n (.kn n)):=by rw[H.aF R.t];rfl
  have ln:=R.ln
  have hN:i*194+194<=n*194:=om
  have e0:OD n i i=lv0:=by unfold OD;rw[bI om]
  simp(disch:=omega)only[go_sem,cl,cT h3 (z:= aC 0) (v:= aC i) rfl rfl,R.l,Jr]
  obtain⟨x,y⟩: ∃x,x=(h3.new (.cells false [aC i])).set L (some (.cells false (rc (n*194) (F1 F (i*194+1) (.sl h3.next 0 1 (.kn 1)))))):=⟨_,rfl⟩
  rw[←y]
  have p4:uL h3 (F (i*194+1)) 0 1 1 [] [aC i] (h3.new (.cells false [aC i])):=⟨H.aL ..,H.aU ..,λk hk _=>H.bG h3 hk _⟩
  obtain⟨N,f4,w4⟩:=R.UW P (q:=i) (v:= .sl h3.next 0 1 (.kn 1)) (by rw[e0];exact p4) (.inr rfl) (by rw[e0];rfl) y
  obtain⟨J,a1⟩: ∃J,J=F1 F (i*194+1) (.sl h3.next 0 1 (.kn 1)):=⟨_,rfl⟩
  rw[←a1] at N w4
  have n4:x.next=h3.next+1:=by rw[y,H.bY,H.aU]
  have O: ∀id,WT n L J id->h.next<=id:=λid a=>by
   by_cases d:id<h3.next
   ·exact B id (w4 id d a)
   ·have:=f.next;omega
  have a0:Fr h x:=⟨mT f.next f4.next,λid a=>(f4.get id (iW a f.next) λd=>by have:=B id d;omega).trans (f.get id a)⟩
  clear y
  generalize Q:vI (OD n i) i {OD n i i with orb:=(OD n i i).orb++ [i]}=A at N
  have e4:A i={lv0 with orb:= [i]}:=by rw[←Q,bU,e0];rfl
  refine (Vn uY.ok n (H.mk x.tr (h3.next+1+16)) om).mono ?_
  rintro va h5 na
  simp(disch:=omega)only[go_sem]
  refine (Vn uY.ok n h5 om).mono ?_
  rintro vb h6 nb
  have f5:Fr x h5:=((Fr.refl x).bA om:Fr x (H.mk x.tr (h3.next+1+16))).trans na.fr
  have R6:=N.mono (f5.trans nb.fr)
  have pa:=(na.pv (W:=WT n L J) (λa=>by have:=N.Nw a;simp at this;omega)).mono nb.fr
  have pb:=nb.pv (W:=WT n L J) (λa=>by have:=N.Nw a;have:=f5.next;omega)
  have a2:PV (WT n L J) h6 vb (dA (bL n)):=by rw[oJ];exact pb
  simp(disch:=omega)only[go_sem,R6.l,lG pa.fG.1 pa.fG.2,lG pb.fG.1 pb.fG.2,Jr]
  obtain⟨R7,f7,w7⟩:=R6.way P (q:=i) om pa a2 (h3:=(h6.set L (some (Ob.cells false (rc (n*194) (F1 J (i*194+2+i) va))))).set L (some (Ob.cells false (rc (n*194) (F1 (F1 J (i*194+2+i) va) (i*194+66+i) vb))))) (fM _) (λid a _=>by rw[H.aG _ a,H.aG _ a]) (by rw[H.aS])
  have eT:vI A i {A i with to:=λr=>if r=i then some (bL n) else (A i).to r}=OD n (i+1):=by
   funext j
   by_cases e:j=i
   ·subst e
    rw[bU,e4];unfold OD;rw[bF om]
    rfl
   ·rw[dZ _ _ e,←Q,dZ _ _ e]
    unfold OD
    by_cases e2:j<i
    ·rw[bF e2,bF om]
    ·rw[bI e2,bI om]
  rw[eT] at R7
  have f6:=a0.trans (f5.trans nb.fr)
  rw[eJ i]
  refine⟨n-(i+1),om,i+1,_,aB rfl,om,R7,⟨mT f6.next f7.next,λid a=>(f7.get id (iW a f6.next) λd=>by have:=O id d;omega).trans (f6.get id a)⟩,λid a=>O id ((w7 id).1 a),rfl⟩
 rw[bH Y]
 obtain rfl:i=n:=om
 simp(disch:=omega)only[go_sem]
 have eT:rX h3 i (L+1) L F (PX i):=R.congr λj hj=>by unfold OD;rw[bF hj]
 exact⟨L+1,L,F,rfl,eT,f,λid a=>by have:=B id a;omega⟩
abbrev SP (h:H)(v:V)(l:LN):Prop:=SR h v (l.map zi)
theorem Ml {h:H}{ws:List V}{l:LN}(a:aM (SI h) ws (l.map zi)){i:Nat}(hi:i<l.length):SI h (ws.getD i .undef) (zi (l.getD i [])):=by
 have:=AY a (i:=i) (by simpa using hi);rwa [show (l.map zi).getD i []=zi (l.getD i []) by simp [List.getD,hi]] at this
theorem GL {W:Nat->Prop}{h:H}{b:Nat}{v:V}{l:List Int}(s:SI h v l)(d:h.next<=b)(c: ∀id,W id->b<=id):Mq W v:=by
 cases v with
 |sl id off len cap=>exact λa=>by have:=s.in _ _ _ _ rfl;have:=c id a;omega
 |_=>trivial
theorem LC {l:LN}{i:Nat}(hi:i<l.length)(g:List Nat):g∈l.take (i+1)↔g∈l.take i∨g=l.getD i []:=by
 rw[List.take_add_one,dD hi,pH];simp [List.getD,hi]
theorem Xh (n:Nat)(q:V)(l:LN)(h:H)(p:0<n)(O:n<=7)(hl:l.length<1000000)(B:SP h q l)(A: ∀g∈l,bE n g):
  Ev T 141 [aC n,q] h (λv h'=> ∃tid L F τ,v= .ptr tid 0/\rX h' n tid L F τ/\SK n (· ∈l) τ/\Fr h h'/\ ∀id,WT n L F id->h.next<=id):=by
 refine cV Dr rfl ?_
 simp(disch:=omega)only[go_sem,Dr,aD]
 refine (Yr n h p O).mono ?_
 rintro _ j ⟨tid,L,F,rfl,R,f,c⟩
 have G:=B.lens
 rw[jV] at G
 obtain⟨id,w,J,z,d,u,P,m⟩:=B.open
 rw[jV] at z d u P
 simp(disch:=omega)only[go_sem,G]
 refine aH (λN b y=> ∃(i:Nat) (F:Nat->V) (τ:pM),(∃g:Nat->V,b= [aC n,q,g 2,.ptr tid 0,g 4,q,aC (l.length:Int),aC i,g 8])/\i<=l.length/\rX y n tid L F τ/\SK n (· ∈l.take i) τ/\Fr h y/\(∀id,WT n L F id->h.next<=id)/\N=l.length-i) l.length
  ⟨0,F,PX n,aB rfl,iJ _,R,(SK.start p).congr (by simp),f,c,rfl⟩ ?_
 clear R f c F
 rintro N b o ⟨i,F,τ,⟨g,rfl⟩,hi,R,t,f,c,rfl⟩
 simp(disch:=omega)only[go_sem]
 by_cases e:(i:Int)<(l.length:Int)
 ·rw[bP e]
  have a:i<l.length:=om
  have ci:o.cell id (w+i)=some (J.getD i .undef):=by rw[f.cell (d om),P i a]
  have x:=Ml m a
  have pv:PV (WT n L F) o (J.getD i .undef) (l.getD i []):=⟨x.mono f,GL x (fM _) c⟩
  have X:bE n (l.getD i []):=A _ (by simp [List.getD,a])
  simp(disch:=omega)only[go_sem,z.ixa,ci]
  refine (adY n O p o tid L F τ _ _ R pv X (λk hk=>om) t.tw).mono ?_
  rintro vv h3 ⟨Y,s,Z,W,K,w3⟩
  have Q:=(t.add p (λg U=>A g (List.mem_of_mem_take U)) X W).congr λg=>(LC a g).symm
  simp(disch:=omega)only[go_sem]
  rw[eJ i]
  refine⟨l.length-(i+1),om,i+1,Y,s,aB rfl,om,Z,Q,⟨mT f.next K.next,λid j=>(K.get id (iW j f.next) λr=>by have:=c id r;omega).trans (f.get id j)⟩,λid j=>?_,rfl⟩
  by_cases r:id<o.next
  ·exact c id (w3 id r j)
  ·have:=f.next;omega
 rw[bH e]
 obtain rfl:i=l.length:=om
 simp(disch:=omega)only[go_sem]
 exact⟨tid,L,F,τ,rfl,R,t.congr λg=>by rw[List.take_length],f,c⟩
theorem Rt (x:List Nat)(l:List Nat){i:Nat}(hi:i<l.length)(b:Nat):oI x b (l.drop i)=oI x (if x.getD (l.getD i 0) 0<x.getD b 0 then l.getD i 0 else b) (l.drop (i+1)):=by
 rw[AR hi,cJ hi];rfl
theorem RI (h:H)(n l L:Nat)(F:Nat->V)(τ:pM)(vx:V)(x:List Nat)(i:Nat)(hn:n<=7)(R:rX h n l L F τ)(hx:PV (WT n L F) h vx x)(X:bE n x)(b2:i<n)(t:pI n (i+1) τ):
  Ev T 196 [.ptr l 0,vx,aC i] h (λv h'=>PV (WT n L F) h' v (Kb τ (n-(i+1)) (i+1) x)/\bE n (Kb τ (n-(i+1)) (i+1) x)/\Fr h h'):=by
 refine cV sD rfl ?_
 simp(disch:=omega)only[go_sem,sD,aD]
 rw[eJ i]
 refine aH (λk' c hh=> ∃(k:Nat) (y:List Nat) (P:V),(∃g:Nat->V,c= [.ptr l 0,P,g 2,g 3,aC k,g 5,g 6,g 7,g 8,g 9,g 10,g 11,g 12,g 13])/\i<k/\k<=n/\Kb τ (n-k) k y=Kb τ (n-(i+1)) (i+1) x/\
   PV (WT n L F) hh P y/\bE n y/\Fr h hh/\k'=n-k) (n-(i+1))
  ⟨i+1,x,vx,aB rfl,om,om,rfl,hx,X,Fr.refl h,rfl⟩ ?_
 rintro k' c K ⟨k,y,P,⟨g,rfl⟩,a9,b1,o,hy,Y,f,rfl⟩
 have R2:=R.mono f
 have ct:K.cell l 0=some (aC n):=by rw[H.aF R2.t];rfl
 have cl:K.cell l 1=some (.sl L 0 n (.kn n)):=by rw[H.aF R2.t];rfl
 simp(disch:=omega)only[go_sem,ct,cl]
 by_cases a2:(k:Int)<(n:Int)
 case neg=>
  rw[bH a2];obtain rfl:k=n:=om
  rw[Nat.sub_self] at o;simp(disch:=omega)only[go_sem];rw[←o];exact⟨hy,Y,f⟩
 have d:k<n:=om
 rw[bP a2]
 have co:K.cell L (k*194+1)=some (F (k*194+1)):=R2.cell d om
 have oo:=R2.orb k d
 have lo:=cY.lens oo (by rw[aP,aQ])
 have jX:=(t k om d).1
 have b0:=YY jX d
 simp(disch:=omega)only[go_sem,cl,co,lo]
 obtain⟨id,a5,sh,Q,hc⟩:=(show SI K (F (k*194+1)) (zi (τ k).orb) from oo.sv).open
 rw[aQ] at sh Q hc
 obtain⟨a0,A,a3,p,J⟩:=hy.si.open
 rw[aQ,Y.len] at a3 p J
 refine aH (λm' c hh=> ∃(m b:Nat),(∃g:Nat->V,c= [.ptr l 0,P,g 2,g 3,aC k,aC b,g 6,g 7,F (k*194+1),aC ((τ k).orb.length:Int),aC m,g 11,g 12,g 13])/\m<=(τ k).orb.length/\b<n/\b∈k::(τ k).orb/\
   oI y b ((τ k).orb.drop m)=oI y k (τ k).orb/\Fr K hh/\m'=(τ k).orb.length-m) (τ k).orb.length
  ⟨0,k,aB rfl,iJ _,d,Ab ..,rfl,Fr.refl K,rfl⟩ ?_
 rintro m' c s ⟨m,b,⟨g3,rfl⟩,hm,hb,Z,a,B,rfl⟩
 simp(disch:=omega)only[go_sem]
 by_cases z:(m:Int)<((τ k).orb.length:Int)
 ·rw[bP z]
  have r:m<(τ k).orb.length:=om
  rw[Rt _ _ r] at a
  have cq:s.cell id (a5+m)=some (aC ((τ k).orb.getD m 0:Nat)):=by rw[B.cell (Q om),hc m r];congr 2;simp [zi,r]
  have N:(τ k).orb.getD m 0∈(τ k).orb:=by rw[cJ r];exact zG r
  have w:=jX.lt d N
  generalize (τ k).orb.getD m 0=q at cq N w a
  have c1:s.cell a0 (A+q)=some (aC (y.getD q 0:Nat)):=by rw[B.cell (p om),J q w];congr 2;simp [zi,Y.len,w]
  have c2:s.cell a0 (A+b)=some (aC (y.getD b 0:Nat)):=by rw[B.cell (p om),J b hb];congr 2;simp [zi,Y.len,hb]
  simp(disch:=omega)only[go_sem,sh.ixa,cq,a3.ixa,c1,c2]
  have fb:Fr K (H.mk s.tr (s.next+9)):=B.bA om
  by_cases W:((y.getD q 0:Nat):Int)<((y.getD b 0:Nat):Int)
  ·rw[bP W]
   rw[bF om] at a
   simp(disch:=omega)only[go_sem]
   rw[eJ m]
   exact⟨(τ k).orb.length-(m+1),om,m+1,q,aB rfl,om,w,Cu _ N,a,fb,rfl⟩
  ·rw[bH W]
   rw[bI om] at a
   simp(disch:=omega)only[go_sem]
   rw[eJ m]
   exact⟨(τ k).orb.length-(m+1),om,m+1,b,aB rfl,om,hb,Z,a,fb,rfl⟩
 rw[bH z]
 have em:m=(τ k).orb.length:=om
 rw[em,List.drop_length] at a
 have a:b=oI y k (τ k).orb:=a
 have G:n-k=(n-(k+1))+1:=om
 rw[G] at o
 have o:Kb τ (n-(k+1)) (k+1) (if oI y k (τ k).orb=k then y else aX (((τ k).to (oI y k (τ k).orb)).getD []) y)=Kb τ (n-(i+1)) (i+1) x:=o
 rw[←a] at o
 have R3:=R2.mono B
 have a1:=hy.mono B
 simp(disch:=omega)only[go_sem]
 by_cases O:b=k
 ·rw[bF O] at o
  have e0:decide ((b:Int)≠(k:Int))=false:=bH om
  simp(disch:=omega)only[go_sem,e0]
  rw[eJ k]
  exact⟨n-(k+1),om,k+1,y,P,aB rfl,om,om,o,a1,Y,f.trans B,rfl⟩
 rw[bI O] at o
 have e0:decide ((b:Int)≠(k:Int))=true:=bP om
 have a8:s.cell l 1=some (.sl L 0 n (.kn n)):=by rw[H.aF R3.t];rfl
 have a4:b∈(τ k).orb:=by
  rcases zH.1 Z with e|e
  ·exact absurd e O
  ·exact e
 obtain⟨u,hu⟩:=jX.to a4
 have U:=jX.cU _ _ hu
 have a6:s.cell L (k*194+2+b)=some (F (k*194+2+b)):=R3.Sh d om
 have a7:PV (WT n L F) s (F (k*194+2+b)) u:=by
  have:=R3.to k b d om;rw[hu] at this;exact this
 rw[hu] at o
 simp(disch:=omega)only[go_sem,e0,a8,a6]
 refine (mY oF.ok _ P u y s (by rw[U.len];omega) a7.si a1.si (λj hj=>by rw[Y.len];exact U.iN (by rw[←U.len];exact hj))).mono ?_
 rintro v h4 nw
 simp(disch:=omega)only[go_sem]
 rw[eJ k]
 exact⟨n-(k+1),om,k+1,_,v,aB rfl,om,om,o,nw.pv (λhw=>by have:=R3.Nw hw;omega),U.mul Y,(f.trans B).trans nw.fr,rfl⟩
end Go.Proofs.YtcdbmkidaecdiaaGreat
namespace Go.Proofs.YtcdbmkidaecdiaaGreat
open Go Go.Ay Go.Sort
set_option maxRecDepth 100000
section
variable {h:H} {S N i j a:Nat} {d:Array Int} {lt:Int->Int->Bool}
structure cE (h:H)(S N:Nat)(d:Array Int):Prop where
 get:h.get S=aZ (ints d.toList)
 size:d.size=N
 lt:S<h.next
theorem cE.rd (A:cE h S N d)(hi:i<N):h.cell S i=some (aC d[i]!):=by
 have b:i<d.size:=by rw[A.size];exact hi
 rw[H.aF A.get];simp [ints,b]
theorem cE.fr {h':H}(A:cE h S N d)(f:Fr h h'):cE h' S N d:=⟨by rw[f.get _ A.lt];exact A.get,A.size,iW A.lt f.next⟩
theorem bB (hi:i<d.size)(b:H)(S:Nat)(x:Int):dX (aZ (ints d.toList)) b S i [aC x]=some (b.set S (aZ (ints (d.setIfInBounds i x).toList))):=by
 rw[Sj (by simpa using hi),Array.toList_setIfInBounds]
theorem aY {y:Int}(hi:i<d.size)(b:H)(S:Nat)(x:Int):dX (aZ (ints (d.setIfInBounds j y).toList)) b S i [aC x]=some (b.set S (aZ (ints ((d.setIfInBounds j y).setIfInBounds i x).toList))):=
 bB (by simpa using hi) b S x
theorem cE.swap {h2:H}(A:cE h S N d){nx:Nat}(b:h.next<=nx)(e:h2=((H.mk h.tr nx).set S (aZ (ints (d.setIfInBounds i d[j]!).toList))).set S (aZ (ints ((d.setIfInBounds i d[j]!).setIfInBounds j d[i]!).toList))):cE h2 S N (swp d i j)/\Fx (· =S) h h2:=by
 subst e;refine⟨⟨?_,?_,iW A.lt b⟩,⟨b,λid _ c=>?_⟩⟩
 ·rw[H.aS];rfl
 ·have:=A.size;simp [swp,this]
 ·rw[H.aG _ c,H.aG _ c];rfl
theorem Cj (a:Int)(h:H):Ev T 198 [aC a] h (λv h'=>v= .bool false/\h'=h):=by
 refine cV mZ rfl ?_;have e:decide (a≠a)=false:=bH om;simp(disch:=omega)only[go_sem,mZ,aD,e]
theorem gV (a b:Int)(h:H):Ev T 144 [aC a,aC b] h (λv h'=>v= .bool (ltInt a b)/\Fr h h'):=by
 refine cV Ai rfl ?_;simp(disch:=omega)only[go_sem,Ai,aD];refine (Cj a h).mono ?_;rintro _ c ⟨rfl,rfl⟩;simp(disch:=omega)only[go_sem];exact⟨rfl,Fr.refl _⟩
theorem dC {a b c:H}(x:Fx (· =S) a b)(y:Fx (· =S) b c):Fx (· =S) a c:=x.trans y λ_ _ h=>h
theorem Vb (b:a<j+1)(h2:lt d[j+1]! d[j]! =true):insInner lt a (j+1) d=insInner lt a j (swp d (j+1) j):=by
 rw[insInner,bF (by simp [b,h2])]
theorem Ud (h2:lt d[j+1]! d[j]! =false):insInner lt a (j+1) d=d:=by
 rw[insInner,bI (by simp [h2])]
theorem Uf (h:j<=a):insInner lt a j d=d:=by
 cases j with
 |zero=>rfl
 |succ j=>rw[insInner,bI (by simp;omega)]
theorem oW (h:H)(S N a b:Nat)(d:Array Int)(v:lI)(Z:N<1000000)(A:cE h S N d)(hb:b<=N)(B:a<=b):
  Ev T 234 [.sl S 0 N v,aC a,aC b] h (λ_ h'=>cE h' S N (insertionSort ltInt d a b)/\Fx (· =S) h h'):=by
 refine cV iZ rfl ?_
 simp(disch:=omega)only[go_sem,iZ,aD]
 rw[eJ a]
 refine aH (λr c q=> ∃(i:Nat) (e:Array Int),(∃g:Nat->V,c= [.sl S 0 N v,aC a,aC b,aC i,g 4,g 5,g 6])/\a<i/\i<=b+1/\cE q S N e/\insOuter ltInt a b i e=insertionSort ltInt d a b/\Fx (· =S) h q/\r=b+1-i) (b+1-(a+1))
  ⟨a+1,d,aB rfl,om,om,A,rfl,Fx.refl _ h,rfl⟩ ?_
 clear A
 rintro r c h1 ⟨i,e,⟨g,rfl⟩,K,L,A,f,F,rfl⟩
 simp(disch:=omega)only[go_sem]
 by_cases s:(i:Int)<(b:Int)
 case neg=>
  rw[bH s];simp(disch:=omega)only[go_sem];rw[insOuter,bI om] at f;rw[←f];exact⟨A,F⟩
 rw[bP s]
 rw[insOuter,bF om] at f
 simp(disch:=omega)only[go_sem]
 refine aH (λr c q=> ∃(j:Nat) (k:Array Int),(∃g:Nat->V,c= [.sl S 0 N v,aC a,aC b,aC i,aC j,g 5,g 6])/\a<=j/\j<=i/\cE q S N k/\insInner ltInt a j k=insInner ltInt a i e/\Fx (· =S) h q/\r=j) i
  ⟨i,e,aB rfl,om,om,A,rfl,F,rfl⟩ ?_
 clear A F
 rintro r c n ⟨j,k,⟨Y,rfl⟩,J,O,A,o,F,U⟩
 have sz:=A.size
 by_cases t:(a:Int)<(j:Int)
 ·obtain⟨m,rfl⟩: ∃m,j=m+1:=⟨j- 1,om⟩
  have R:=A.rd (i:=m+1) om
  have G:=A.rd (i:=m) om
  have w:=bP t
  have z:((m+1:Nat):Int)- 1=(m:Int):=om
  simp(disch:=omega)only[go_sem,w,z,R,G]
  refine (gV _ _ _).mono ?_
  rintro _ x ⟨rfl,u⟩
  have l:Fr n x:=Fr.trans ((Fr.refl n).bA om) u
  have p:=A.fr l
  have P:=p.rd (i:=m+1) om
  have Q:=p.rd (i:=m) om
  cases hl:ltInt k[m+1]! k[m]! with
  |false=>
   rw[Ud hl] at o;simp(disch:=omega)only[go_sem,hl];rw[eJ i];rw[←o] at f;exact⟨b+1-(i+1),om,i+1,k,aB rfl,om,om,p,f,dC F (Fx.of l),rfl⟩
  |true=>
   rw[Vb om hl] at o;simp(disch:=omega)only[go_sem,hl,z,P,Q,p.get,bB,aY];have W:=p.swap (i:=m+1) (j:=m) (nx:=x.next+18) om rfl;exact⟨m,om,m,_,aB rfl,om,om,W.1,o,dC (dC F (Fx.of l)) W.2,rfl⟩
 ·have w:=bH t
  rw[Uf om] at o
  simp(disch:=omega)only[go_sem,w]
  rw[eJ i]
  rw[←o] at f
  have y:Fr n (H.mk n.tr (n.next+15)):=(Fr.refl n).bA om
  exact⟨b+1-(i+1),om,i+1,k,aB rfl,om,om,A.fr y,f,dC F (Fx.of y),rfl⟩
end
def Wm (lt:Int->Int->Bool)(hi first root:Nat)(d:Array Int):Nat:=if 2*root+1+1<hi/\lt d[first+(2*root+1)]! d[first+(2*root+1)+1]! =true then 2*root+2 else 2*root+1
theorem xP {lt:Int->Int->Bool}(hi first a:Nat)(d:Array Int):siftDown lt hi first a d=if 2*a+1≥hi then d else
  if lt d[first+a]! d[first+Wm lt hi first a d]! =true then siftDown lt hi first (Wm lt hi first a d) (swp d (first+a) (first+Wm lt hi first a d)) else d:=by
 rw[siftDown]
 unfold Wm
 by_cases b:2*a+1≥hi
 ·rw[dif_pos b,bF b]
 ·rw[dif_neg b,bI b]
  by_cases c:2*a+1+1<hi/\lt d[first+(2*a+1)]! d[first+(2*a+1)+1]! =true
  ·rw[bF (by simpa using c),bF c]
   cases h3:lt d[first+a]! d[first+(2*a+2)]!
   ·simp
   ·simp [show 2*a+2<hi by omega]
  ·rw[bI (by simpa using c),bI c]
   cases h3:lt d[first+a]! d[first+(2*a+1)]! <;>simp
theorem kA  (h:H)(S N u hi first:Nat)(d:Array Int)(Z:lI)(hN:N<1000000)(A:cE h S N d)(hb:first+hi<=N)(K:u<=hi):
  Ev T 257 [.sl S 0 N Z,aC u,aC hi,aC first] h (λ_ h'=>cE h' S N (siftDown ltInt hi first u d)/\Fx (· =S) h h'):=by
 refine cV kO rfl ?_
 simp(disch:=omega)only[go_sem,kO,aD]
 refine aH (λY p U=> ∃(r:Nat) (e:Array Int),(∃g:Nat->V,p= [.sl S 0 N Z,aC u,aC hi,aC first,aC r,g 5,g 6,g 7,g 8])/\r<=hi/\cE U S N e/\siftDown ltInt hi first r e=siftDown ltInt hi first u d/\Fx (· =S) h U/\Y=hi-r) (hi-u)
  ⟨u,d,aB rfl,K,A,rfl,Fx.refl _ h,rfl⟩ ?_
 clear A
 rintro Y p t ⟨r,e,⟨g,rfl⟩,hr,A,a,F,rfl⟩
 have P:2*(r:Int)+1=((2*r+1:Nat):Int):=om
 by_cases G:(hi:Int)<=((2*r+1:Nat):Int)
 ·have J:=bP G
  simp(disch:=omega)only[go_sem,P,J]
  rw[xP,bF om] at a
  rw[←a]
  exact⟨A,F⟩
 have J:=bH G
 rw[xP,bI om] at a
 have Q:((2*r+1:Nat):Int)+1=((2*r+2:Nat):Int):=om
 have c:(first:Int)+(r:Int)=((first+r:Nat):Int):=om
 have f:(first:Int)+((2*r+1:Nat):Int)=((first+(2*r+1):Nat):Int):=om
 have z:(first:Int)+((2*r+2:Nat):Int)=((first+(2*r+2):Nat):Int):=om
 have O:((first+(2*r+1):Nat):Int)+1=((first+(2*r+1)+1:Nat):Int):=om
 have sz:=A.size
 by_cases B:((2*r+2:Nat):Int)<(hi:Int)
 ·have R:=bP B
  have n:=A.rd (i:=first+(2*r+1)) om
  have y:=A.rd (i:=first+(2*r+1)+1) om
  simp(disch:=omega)only[go_sem,P,J,Q,R,f,O,n,y]
  refine (gV _ _ _).mono ?_
  rintro _ w ⟨rfl,L⟩
  have x:Fr t w:=Fr.trans ((Fr.refl t).bA om) L
  have v:=A.fr x
  have m:=v.rd (i:=first+r) om
  have n:=v.rd (i:=first+(2*r+1)) om
  have y:=v.rd (i:=first+(2*r+2)) om
  cases hl:ltInt e[first+(2*r+1)]! e[first+(2*r+1)+1]! with
  |false=>
   have k:Wm ltInt hi first r e=2*r+1:=bI (by rw[hl];simp)
   rw[k] at a;simp(disch:=omega)only[go_sem,hl,c,f,m,n];refine (gV _ _ _).mono ?_;rintro _ o ⟨rfl,l⟩;have s:Fr w o:=Fr.trans ((Fr.refl w).bA om) l;have b:=v.fr s;have m:=b.rd (i:=first+r) om;have n:=b.rd (i:=first+(2*r+1)) om;have q:=dC (dC F (Fx.of x)) (Fx.of s)
   cases hl2:ltInt e[first+r]! e[first+(2*r+1)]! with
   |false=>
    rw[bI (by rw[hl2];simp)] at a;simp(disch:=omega)only[go_sem,hl2];rw[←a];exact⟨b,q⟩
   |true=>
    rw[bF hl2] at a;simp(disch:=omega)only[go_sem,hl2,c,f,m,n,b.get,bB,aY];have W:=b.swap (i:=first+r) (j:=first+(2*r+1)) (nx:=o.next+24) om rfl;exact⟨hi-(2*r+1),om,2*r+1,_,aB rfl,om,W.1,a,dC q W.2,rfl⟩
  |true=>
   have k:Wm ltInt hi first r e=2*r+2:=bF ⟨om,hl⟩
   rw[k] at a;simp(disch:=omega)only[go_sem,hl,Q,c,z,m,y];refine (gV _ _ _).mono ?_;rintro _ o ⟨rfl,l⟩;have s:Fr w o:=Fr.trans ((Fr.refl w).bA om) l;have b:=v.fr s;have m:=b.rd (i:=first+r) om;have y:=b.rd (i:=first+(2*r+2)) om;have q:=dC (dC F (Fx.of x)) (Fx.of s)
   cases hl2:ltInt e[first+r]! e[first+(2*r+2)]! with
   |false=>
    rw[bI (by rw[hl2];simp)] at a;simp(disch:=omega)only[go_sem,hl2];rw[←a];exact⟨b,q⟩
   |true=>
    rw[bF hl2] at a;simp(disch:=omega)only[go_sem,hl2,c,z,m,y,b.get,bB,aY];have W:=b.swap (i:=first+r) (j:=first+(2*r+2)) (nx:=o.next+24) om rfl;exact⟨hi-(2*r+2),om,2*r+2,_,aB rfl,om,W.1,a,dC q W.2,rfl⟩
 ·have R:=bH B
  have k:Wm ltInt hi first r e=2*r+1:=bI om
  rw[k] at a
  have x:Fr t (H.mk t.tr (t.next+20)):=(Fr.refl t).bA om
  have v:=A.fr x
  have m:=A.rd (i:=first+r) om
  have n:=A.rd (i:=first+(2*r+1)) om
  simp(disch:=omega)only[go_sem,P,J,Q,R,c,f,m,n]
  refine (gV _ _ _).mono ?_
  rintro _ o ⟨rfl,l⟩
  have s:Fr t o:=Fr.trans ((Fr.refl t).bA om) l
  have b:=A.fr s
  have m:=b.rd (i:=first+r) om
  have n:=b.rd (i:=first+(2*r+1)) om
  have q:=dC F (Fx.of s)
  cases hl2:ltInt e[first+r]! e[first+(2*r+1)]! with
  |false=>
   rw[bI (by rw[hl2];simp)] at a;simp(disch:=omega)only[go_sem,hl2];rw[←a];exact⟨b,q⟩
  |true=>
   rw[bF hl2] at a;simp(disch:=omega)only[go_sem,hl2,c,f,m,n,b.get,bB,aY];have W:=b.swap (i:=first+r) (j:=first+(2*r+1)) (nx:=o.next+24) om rfl;exact⟨hi-(2*r+1),om,2*r+1,_,aB rfl,om,W.1,a,dC q W.2,rfl⟩
theorem qZ  (h:H)(S N a b:Nat)(d:Array Int)(r:lI)(z:N<1000000)(A:cE h S N d)(hb:b<=N)(J:a<=b):
  Ev T 235 [.sl S 0 N r,aC a,aC b] h (λ_ h'=>cE h' S N (heapSort ltInt d a b)/\Fx (· =S) h h'):=by
 refine cV kQ rfl ?_
 obtain⟨n,U⟩:=exI (b-a)
 have Q:(b:Int)-(a:Int)=(n:Int):=om
 have G:((n:Int)- 1).tdiv 2=(((n- 1)/2+1:Nat):Int)- 1:=by
  by_cases h0:n=0
  ·subst h0;decide
  ·rw[Int.tdiv_eq_ediv_of_nonneg om];omega
 simp(disch:=omega)only[go_sem,kQ,aD,Q,G]
 refine aH (λf c p=> ∃(k:Nat) (e:Array Int),(∃g:Nat->V,c= [.sl S 0 N r,aC a,aC b,aC a,aC 0,aC n,aC ((k:Int)- 1),g 7,g 8,g 9])/\k<=n+1/\(k=1∨k<=n)/\cE p S N e/\heapBuild ltInt n a k e=heapBuild ltInt n a ((n- 1)/2+1) d/\Fx (· =S) h p/\f=k) ((n- 1)/2+1)
  ⟨(n- 1)/2+1,d,aB rfl,om,om,A,rfl,Fx.refl _ h,rfl⟩ ?_
 clear A
 rintro f c Y ⟨k,e,⟨g,rfl⟩,s,x,A,u,F,w⟩
 subst w
 by_cases l:(0:Int)<=(f:Int)- 1
 ·have o:=bP l
  obtain⟨m,rfl⟩: ∃m,f=m+1:=⟨f- 1,om⟩
  have t:((m+1:Nat):Int)- 1=(m:Int):=om
  rw[t] at o
  rw[t]
  simp(disch:=omega)only[go_sem,o]
  refine (kA Y S N m n a e r z A om om).mono ?_
  rintro _ y ⟨K,F2⟩
  simp(disch:=omega)only[go_sem]
  exact⟨m,om,m,_,aB rfl,om,om,K,u,dC F F2,rfl⟩
 have o:=bH l
 obtain rfl:f=0:=om
 have u:e=heapBuild ltInt n a ((n- 1)/2+1) d:=u
 simp(disch:=omega)only[go_sem,o]
 refine aH (λf c p=> ∃(k:Nat) (q:Array Int),(∃g:Nat->V,c= [.sl S 0 N r,aC a,aC b,aC a,aC 0,aC n,g 6,aC ((k:Int)- 1),g 8,g 9])/\k<=n/\cE p S N q/\heapPop ltInt a k q=heapPop ltInt a n e/\Fx (· =S) h p/\f=k) n
  ⟨n,e,aB rfl,om,A,rfl,F,rfl⟩ ?_
 clear A F l o s x
 rintro f c y ⟨k,q,⟨g,rfl⟩,s,A,v,F,w⟩
 subst w
 have sz:=A.size
 by_cases l:(0:Int)<=(f:Int)- 1
 ·have o:=bP l
  obtain⟨m,rfl⟩: ∃m,f=m+1:=⟨f- 1,om⟩
  have t:((m+1:Nat):Int)- 1=(m:Int):=om
  rw[t] at o
  rw[t]
  have P:(a:Int)+(m:Int)=((a+m:Nat):Int):=om
  have Z:=A.rd (i:=a+m) om
  have L:=A.rd (i:=a) om
  simp(disch:=omega)only[go_sem,o,P,Z,L,A.get,bB,aY]
  have W:=A.swap (i:=a) (j:=a+m) (nx:=y.next+20) om rfl
  have B:=kA _ S N 0 m a _ r z W.1 om om
  refine B.mono ?_
  rintro _ h3 ⟨O,R⟩
  simp(disch:=omega)only[go_sem]
  exact⟨m,om,m,_,aB rfl,om,O,v,dC (dC F W.2) R,rfl⟩
 have o:=bH l
 obtain rfl:f=0:=om
 simp(disch:=omega)only[go_sem,o]
 have v:q=heapPop ltInt a n e:=v
 have:heapSort ltInt d a b=q:=by unfold heapSort;rw[U,v,u]
 rw[this]
 exact⟨A,F⟩
def ZH (op:BinOp)(k:IntKind)(x y:V):Option V:=match x,y with
 | .int j a,.int _ b=>if j=k then Ew op k a b else none
 |_,_=>none
theorem Gs (ρ:X->V)(h:H)(op:BinOp)(k:IntKind)(x y:X):cI ρ h (.shf op k x y)=(ZH op k (ρ x) (ρ y)).map (·,h):=by
 simp only[cI,ZH];cases ρ x<;>cases ρ y<;>try rfl
 simp only;split<;>rfl
theorem zY (op:BinOp)(k j:IntKind)(a b:Int):ZH op k (.int k a) (.int j b)=Ew op k a b:=by simp [ZH]
theorem Yz (n:Int):0<=IntKind.u64.wrap n/\IntKind.u64.wrap n<18446744073709551616:=by
 unfold IntKind.wrap;simp only[IntKind.bits,IntKind.signed];have:=Int.emod_nonneg n (show (18446744073709551616:Int)≠0 by omega);have:=Int.emod_lt_of_pos n (show (0:Int)<18446744073709551616 by omega);simp;omega
theorem dK {n:Int}(a:0<=n)(h2:n<18446744073709551616):IntKind.u64.wrap n=n:=by
 unfold IntKind.wrap;simp only[IntKind.bits,IntKind.signed];have:n%18446744073709551616=n:=Int.emod_eq_of_lt a h2;simp;exact this
theorem yH {n:Int}(a:0<=n)(h2:n<256):IntKind.u8.wrap n=n:=by
 unfold IntKind.wrap;simp only[IntKind.bits,IntKind.signed];have:n%256=n:=Int.emod_eq_of_lt a h2;simp;exact this
theorem HM (a b:Int)(c:0<=b): ∃y,Ew .shl .u64 a b=some (.int .u64 y)/\0<=y/\y<18446744073709551616:=by
 unfold Ew;rw[bI om];exact⟨_,rfl,Yz _⟩
theorem ZI (a b:Int)(c:0<=b): ∃y,Ew .shr .u64 a b=some (.int .u64 y):=by
 unfold Ew;rw[bI om];exact⟨_,rfl⟩
theorem JL {x:Nat}:Ew .shr .u64 (x:Int) 8=some (.int .u64 ((x/256:Nat):Int)):=by
 unfold Ew;rw[bI om];simp only;congr 2;show Int.fdiv (x:Int) 256=_;rw[Int.fdiv_eq_ediv_of_nonneg _ om];rfl
theorem Ub (a b:Int): ∃y,arith .xor .u64 a b=some (.int .u64 y)/\0<=y/\y<18446744073709551616:=⟨_,rfl,Yz _⟩
theorem Uo (a:Int)(b:Nat)(c:b<18446744073709551616): ∃y:Nat,arith .and .u64 a (b:Int)=some (.int .u64 (y:Int))/\y<=b:=by
 refine⟨(BitVec.ofInt 64 a&&&BitVec.ofInt 64 (b:Int)).toNat,?_,?_⟩
 ·rw[MW]
  congr 2;show IntKind.u64.wrap (((BitVec.ofInt 64 a&&&BitVec.ofInt 64 (b:Int)).toNat:Nat):Int)=_;have:=(BitVec.ofInt 64 a&&&BitVec.ofInt 64 (b:Int)).isLt;generalize (BitVec.ofInt 64 a&&&BitVec.ofInt 64 (b:Int)).toNat=w at*;exact dK om om
 ·rw[BitVec.toNat_and]
  have:(BitVec.ofInt 64 (b:Int)).toNat=b:=by
   simp [BitVec.toNat_ofInt];omega
  rw[this];exact Nat.and_le_right
theorem PN: ∀z,z<256->([0,1,2,2,3,3,3,3,4,4,4,4,4,4,4,4,5,5,5,5,5,5,5,5,5,5,5,5,5,5,5,5,6,6,6,6,6,6,6,6,6,6,6,6,6,6,6,6,6,6,6,6,6,6,6,6,6,6,6,6,6,6,6,6,7,7,7,7,7,7,7,7,7,7,7,7,7,7,7,7,7,7,7,7,7,7,7,7,7,7,7,7,7,7,7,7,7,7,7,7,7,7,7,7,7,7,7,7,7,7,7,7,7,7,7,7,7,7,7,7,7,7,7,7,7,7,7,7,8,8,8,8,8,8,8,8,8,8,8,8,8,8,8,8,8,8,8,8,8,8,8,8,8,8,8,8,8,8,8,8,8,8,8,8,8,8,8,8,8,8,8,8,8,8,8,8,8,8,8,8,8,8,8,8,8,8,8,8,8,8,8,8,8,8,8,8,8,8,8,8,8,8,8,8,8,8,8,8,8,8,8,8,8,8,8,8,8,8,8,8,8,8,8,8,8,8,8,8,8,8,8,8,8,8,8,8,8,8,8,8,8,8,8,8,8,8,8,8,8,8,8,8,8,8,8,8][z]? :Option Nat)=some (bitsLen z):=by decide+kernel
theorem FB {z:Nat}(a:z<256):ZR (.str [0,1,2,2,3,3,3,3,4,4,4,4,4,4,4,4,5,5,5,5,5,5,5,5,5,5,5,5,5,5,5,5,6,6,6,6,6,6,6,6,6,6,6,6,6,6,6,6,6,6,6,6,6,6,6,6,6,6,6,6,6,6,6,6,7,7,7,7,7,7,7,7,7,7,7,7,7,7,7,7,7,7,7,7,7,7,7,7,7,7,7,7,7,7,7,7,7,7,7,7,7,7,7,7,7,7,7,7,7,7,7,7,7,7,7,7,7,7,7,7,7,7,7,7,7,7,7,7,8,8,8,8,8,8,8,8,8,8,8,8,8,8,8,8,8,8,8,8,8,8,8,8,8,8,8,8,8,8,8,8,8,8,8,8,8,8,8,8,8,8,8,8,8,8,8,8,8,8,8,8,8,8,8,8,8,8,8,8,8,8,8,8,8,8,8,8,8,8,8,8,8,8,8,8,8,8,8,8,8,8,8,8,8,8,8,8,8,8,8,8,8,8,8,8,8,8,8,8,8,8,8,8,8,8,8,8,8,8,8,8,8,8,8,8,8,8,8,8,8,8,8,8,8,8,8,8]) (.int .u8 (z:Int))=some (.int .u8 ((bitsLen z:Nat):Int)):=by
 have c:bitsLen z<=8:=(bitsLen_le_iff z 8).2 om;have b:=PN z a;generalize ([0,1,2,2,3,3,3,3,4,4,4,4,4,4,4,4,5,5,5,5,5,5,5,5,5,5,5,5,5,5,5,5,6,6,6,6,6,6,6,6,6,6,6,6,6,6,6,6,6,6,6,6,6,6,6,6,6,6,6,6,6,6,6,6,7,7,7,7,7,7,7,7,7,7,7,7,7,7,7,7,7,7,7,7,7,7,7,7,7,7,7,7,7,7,7,7,7,7,7,7,7,7,7,7,7,7,7,7,7,7,7,7,7,7,7,7,7,7,7,7,7,7,7,7,7,7,7,7,8,8,8,8,8,8,8,8,8,8,8,8,8,8,8,8,8,8,8,8,8,8,8,8,8,8,8,8,8,8,8,8,8,8,8,8,8,8,8,8,8,8,8,8,8,8,8,8,8,8,8,8,8,8,8,8,8,8,8,8,8,8,8,8,8,8,8,8,8,8,8,8,8,8,8,8,8,8,8,8,8,8,8,8,8,8,8,8,8,8,8,8,8,8,8,8,8,8,8,8,8,8,8,8,8,8,8,8,8,8,8,8,8,8,8,8,8,8,8,8,8,8,8,8,8,8,8,8]:List Nat)=l at*;unfold ZR;simp only;rw[bF om,NK,b];simp only[Option.map_some];rw[Nat.mod_eq_of_lt om]
theorem OO {x:Nat}(h:256<=x):bitsLen x=8+bitsLen (x/256):=by
 apply Nat.le_antisymm
 ·rw[bitsLen_le_iff,Nat.pow_add]
  have:=lt_two_pow_bitsLen (x/256);omega
 ·have a:=lt_two_pow_bitsLen x
  have d: ¬bitsLen x<=8:=λb=>by rw[bitsLen_le_iff] at b;omega
  obtain⟨k,c⟩: ∃k,bitsLen x=8+k:=⟨bitsLen x- 8,om⟩
  rw[c,Nat.pow_add] at a;have:bitsLen (x/256)<=k:=(bitsLen_le_iff _ _).2 om;omega
theorem RM (x:Nat)(h:H)(g:x<65536):Ev T 177 [.int .u64 (x:Int)] h (λv h'=>v= aC (bitsLen x:Nat)/\h'=h):=by
 refine cV oN rfl ?_;have c:decide ((4294967296:Int)<=(x:Int))=false:=bH om;have b:decide ((65536:Int)<=(x:Int))=false:=bH om
 by_cases e:256<=x
 ·have a:decide ((256:Int)<=(x:Int))=true:=bP om
  have f:=OO e;have d:bitsLen (x/256)<=8:=(bitsLen_le_iff _ 8).2 om;simp(disch:=omega)only[go_sem,oN,aD,c,b,a,Gs,zY,JL,GZ,FB,yH];exact⟨by congr 1;omega,trivial⟩
 ·have a:decide ((256:Int)<=(x:Int))=false:=bH om
  have d:bitsLen x<=8:=(bitsLen_le_iff _ 8).2 om;simp(disch:=omega)only[go_sem,oN,aD,c,b,a,GZ,FB,yH];exact⟨by congr 1;omega,trivial⟩
theorem Tx (x:Nat)(h:H)(a:x<65536):Ev T 128 [.int .u64 (x:Int)] h (λv h'=>v= aC (bitsLen x:Nat)/\h'=h):=by
 refine cV yV rfl ?_;simp(disch:=omega)only[go_sem,yV,aD];refine (RM x h a).mono ?_;rintro _ _ ⟨rfl,rfl⟩;simp(disch:=omega)only[go_sem]
theorem Wg (n:Nat)(h:H)(b:n<65536):Ev T 212 [aC n] h (λv h'=>v= .int .u64 ((2^bitsLen n:Nat):Int)/\h'=h):=by
 refine cV nU rfl ?_;have d:bitsLen n<=16:=(bitsLen_le_iff _ 16).2 om;have f:2^bitsLen n<=2^16:=Nat.pow_le_pow_right om d;obtain⟨m,a⟩:=exI (2^bitsLen n);rw[a] at f ⊢
 have c:Ew .shl .u64 1 ((bitsLen n:Nat):Int)=some (.int .u64 (m:Int)):=by
  unfold Ew;rw[bI om];simp only[NK,IntKind.bits];rw[Nat.min_eq_left om];have e:(1:Int)*2^bitsLen n=(m:Int):=by rw[Int.one_mul,←a];push_cast;rfl
  rw[e,dK om om]
 simp(disch:=omega)only[go_sem,nU,aD,dK (n:=(n:Int)) om om];refine (Tx n h b).mono ?_;rintro _ _ ⟨rfl,rfl⟩;simp(disch:=omega)only[go_sem,Gs,zY,c]
theorem Wd (R:Nat)(x:Int)(h:H)(j:h.get R=some (.cells false [.int .u64 x]))(s:R<h.next):
  Ev T 213 [.ptr R 0] h (λv h'=> ∃y,v= .int .u64 y/\h'.get R=some (.cells false [.int .u64 y])/\Fx (· =R) h h'):=by
 refine cV pF rfl ?_
 have m:h.cell R 0=some (.int .u64 x):=by rw[H.aF j];rfl
 obtain⟨p,g,_⟩:=HM x 13 om
 obtain⟨k,b,_⟩:=Ub x p
 obtain⟨n,i⟩:=ZI k 7 om
 obtain⟨l,d,_⟩:=Ub k n
 obtain⟨r,f,_⟩:=HM l 17 om
 obtain⟨o,e,_⟩:=Ub l r
 have q: ∀(u w:Int) (a:H),dX (some (.cells false [.int .u64 u])) a R 0 [.int .u64 w]=some (a.set R (some (.cells false [.int .u64 w]))):=λu w a=>bN (by simp) a R _
 simp(disch:=omega)only[go_sem,pF,aD,m,Gs,zY,g,b,i,d,f,e,j,q]
 exact⟨o,rfl,rfl,⟨by simp only[H.bY];omega,λid _ c=>by
  rw[H.aG _ c,H.pY,H.aG _ c,H.pY,H.aG _ c,H.pY]⟩⟩
theorem cE.Uc  {h h':H}{S N R:Nat}{d:Array Int}(A:cE h S N d)(f:Fx (· =R) h h')(a:R≠S):cE h' S N d:=⟨by rw[f.get S A.lt (λe=>a e.symm)];exact A.get,A.size,iW A.lt f.next⟩
theorem tZ  (h:H)(S N a b:Nat)(d:Array Int)(n:lI)(w:N<1000000)(A:cE h S N d)(x:b<=N)(p:a<b):
  Ev T 238 [.sl S 0 N n,aC a,aC b] h (λ_ h'=>cE h' S N (reverseRange d a b)/\Fx (· =S) h h'):=by
 refine cV jC rfl ?_
 have q:(b:Int)- 1=((b- 1:Nat):Int):=om
 simp(disch:=omega)only[go_sem,jC,aD,q]
 refine aH (λc f o=> ∃(i j:Nat) (e:Array Int),(∃g:Nat->V,f= [.sl S 0 N n,aC a,aC b,aC i,aC j,g 5])/\j<b/\i<=b/\cE o S N e/\reverseLoop i j e=reverseLoop a (b- 1) d/\Fx (· =S) h o/\c=j) (b- 1)
  ⟨a,b- 1,d,aB rfl,om,om,A,rfl,Fx.refl _ h,rfl⟩ ?_
 clear A
 rintro c f s ⟨i,j,e,⟨g,rfl⟩,v,hi,A,k,F,u⟩
 subst u
 have sz:=A.size
 rw[reverseLoop] at k
 by_cases l:(i:Int)<(c:Int)
 ·have m:=bP l
  rw[bF om] at k
  have t:=A.rd (i:=i) om
  have r:=A.rd (i:=c) om
  simp(disch:=omega)only[go_sem,m,t,r,A.get,bB,aY]
  have W:=A.swap (i:=i) (j:=c) (nx:=s.next+16) om rfl
  rw[show (i:Int)+1=((i+1:Nat):Int) from om,show (c:Int)- 1=((c- 1:Nat):Int) from om]
  exact⟨c- 1,om,i+1,c- 1,_,aB rfl,om,om,W.1,k,dC F W.2,rfl⟩
 have m:=bH l
 rw[bI om] at k
 simp(disch:=omega)only[go_sem,m]
 unfold reverseRange
 rw[←k]
 exact⟨A,F⟩
theorem Dh (n:Nat){k:Int}{m:Nat}(a:k=(m:Int)):(n:Int).tdiv k=((n/m:Nat):Int):=by
 rw[a,Int.tdiv_eq_ediv_of_nonneg om];rfl
theorem Ba  (h:H)(S N a b:Nat)(d:Array Int)(cp:lI)(hN:N<60000)(A:cE h S N d)(hb:b<=N)(a1:a<=b):
  Ev T 236 [.sl S 0 N cp,aC a,aC b] h (λ_ h'=> ∃e,cE h' S N e/\PermIn a b d e/\Fx (· =S) h h'):=by
 refine cV fH rfl ?_
 obtain⟨n,hn⟩:=exI (b-a)
 have en:(b:Int)-(a:Int)=(n:Int):=om
 by_cases h8:(8:Int)<=(n:Int)
 case neg=>
  have Y:=bH h8;simp(disch:=omega)only[go_sem,fH,aD,en,Y];exact⟨d,A,permIn_refl d a b,Fx.refl _ h⟩
 have Y:=bP h8
 have J:=Dh n (k:=4) (m:=4) rfl
 obtain⟨q,hq⟩:=exI (n/4)
 rw[hq] at J
 have ei:(a:Int)+(q:Int)*2- 1=((a+q*2- 1:Nat):Int):=om
 have ej:(a:Int)+(q:Int)*2+1=((a+q*2+1:Nat):Int):=om
 have hp:=two_pow_bitsLen_le (show 0<n by omega)
 have a0:=lt_two_pow_bitsLen n
 obtain⟨m,hm⟩:=exI (2^bitsLen n)
 rw[hm] at hp a0
 obtain⟨R,Q⟩:=exI h.next
 have L:R≠S:=by have:=A.lt;omega
 have U: ∀c:H,dX (aZ [.int .u64 0]) c R 0 [.int .u64 (n:Int)]=some (c.set R (aZ [.int .u64 (n:Int)])):=λc=>bN (by simp) c R _
 have v:(h.new (.cells false [.int .u64 0])).get R=aZ [.int .u64 0]:=by rw[←Q,H.aL]
 simp(disch:=omega)only[go_sem,fH,aD,en,Y,Q,dK (n:=(n:Int)) om om,v,U]
 obtain⟨l,f⟩: ∃l,l=(h.new (.cells false [.int .u64 0])).set R (aZ [.int .u64 (n:Int)]):=⟨_,rfl⟩
 rw[←f]
 have g1:l.get R=aZ [.int .u64 (n:Int)]:=by rw[f,H.aS]
 have n1:l.next=R+1:=by rw[f,H.bY,H.aU,Q]
 have f1:Fr h l:=by rw[f];exact ((Fr.refl h).new _).set om _
 clear f
 refine (Wg n l om).mono ?_
 rintro _ a3 ⟨rfl,c⟩
 rw[c,hm]
 simp(disch:=omega)only[go_sem,J,ei]
 refine aH (λk' p c=> ∃(i:Nat) (e:Array Int) (x:Int),(∃g:Nat->V,p= [.sl S 0 N cp,aC a,aC b,aC n,.ptr R 0,.int .u64 (m:Int),aC i,g 7,g 8,g 9,g 10])/\a<=i/\i<=a+q*2+2/\cE c S N e/\PermIn a b d e/\c.get R=aZ [.int .u64 x]/\R<c.next/\Fx (· =S) h c/\k'=a+q*2+2-i) (a+q*2+2-(a+q*2- 1))
  ⟨a+q*2- 1,d,_,aB rfl,om,om,A.fr f1,permIn_refl d a b,g1,om,Fx.of f1,rfl⟩ ?_
 clear A g1 n1 f1 c l
 rintro k' p l ⟨i,e,x,⟨g,rfl⟩,t,a4,A,Z,gR,nR,F,rfl⟩
 by_cases B:(i:Int)<=((a+q*2+1:Nat):Int)
 case neg=>
  have O:=bH B;simp(disch:=omega)only[go_sem,J,ej,O];exact⟨e,A,Z,F⟩
 have O:=bP B
 simp(disch:=omega)only[go_sem,J,ej,O]
 refine (Wd R x l gR nR).mono ?_
 rintro _ G ⟨y,rfl,s,F2⟩
 have o:=A.Uc F2 L
 obtain⟨w,hw,a2⟩:=Uo y (m- 1) om
 have em:(m:Int)- 1=((m- 1:Nat):Int):=om
 have sz:=o.size
 have u:Fx (· =S) h G:=⟨mT F.next F2.next,λid h3 h4=>(F2.get id (iW h3 F.next) (λe=>by have:id=R:=e;omega)).trans (F.get id h3 h4)⟩
 have r:R<G.next:=iW nR F2.next
 by_cases z:(n:Int)<=(w:Int)
 ·have e2:=bP z
  have e3:(w:Int)-(n:Int)=((w-n:Nat):Int):=om
  have P:(a:Int)+((w-n:Nat):Int)=((a+(w-n):Nat):Int):=om
  have c1:=o.rd (i:=i) om
  have K:=o.rd (i:=a+(w-n)) om
  simp(disch:=omega)only[go_sem,em,dK (n:=((m- 1:Nat):Int)) om om,hw,e2,e3,P,c1,K,o.get,bB,aY]
  have W:=o.swap (i:=i) (j:=a+(w-n)) (nx:=G.next+20) om rfl
  rw[eJ i]
  refine⟨a+q*2+2-(i+1),om,i+1,_,y,aB rfl,om,om,W.1,permIn_trans _ _ _ a b Z (swp_permIn e a b i (a+(w-n)) t om om om om),?_,iW r W.2.next,dC u W.2,rfl⟩
  exact s
 ·have e2:=bH z
  have P:(a:Int)+(w:Int)=((a+w:Nat):Int):=om
  have c1:=o.rd (i:=i) om
  have K:=o.rd (i:=a+w) om
  simp(disch:=omega)only[go_sem,em,dK (n:=((m- 1:Nat):Int)) om om,hw,e2,P,c1,K,o.get,bB,aY]
  have W:=o.swap (i:=i) (j:=a+w) (nx:=G.next+20) om rfl
  rw[eJ i]
  refine⟨a+q*2+2-(i+1),om,i+1,_,y,aB rfl,om,om,W.1,permIn_trans _ _ _ a b Z (swp_permIn e a b i (a+w) t om om om om),?_,iW r W.2.next,dC u W.2,rfl⟩
  exact s
structure Wn (h h':H)(R:Nat):Prop where
 get: ∃s,h'.get R=aZ [aC s]
 fx:Fx (· =R) h h'
theorem Wn.trans {a b c:H}{R:Nat}(x:Wn a b R)(y:Wn b c R):Wn a c R:=⟨y.get,x.fx.trans y.fx λ_ _ h=>h⟩
theorem jU  (h:H)(S N a b R:Nat)(d:Array Int)(m:lI)(t:N<1000000)(A:cE h S N d)(q:a<N)(u:b<N)(r:R≠S)(k:R<h.next)(s:Int)(l:h.get R=aZ [aC s]):
  Ev T 263 [.sl S 0 N m,aC a,aC b,.ptr R 0] h (λv h'=>(v= .tup [aC a,aC b]∨v= .tup [aC b,aC a])/\Wn h h' R):=by
 refine cV mE rfl ?_
 have p:=A.rd (i:=a) om
 have n:=A.rd (i:=b) om
 simp(disch:=omega)only[go_sem,mE,aD,p,n]
 refine (gV _ _ _).mono ?_
 rintro _ e ⟨rfl,g⟩
 have j:Fr h e:=Fr.trans ((Fr.refl h).bA om) g
 have c:e.get R=aZ [aC s]:=by rw[j.get R k];exact l
 cases hl:ltInt d[b]! d[a]! with
 |false=>
  simp(disch:=omega)only[go_sem,hl];exact⟨.inl trivial,⟨s,c⟩,Fx.of j⟩
 |true=>
  have cR:e.cell R 0=some (aC s):=by rw[H.aF c];rfl
  have o: ∀(w:Int) (f:H),dX (aZ [aC s]) f R 0 [aC w]=some (f.set R (aZ [aC w])):=λw f=>bN (by simp) f R _
  simp(disch:=omega)only[go_sem,hl,cR,c,o];exact⟨.inr trivial,⟨_,by rw[H.aS]⟩,(Fx.of (W:=(· =R)) j).trans (Fx.set e (W:=(· =R)) rfl _) (λ_ _ h=>h)⟩
theorem oD  (h:H)(S N a b c R:Nat)(d:Array Int)(k:lI)(t:N<1000000)(A:cE h S N d)(o:a<N)(w:b<N)(K:c<N)(e:R≠S)(g:R<h.next)(s:Int)(gR:h.get R=aZ [aC s]):
  Ev T 259 [.sl S 0 N k,aC a,aC b,aC c,.ptr R 0] h (λv h'=>(∃m,v= aC (m:Nat)/\(m=a∨m=b∨m=c))/\Wn h h' R):=by
 refine cV mC rfl ?_
 simp(disch:=omega)only[go_sem,mC,aD]
 refine (jU h S N a b R d k t A o w e g s gR).mono ?_
 rintro v1 h1 ⟨p,j⟩
 obtain⟨z,i,rfl,n,f,J⟩: ∃x y,v1= .tup [aC (x:Nat),aC (y:Nat)]/\x<N/\y<N/\((x=a∨x=b)/\(y=a∨y=b)):=by
  rcases p with rfl|rfl
  ·exact⟨a,b,rfl,o,w,.inl rfl,.inr rfl⟩
  ·exact⟨b,a,rfl,w,o,.inr rfl,.inl rfl⟩
 have F:=A.Uc j.fx e
 obtain⟨Q,O⟩:=j.get
 have G:=iW g j.fx.next
 simp(disch:=omega)only[go_sem]
 refine (jU h1 S N i c R d k t F f K e G Q O).mono ?_
 rintro v2 P ⟨q,l⟩
 obtain⟨L,y2,rfl,r,B⟩: ∃x y,v2= .tup [aC (x:Nat),aC (y:Nat)]/\x<N/\(x=i∨x=c):=by
  rcases q with rfl|rfl
  ·exact⟨i,c,rfl,f,.inl rfl⟩
  ·exact⟨c,i,rfl,K,.inr rfl⟩
 have W:=F.Uc l.fx e
 obtain⟨U,g2⟩:=l.get
 have Y:=iW G l.fx.next
 simp(disch:=omega)only[go_sem]
 refine (jU P S N z L R d k t W n r e Y U g2).mono ?_
 rintro v3 h3 ⟨u,Z⟩
 have C:=(j.trans l).trans Z
 rcases u with rfl|rfl
 ·simp(disch:=omega)only[go_sem]
  exact⟨⟨L,rfl,om⟩,C⟩
 ·simp(disch:=omega)only[go_sem]
  exact⟨⟨z,rfl,om⟩,C⟩
theorem iT  (h:H)(S N a R:Nat)(d:Array Int)(c:lI)(j:N<1000000)(A:cE h S N d)(o:0<a)(n:a+1<N)(e:R≠S)(b:R<h.next)(s:Int)(i:h.get R=aZ [aC s]):
  Ev T 258 [.sl S 0 N c,aC a,.ptr R 0] h (λv h'=>(∃m,v= aC (m:Nat)/\(m=a- 1∨m=a∨m=a+1))/\Wn h h' R):=by
 refine cV iR rfl ?_
 have k:(a:Int)- 1=((a- 1:Nat):Int):=om
 have g:(a:Int)+1=((a+1:Nat):Int):=om
 simp(disch:=omega)only[go_sem,iR,aD,k,g]
 refine (oD h S N (a- 1) a (a+1) R d c j A om om om e b s i).mono ?_
 rintro _ l ⟨⟨m,rfl,f⟩,C⟩
 simp(disch:=omega)only[go_sem]
 exact⟨⟨m,rfl,f⟩,C⟩
theorem Ar  (h:H)(S N a b:Nat)(d:Array Int)(B:lI)(U:N<1000000)(A:cE h S N d)(hb:b<=N)(a0:a<b):
  Ev T 237 [.sl S 0 N B,aC a,aC b] h (λv h'=> ∃(p:Nat) (t:Int),v= .tup [aC p,aC t]/\a<=p/\p<b/\Fr h h'):=by
 refine cV dS rfl ?_
 obtain⟨n,hn⟩:=exI (b-a)
 have en:(b:Int)-(a:Int)=(n:Int):=om
 have Q:=Dh n (k:=4) (m:=4) rfl
 obtain⟨q,hq⟩:=exI (n/4)
 rw[hq] at Q
 have ei:(a:Int)+(q:Int)*1=((a+q:Nat):Int):=om
 have ej:(a:Int)+(q:Int)*2=((a+q*2:Nat):Int):=om
 have Z:(a:Int)+(q:Int)*3=((a+q*3:Nat):Int):=om
 obtain⟨R,K⟩:=exI h.next
 have c:R≠S:=by have:=A.lt;omega
 obtain⟨l,f⟩: ∃l,l=h.new (.cells false [aC 0]):=⟨_,rfl⟩
 have W:l.get R=aZ [aC 0]:=by rw[f,←K,H.aL]
 have n1:l.next=R+1:=by rw[f,H.aU,K]
 have f1:Fr h l:=by rw[f];exact (Fr.refl h).new _
 have A1:=A.fr f1
 have J: ∀(p:Nat) (g:H),a<=p->p<b->Fx (· =R) l g->a<=p/\p<b/\Fr h g:=λp g x1 x2 x3=>⟨x1,x2,mT f1.next x3.next,λid Y=>(x3.get id om (λe=>by have:id=R:=e;omega)).trans (f1.get id Y)⟩
 by_cases h8:(8:Int)<=(n:Int)
 case neg=>
  have P:=bH h8;simp(disch:=omega)only[go_sem,dS,aD,en,Q,ei,ej,Z,P];rw[←f];have cR:l.cell R 0=some (aC 0):=by rw[H.aF W];rfl
  simp(disch:=omega)only[go_sem,K,cR];refine aW (λ_=>?_) (λhc=>(hc (by trivial)).elim);simp(disch:=omega)only[go_sem];exact⟨a+q*2,1,rfl,J _ _ om om (Fx.refl _ _)⟩
 have P:=bP h8
 have r: ∀(i j k:Nat) (g:H) (F:Int),a<=i->i<b->a<=j->j<b->a<=k->k<b->cE g S N d->g.get R=aZ [aC F]->R<g.next->Fx (· =R) l g->
   Ev T 259 [.sl S 0 N B,aC i,aC j,aC k,.ptr R 0] g (λv h'=> ∃p o,v= aC (p:Nat)/\a<=p/\p<b/\h'.get R=aZ [aC o]/\Fr h h'):=by
  intro i j k g F i1 i2 j1 j2 k1 k2 O g2 n2 F2
  refine (oD g S N i j k R d B U O om om om c n2 F g2).mono ?_
  rintro _ u ⟨⟨p,rfl,hp⟩,⟨o,s⟩,G⟩
  exact⟨p,o,rfl,om,om,s,(J p u om om (F2.trans G λ_ _ h=>h)).2.2⟩
 by_cases L:(50:Int)<=(n:Int)
 case neg=>
  have w:=bH L;simp(disch:=omega)only[go_sem,dS,aD,en,Q,ei,ej,Z,P,w];rw[←f];simp(disch:=omega)only[go_sem,K];refine (r (a+q) (a+q*2) (a+q*3) l 0 om om om om om om A1 W om (Fx.refl _ _)).mono ?_;rintro _ u ⟨p,o,rfl,x,y,s,z⟩;have cR:u.cell R 0=some (aC o):=by rw[H.aF s];rfl
  simp(disch:=omega)only[go_sem,cR];refine aW (λ_=>?_) (λ_=>?_)
  ·simp(disch:=omega)only[go_sem]
   exact⟨p,1,rfl,x,y,z⟩
  ·simp(disch:=omega)only[go_sem]
   refine aW (λ_=>?_) (λ_=>?_)
   ·simp(disch:=omega)only[go_sem]
    exact⟨p,2,rfl,x,y,z⟩
   ·simp(disch:=omega)only[go_sem]
    exact⟨p,0,rfl,x,y,z⟩
 have w:=bP L
 simp(disch:=omega)only[go_sem,dS,aD,en,Q,ei,ej,Z,P,w]
 rw[←f]
 simp(disch:=omega)only[go_sem,K]
 refine (iT l S N (a+q) R d B U A1 om om c om 0 W).mono ?_
 rintro _ g ⟨⟨i,rfl,hi⟩,⟨F,g2⟩,F2⟩
 have O:=A1.Uc F2 c
 have n2:=F2.next
 simp(disch:=omega)only[go_sem]
 refine (iT g S N (a+q*2) R d B U O om om c om F g2).mono ?_
 rintro _ u ⟨⟨j,rfl,hj⟩,⟨o,s⟩,G⟩
 have A3:=O.Uc G c
 have n3:=G.next
 simp(disch:=omega)only[go_sem]
 refine (iT u S N (a+q*3) R d B U A3 om om c om o s).mono ?_
 rintro _ h4 ⟨⟨k,rfl,hk⟩,⟨s4,g4⟩,F4⟩
 have A4:=A3.Uc F4 c
 have n4:=F4.next
 simp(disch:=omega)only[go_sem]
 refine (r i j k h4 s4 om om om om om om A4 g4 om ((F2.trans G λ_ _ h=>h).trans F4 λ_ _ h=>h)).mono ?_
 rintro _ u ⟨p,o,rfl,x,y,s,z⟩
 have cR:u.cell R 0=some (aC o):=by rw[H.aF s];rfl
 simp(disch:=omega)only[go_sem,cR]
 refine aW (λ_=>?_) (λ_=>?_)
 ·simp(disch:=omega)only[go_sem]
  exact⟨p,1,rfl,x,y,z⟩
 ·simp(disch:=omega)only[go_sem]
  refine aW (λ_=>?_) (λ_=>?_)
  ·simp(disch:=omega)only[go_sem]
   exact⟨p,2,rfl,x,y,z⟩
  ·simp(disch:=omega)only[go_sem]
   exact⟨p,0,rfl,x,y,z⟩
section
variable {lt:Int->Int->Bool} {j b:Nat} {d:Array Int}
theorem GU (h:lt d[j+1]! d[j]! =true):shiftDown lt (j+1) d=shiftDown lt j (swp d (j+1) j):=by rw[shiftDown,bI (by simp [h])]
theorem EK (h:lt d[j+1]! d[j]! =false):shiftDown lt (j+1) d=d:=by rw[shiftDown,bF (by simp [h])]
theorem EY (a:j<b)(h:lt d[j]! d[j- 1]! =true):shiftUp lt b j d=shiftUp lt b (j+1) (swp d j (j- 1)):=by rw[shiftUp,bF a,bI (by simp [h])]
theorem FZ (a:j<b)(h:lt d[j]! d[j- 1]! =false):shiftUp lt b j d=d:=by rw[shiftUp,bF a,bF (by simp [h])]
theorem EH {i:Nat}(hi:i<b)(h:lt d[i]! d[i- 1]! =false):scanSorted lt d b i=scanSorted lt d b (i+1):=by rw[scanSorted,bF (by simp [h,hi])]
theorem Nn {i:Nat}(h: ¬(i<b/\lt d[i]! d[i- 1]! =false)):scanSorted lt d b i=i:=by rw[scanSorted,bI (by simpa using h)]
theorem Lq (lt:Int->Int->Bool)(a b s i:Nat)(d:Array Int):partialIns lt a b (s+1) i d=if scanSorted lt d b i=b then (d,true) else if b-a<50 then (d,false) else
  partialIns lt a b s (scanSorted lt d b i) (if b-scanSorted lt d b i≥2 then shiftUp lt b (scanSorted lt d b i+1) (if scanSorted lt d b i-a≥2 then shiftDown lt (scanSorted lt d b i- 1) (swp d (scanSorted lt d b i) (scanSorted lt d b i- 1)) else swp d (scanSorted lt d b i) (scanSorted lt d b i- 1)) else
   (if scanSorted lt d b i-a≥2 then shiftDown lt (scanSorted lt d b i- 1) (swp d (scanSorted lt d b i) (scanSorted lt d b i- 1)) else swp d (scanSorted lt d b i) (scanSorted lt d b i- 1))):=by rw[partialIns]
theorem tB (h:H)(S N a b:Nat)(d:Array Int)(Z:lI)(hN:N<1000000)(A:cE h S N d)(hb:b<=N)(b4:a<b):
  Ev T 239 [.sl S 0 N Z,aC a,aC b] h (λv h'=>v= .bool (partialInsertionSort ltInt d a b).2/\cE h' S N (partialInsertionSort ltInt d a b).1/\Fx (· =S) h h'):=by
 refine cV fX rfl ?_
 simp(disch:=omega)only[go_sem,fX,aD]
 rw[eJ a]
 refine aH (λf c r=> ∃(s i:Nat) (e:Array Int),(∃g:Nat->V,c= [.sl S 0 N Z,aC a,aC b,g 3,aC i,aC (5-(s:Int)),g 6,g 7,g 8,g 9,g 10,g 11,g 12,g 13,g 14,g 15,g 16,g 17])/\s<=5/\a<i/\i<=b/\cE r S N e/\partialIns ltInt a b s i e=partialInsertionSort ltInt d a b/\Fx (· =S) h r/\f=s) 5
  ⟨5,a+1,d,aB rfl,om,om,om,A,rfl,Fx.refl _ h,rfl⟩ ?_
 clear A
 rintro f c Q ⟨s,i,e,⟨g,rfl⟩,hs,a9,b3,A,k,F,hk⟩
 subst hk
 by_cases K:(5:Int)-(f:Int)<5
 case neg=>
  have l:=bH K;obtain rfl:f=0:=om
  simp(disch:=omega)only[go_sem,l];have k:(e,false)=partialInsertionSort ltInt d a b:=k;rw[←k];exact⟨rfl,A,F⟩
 have l:=bP K
 obtain⟨s,rfl⟩: ∃s,f=s+1:=⟨f- 1,om⟩
 simp(disch:=omega)only[go_sem,l]
 rw[Lq] at k
 refine aH (λf c r=> ∃(m:Nat),(∃g:Nat->V,c= [.sl S 0 N Z,aC a,aC b,g 3,aC m,aC (5-((s+1:Nat):Int)),g 6,g 7,g 8,g 9,g 10,g 11,g 12,g 13,g 14,g 15,g 16,g 17])/\a<m/\m<=b/\cE r S N e/\scanSorted ltInt e b m=scanSorted ltInt e b i/\Fx (· =S) h r/\f=b-m) (b-i)
  ⟨i,aB rfl,a9,b3,A,rfl,F,rfl⟩ ?_
 clear A F K l
 rintro f c u ⟨m,⟨g,rfl⟩,b9,b7,A,Y,F,rfl⟩
 have sz:=A.size
 have w:(m:Int)- 1=((m- 1:Nat):Int):=om
 have a3:(m:Int)+1=((m+1:Nat):Int):=om
 by_cases a4:(m:Int)<(b:Int)
 case neg=>
  have l:=bH a4;have em:m=b:=om
  rw[Nn om] at Y;rw[←Y,bF em] at k;have e2:decide ((m:Int)=(b:Int))=true:=bP om;simp(disch:=omega)only[go_sem,l,e2];rw[←k];exact⟨rfl,A.fr ((Fr.refl u).bA om),dC F (Fx.of ((Fr.refl u).bA om))⟩
 have l:=bP a4
 have o:=A.rd (i:=m) om
 have n:=A.rd (i:=m- 1) om
 simp(disch:=omega)only[go_sem,l,w,o,n]
 refine (gV _ _ _).mono ?_
 rintro _ h3 ⟨rfl,a2⟩
 have B:Fr u h3:=Fr.trans ((Fr.refl u).bA om) a2
 have G:=A.fr B
 have F3:=dC F (Fx.of B)
 cases hl:ltInt e[m]! e[m- 1]! with
 |false=>
  rw[EH om hl] at Y;simp(disch:=omega)only[go_sem,hl,a3];exact⟨b-(m+1),om,m+1,aB rfl,om,om,G,Y,F3,rfl⟩
 |true=>
  rw[Nn (by rw[hl];simp)] at Y;rw[←Y,bI om] at k;have e2:decide ((m:Int)=(b:Int))=false:=bH om
  by_cases a6:(b:Int)-(a:Int)<50
  ·have z:=bP a6
   rw[bF om] at k;simp(disch:=omega)only[go_sem,hl,e2,z];rw[←k];exact⟨rfl,G,F3⟩
  have z:=bH a6;rw[bI om] at k;have o:=G.rd (i:=m) om;have n:=G.rd (i:=m- 1) om;simp(disch:=omega)only[go_sem,hl,e2,z,w,o,n,G.get,bB,aY];have W:=G.swap (i:=m) (j:=m- 1) (nx:=h3.next+18) om rfl
  obtain⟨h4,a5⟩: ∃h4,h4=((H.mk h3.tr (h3.next+18)).set S (aZ (ints (e.setIfInBounds m e[m- 1]!).toList))).set S (aZ (ints ((e.setIfInBounds m e[m- 1]!).setIfInBounds (m- 1) e[m]!).toList)):=⟨_,rfl⟩
  rw[←a5] at W ⊢;obtain⟨A4,F4⟩:=W;have L:=dC F3 F4;clear a5 F4 G F3 B a2 o n;obtain⟨U,a7⟩:=exI (swp e m (m- 1));rw[a7] at A4 k;refine jT (λvs O=> ∃R,(∃g:Nat->V,vs= [.sl S 0 N Z,aC a,aC b,g 3,aC m,aC (5-((s+1:Nat):Int)),g 6,g 7,g 8,g 9,g 10,g 11,g 12,g 13,g 14,g 15,g 16,g 17])/\cE O S N R/\R=(if m-a≥2 then shiftDown ltInt (m- 1) U else U)/\Fx (· =S) h O) ?_ ?_
  ·refine aW (λu=>?_) (λu=>?_)
   ·simp(disch:=omega)only[go_sem,w]
    refine aH (λf c r=> ∃(j:Nat) (x:Array Int),(∃g:Nat->V,c= [.sl S 0 N Z,aC a,aC b,g 3,aC m,aC (5-((s+1:Nat):Int)),aC j,g 7,g 8,g 9,g 10,g 11,g 12,g 13,g 14,g 15,g 16,g 17])/\j<b/\cE r S N x/\shiftDown ltInt j x=shiftDown ltInt (m- 1) U/\Fx (· =S) h r/\f=j) (m- 1)
     ⟨m- 1,U,aB rfl,om,A4,rfl,L,rfl⟩ ?_
    rintro f c O ⟨j,x,⟨g,rfl⟩,hj,t,y,F5,hk⟩;subst hk;have b8:=t.size
    by_cases Q:(1:Int)<=(f:Int)
    ·have l:=bP Q
     obtain⟨q,rfl⟩: ∃q,f=q+1:=⟨f- 1,om⟩
     have a1:((q+1:Nat):Int)- 1=(q:Int):=om
     have o:=t.rd (i:=q+1) om;have n:=t.rd (i:=q) om;simp(disch:=omega)only[go_sem,l,a1,o,n];refine (gV _ _ _).mono ?_;rintro _ h6 ⟨rfl,b0⟩;have f6:Fr O h6:=Fr.trans ((Fr.refl O).bA om) b0;have p:=t.fr f6;have F6:=dC F5 (Fx.of f6)
     cases hl:ltInt x[q+1]! x[q]! with
     |false=>
      rw[EK hl] at y;simp(disch:=omega)only[go_sem,hl];exact .inl ⟨x,aB rfl,p,by rw[bF om,←y],F6⟩
     |true=>
      rw[GU hl] at y;have o:=p.rd (i:=q+1) om;have n:=p.rd (i:=q) om;simp(disch:=omega)only[go_sem,hl,a1,o,n,p.get,bB,aY];have W:=p.swap (i:=q+1) (j:=q) (nx:=h6.next+18) om rfl;exact⟨q,om,q,_,aB rfl,om,W.1,y,dC F6 W.2,rfl⟩
    ·have l:=bH Q
     obtain rfl:f=0:=om
     simp(disch:=omega)only[go_sem,l];have y:x=shiftDown ltInt (m- 1) U:=y;exact .inl ⟨x,aB rfl,t,by rw[bF om,←y],F5⟩
   ·simp(disch:=omega)only[go_sem]
    exact .inl ⟨U,aB rfl,A4,by rw[bI om],L⟩
  ·rintro c O ⟨R,⟨g,rfl⟩,t,a0,F5⟩
   rw[←a0] at k;clear A4 L a0 a7;simp(disch:=omega)only[go_sem];have J:(5:Int)-((s+1:Nat):Int)+1=5-(s:Int):=om
   refine aW (λu=>?_) (λu=>?_)
   ·rw[bF om] at k
    simp(disch:=omega)only[go_sem,a3];refine aH (λf c r=> ∃(j:Nat) (x:Array Int),(∃g:Nat->V,c= [.sl S 0 N Z,aC a,aC b,g 3,aC m,aC (5-((s+1:Nat):Int)),g 6,aC j,g 8,g 9,g 10,g 11,g 12,g 13,g 14,g 15,g 16,g 17])/\0<j/\j<=b/\cE r S N x/\shiftUp ltInt b j x=shiftUp ltInt b (m+1) R/\Fx (· =S) h r/\f=b-j) (b-(m+1))
     ⟨m+1,R,aB rfl,om,om,t,rfl,F5,rfl⟩ ?_
    rintro f c h6 ⟨j,x,⟨g,rfl⟩,b6,hj,p,P,F6,rfl⟩;have b5:=p.size
    by_cases Q:(j:Int)<(b:Int)
    ·have l:=bP Q
     have a8:(j:Int)- 1=((j- 1:Nat):Int):=om
     have b2:(j:Int)+1=((j+1:Nat):Int):=om
     have o:=p.rd (i:=j) om;have n:=p.rd (i:=j- 1) om;simp(disch:=omega)only[go_sem,l,a8,o,n];refine (gV _ _ _).mono ?_;rintro _ h7 ⟨rfl,b1⟩;have f7:Fr h6 h7:=Fr.trans ((Fr.refl h6).bA om) b1;have A7:=p.fr f7;have F7:=dC F6 (Fx.of f7)
     cases hl:ltInt x[j]! x[j- 1]! with
     |false=>
      rw[FZ om hl] at P;rw[←P] at k;simp(disch:=omega)only[go_sem,hl,J];exact⟨s,om,s,m,x,aB rfl,om,om,om,A7,k,F7,rfl⟩
     |true=>
      rw[EY om hl] at P;have o:=A7.rd (i:=j) om;have n:=A7.rd (i:=j- 1) om;simp(disch:=omega)only[go_sem,hl,a8,b2,o,n,A7.get,bB,aY];have W:=A7.swap (i:=j) (j:=j- 1) (nx:=h7.next+18) om rfl;exact⟨b-(j+1),om,j+1,_,aB rfl,om,om,W.1,P,dC F7 W.2,rfl⟩
    ·have l:=bH Q
     rw[shiftUp,bI om] at P;rw[←P] at k;simp(disch:=omega)only[go_sem,l,J];exact⟨s,om,s,m,x,aB rfl,om,om,om,p,k,F6,rfl⟩
   ·rw[bI om] at k
    simp(disch:=omega)only[go_sem,J];exact⟨s,om,s,m,R,aB rfl,om,om,om,t,k,F5,rfl⟩
end
section
variable {p:Int->Bool} {d:Array Int} {j i:Nat}
theorem yY (a:i<=j)(h2:p d[i]! =true):scanUp p d j i=scanUp p d j (i+1):=by rw[scanUp,bF (by simp [a,h2])]
theorem lK (h: ¬(i<=j/\p d[i]! =true)):scanUp p d j i=i:=by rw[scanUp,bI (by simpa using h)]
theorem Dc (a:i<=j+1)(h2:p d[j+1]! =true):scanDown p d i (j+1)=scanDown p d i j:=by rw[scanDown,bF (by simp [a,h2])]
theorem oP (h: ¬(i<=j/\p d[j]! =true)):scanDown p d i j=j:=by
 cases j with
 |zero=>rfl
 |succ j=>rw[scanDown,bI (by simpa using h)]
theorem kW (p:Int->Bool)(d:Array Int)(j i:Nat):scanUp p d j i<=max i (j+1):=by
 obtain⟨n,a⟩:=exI (j+1-i)
 induction n generalizing i with
 |zero=>rw[lK (λh=>by have:=h.1;omega)];omega
 |succ n ih=>
  by_cases h:i<=j/\p d[i]! =true
  ·rw[yY h.1 h.2]
   have:=ih (i+1) om;omega
  ·rw[lK h];omega
theorem pG (h:H)(S N a b pv:Nat)(d:Array Int)(Z:lI)(hN:N<1000000)(A:cE h S N d)(hb:b<=N)(b8:a<=pv)(c0:pv<b):
  Ev T 241 [.sl S 0 N Z,aC a,aC b,aC pv] h (λv h'=>v= .tup [aC ((partition ltInt d a b pv).1:Nat),.bool (partition ltInt d a b pv).2.1]/\cE h' S N (partition ltInt d a b pv).2.2/\Fx (· =S) h h'):=by
 refine cV jY rfl ?_
 have sz:=A.size
 have O:=A.rd (i:=a) om
 have K:=A.rd (i:=pv) om
 simp(disch:=omega)only[go_sem,jY,aD,O,K,A.get,bB,aY]
 have W:=A.swap (i:=a) (j:=pv) (nx:=h.next+16) om rfl
 obtain⟨h1,a8⟩: ∃h1,h1=((H.mk h.tr (h.next+16)).set S (aZ (ints (d.setIfInBounds a d[pv]!).toList))).set S (aZ (ints ((d.setIfInBounds a d[pv]!).setIfInBounds pv d[a]!).toList)):=⟨_,rfl⟩
 rw[←a8] at W ⊢
 obtain⟨A1,F1⟩:=W
 obtain⟨e,he⟩:=exI (swp d a pv)
 rw[he] at A1
 clear a8 O K A
 have eb:(b:Int)- 1=((b- 1:Nat):Int):=om
 have ea:(a:Int)+1=((a+1:Nat):Int):=om
 have hP:partition ltInt d a b pv=if scanUp (λx=>ltInt x e[a]!) e (b- 1) (a+1)>scanDown (λx=>!ltInt x e[a]!) e (scanUp (λx=>ltInt x e[a]!) e (b- 1) (a+1)) (b- 1) then
   (scanDown (λx=>!ltInt x e[a]!) e (scanUp (λx=>ltInt x e[a]!) e (b- 1) (a+1)) (b- 1),true,swp e (scanDown (λx=>!ltInt x e[a]!) e (scanUp (λx=>ltInt x e[a]!) e (b- 1) (a+1)) (b- 1)) a) else
   ((partLoop ltInt a (scanUp (λx=>ltInt x e[a]!) e (b- 1) (a+1)+1) (scanDown (λx=>!ltInt x e[a]!) e (scanUp (λx=>ltInt x e[a]!) e (b- 1) (a+1)) (b- 1)- 1) (swp e (scanUp (λx=>ltInt x e[a]!) e (b- 1) (a+1)) (scanDown (λx=>!ltInt x e[a]!) e (scanUp (λx=>ltInt x e[a]!) e (b- 1) (a+1)) (b- 1)))).1,false,
    swp (partLoop ltInt a (scanUp (λx=>ltInt x e[a]!) e (b- 1) (a+1)+1) (scanDown (λx=>!ltInt x e[a]!) e (scanUp (λx=>ltInt x e[a]!) e (b- 1) (a+1)) (b- 1)- 1) (swp e (scanUp (λx=>ltInt x e[a]!) e (b- 1) (a+1)) (scanDown (λx=>!ltInt x e[a]!) e (scanUp (λx=>ltInt x e[a]!) e (b- 1) (a+1)) (b- 1)))).2 (partLoop ltInt a (scanUp (λx=>ltInt x e[a]!) e (b- 1) (a+1)+1) (scanDown (λx=>!ltInt x e[a]!) e (scanUp (λx=>ltInt x e[a]!) e (b- 1) (a+1)) (b- 1)- 1) (swp e (scanUp (λx=>ltInt x e[a]!) e (b- 1) (a+1)) (scanDown (λx=>!ltInt x e[a]!) e (scanUp (λx=>ltInt x e[a]!) e (b- 1) (a+1)) (b- 1)))).1 a):=by
  rw[←he];rfl
 obtain⟨R,b0⟩:=exI (partition ltInt d a b pv)
 rw[b0] at hP
 rw[b0]
 simp(disch:=omega)only[go_sem,ea,eb]
 refine bJ (λL c=>(∃g:Nat->V,L= [.sl S 0 N Z,aC a,aC b,aC pv,g 4,g 5,aC (scanUp (λx=>ltInt x e[a]!) e (b- 1) (a+1):Nat),aC ((b- 1):Nat),g 8,g 9,g 10,g 11,g 12,g 13])/\cE c S N e/\Fx (· =S) h c) ?_ ?_
 ·refine aH (λG L c=> ∃(k:Nat),(∃g:Nat->V,L= [.sl S 0 N Z,aC a,aC b,aC pv,g 4,g 5,aC (k:Nat),aC ((b- 1):Nat),g 8,g 9,g 10,g 11,g 12,g 13])/\(a+1)<=k/\k<=N+2/\cE c S N e/\scanUp (λx=>ltInt x e[a]!) e (b- 1) k=scanUp (λx=>ltInt x e[a]!) e (b- 1) (a+1)/\Fx (· =S) h c/\G=(b- 1)+1-k) ((b- 1)+1-(a+1))
   ⟨(a+1),aB rfl,om,om,A1,rfl,F1,rfl⟩ ?_
  rintro G l J ⟨k,⟨g,rfl⟩,a6,b4,z,n,Fs,rfl⟩
  by_cases f:(k:Int)<=(((b- 1):Nat):Int)
  ·have q:decide ((k:Int)<=(((b- 1):Nat):Int))=true:=bP f
   have eK:(k:Int)+1=((k+1:Nat):Int):=om
   have a5:=z.size
   have O:=z.rd (i:=k) om
   have K:=z.rd (i:=a) om
   simp(disch:=omega)only[go_sem,q,O,K]
   refine (gV _ _ _).mono ?_
   rintro _ P ⟨rfl,t⟩
   have s:Fr J P:=Fr.trans ((Fr.refl J).bA om) t
   have B:=z.fr s
   have y:=dC Fs (Fx.of s)
   cases hl:ltInt e[k]! e[a]! with
   |false=>
    rw[lK (λc=>by have:=c.2;simp [hl] at this)] at n;simp(disch:=omega)only[go_sem,hl];exact⟨by rw[←n];exact aB rfl,B,y⟩
   |true=>
    rw[yY om (by simp [hl])] at n;simp(disch:=omega)only[go_sem,hl,eK];exact⟨(b- 1)+1-(k+1),om,k+1,aB rfl,om,om,B,n,y,rfl⟩
  ·have q:decide ((k:Int)<=(((b- 1):Nat):Int))=false:=bH f
   rw[lK (λc=>f (by have:=c.1;omega))] at n
   simp(disch:=omega)only[go_sem,q]
   exact⟨by rw[←n];exact aB rfl,z.fr ((Fr.refl J).bA om),dC Fs (Fx.of ((Fr.refl J).bA om))⟩
 ·rintro l h9 ⟨⟨g,rfl⟩,A9,F9⟩
  have a3:=scanUp_ge (λx=>ltInt x e[a]!) e (b- 1) (a+1)
  have a0:=kW (λx=>ltInt x e[a]!) e (b- 1) (a+1)
  obtain⟨o,Y⟩: ∃x,scanUp (λx=>ltInt x e[a]!) e (b- 1) (a+1)=x:=⟨_,rfl⟩
  rw[Y] at a3 a0
  rw[Y]
  simp(disch:=omega)only[go_sem]
  refine bJ (λL c=>(∃g:Nat->V,L= [.sl S 0 N Z,aC a,aC b,aC pv,g 4,g 5,aC (o:Nat),aC (scanDown (λx=>!ltInt x e[a]!) e o (b- 1):Nat),g 8,g 9,g 10,g 11,g 12,g 13])/\cE c S N e/\Fx (· =S) h c) ?_ ?_
  ·refine aH (λG L c=> ∃(k:Nat),(∃g:Nat->V,L= [.sl S 0 N Z,aC a,aC b,aC pv,g 4,g 5,aC (o:Nat),aC (k:Nat),g 8,g 9,g 10,g 11,g 12,g 13])/\k<=(b- 1)/\cE c S N e/\scanDown (λx=>!ltInt x e[a]!) e o k=scanDown (λx=>!ltInt x e[a]!) e o (b- 1)/\Fx (· =S) h c/\G=k) (b- 1)
    ⟨(b- 1),aB rfl,om,A9,rfl,F9,rfl⟩ ?_
   rintro G l J ⟨k,⟨g,rfl⟩,a6,z,n,Fs,a1⟩
   subst a1
   by_cases f:((o:Nat):Int)<=(G:Int)
   ·have q:=bP f
    obtain⟨k,rfl⟩: ∃k,G=k+1:=⟨G- 1,om⟩
    have eK:((k+1:Nat):Int)- 1=(k:Int):=om
    have a5:=z.size
    have O:=z.rd (i:=k+1) om
    have K:=z.rd (i:=a) om
    simp(disch:=omega)only[go_sem,q,O,K]
    refine (gV _ _ _).mono ?_
    rintro _ P ⟨rfl,t⟩
    have s:Fr J P:=Fr.trans ((Fr.refl J).bA om) t
    have B:=z.fr s
    have y:=dC Fs (Fx.of s)
    cases hl:ltInt e[k+1]! e[a]! with
    |true=>
     rw[oP (λc=>by have:=c.2;simp [hl] at this)] at n;simp(disch:=omega)only[go_sem,hl];exact⟨by rw[←n];exact aB rfl,B,y⟩
    |false=>
     rw[Dc om (by simp [hl])] at n;simp(disch:=omega)only[go_sem,hl,eK];exact⟨k,om,k,aB rfl,om,B,n,y,rfl⟩
   ·have q:=bH f
    rw[oP (λc=>f (by have:=c.1;omega))] at n
    simp(disch:=omega)only[go_sem,q]
    exact⟨by rw[←n];exact aB rfl,z.fr ((Fr.refl J).bA om),dC Fs (Fx.of ((Fr.refl J).bA om))⟩
  ·rintro l h2 ⟨⟨g,rfl⟩,A2,F2⟩
   have a2:=scanDown_le (λx=>!ltInt x e[a]!) e o (b- 1)
   obtain⟨F,a4⟩: ∃x,scanDown (λx=>!ltInt x e[a]!) e o (b- 1)=x:=⟨_,rfl⟩
   rw[a4] at a2
   rw[a4]
   rw[Y,a4] at hP
   have b5:=A2.size
   by_cases Q:(F:Int)<(o:Int)
   ·have q:=bP Q
    rw[bF om] at hP
    have O:=A2.rd (i:=F) om
    have K:=A2.rd (i:=a) om
    simp(disch:=omega)only[go_sem,q,O,K,A2.get,bB,aY]
    have W:=A2.swap (i:=F) (j:=a) (nx:=h2.next+16) om rfl
    rw[hP]
    exact⟨rfl,W.1,dC F2 W.2⟩
   have q:=bH Q
   rw[bI om] at hP
   have O:=A2.rd (i:=o) om
   have K:=A2.rd (i:=F) om
   simp(disch:=omega)only[go_sem,q,O,K,A2.get,bB,aY]
   have W:=A2.swap (i:=o) (j:=F) (nx:=h2.next+16) om rfl
   obtain⟨h3,b1⟩: ∃h3,h3=((H.mk h2.tr (h2.next+16)).set S (aZ (ints (e.setIfInBounds o e[F]!).toList))).set S (aZ (ints ((e.setIfInBounds o e[F]!).setIfInBounds F e[o]!).toList)):=⟨_,rfl⟩
   rw[←b1] at W ⊢
   obtain⟨A3,b2⟩:=W
   have F3:=dC F2 b2
   have a7:o<=F:=om
   obtain⟨e0,a9⟩:=exI (swp e o F)
   rw[a9] at A3 hP
   clear b1 O K A2 A9 F9 A1 F1 he Q q
   have ei:(o:Int)+1=((o+1:Nat):Int):=om
   have ej:(F:Int)- 1=((F- 1:Nat):Int):=om
   simp(disch:=omega)only[go_sem,ei,ej]
   refine bJ (λL c=>(∃g:Nat->V,L= [.sl S 0 N Z,aC a,aC b,aC pv,g 4,g 5,g 6,aC (((partLoop ltInt a (o+1) (F- 1) e0).1:Nat):Int),g 8,g 9,g 10,g 11,g 12,g 13])/\cE c S N (partLoop ltInt a (o+1) (F- 1) e0).2/\(partLoop ltInt a (o+1) (F- 1) e0).1<b/\Fx (· =S) h c) ?_ ?_
   ·refine aH (λG L c=> ∃(i j:Nat) (e:Array Int),(∃g:Nat->V,L= [.sl S 0 N Z,aC a,aC b,aC pv,g 4,g 5,aC i,aC j,g 8,g 9,g 10,g 11,g 12,g 13])/\a<i/\i<=b+1/\j<b/\cE c S N e/\partLoop ltInt a i j e=partLoop ltInt a (o+1) (F- 1) e0/\Fx (· =S) h c/\G=j) (F- 1)
     ⟨o+1,F- 1,e0,aB rfl,om,om,om,A3,rfl,F3,rfl⟩ ?_
    obtain⟨R2,b3⟩:=exI (partLoop ltInt a (o+1) (F- 1) e0)
    rw[b3]
    clear hP b3 Y a4 a9 ei ej a2 a3 a0 F3 b2 A3 b5 h3 a7
    clear o F
    rintro G l h3 ⟨i,j,e,⟨g,rfl⟩,b6,Y,hj,A3,hL,F3,a1⟩
    rw[partLoop_eq] at hL
    simp(disch:=omega)only[go_sem]
    refine bJ (λL c=>(∃g:Nat->V,L= [.sl S 0 N Z,aC a,aC b,aC pv,g 4,g 5,aC (scanUp (λx=>ltInt x e[a]!) e j i:Nat),aC (j:Nat),g 8,g 9,g 10,g 11,g 12,g 13])/\cE c S N e/\Fx (· =S) h c) ?_ ?_
    ·refine aH (λG L c=> ∃(k:Nat),(∃g:Nat->V,L= [.sl S 0 N Z,aC a,aC b,aC pv,g 4,g 5,aC (k:Nat),aC (j:Nat),g 8,g 9,g 10,g 11,g 12,g 13])/\i<=k/\k<=N+2/\cE c S N e/\scanUp (λx=>ltInt x e[a]!) e j k=scanUp (λx=>ltInt x e[a]!) e j i/\Fx (· =S) h c/\G=j+1-k) (j+1-i)
      ⟨i,aB rfl,om,om,A3,rfl,F3,rfl⟩ ?_
     rintro G l J ⟨k,⟨g,rfl⟩,a6,b4,z,n,Fs,rfl⟩
     by_cases f:(k:Int)<=((j:Nat):Int)
     ·have q:=bP f
      have eK:(k:Int)+1=((k+1:Nat):Int):=om
      have a5:=z.size
      have O:=z.rd (i:=k) om
      have K:=z.rd (i:=a) om
      simp(disch:=omega)only[go_sem,q,O,K]
      refine (gV _ _ _).mono ?_
      rintro _ P ⟨rfl,t⟩
      have s:Fr J P:=Fr.trans ((Fr.refl J).bA om) t
      have B:=z.fr s
      have y:=dC Fs (Fx.of s)
      cases hl:ltInt e[k]! e[a]! with
      |false=>
       rw[lK (λc=>by have:=c.2;simp [hl] at this)] at n;simp(disch:=omega)only[go_sem,hl];exact⟨by rw[←n];exact aB rfl,B,y⟩
      |true=>
       rw[yY om (by simp [hl])] at n;simp(disch:=omega)only[go_sem,hl,eK];exact⟨j+1-(k+1),om,k+1,aB rfl,om,om,B,n,y,rfl⟩
     ·have q:=bH f
      rw[lK (λc=>f (by have:=c.1;omega))] at n
      simp(disch:=omega)only[go_sem,q]
      exact⟨by rw[←n];exact aB rfl,z.fr ((Fr.refl J).bA om),dC Fs (Fx.of ((Fr.refl J).bA om))⟩
    ·rintro l h9 ⟨⟨g,rfl⟩,A9,F9⟩
     have a3:=scanUp_ge (λx=>ltInt x e[a]!) e j i
     have a0:=kW (λx=>ltInt x e[a]!) e j i
     obtain⟨u,hu⟩: ∃x,scanUp (λx=>ltInt x e[a]!) e j i=x:=⟨_,rfl⟩
     rw[hu] at a3 a0
     rw[hu]
     simp(disch:=omega)only[go_sem]
     refine bJ (λL c=>(∃g:Nat->V,L= [.sl S 0 N Z,aC a,aC b,aC pv,g 4,g 5,aC (u:Nat),aC (scanDown (λx=>!ltInt x e[a]!) e u j:Nat),g 8,g 9,g 10,g 11,g 12,g 13])/\cE c S N e/\Fx (· =S) h c) ?_ ?_
     ·refine aH (λG L c=> ∃(k:Nat),(∃g:Nat->V,L= [.sl S 0 N Z,aC a,aC b,aC pv,g 4,g 5,aC (u:Nat),aC (k:Nat),g 8,g 9,g 10,g 11,g 12,g 13])/\k<=j/\cE c S N e/\scanDown (λx=>!ltInt x e[a]!) e u k=scanDown (λx=>!ltInt x e[a]!) e u j/\Fx (· =S) h c/\G=k) j
       ⟨j,aB rfl,om,A9,rfl,F9,rfl⟩ ?_
      rintro G l J ⟨k,⟨g,rfl⟩,a6,z,n,Fs,a1⟩
      subst a1
      by_cases f:((u:Nat):Int)<=(G:Int)
      ·have q:=bP f
       obtain⟨k,rfl⟩: ∃k,G=k+1:=⟨G- 1,om⟩
       have eK:((k+1:Nat):Int)- 1=(k:Int):=om
       have a5:=z.size
       have O:=z.rd (i:=k+1) om
       have K:=z.rd (i:=a) om
       simp(disch:=omega)only[go_sem,q,O,K]
       refine (gV _ _ _).mono ?_
       rintro _ P ⟨rfl,t⟩
       have s:Fr J P:=Fr.trans ((Fr.refl J).bA om) t
       have B:=z.fr s
       have y:=dC Fs (Fx.of s)
       cases hl:ltInt e[k+1]! e[a]! with
       |true=>
        rw[oP (λc=>by have:=c.2;simp [hl] at this)] at n;simp(disch:=omega)only[go_sem,hl];exact⟨by rw[←n];exact aB rfl,B,y⟩
       |false=>
        rw[Dc om (by simp [hl])] at n;simp(disch:=omega)only[go_sem,hl,eK];exact⟨k,om,k,aB rfl,om,B,n,y,rfl⟩
      ·have q:=bH f
       rw[oP (λc=>f (by have:=c.1;omega))] at n
       simp(disch:=omega)only[go_sem,q]
       exact⟨by rw[←n];exact aB rfl,z.fr ((Fr.refl J).bA om),dC Fs (Fx.of ((Fr.refl J).bA om))⟩
     ·rintro l h4 ⟨⟨g,rfl⟩,A4,F4⟩
      have a2:=scanDown_le (λx=>!ltInt x e[a]!) e u j
      obtain⟨w,hw⟩: ∃x,scanDown (λx=>!ltInt x e[a]!) e u j=x:=⟨_,rfl⟩
      rw[hw] at a2
      rw[hw]
      rw[hu,hw] at hL
      have b9:=A4.size
      by_cases Q:(w:Int)<(u:Int)
      ·have q:=bP Q
       rw[bF om] at hL
       simp(disch:=omega)only[go_sem,q]
       rw[←hL]
       exact⟨aB rfl,A4,om,F4⟩
      have q:=bH Q
      rw[bI om] at hL
      have O:=A4.rd (i:=u) om
      have K:=A4.rd (i:=w) om
      have ei:(u:Int)+1=((u+1:Nat):Int):=om
      have ej:(w:Int)- 1=((w- 1:Nat):Int):=om
      simp(disch:=omega)only[go_sem,q,O,K,A4.get,bB,aY,ei,ej]
      have W:=A4.swap (i:=u) (j:=w) (nx:=h4.next+16) om rfl
      exact⟨w- 1,om,u+1,w- 1,_,aB rfl,om,om,om,W.1,hL,dC F4 W.2,rfl⟩
   ·rintro l h5 ⟨⟨g,rfl⟩,A5,U,F5⟩
    generalize partLoop ltInt a (o+1) (F- 1) e0=r at hP A5 U
    obtain⟨m,e5⟩:=r
    have U:m<b:=U
    have A5:cE h5 S N e5:=A5
    have b7:=A5.size
    have O:=A5.rd (i:=m) om
    have K:=A5.rd (i:=a) om
    simp(disch:=omega)only[go_sem,O,K,A5.get,bB,aY]
    have W:=A5.swap (i:=m) (j:=a) (nx:=h5.next+16) om rfl
    rw[hP]
    exact⟨rfl,W.1,dC F5 W.2⟩
theorem xB (h:H)(S N a b pv:Nat)(d:Array Int)(K:lI)(hN:N<1000000)(A:cE h S N d)(hb:b<=N)(a8:a<=pv)(b0:pv<b):
  Ev T 240 [.sl S 0 N K,aC a,aC b,aC pv] h (λv h'=>v= aC ((partitionEqual ltInt d a b pv).1:Nat)/\cE h' S N (partitionEqual ltInt d a b pv).2/\Fx (· =S) h h'):=by
 refine cV iQ rfl ?_
 have sz:=A.size
 have G:=A.rd (i:=a) om
 have F:=A.rd (i:=pv) om
 simp(disch:=omega)only[go_sem,iQ,aD,G,F,A.get,bB,aY]
 have W:=A.swap (i:=a) (j:=pv) (nx:=h.next+16) om rfl
 obtain⟨h1,P⟩: ∃h1,h1=((H.mk h.tr (h.next+16)).set S (aZ (ints (d.setIfInBounds a d[pv]!).toList))).set S (aZ (ints ((d.setIfInBounds a d[pv]!).setIfInBounds pv d[a]!).toList)):=⟨_,rfl⟩
 rw[←P] at W ⊢
 obtain⟨A1,F1⟩:=W
 have eb:(b:Int)- 1=((b- 1:Nat):Int):=om
 have ea:(a:Int)+1=((a+1:Nat):Int):=om
 unfold partitionEqual
 obtain⟨L,he⟩: ∃e,swp d a pv=e:=⟨_,rfl⟩
 rw[he] at A1 ⊢
 clear P G F A
 simp(disch:=omega)only[go_sem,ea,eb]
 refine bJ (λz c=>(∃g:Nat->V,z= [.sl S 0 N K,aC a,aC b,aC pv,g 4,aC (((partEqLoop ltInt a (a+1) (b- 1) L).1:Nat):Int),g 6,g 7,g 8,g 9])/\cE c S N (partEqLoop ltInt a (a+1) (b- 1) L).2/\Fx (· =S) h c) ?_ ?_
 ·refine aH (λr z c=> ∃(i j:Nat) (e:Array Int),(∃g:Nat->V,z= [.sl S 0 N K,aC a,aC b,aC pv,g 4,aC i,aC j,g 7,g 8,g 9])/\a<i/\i<=b+1/\j<b/\cE c S N e/\partEqLoop ltInt a i j e=partEqLoop ltInt a (a+1) (b- 1) L/\Fx (· =S) h c/\r=j) (b- 1)
   ⟨a+1,b- 1,L,aB rfl,om,om,om,A1,rfl,F1,rfl⟩ ?_
  obtain⟨R2,Y⟩:=exI (partEqLoop ltInt a (a+1) (b- 1) L)
  rw[Y]
  clear Y F1 A1 h1 he L
  rintro r f h3 ⟨i,j,e,⟨g,rfl⟩,a5,a7,hj,A3,O,F3,R⟩
  rw[partEqLoop_eq] at O
  simp(disch:=omega)only[go_sem]
  refine bJ (λz c=>(∃g:Nat->V,z= [.sl S 0 N K,aC a,aC b,aC pv,g 4,aC (scanUp (λx=>!ltInt e[a]! x) e j i:Nat),aC (j:Nat),g 7,g 8,g 9])/\cE c S N e/\Fx (· =S) h c) ?_ ?_
  ·refine aH (λr z c=> ∃(k:Nat),(∃g:Nat->V,z= [.sl S 0 N K,aC a,aC b,aC pv,g 4,aC (k:Nat),aC (j:Nat),g 7,g 8,g 9])/\i<=k/\k<=N+2/\cE c S N e/\scanUp (λx=>!ltInt e[a]! x) e j k=scanUp (λx=>!ltInt e[a]! x) e j i/\Fx (· =S) h c/\r=j+1-k) (j+1-i)
    ⟨i,aB rfl,om,om,A3,rfl,F3,rfl⟩ ?_
   rintro r f B ⟨k,⟨g,rfl⟩,a4,a6,s,m,U,rfl⟩
   by_cases l:(k:Int)<=((j:Nat):Int)
   ·have y:=bP l
    have eK:(k:Int)+1=((k+1:Nat):Int):=om
    have a0:=s.size
    have G:=s.rd (i:=k) om
    have F:=s.rd (i:=a) om
    simp(disch:=omega)only[go_sem,y,G,F]
    refine (gV _ _ _).mono ?_
    rintro _ J ⟨rfl,o⟩
    have n:Fr B J:=Fr.trans ((Fr.refl B).bA om) o
    have t:=s.fr n
    have q:=dC U (Fx.of n)
    cases hl:ltInt e[a]! e[k]! with
    |true=>
     rw[lK (λc=>by have:=c.2;simp [hl] at this)] at m;simp(disch:=omega)only[go_sem,hl];exact⟨by rw[←m];exact aB rfl,t,q⟩
    |false=>
     rw[yY om (by simp [hl])] at m;simp(disch:=omega)only[go_sem,hl,eK];exact⟨j+1-(k+1),om,k+1,aB rfl,om,om,t,m,q,rfl⟩
   ·have y:=bH l
    rw[lK (λc=>l (by have:=c.1;omega))] at m
    simp(disch:=omega)only[go_sem,y]
    exact⟨by rw[←m];exact aB rfl,s.fr ((Fr.refl B).bA om),dC U (Fx.of ((Fr.refl B).bA om))⟩
  ·rintro f h9 ⟨⟨g,rfl⟩,A9,F9⟩
   have a3:=scanUp_ge (λx=>!ltInt e[a]! x) e j i
   have a1:=kW (λx=>!ltInt e[a]! x) e j i
   obtain⟨u,Z⟩: ∃x,scanUp (λx=>!ltInt e[a]! x) e j i=x:=⟨_,rfl⟩
   rw[Z] at a3 a1
   rw[Z]
   simp(disch:=omega)only[go_sem]
   refine bJ (λz c=>(∃g:Nat->V,z= [.sl S 0 N K,aC a,aC b,aC pv,g 4,aC (u:Nat),aC (scanDown (λx=>ltInt e[a]! x) e u j:Nat),g 7,g 8,g 9])/\cE c S N e/\Fx (· =S) h c) ?_ ?_
   ·refine aH (λr z c=> ∃(k:Nat),(∃g:Nat->V,z= [.sl S 0 N K,aC a,aC b,aC pv,g 4,aC (u:Nat),aC (k:Nat),g 7,g 8,g 9])/\k<=j/\cE c S N e/\scanDown (λx=>ltInt e[a]! x) e u k=scanDown (λx=>ltInt e[a]! x) e u j/\Fx (· =S) h c/\r=k) j
     ⟨j,aB rfl,om,A9,rfl,F9,rfl⟩ ?_
    rintro r f B ⟨k,⟨g,rfl⟩,a4,s,m,U,R⟩
    subst R
    by_cases l:((u:Nat):Int)<=(r:Int)
    ·have y:=bP l
     obtain⟨k,rfl⟩: ∃k,r=k+1:=⟨r- 1,om⟩
     have eK:((k+1:Nat):Int)- 1=(k:Int):=om
     have a0:=s.size
     have G:=s.rd (i:=k+1) om
     have F:=s.rd (i:=a) om
     simp(disch:=omega)only[go_sem,y,G,F]
     refine (gV _ _ _).mono ?_
     rintro _ J ⟨rfl,o⟩
     have n:Fr B J:=Fr.trans ((Fr.refl B).bA om) o
     have t:=s.fr n
     have q:=dC U (Fx.of n)
     cases hl:ltInt e[a]! e[k+1]! with
     |false=>
      rw[oP (λc=>by have:=c.2;simp [hl] at this)] at m;simp(disch:=omega)only[go_sem,hl];exact⟨by rw[←m];exact aB rfl,t,q⟩
     |true=>
      rw[Dc om (by simp [hl])] at m;simp(disch:=omega)only[go_sem,hl,eK];exact⟨k,om,k,aB rfl,om,t,m,q,rfl⟩
    ·have y:=bH l
     rw[oP (λc=>l (by have:=c.1;omega))] at m
     simp(disch:=omega)only[go_sem,y]
     exact⟨by rw[←m];exact aB rfl,s.fr ((Fr.refl B).bA om),dC U (Fx.of ((Fr.refl B).bA om))⟩
   ·rintro f h4 ⟨⟨g,rfl⟩,A4,F4⟩
    have a2:=scanDown_le (λx=>ltInt e[a]! x) e u j
    obtain⟨w,hw⟩: ∃x,scanDown (λx=>ltInt e[a]! x) e u j=x:=⟨_,rfl⟩
    rw[hw] at a2
    rw[hw]
    rw[Z,hw] at O
    have a9:=A4.size
    by_cases Q:(w:Int)<(u:Int)
    ·have y:=bP Q
     rw[bF om] at O
     simp(disch:=omega)only[go_sem,y]
     rw[←O]
     exact⟨aB rfl,A4,F4⟩
    have y:=bH Q
    rw[bI om] at O
    have G:=A4.rd (i:=u) om
    have F:=A4.rd (i:=w) om
    have ei:(u:Int)+1=((u+1:Nat):Int):=om
    have ej:(w:Int)- 1=((w- 1:Nat):Int):=om
    simp(disch:=omega)only[go_sem,y,G,F,A4.get,bB,aY,ei,ej]
    have W:=A4.swap (i:=u) (j:=w) (nx:=h4.next+16) om rfl
    exact⟨w- 1,om,u+1,w- 1,_,aB rfl,om,om,om,W.1,O,dC F4 W.2,rfl⟩
 ·rintro f h5 ⟨⟨g,rfl⟩,A5,F5⟩
  simp(disch:=omega)only[go_sem]
  exact⟨A5,F5⟩
end
def My  (n:Nat):Prop:= ∀(h:H) (S N a b:Nat) (lim:Int) (d:Array Int) (cp:lI),N<60000->cE h S N d->a<=b->b<=N->b-a<=n->0<=lim->lim<1000000->Below ltInt a b d->
 Ev T 197 [.sl S 0 N cp,aC a,aC b,aC lim] h (λ_ h'=> ∃e,cE h' S N e/\PermIn a b d e/\SortedIn ltInt a b e/\Fx (· =S) h h')
theorem Pg  (n:Nat)(ih: ∀m,m<n->My m):My n:=by
 intro h S N a b a9 d o hN A a5 a6 hn q s hB;refine cV kZ rfl ?_;simp(disch:=omega)only[go_sem,kZ,aD]
 refine aH (λk' u P=> ∃(c f:Nat) (Z:Int) (G wp:Bool) (e:Array Int),(∃g:Nat->V,u= [.sl S 0 N o,aC (c:Int),aC (f:Int),aC Z,.bool G,.bool wp,g 6,g 7,g 8,g 9,g 10,g 11,g 12,g 13,g 14,g 15,g 16,g 17,g 18,g 19,g 20,g 21,g 22])/\c<=f/\f<=N/\a<=c/\f<=b/\0<=Z/\Z<1000000/\Below ltInt c f e/\cE P S N e/\Fx (· =S) h P/\
   (∀R,PermIn c f e R->SortedIn ltInt c f R->PermIn a b d R/\SortedIn ltInt a b R)/\k'=f-c) (b-a)
  ⟨a,b,a9,true,true,d,aB rfl,a5,a6,fM _,fM _,q,s,hB,A,Fx.refl _ h,λR h1 h2=>⟨h1,h2⟩,rfl⟩ ?_
 clear A hB q s;rintro k' u h1 ⟨c,f,Z,G,wp,e,⟨g,rfl⟩,w,j,a7,a4,q,s,hB,A,F,K,rfl⟩;obtain⟨m,hm⟩:=exI (f-c);have em:(f:Int)-(c:Int)=(m:Int):=om
 have ez: ∀{x:Array Int} {hx:H},cE hx S N x->f<=x.size:=λA=>by rw[A.size];exact j
 by_cases a2:(m:Int)<=12
 ·have Q:=bP a2
  simp(disch:=omega)only[go_sem,em,Q];refine (oW h1 S N c f e o om A j w).mono ?_;rintro _ h2 ⟨A2,F2⟩;obtain⟨p1,p2⟩:=insertionSort_holds swo_ltInt e c f w (ez A);obtain⟨W,q2⟩:=K _ p1 p2;simp(disch:=omega)only[go_sem];exact⟨_,A2,W,q2,dC F F2⟩
 have Q:=bH a2
 by_cases hl:Z=0
 ·have z:=bP hl
  simp(disch:=omega)only[go_sem,em,Q,z];refine (qZ h1 S N c f e o om A j w).mono ?_;rintro _ h2 ⟨A2,F2⟩;obtain⟨p1,p2⟩:=heapSort_holds swo_ltInt e c f w (ez A);obtain⟨W,q2⟩:=K _ p1 p2;simp(disch:=omega)only[go_sem];exact⟨_,A2,W,q2,dC F F2⟩
 have z:=bH hl;simp(disch:=omega)only[go_sem,em,Q,z];refine jT (λU P=> ∃(z:Array Int) (y:Int) (g:Nat->V),U= [.sl S 0 N o,aC (c:Int),aC (f:Int),aC y,.bool G,.bool wp,aC m,g 7,g 8,g 9,g 10,g 11,g 12,g 13,g 14,g 15,g 16,g 17,g 18,g 19,g 20,g 21,g 22]/\0<=y/\y<1000000/\cE P S N z/\PermIn c f e z/\Fx (· =S) h P) ?_ ?_
 ·cases G with
  |true=>
   simp(disch:=omega)only[go_sem];exact .inl ⟨e,Z,_,(aB rfl: ∃g:Nat->V,_= [.sl S 0 N o,aC (c:Int),aC (f:Int),aC Z,.bool true,.bool wp,aC m,g 7,g 8,g 9,g 10,g 11,g 12,g 13,g 14,g 15,g 16,g 17,g 18,g 19,g 20,g 21,g 22]).choose_spec,q,s,A,permIn_refl e c f,F⟩
  |false=>
   simp(disch:=omega)only[go_sem];refine (Ba h1 S N c f e o hN A j w).mono ?_;rintro _ h2 ⟨z,A2,p2,F2⟩;simp(disch:=omega)only[go_sem];exact .inl ⟨z,Z- 1,_,(aB rfl: ∃g:Nat->V,_= [.sl S 0 N o,aC (c:Int),aC (f:Int),aC (Z- 1),.bool false,.bool wp,aC m,g 7,g 8,g 9,g 10,g 11,g 12,g 13,g 14,g 15,g 16,g 17,g 18,g 19,g 20,g 21,g 22]).choose_spec,om,om,A2,p2,dC F F2⟩
 clear A F q s hl z g;rintro u h2 ⟨z,y,g,rfl,q,s,A,P2,F⟩;have B2:=hB.perm (by rw[←P2.1];exact ez A) P2;simp(disch:=omega)only[go_sem];refine (Ar h2 S N c f z o om A j om).mono ?_;rintro _ h3 ⟨p,t,rfl,O,J,f3⟩;have A3:=A.fr f3;have F3:=dC F (Fx.of f3);clear A F;simp(disch:=omega)only[go_sem];refine jT (λU P=> ∃(e3:Array Int) (p2:Nat) (t2:Int) (g:Nat->V),U= [.sl S 0 N o,aC (c:Int),aC (f:Int),aC y,.bool G,.bool wp,aC m,aC p2,aC t2,g 9,g 10,g 11,g 12,g 13,g 14,g 15,g 16,g 17,g 18,g 19,g 20,g 21,g 22]/\c<=p2/\p2<f/\cE P S N e3/\PermIn c f z e3/\Fx (· =S) h P) ?_ ?_
 ·refine aW (λht=>?_) (λht=>?_)
  ·simp(disch:=omega)only[go_sem]
   refine (tZ h3 S N c f z o om A3 j om).mono ?_;rintro _ h4 ⟨A4,F4⟩;have Y:(f:Int)- 1-((p:Int)-(c:Int))=(((f- 1)-(p-c):Nat):Int):=om
   simp(disch:=omega)only[go_sem,Y];exact .inl ⟨_,(f- 1)-(p-c),1,_,(aB rfl: ∃g:Nat->V,_= [.sl S 0 N o,aC (c:Int),aC (f:Int),aC y,.bool G,.bool wp,aC m,aC ((f- 1)-(p-c):Nat),aC 1,g 9,g 10,g 11,g 12,g 13,g 14,g 15,g 16,g 17,g 18,g 19,g 20,g 21,g 22]).choose_spec,om,om,A4,reverseRange_holds z c f w (ez A3),dC F3 F4⟩
  ·simp(disch:=omega)only[go_sem]
   exact .inl ⟨z,p,t,_,(aB rfl: ∃g:Nat->V,_= [.sl S 0 N o,aC (c:Int),aC (f:Int),aC y,.bool G,.bool wp,aC m,aC p,aC t,g 9,g 10,g 11,g 12,g 13,g 14,g 15,g 16,g 17,g 18,g 19,g 20,g 21,g 22]).choose_spec,O,J,A3,permIn_refl z c f,F3⟩
 have a1:=ez A3;clear A3 F3 O J f3 p t g;rintro u h4 ⟨e3,p,t,g,rfl,O,J,A,P3,F⟩;have B3:=B2.perm a1 P3;have a0:=permIn_trans _ _ _ c f P2 P3;have b0:f<=z.size:=a1;clear a1 B2 hB;refine xW (λU P=> ∃(B:Array Int) (g:Nat->V),U= [.sl S 0 N o,aC (c:Int),aC (f:Int),aC y,.bool G,.bool wp,aC m,aC p,g 8,g 9,g 10,g 11,g 12,g 13,g 14,g 15,g 16,g 17,g 18,g 19,g 20,g 21,g 22]/\cE P S N B/\PermIn c f e B/\Below ltInt c f B/\Fx (· =S) h P) ?_ ?_
 ·have skip: ∀(U:List V),(∃g:Nat->V,U= [.sl S 0 N o,aC (c:Int),aC (f:Int),aC y,.bool G,.bool wp,aC m,aC p,g 8,g 9,g 10,g 11,g 12,g 13,g 14,g 15,g 16,g 17,g 18,g 19,g 20,g 21,g 22])-> ∃(B:Array Int) (g:Nat->V),U= [.sl S 0 N o,aC (c:Int),aC (f:Int),aC y,.bool G,.bool wp,aC m,aC p,g 8,g 9,g 10,g 11,g 12,g 13,g 14,g 15,g 16,g 17,g 18,g 19,g 20,g 21,g 22]/\cE h4 S N B/\PermIn c f e B/\Below ltInt c f B/\Fx (· =S) h h4:=λU ⟨g,hv⟩=>⟨e3,g,hv,A,a0,B3,F⟩
  have run: ∀g:Nat->V,Ev T 239 [.sl S 0 N o,aC (c:Int),aC (f:Int)] h4 (λv h'=> ∃r:Array Int×Bool,v= .bool r.2/\cE h' S N r.1/\Fx (· =S) h4 h'/\PermIn c f e3 r.1/\(r.2=true->SortedIn ltInt c f r.1)):=λ_=>by
   refine (tB h4 S N c f e3 o om A j om).mono ?_;rintro v h5 ⟨hv,A5,F5⟩;obtain⟨W,q2⟩:=partialInsertionSort_holds swo_ltInt e3 c f om (ez A) B3;exact⟨_,hv,A5,F5,W,q2⟩
  cases G with
  |false=>
   simp(disch:=omega)only[go_sem];exact .inl (skip _ (aB rfl))
  |true=>cases wp with
   |false=>
    simp(disch:=omega)only[go_sem]
    exact .inl (skip _ (aB rfl))
   |true=>
    simp(disch:=omega)only[go_sem]
    refine aW (λht=>?_) (λht=>?_)
    ·simp(disch:=omega)only[go_sem]
     refine (run g).mono ?_
     rintro v h5 ⟨⟨Y,r5⟩,rfl,A5,F5,W,q2⟩
     have A5:cE h5 S N Y:=A5
     have W:PermIn c f e3 Y:=W
     have P5:=permIn_trans _ _ _ c f a0 W
     cases r5 with
     |false=>
      simp(disch:=omega)only[go_sem];exact .inl ⟨Y,_,(aB rfl: ∃g:Nat->V,_= [.sl S 0 N o,aC (c:Int),aC (f:Int),aC y,.bool true,.bool true,aC m,aC p,g 8,g 9,g 10,g 11,g 12,g 13,g 14,g 15,g 16,g 17,g 18,g 19,g 20,g 21,g 22]).choose_spec,A5,P5,B3.perm (ez A) W,dC F F5⟩
     |true=>
      obtain⟨w1,w2⟩:=K _ P5 (q2 rfl);simp(disch:=omega)only[go_sem];exact .inr ⟨by simp,Y,A5,w1,w2,dC F F5⟩
    ·simp(disch:=omega)only[go_sem]
     exact .inl (skip _ (aB rfl))
 clear A P3 a0 B3 F P2 b0 e3 z;rintro u h5 ⟨B,g,rfl,A,P4,B4,F⟩;have a3:=ez A;refine xW (λU P=> ∃(g:Nat->V),U= [.sl S 0 N o,aC (c:Int),aC (f:Int),aC y,.bool G,.bool wp,aC m,aC p,g 8,g 9,g 10,g 11,g 12,g 13,g 14,g 15,g 16,g 17,g 18,g 19,g 20,g 21,g 22]/\cE P S N B/\Fx (· =S) h P) ?_ ?_
 ·by_cases h0:(0:Int)<(c:Int)
  case neg=>
   have Q:=bH h0;simp(disch:=omega)only[go_sem,Q];exact .inl ⟨_,(aB rfl: ∃g:Nat->V,_= [.sl S 0 N o,aC (c:Int),aC (f:Int),aC y,.bool G,.bool wp,aC m,aC p,g 8,g 9,g 10,g 11,g 12,g 13,g 14,g 15,g 16,g 17,g 18,g 19,g 20,g 21,g 22]).choose_spec,A.fr ((Fr.refl h5).bA om),dC F (Fx.of ((Fr.refl h5).bA om))⟩
  have Q:=bP h0;have ea:(c:Int)- 1=((c- 1:Nat):Int):=om
  have c1:=A.rd (i:=c- 1) om;have c2:=A.rd (i:=p) om;simp(disch:=omega)only[go_sem,Q,ea,c1,c2];refine (gV _ _ _).mono ?_;rintro _ h6 ⟨rfl,a8⟩;have f6:Fr h5 h6:=Fr.trans ((Fr.refl h5).bA om) a8;have A6:=A.fr f6;have F6:=dC F (Fx.of f6)
  cases hl:ltInt B[c- 1]! B[p]! with
  |true=>
   simp(disch:=omega)only[go_sem,hl];exact .inl ⟨_,(aB rfl: ∃g:Nat->V,_= [.sl S 0 N o,aC (c:Int),aC (f:Int),aC y,.bool G,.bool wp,aC m,aC p,g 8,g 9,g 10,g 11,g 12,g 13,g 14,g 15,g 16,g 17,g 18,g 19,g 20,g 21,g 22]).choose_spec,A6,F6⟩
  |false=>
   obtain⟨w1,w2,w3,w4,w5⟩:=round_eq swo_ltInt (partitionEqual_holds ltInt) om O J a3 B4 hl (Prod.eta (partitionEqual ltInt B c f p)).symm;simp(disch:=omega)only[go_sem,hl];refine (xB h6 S N c f p B o om A6 j O J).mono ?_;rintro _ h7 ⟨rfl,A7,F7⟩;simp(disch:=omega)only[go_sem];refine .inr ⟨by simp,f-(partitionEqual ltInt B c f p).1,om,(partitionEqual ltInt B c f p).1,f,y,G,wp,_,aB rfl,w2,j,om,a4,q,s,w4,A7,dC F6 F7,λR r1 r2=>?_,rfl⟩;obtain⟨t1,t2⟩:=w5 R r1 r2;exact K R (permIn_trans _ _ _ c f P4 t1) t2
 clear A F;rintro u h6 ⟨g,rfl,A,F⟩;have e8:=Dh m (k:=8) (m:=8) rfl;simp(disch:=omega)only[go_sem];refine (pG h6 S N c f p B o om A j O J).mono ?_;obtain⟨r,hr⟩:=exI (partition ltInt B c f p);rw[hr];obtain⟨l,ap,Y⟩:=r;obtain⟨w1,w2,w3,w4,w5,w6,w7⟩:=round_part swo_ltInt (partition_holds ltInt) O J a3 B4 hr;rintro _ h7 ⟨rfl,A7,F7⟩;have A7:cE h7 S N Y:=A7;have F7:=dC F F7;have el:(l:Int)-(c:Int)=((l-c:Nat):Int):=om
 have er:(f:Int)-(l:Int)=((f-l:Nat):Int):=om
 have Q:(l:Int)+1=((l+1:Nat):Int):=om
 simp(disch:=omega)only[go_sem,el,er,e8];refine aW (λht=>?_) (λht=>?_)
 ·simp(disch:=omega)only[go_sem]
  refine (ih (l-c) om h7 S N c l y Y o hN A7 w1 om (fM _) q s w4).mono ?_;rintro _ h8 ⟨L,A8,p8,s8,F8⟩;obtain⟨u1,u2⟩:=w6 L p8 s8;simp(disch:=omega)only[go_sem,Q];refine⟨f-(l+1),om,l+1,f,y,_,ap,L,aB rfl,om,j,om,a4,q,s,u1,A8,dC F7 F8,λR r1 r2=>?_,rfl⟩;obtain⟨t1,t2⟩:=u2 R r1 r2;exact K R (permIn_trans _ _ _ c f P4 t1) t2
 ·simp(disch:=omega)only[go_sem,Q]
  refine (ih (f-(l+1)) om h7 S N (l+1) f y Y o hN A7 om j (fM _) q s w5).mono ?_;rintro _ h8 ⟨L,A8,p8,s8,F8⟩;obtain⟨u1,u2⟩:=w7 L p8 s8;simp(disch:=omega)only[go_sem];refine⟨l-c,om,c,l,y,_,ap,L,aB rfl,om,om,a7,om,q,s,u1,A8,dC F7 F8,λR r1 r2=>?_,rfl⟩;obtain⟨t1,t2⟩:=u2 R r1 r2;exact K R (permIn_trans _ _ _ c f P4 t1) t2
theorem Ha  (n:Nat):My n:=by
 induction n using Nat.strongRecOn with
 |_ n ih=>exact Pg n  ih
theorem CP (h:H)(S N:Nat)(d:Array Int)(a:lI)(g:N<60000)(A:cE h S N d):
  Ev T 143 [.sl S 0 N a] h (λ_ h'=> ∃e,cE h' S N e/\PermIn 0 N d e/\SortedIn ltInt 0 N e/\Fx (· =S) h h'):=by
 refine cV pV rfl ?_
 have j:bitsLen N<=16:=(bitsLen_le_iff _ 16).2 om
 simp(disch:=omega)only[go_sem,pV,aD,dK (n:=(N:Int)) om om]
 refine (Tx N h om).mono ?_
 rintro _ f ⟨rfl,b⟩
 subst b
 simp(disch:=omega)only[go_sem]
 refine (Ha N f S N 0 N _ d a g A om om om om om (.inl rfl)).mono ?_
 rintro _ i ⟨e,c,p,s,F⟩
 simp(disch:=omega)only[go_sem]
 exact⟨e,c,p,s,F⟩
theorem Pa {l:List Int}{N:Nat}(f:l.length=N){e:Array Int}(o:PermIn 0 N l.toArray e)(m:SortedIn ltInt 0 N e):e.toList.Perm l/\e.toList.Pairwise (· <= ·):=by
 obtain⟨p,r,k⟩:=o;have a:e.size=N:=by rw[p];simpa using f
 refine⟨?_,?_⟩
 ·have g:(e.extract 0 N).toList=e.toList:=by rw[←a];simp
  have q:(l.toArray.extract 0 N).toList=l:=by rw[←f];simp
  rwa [g,q] at k
 ·rw[JX]
  intro i j hi d b;have c:j<N:=by simpa [a] using d
  have:=m i j (iJ _) b c;unfold ltInt at this;have h:e[i]! =e.toList[i]:=by simp at hi;simp [hi]
  have n:e[j]! =e.toList[j]:=by simp at d;simp [d]
  rw[h,n] at this;simpa using this
theorem Lm (h:H)(S:Nat)(l:List Int)(a:lI)(d:l.length<60000)(b:h.get S=aZ (ints l))(g:S<h.next):
  Ev T 143 [.sl S 0 l.length a] h (λ_ h'=> ∃l',h'.get S=aZ (ints l')/\l'.Perm l/\l'.Pairwise (· <= ·)/\Fx (· =S) h h'):=by
 refine (CP h S l.length l.toArray a d ⟨b,by simp,g⟩).mono ?_
 rintro _ h' ⟨e,A,p,s,F⟩
 obtain⟨c,f⟩:=Pa rfl p s
 exact⟨e.toList,A.get,c,f,F⟩
theorem AN {a b:List Int}(h:a.Perm b)(d:a.Pairwise (· <= ·))(e:b.Pairwise (· <= ·)):a=b:=
 h.eq_of_pairwise (λ_ _ _ _ c f=>Int.le_antisymm c f) d e
end Go.Proofs.YtcdbmkidaecdiaaGreat
namespace Go.Proofs.YtcdbmkidaecdiaaGreat
open Go Go.Ay Go.Pm
set_option maxRecDepth 100000
theorem CX (id b:Nat)(d:V)(l:List Int)(h:H)(G:l.length<1000000)(J:Nat->H->Prop)(D:H->Prop)(n:J 0 h)
  (o: ∀i hh,J i hh->hh.get b=aZ [d]/\SI hh d l)
  (t: ∀i hh,i<l.length->J i hh->Ey T id [aC (l.getD i 0)] hh (λv h'=>v= .bool true/\J (i+1) h'∨v= .bool false/\D h')):
  Ev T 232 [.yl id,.ptr b 0] h (λ_ h'=>J l.length h'∨D h'):=by
 refine cV mM rfl ?_
 obtain⟨s,p⟩:=o 0 h n
 have A:h.cell b 0=some d:=by rw[H.aF s];rfl
 have x:=p.lens
 simp(disch:=omega)only[go_sem,mM,aD,A,x]
 refine aH (λk a hh=> ∃(i:Nat),(∃g:Nat->V,a= [.yl id,.ptr b 0,g 2,d,aC (l.length:Int),aC i,g 6,g 7])/\i<=l.length/\J i hh/\k=l.length-i) l.length
  ⟨0,aB rfl,iJ _,n,rfl⟩ ?_
 rintro k a m ⟨i,⟨g,rfl⟩,hi,e,rfl⟩
 by_cases c:(i:Int)<(l.length:Int)
 ·have j:=bP c
  obtain⟨B,r⟩:=o i m e
  obtain⟨z,y,u,q,w⟩:=r.open
  have ci:=w i om
  simp(disch:=omega)only[go_sem,j,u.ixa,ci]
  refine (t i m om e).mono ?_
  rintro v F (⟨rfl,f⟩|⟨rfl,f⟩)
  ·simp(disch:=omega)only[go_sem]
   rw[eJ i]
   exact⟨l.length-(i+1),om,i+1,aB rfl,om,f,rfl⟩
  ·simp(disch:=omega)only[go_sem]
   exact .inr f
 have j:=bH c
 obtain rfl:i=l.length:=om
 simp(disch:=omega)only[go_sem,j]
 exact .inl e
theorem BZ (b:Nat)(vl:V)(l:List Int)(h:H)(hn:l.length<100000)(hb:h.get b=aZ [vl])(a0:b<h.next)(Y:SI h vl l):
  Ev T 231 [.fn 232 [] [.ptr b 0]] h (λv h'=>cY h' v 1 (ints l) h.next/\(v= .aE∨ ∃id cap,v= .sl id 0 l.length cap/\h.next<=id/\id<h'.next/\h'.get id=aZ (ints l))/\Fr h h'):=by
 refine cV qW rfl ?_
 simp(disch:=omega)only[go_sem,qW,aD]
 refine Ev.mono (Q:=λv h'=>cY h' v 1 (ints l) h.next/\(v= .aE∨ ∃id cap,v= .sl id 0 l.length cap/\h.next<=id/\id<h'.next/\h'.get id=aZ (ints l))/\Fr h h') ?_ (λv h' Y=>by simp(disch:=omega)only[go_sem];exact Y)
 refine cV lT rfl ?_
 simp(disch:=omega)only[go_sem,lT,aD,mF (x:= .aE) rfl rfl]
 obtain⟨B,J⟩:=exI h.next
 obtain⟨t,q⟩: ∃t,t=h.new (.cells false [.aE]):=⟨_,rfl⟩
 have g1:t.get B=aZ [.aE]:=by rw[q,←J,H.aL]
 have n1:t.next=B+1:=by rw[q,H.aU,J]
 have f1:Fr h t:=by rw[q];exact (Fr.refl h).new _
 rw[←q,J]
 refine⟨rfl,?_⟩
 refine uJ λr p=>?_
 refine (CX (B+1) b vl l _ om (λi d=>d.get (B+1)=some (.loop r)/\B+1<d.next/\Fr h d/\ ∃g,d.get B=aZ [g]/\cY d g 1 (ints (l.take i)) (B+2)/\(g= .aE∨ ∃id cap,g= .sl id 0 i cap/\B+2<=id/\id<d.next/\d.get id=aZ (ints (l.take i)))) (λ_=>False) ?_ ?_ ?_).mono ?_
 ·have e:=H.aL t (.loop r)
  rw[n1] at e
  refine⟨e,by rw[H.aU];omega,f1.new _,.aE,by rw[H.bG t om];exact g1,cY.aE _ _ _,.inl rfl⟩
 ·rintro i d ⟨_,_,f,_⟩
  exact⟨by rw[f.get b a0];exact hb,Y.mono f⟩
 ·rintro i d hi ⟨N,nr,f,g,G,y,U⟩
  have iP:r.st= .ready:=by rw[p]
  have Z:r.pend=none:=by rw[p]
  refine sZ N (by rw[p];rfl) iP λu g2 R o2=>?_
  rw[congrArg eH.assign p,congrArg eH.vars p,congrArg eH.pars p]
  simp(disch:=omega)only[go_sem,List.zip_cons_cons,List.zip_nil_left]
  rw[congrArg eH.body p]
  have W:u.cell B 0=some g:=by unfold H.cell;rw[o2 B om,G];rfl
  simp(disch:=omega)only[go_sem,W,cT u (z:= aC 0) (v:= aC (l.getD i 0)) rfl rfl,R]
  obtain⟨a,o⟩: ∃a,a=u.new (.cells false [aC (l.getD i 0)]):=⟨_,rfl⟩
  have g3:a.get d.next=aZ [aC (l.getD i 0)]:=by rw[o,←R,H.aL]
  have n3:a.next=d.next+1:=by rw[o,H.aU,R]
  have K: ∀k,k<d.next->k≠B+1->a.get k=d.get k:=λk j w=>by rw[o,H.bG u om,o2 k w]
  have r3:a.get (B+1)=some (.loop (pW r)):=by rw[o,H.bG u om,g2]
  rw[←o]
  have L:cY a g 1 (ints (l.take i)) (B+2):=y.mono om λid A n c e j w=>K id w om
  have O:(l.take i).length=i:=by rw[Fj];omega
  obtain⟨j,a4,F⟩:=L.push (bytes:=8) (SV.one om g3 (.kn 1)) (n:=i) (m:=1) (by rw[aP,O,uW]) rfl om om om
  have P: ∀k,k<B+2->dL g k:=λk hk id A n c e e2=>by
   have:=(y.in _ _ _ _ e).2.1;omega
  have g4:j.get B=aZ [g]:=by rw[F.old B om (P B om),K B om om];exact G
  have r4:j.get (B+1)=some (.loop (pW r)):=by rw[F.old (B+1) om (P (B+1) om)];exact r3
  have pt:dX (aZ [g]) j B 0 [.sl a.next 0 (i+1) (.un 1)]=some (j.set B (aZ [.sl a.next 0 (i+1) (.un 1)])):=bN (by simp) j B _
  simp(disch:=omega)only[go_sem,a4,g4,pt]
  refine oX iP Z (by rw[H.aG j om];exact r4) (.inl ⟨rfl,?_⟩)
  have et:ints (l.take (i+1))=ints (l.take i)++ [aC (l.getD i 0)]:=by
   rw[←List.take_append_getElem hi,uT];simp [ints,List.getD,hi]
  have n4:=F.next
  have g5:((j.set B (aZ [.sl a.next 0 (i+1) (.un 1)])).set (B+1) (some (.loop r))).get a.next=aZ (ints (l.take (i+1))):=by
   rw[H.aG _ om,H.aG _ om,F.get,et]
  refine⟨by rw[H.aS],by simp only[H.bY];omega,⟨by simp only[H.bY];have:=f.next;omega,λid s=>?_⟩,_,by rw[H.aG _ om,H.aS],?_,.inr ⟨a.next,_,rfl,om,by simp only[H.bY];omega,g5⟩⟩
  ·rw[H.aG _ om,H.aG _ om,F.old id (by have:=f.next;omega) (P id om),K id (by have:=f.next;omega) om]
   exact f.get id s
  ·exact .inr ⟨a.next,i+1,_, [],rfl,by rw[aP,Fj];omega,.inl rfl,om,by simp only[H.bY];omega,by rw[vF];exact g5⟩
 ·rintro _ u (⟨N,nr,f,g,G,y,U⟩|h)
  case inr=>exact h.elim
  refine⟨r,N,by rw[p];simp,?_⟩
  have W:(u.set (B+1) (some (.loop {r with st:= .out}))).cell B 0=some g:=by unfold H.cell;rw[H.aG _ om,G];rfl
  have en:r.pend.getD .norm= .norm:=by rw[p];rfl
  rw[en]
  simp(disch:=omega)only[go_sem,W]
  rw[List.take_length] at y U
  refine⟨?_,?_,⟨by simp only[H.bY];have:=f.next;omega,λid s=>by rw[H.aG _ om];exact f.get id s⟩⟩
  ·refine (y.mono (by simp only[H.bY];omega) λid A n c e j w=>H.aG _ om _).le om
  ·rcases U with rfl|⟨id,cap,rfl,a,j,w⟩
   ·exact .inl rfl
   ·exact .inr ⟨id,cap,rfl,om,j,by rw[H.aG _ om];exact w⟩
theorem MG (b:Nat)(f:V)(l:List Int)(h:H)(y:0<l.length)(x:l.length<50000)(t:h.get b=aZ [f])(d:b<h.next)(s:SI h f l):
  Ev T 194 [.fn 232 [] [.ptr b 0]] h (λv h'=> ∃id cap l',v= .sl id 0 l.length cap/\h.next<=id/\id<h'.next/\h'.get id=aZ (ints l')/\l'.Perm l/\l'.Pairwise (· <= ·)/\Fr h h'):=by
 refine cV rY rfl ?_
 simp(disch:=omega)only[go_sem,rY,aD]
 refine (BZ b f l h om t d s).mono ?_
 rintro v q ⟨n,p,a⟩
 rcases p with rfl|⟨id,cap,rfl,j,g,m⟩
 ·exfalso
  rcases n with ⟨_,e⟩|⟨_,_,_,_,e,_⟩
  ·have:=congrArg List.length e
   rw[aP,List.length_nil] at this
   omega
  ·cases e
 simp(disch:=omega)only[go_sem]
 refine (Lm q id l cap om m g).mono ?_
 rintro _ w ⟨l',r,o,u,c⟩
 simp(disch:=omega)only[go_sem]
 exact⟨id,cap,l',rfl,j,iW g c.next,r,o,u,mT a.next c.next,λk i=>(c.get k (iW i a.next) (λe=>by have:k=id:=e;omega)).trans (a.get k i)⟩
section
variable {v vO vR:V} {b C D n:Nat} {r O:LN} {wsO wsR:List V}
structure zD (h h':H)(v:V)(l:List Int):Prop where
 ex: ∃id cap,v= .sl id 0 l.length cap/\h.next<=id/\id<h'.next/\h'.get id=aZ (ints l)/\(cap= .un 1∨cap= .kn l.length)
 fr:Fr h h'
theorem zD.pv {h h':H}{l:List Nat}(f:zD h h' v (zi l)){W:Nat->Prop}(g: ∀id,W id->id<h.next):PV W h' v l:=by
 obtain⟨id,e,rfl,i,c,a,_⟩:=f.ex;exact⟨SV.all (by rw[aP,uW]) c a _,λd=>by have:=g id d;omega⟩
theorem zD.si {h h':H}{l:List Int}(f:zD h h' v l):SI h' v l:=by
 obtain⟨id,d,rfl,e,c,a,_⟩:=f.ex;exact SV.all (by rw[aP,uW]) c a _
theorem zD.own {h h':H}{l:List Int}(f:zD h h' v l):cY h' v 1 (ints l) h.next:=by
 obtain⟨id,a,rfl,i,d,c,g⟩:=f.ex;exact .inr ⟨id,l.length,a, [],rfl,by rw[aP,uW],by rcases g with e|e;exact .inl e;exact .inr ⟨e,rfl⟩,i,d,by rw[vF];exact c⟩
theorem Mz (u:V)(l:List Int)(h:H)(x:0<l.length)(z:l.length<1000000)(o:SI h u l):
  Ev T 138 [u] h (λv h'=>zD h h' v l):=by
 refine cV lD rfl ?_
 have q:Hg false u=some (.bool false):=by
  rcases o with ⟨_,e⟩|⟨id,d,len,t,A,B,rfl,_⟩
  ·have:=congrArg List.length e
   rw[aP,List.length_nil] at this;omega
  ·rfl
 simp(disch:=omega)only[go_sem,lD,aD,q]
 have i:Fr h (h.new (.cells false [])):=(Fr.refl h).new _
 have w:cY (h.new (.cells false [])) (.sl h.next 0 0 (.kn 0)) 1 [] 0:=cY.new h 1 0 0 [] rfl (iJ _)
 obtain⟨y,k,f⟩:=w.push (bytes:=8) (o.mono i) (n:=0) (m:=l.length) rfl (by rw[aP,uW]) om x om
 have j:(h.new (.cells false [])).next=h.next+1:=H.aU ..
 rw[j] at k
 have s:=f.next
 have g:=f.get
 rw[j] at s g
 simp(disch:=omega)only[go_sem,k]
 refine⟨⟨h.next+1,_,rfl,om,om,g,.inl rfl⟩,om,λid a=>?_⟩
 rw[f.old id om (λp d n c e F=>by cases e;omega)]
 exact i.get id a
def HK (v:V):Prop:= ∀id off len cap,v= .sl id off len cap->cap= .un 1∨ ∃c,cap= .kn c/\len<=c
theorem cY.NN {h:H}{ws:List V}(o:cY h v 1 ws b):HK v:=by
 rintro id d len c rfl;rcases o with ⟨e,_⟩|⟨_,_,_,_,e,_,a,_⟩
 ·cases e
 ·cases e
  rcases a with e|⟨e,_⟩
  ·exact .inl e
  ·exact .inr ⟨_,e,fM _⟩
def SRR (h:H)(v:V)(R:List (List (List Int))):Prop:= ∃ws,SV h v 1 ws/\aM (SR h) ws R/\ ∀w∈ws,HK w
theorem SRR.mono {h h':H}{R:List (List (List Int))}(s:SRR h v R)(f:Fr h h'):SRR h' v R:=by
 obtain⟨c,s,a,k⟩:=s;exact⟨c,s.mono f,a.mono λ_ _ x=>x.mono f,k⟩
def WI (h:H)(v:V)(d:Int)(O:List (List Int))(R:List (List (List Int))):Prop:= ∃vO vR,v= .agg [aC d,vO,vR]/\SR h vO O/\SRR h vR R
theorem WI.mono {h h':H}{d:Int}{O:List (List Int)}{R:List (List (List Int))}(s:WI h v d O R)(f:Fr h h'):WI h' v d O R:=by
 obtain⟨vO,vR,e,c,a⟩:=s;exact⟨vO,vR,e,c.mono f,a.mono f⟩
def PL (W:Nat->Prop)(h:H)(v:V)(r:LN):Prop:= ∃ws,SV h v 1 ws/\Mq W v/\fW W h ws r/\HK v
section
variable {W W':Nat->Prop} {h h' hh:H}
theorem PL.go (p:PL W h v r)(f:Fx W h h')(c: ∀id,id<h.next->W' id->W id):PL W' h' v r:=by
 obtain⟨d,s,o,a,k⟩:=p;exact⟨d,s.fx o f,o.lH s c,fW.go a f c,k⟩
theorem PL.sp (p:PL W h v r):SP h v r:=by
 obtain⟨c,s,o,a,_⟩:=p;refine⟨c,s,?_⟩;have d:=aM.length a
 exact aM.mQ (by simpa using d) λi hi e=>by
  have:=(aM.get a i hi om).si;simpa using this
def Hq (W:Nat->Prop)(v:V):Prop:= ∀id off n c,v= .sl id off n c->W id
structure Ae (h hh:H)(C D:Nat)(W:Nat->Prop)(n:Nat)(O:LN)(R:jI)(vO vR:V)(wsO wsR:List V):Prop where
 get:hh.get C=aZ [aC n,vO,vR]
 oO:cY hh vO 1 wsO h.next
 oR:cY hh vR 1 wsR h.next
 aO:fW W hh wsO O
 aR:aM (PL W hh) wsR R
 bO:Hq W vO
 bR:Hq W vR
 pO:dL vO C
 pR:dL vR C
 qO:dL vO D
 qR:dL vR D
 d:W D
 cd:C≠D
 IQ:Dis vO vR
 wb: ∀id,W id->id<hh.next
 low: ∀id,id<h.next->W id
 hC:h.next<=C
 hD:h.next<=D
 c:W C
 fr:Fr h hh
theorem Ae.start (j:h.next<=C)(d:C<hh.next)(i:h.next<=D)(a:D<hh.next)(c:C≠D)(f:Fr h hh)(g:hh.get C=aZ [aC n,.aE,.aE]):Ae h hh C D (λid=>id=C∨id=D∨id<h.next) n [] [] .aE .aE [] []:=
 ⟨g,cY.aE _ _ _,cY.aE _ _ _,trivial,trivial,λ_ _ _ _ e=>(by cases e),λ_ _ _ _ e=>(by cases e),dL.aE _,dL.aE _,dL.aE _,dL.aE _,.inr (.inl rfl),c,λ_ _ _ _ e=>(by cases e),λid e=>by rcases e with rfl|rfl|e;exact d;exact a;exact iW e f.next,λid e=> .inr (.inr e),j,i,.inl rfl,f⟩
theorem Ae.mono {R:jI}(A:Ae h hh C D W n O R vO vR wsO wsR){h2:H}(f:Fr hh h2):Ae h h2 C D W n O R vO vR wsO wsR:=
 ⟨by rw[f.get C (A.wb C A.c)];exact A.get,A.oO.fr f,A.oR.fr f,fW.go A.aO (Fx.of f) (λ_ _ h=>h),A.aR.mono λ_ _ x=>x.go (Fx.of f) (λ_ _ h=>h),A.bO,A.bR,A.pO,A.pR,A.qO,A.qR,A.d,A.cd,A.IQ,λid h=>iW (A.wb id h) f.next,A.low,A.hC,A.hD,A.c,A.fr.trans f⟩
theorem Ae.step {R:jI}(A:Ae h hh C D W n O R vO vR wsO wsR){v4 v5:V}{o:List Nat}(B:PV W hh v4 o)(K:PL W hh v5 r)
  {h6:H} {a k1 k2:Nat} (Q:hh.next<=a) (hb:hh.next<=b) (t:a≠b) (w:a<h6.next) (y:b<h6.next) (F:wsO.length+1=k1) (z:wsR.length+1=k2)
  (L:h6.get C=aZ [aC n,.sl a 0 k1 (.un 1),.sl b 0 k2 (.un 1)]) (G:h6.get a=aZ (wsO++ [v4])) (N:h6.get b=aZ (wsR++ [v5]))
  (m: ∀k,k<hh.next->k≠C->dL vO k->dL vR k->h6.get k=hh.get k):
  Ae h h6 C D (λid=>W id∨id=a∨id=b) n (O++ [o]) (R++ [r]) (.sl a 0 k1 (.un 1)) (.sl b 0 k2 (.un 1)) (wsO++ [v4]) (wsR++ [v5]):=by
 have q:Fx W hh h6:=⟨om,λid g j=>m id g (λe=>j (e▸A.c)) (λl f n c e p=>j (p▸A.bO _ _ _ _ e)) (λl f n c e p=>j (p▸A.bR _ _ _ _ e))⟩
 have s: ∀id,id<hh.next->(W id∨id=a∨id=b)->W id:=λid g j=>by
  rcases j with j|j|j
  ·exact j
  ·omega
  ·omega
 have Y:=A.wb C A.c
 have dn:=A.wb D A.d
 have Z:=A.fr.next
 refine⟨L,.inr ⟨a,k1,_, [],rfl,by rw[jZ];simp;omega,.inl rfl,om,w,by rw[vF];exact G⟩,.inr ⟨b,k2,_, [],rfl,by rw[jZ];simp;omega,.inl rfl,om,y,by rw[vF];exact N⟩,
  (fW.go A.aO q s).append (fW.one (PV.go B q s)),(A.aR.mono λ_ _ x=>x.go q s).append ⟨K.go q s,trivial⟩,λid f n c e=>by cases e;exact .inr (.inl rfl),λid f n c e=>by cases e;exact .inr (.inr rfl),
  dL.sl om,dL.sl om,dL.sl om,dL.sl om,.inl A.d,A.cd,λi o n c e i' o' P c' J=>by cases e;cases J;exact t,λid g=>?_,λid g=> .inl (A.low id g),A.hC,A.hD,.inl A.c,⟨om,λid u=>?_⟩⟩
 ·rcases g with g|g|g
  ·have:=A.wb id g;omega
  ·omega
  ·omega
 ·have U:=A.hC
  rw[m id om om (λl f n c e p=>by have:=(A.oO.in _ _ _ _ e).2.1;omega) (λl f n c e p=>by have:=(A.oR.in _ _ _ _ e).2.1;omega)]
  exact A.fr.get id u
theorem Ae.box {R:jI}(A:Ae h hh C D W n O R vO vR wsO wsR){h3:H}{o:Option Ob}(e:h3=hh.set D o):Ae h h3 C D W n O R vO vR wsO wsR:=by
 subst e;have f:Fx W hh (hh.set D o):=Fx.set hh A.d o;have i:=A.wb D A.d
 refine⟨by rw[H.aG hh A.cd];exact A.get,A.oO.mono (fM _) λid g m c e _ _=>H.aG hh (λa=>A.qO _ _ _ _ e a.symm) o,A.oR.mono (fM _) λid g m c e _ _=>H.aG hh (λa=>A.qR _ _ _ _ e a.symm) o,
  fW.go A.aO f (λ_ _ h=>h),A.aR.mono λ_ _ x=>x.go f (λ_ _ h=>h),A.bO,A.bR,A.pO,A.pR,A.qO,A.qR,A.d,A.cd,A.IQ,A.wb,A.low,A.hC,A.hD,A.c,?_⟩
 exact A.fr.set A.hD o
end
def NL (W:Nat->Prop)(h:H)(v:V)(n:Nat)(O:LN)(R:jI):Prop:= ∃vO vR wsO wsR,v= .agg [aC n,vO,vR]/\SV h vO 1 wsO/\Mq W vO/\fW W h wsO O/\SV h vR 1 wsR/\Mq W vR/\aM (PL W h) wsR R
section
variable {W W':Nat->Prop} {h h' hh:H}
theorem NL.go {R:jI}(c:NL W h v n O R)(f:Fx W h h')(a: ∀id,id<h.next->W' id->W id):NL W' h' v n O R:=by
 obtain⟨vO,vR,wsO,wsR,e,g,j,k,i,d,l⟩:=c;exact⟨vO,vR,wsO,wsR,e,g.fx j f,j.lH g a,fW.go k f a,i.fx d f,d.lH i a,l.mono λ_ _ x=>x.go f a⟩
theorem NL.mono {R:jI}(c:NL W h v n O R)(f:Fr h h'):NL W h' v n O R:=c.go (Fx.of f) λ_ _ h=>h
theorem NL.ch {R:jI}(c:NL W h v n O R):WI h v (n:Int) (O.map zi) (R.map (List.map zi)):=by
 obtain⟨vO,vR,wsO,wsR,e,g,p,f,j,o,a⟩:=c;refine⟨vO,vR,e,⟨wsO,g,?_⟩,⟨wsR,j,?_,λw m=>?_⟩⟩
 ·have d:=aM.length f
  exact aM.mQ (by simpa using d) λi hi l=>by
   have:=(aM.get f i hi om).si;simpa using this
 ·have d:=aM.length a
  exact aM.mQ (by simpa using d) λi hi l=>by
   have:=(aM.get a i hi om).sp;simpa using this
 ·obtain⟨i,hi,rfl⟩:=zF.1 m
  have d:=aM.length a;obtain⟨_,_,_,_,k⟩:=aM.get a i hi om;exact k
theorem DO {sz:Nat}{ws:List V}(o:cY h v sz ws b):Mq (λid=>id<b) v:=by
 cases v with
 |sl id off m c=>exact λe=>by have:=(o.in _ _ _ _ rfl).2.1;omega
 |_=>trivial
theorem Ae.chw {R:jI}(A:Ae h hh C D W n O R vO vR wsO wsR):NL (λid=>id<h.next) hh (.agg [aC n,vO,vR]) n O R:=
 ⟨vO,vR,wsO,wsR,rfl,A.oO.sv,DO A.oO,fW.lH A.aO λid _ h=>A.low id h,A.oR.sv,DO A.oR,A.aR.mono λ_ _ x=>x.go (Fx.refl _ _) λid _ h=>A.low id h⟩
end
theorem oNs {h:H}{O:List (List Int)}(s:SR h v O):v.one=true:=by
 obtain⟨_,t,_⟩:=s;exact t.cK.2.1
theorem oNt {h:H}{O:List (List (List Int))}(s:SRR h v O):v.one=true:=by
 obtain⟨_,t,_⟩:=s;exact t.cK.2.1
end
def ChL (τ:pM)(n j:Nat)(o:List Nat)(r:LN):Prop:=o.Pairwise (· < ·)/\(∀p,p∈o↔p∈(τ j).orb)/\r.length=o.length/\ ∀k,k<o.length-> ∀y,(τ j).to (o.getD k 0)=some y->r.getD k []=Kb τ (n-(j+1)) (j+1) y
theorem aaX {l:List Int}{a:List Nat}(h:l.Perm (zi a)): ∃q,l=zi q/\q.Perm a:=by
 refine⟨l.map Int.toNat,?_,?_⟩
 ·unfold zi
  rw[List.map_map];refine (List.map_id l).symm.trans (Vy λx b=>?_);have:=h.mem_iff.1 b;obtain⟨k,_,rfl⟩:=uF.1 this;simp
 ·have:=h.map Int.toNat
  have e:(zi a).map Int.toNat=a:=by
   unfold zi;rw[List.map_map];exact (Vy λx _=>by simp).trans (List.map_id a)
  rwa [e] at this
theorem aeL {q:List Nat}(h:(zi q).Pairwise (· <= ·))(nd:q.Nodup):q.Pairwise (· < ·):=by
 unfold zi at h;rw[List.pairwise_map] at h;rw[nPN] at nd;exact (h.and nd).imp λ⟨a,h2⟩=>om
theorem LO (u:V)(a:u.cells= [u])(b:u.one=true)(h:H):Ev T 195 [u] h (λv h'=>v= .fn 232 [] [.ptr h.next 0]/\h'.get h.next=aZ [u]/\h'.next=h.next+1/\Fr h h'):=by
 refine cV oE rfl ?_;simp(disch:=omega)only[go_sem,oE,aD,mF a b];exact (Fr.refl h).new _
theorem mI {α:Type}{a:List α}{x:α}{j:Nat}{d:α}(h:j<a.length):(a++ [x]).getD j d=a.getD j d:=by
 rw[List.getD,List.getD,Dv h]
theorem kG {α:Type}{a:List α}{x d:α}:(a++ [x]).getD a.length d=x:=by
 rw[List.getD,Kk (fM _),Nat.sub_self];rfl
theorem Qt (h:H)(n s L:Nat)(F:Nat->V)(τ:pM)(hn:n<=7)(R:rX h n s L F τ)(t:pI n 0 τ):
  Ev T 142 [.ptr s 0] h (λv h'=> ∃O R',NL (λid=>id<h.next) h' v n O R'/\bC n (S n τ 0) O R'/\Fr h h'):=by
 refine cV rW rfl ?_
 obtain⟨B,hB⟩:=exI h.next
 have tn:=R.tn
 have ln:=R.ln
 have ct:h.cell s 0=some (aC n):=by rw[H.aF R.t];rfl
 have bl:rO [aC 0,.aE,.aE] [(0,1,aC n)]=some (.agg [aC n,.aE,.aE]):=by
  have e1:putAt [aC 0,.aE,.aE] 0 [aC n]=some [aC n,.aE,.aE]:=by simp [putAt]
  simp [rO,iS,e1,V.cells,V.one]
 obtain⟨Q,a2⟩: ∃Q,Q=(h.new (.cells false [aC 0,.aE,.aE])).new (.cells false [aC 0,.aE,.aE]):=⟨_,rfl⟩
 have n1:Q.next=B+2:=by rw[a2,H.aU,H.aU,hB]
 have g1:Q.get (B+1)=aZ [aC 0,.aE,.aE]:=by
  rw[a2];have:=H.aL (h.new (.cells false [aC 0,.aE,.aE])) (.cells false [aC 0,.aE,.aE]);rwa [H.aU,hB] at this
 have g0:Q.get B=aZ [aC 0,.aE,.aE]:=by rw[a2,H.bG _ (by rw[H.aU,hB];omega),←hB,H.aL]
 have f1:Fr h Q:=by rw[a2];exact ((Fr.refl h).new _).new _
 have i5:Q.cell s 0=some (aC n):=by rw[f1.cell tn];exact ct
 simp(disch:=omega)only[go_sem,rW,aD,hB,ct,bl]
 rw[←a2]
 simp(disch:=omega)only[go_sem,bW Q (B+1) 0 (v:= aC n) (u:= .aE) (w:= .aE) rfl rfl rfl,g1,cF]
 obtain⟨l,a3⟩: ∃l,l=Q.set (B+1) (aZ [aC n,.aE,.aE]):=⟨_,rfl⟩
 have n2:l.next=B+2:=by rw[a3];exact n1
 have f2:Fr h l:=by rw[a3];exact f1.set om _
 have g2:l.get (B+1)=aZ [aC n,.aE,.aE]:=by rw[a3,H.aS]
 have d6:l.get B=aZ [aC 0,.aE,.aE]:=by rw[a3,H.aG _ om];exact g0
 have c8:Q.cell s 1=some (.sl L 0 n (.kn n)):=by rw[H.aF (R.mono f1).t];rfl
 rw[←a3]
 simp(disch:=omega)only[go_sem,c8]
 clear a2 a3 f1 g0 g1 i5 c8 n1 Q
 refine aH (λk' a1 J=> ∃(i:Nat) (W:Nat->Prop) (O:LN) (R':jI) (vO N:V) (c9 b5:List V),(∃g:Nat->V,a1= [.ptr s 0,.ptr B 0,.ptr (B+1) 0,g 3,g 4,g 5,g 6,aC n,aC i,g 9,g 10,g 11,g 12,g 13])/\i<=n/\Ae h J (B+1) B W n O R' vO N c9 b5/\
   J.get B=aZ [aC 0,.aE,.aE]/\O.length=i/\R'.length=i/\(∀j,j<i->ChL τ n j (O.getD j []) (R'.getD j []))/\k'=n-i) n
  ⟨0,_, [], [],_,_,_,_,aB rfl,iJ _,Ae.start om om om om om f2 g2,d6,rfl,rfl,λj hj=>om,rfl⟩ ?_
 clear f2 g2 d6 n2 l
 rintro k' a1 l ⟨i,W,O,R',vO,N,c9,b5,⟨g,rfl⟩,hi,A,gB,lO,lR,hC,rfl⟩
 by_cases d5:(i:Int)<(n:Int)
 case neg=>
  have e1:=bH d5;obtain rfl:i=n:=om
  have hr:=aI A.get;have nB:=A.fr.next;simp(disch:=omega)only[go_sem,e1,hr,bW l B 0 (v:= aC i) (u:=vO) (w:=N) rfl (SV.cK A.oO.sv).2.1 (SV.cK A.oR.sv).2.1,gB,cF];have g7:=aI (h:=l.set B (aZ [aC i,vO,N])) (H.aS ..);have fB:Fx (· =B) l (l.set B (aZ [aC i,vO,N])):=Fx.set l (W:=(· =B)) rfl _;simp(disch:=omega)only[go_sem,g7]
  obtain⟨h3,d4⟩: ∃h3,h3=l.set B (aZ [aC i,vO,N]):=⟨_,rfl⟩
  rw[←d4] at fB ⊢;have A3:=A.box d4;refine⟨O,R',by rw[←hB];exact A3.chw,?_,A3.fr⟩;have X:=t.chain (O:=O) (R:=R') lO lR (λj hj=>(hC j hj).1) (λj hj=>(hC j hj).2.1) (λj hj=>(hC j hj).2.2.1) (λj hj=>(hC j hj).2.2.2);exact X
 have e1:=bP d5
 have U:i<n:=om
 have R2:=R.mono A.fr
 have cl:l.cell s 1=some (.sl L 0 n (.kn n)):=by rw[H.aF R2.t];rfl
 have co:l.cell L (i*194+1)=some (F (i*194+1)):=R2.cell U om
 have oo:=R2.orb i U
 obtain⟨jX,_⟩:=t i (iJ _) U
 have j0:=YY jX U
 have d2:0<(τ i).orb.length:=HJ jX.base
 simp(disch:=omega)only[go_sem,e1,cl,co]
 refine (LO (F (i*194+1)) (SV.cK oo.sv).1 (SV.cK oo.sv).2.1 l).mono ?_
 rintro _ h3 ⟨rfl,g3,n3,f3⟩
 simp(disch:=omega)only[go_sem]
 have c6:SI h3 (F (i*194+1)) (zi (τ i).orb):=(show SI l _ _ from oo.sv).mono f3
 refine (MG l.next _ (zi (τ i).orb) h3 (by rw[aQ];exact d2) (by rw[aQ];omega) g3 om c6).mono ?_
 rintro _ h4 ⟨P,cp,l',rfl,i7,c2,gP,pm,d7,f4⟩
 obtain⟨q,rfl,c0⟩:=aaX pm
 have d3:=aeL d7 (c0.nodup_iff.2 jX.nd)
 have lq:q.length=(τ i).orb.length:=c0.length_eq
 have b4: ∀p,p∈q↔p∈(τ i).orb:=λp=>c0.mem_iff
 rw[aQ,←lq]
 have A4:=A.mono (f3.trans f4)
 have pq:PV W h4 (.sl P 0 q.length cp) q:=⟨SV.all (by rw[aP,aQ,uW]) c2 gP _,λhw=>by have:=A.wb P hw;omega⟩
 have g4:h4.get B=aZ [aC 0,.aE,.aE]:=by rw[(f3.trans f4).get B (A.wb B A.d)];exact gB
 clear A gB g3 c6 oo co cl R2 pm d7
 simp(disch:=omega)only[go_sem]
 refine bJ (λvs J=> ∃(Z:V) (r:LN),(∃g:Nat->V,vs= [.ptr s 0,.ptr B 0,.ptr (B+1) 0,aC i,.sl P 0 q.length cp,Z,g 6,aC n,aC i,g 9,g 10,g 11,g 12,g 13])/\PL W J Z r/\ChL τ n i q r/\Fr h4 J) ?_ ?_
 ·refine aH (λk' vs J=> ∃(k:Nat) (Z:V) (ws:List V) (r:LN) (W':Nat->Prop),(∃g:Nat->V,vs= [.ptr s 0,.ptr B 0,.ptr (B+1) 0,aC i,.sl P 0 q.length cp,Z,g 6,aC n,aC i,g 9,.sl P 0 q.length cp,aC (q.length:Int),aC k,g 13])/\k<=q.length/\cY J Z 1 ws h4.next/\fW W' J ws r/\Hq W' Z/\(∀id,W id->W' id)/\(∀id,W' id->id<J.next/\(W id∨h4.next<=id))/\r.length=k/\
    (∀j,j<k-> ∀y,(τ i).to (q.getD j 0)=some y->r.getD j []=Kb τ (n-(i+1)) (i+1) y)/\Fr h4 J/\k'=q.length-k) q.length
   ⟨0,.aE, [], [],W,aB rfl,iJ _,cY.aE _ _ _,trivial,λ_ _ _ _ e=>(by cases e),λ_ h=>h,λid h=>⟨A4.wb id h,.inl h⟩,rfl,λj hj=>om,Fr.refl _,rfl⟩ ?_
  rintro k' a1 f ⟨k,Z,ws,r,W',⟨g,rfl⟩,hk,ow,b8,g9,c3,c7,lr,hr,f5,rfl⟩
  by_cases b3:(k:Int)<(q.length:Int)
  case neg=>
   have e2:=bH b3;obtain rfl:k=q.length:=om
   simp(disch:=omega)only[go_sem,e2];refine⟨Z,r,aB rfl,⟨ws,ow.sv,?_,b8.lH (λid _ h=>c3 id h),cY.NN ow⟩,⟨d3,b4,lr,hr⟩,f5⟩
   cases Z with
   |sl id b2 m c=>exact λh=>by have:=(ow.in _ _ _ _ rfl).2.1;have:=A4.wb id h;omega
   |_=>trivial
  have e2:=bP b3
  have b6:k<q.length:=om
  obtain⟨p,hp⟩:=exI (q.getD k 0)
  have d0:=pq.mono f5
  have ck:f.cell P k=some (aC p):=by
   rw[H.aF (by rw[f5.get P c2];exact gP),Ip b6,hp]
  have c1:p∈(τ i).orb:=(b4 p).1 (by rw[←hp,cJ b6];exact zG b6)
  have j3:=jX.lt U c1
  obtain⟨y,hy⟩:=jX.to c1
  have Y:=jX.cU _ _ hy
  have R5:=R.mono (A4.fr.trans f5)
  have cl:f.cell s 1=some (.sl L 0 n (.kn n)):=by rw[H.aF R5.t];rfl
  have e3:f.cell L (i*194+2+p)=some (F (i*194+2+p)):=R5.Sh U om
  have e8:PV (WT n L F) f (F (i*194+2+p)) y:=by
   have:=R5.to i p U om;rw[hy] at this;exact this
  simp(disch:=omega)only[go_sem,e2,ck,cl,e3]
  refine (RI f n s L F τ _ y i hn R5 e8 Y U (t.mono om)).mono ?_
  rintro v6 h6 ⟨p6,Q6,f6⟩
  simp(disch:=omega)only[go_sem]
  refine (Mz v6 _ h6 (by rw[aQ,Q6.len];omega) (by rw[aQ,Q6.len];omega) p6.si).mono ?_
  rintro v7 h7 c5
  have f7:=c5.fr
  have p7:PV W' h7 v7 (Kb τ (n-(i+1)) (i+1) y):=c5.pv λid h=>iW (c7 id h).1 f6.next
  simp(disch:=omega)only[go_sem,cT h7 (z:= .aE) p7.fG.1 p7.fG.2]
  obtain⟨h8,K⟩: ∃h8,h8=h7.new (.cells false [v7]):=⟨_,rfl⟩
  have g8:h8.get h7.next=aZ [v7]:=by rw[K,H.aL]
  have n8:h8.next=h7.next+1:=by rw[K,H.aU]
  have f8:Fr h7 h8:=by rw[K];exact (Fr.refl h7).new _
  rw[←K]
  have a8:=(f6.trans f7).trans f8
  have i4:=ow.fr a8
  have i8:=aM.length b8
  obtain⟨h9,a9,p9⟩:=i4.push (bytes:=24) (SV.one om g8 (.kn 1)) (n:=k) (m:=1) om rfl om om om
  simp(disch:=omega)only[go_sem,a9]
  rw[eJ k]
  have n9:=p9.next
  have f9:Fx W' h8 h9:=p9.fx g9
  have e0:=a8.next
  have d8: ∀id,id<h8.next->(W' id∨id=h8.next)->W' id:=λid Q l=>by
   rcases l with l|l
   ·exact l
   ·omega
  refine⟨q.length-(k+1),om,k+1,_,_,r++ [Kb τ (n-(i+1)) (i+1) y],λid=>W' id∨id=h8.next,aB rfl,om,p9.own om rfl (by have:=f5.next;omega),?_,λid b2 m c e=>by cases e;exact .inr rfl,λid h=> .inl (c3 id h),λid h=>?_,by rw[jZ,lr];rfl,λj hj z hz=>?_,?_,rfl⟩
  ·exact (fW.go (fW.go b8 (Fx.of a8) (λ_ _ h=>h)) f9 d8).append (fW.one (PV.go (p7.mono f8) f9 d8))
  ·rcases h with h|h
   ·have:=c7 id h;exact⟨om,this.2⟩
   ·have:=f5.next;exact⟨om,.inr om⟩
  ·by_cases e:j=k
   ·subst e
    rw[hp,hy] at hz
    cases hz
    rw[←lr,kG]
   ·rw[mI om]
    exact hr j om z hz
  ·refine⟨by have:=f5.next;omega,λid b0=>?_⟩
   rw[p9.old id (by have:=f5.next;omega) (λf0 b2 m c e e2=>by have:=(ow.in _ _ _ _ e).2.1;omega),a8.get id (by have:=f5.next;omega)]
   exact f5.get id b0
 rintro a1 f ⟨Z,r,⟨g,rfl⟩,pl,h0,f5⟩
 have G:=A4.mono f5
 have d0:=pq.mono f5
 have i2:f.get B=aZ [aC 0,.aE,.aE]:=by rw[f5.get B (A4.wb B A4.d)];exact g4
 have cO:f.cell (B+1) 1=some vO:=by rw[H.aF G.get];rfl
 have cR:f.cell (B+1) 2=some N:=by rw[H.aF G.get];rfl
 obtain⟨ws,b7,d9,i3,e5⟩:=pl
 have pl:PL W f Z r:=⟨ws,b7,d9,i3,e5⟩
 have j4:=G.fr.next
 have d1:=G.wb _ G.c
 simp(disch:=omega)only[go_sem,cO,cR,cT _ (z:= .aE) (v:= .sl P 0 q.length cp) rfl rfl]
 obtain⟨h6,b1⟩: ∃h6:H,h6=H.mk ((H.mk f.tr (f.next+3)).new (Ob.cells false [.sl P 0 q.length cp])).tr (f.next+14):=⟨_,rfl⟩
 rw[←b1]
 have g6:h6.get (f.next+3)=aZ [.sl P 0 q.length cp]:=by rw[b1];exact H.aL (H.mk f.tr (f.next+3)) _
 have n6:h6.next=f.next+14:=by rw[b1]
 have o6: ∀k,k≠f.next+3->h6.get k=f.get k:=λk hk=>by rw[b1];exact H.bG (H.mk f.tr (f.next+3)) (by simpa using hk) _
 have f6:Fr f h6:=⟨om,λid b0=>o6 id om⟩
 have j2:=aM.length G.aO
 have i9:=aM.length G.aR
 obtain⟨h7,a7,p7⟩:=(G.oO.fr f6).push (bytes:=24) (SV.one om g6 (.kn 1)) (n:=i) (m:=1) om rfl om om om
 have n7:=p7.next
 have a4: ∀k,k<f.next->dL vO k->h7.get k=f.get k:=λk Q l=>by rw[p7.old k om l,o6 k om]
 have i1:h7.cell (B+1) 2=some N:=by unfold H.cell;rw[a4 (B+1) d1 G.pO,G.get];rfl
 have eR:dE N N=true:=G.oR.sv.dE
 have c4:Z.cells= [Z]/\Z.one=true:=⟨(SV.cK b7).1,(SV.cK b7).2.1⟩
 simp(disch:=omega)only[go_sem,a7,i1,eR,cT _ (z:= .aE) c4.1 c4.2]
 obtain⟨h8,K⟩: ∃h8:H,h8=H.mk ((H.mk h7.tr (f.next+8)).new (Ob.cells false [Z])).tr h7.next:=⟨_,rfl⟩
 rw[←K]
 have g8:h8.get (f.next+8)=aZ [Z]:=by rw[K];exact H.aL (H.mk h7.tr (f.next+8)) _
 have n8:h8.next=h7.next:=by rw[K]
 have o8: ∀k,k≠f.next+8->h8.get k=h7.get k:=λk hk=>by rw[K];exact H.bG (H.mk h7.tr (f.next+8)) (by simpa using hk) _
 have e9:cY h8 N 1 b5 h.next:=G.oR.mono om λid b2 m c e _ b0=>by
  rw[o8 id om,a4 id b0 (λf0 i6 n' c' e' e2=>G.IQ _ _ _ _ e' _ _ _ _ e e2.symm)]
 obtain⟨h9,a9,p9⟩:=e9.push (bytes:=24) (SV.one om g8 (.kn 1)) (n:=i) (m:=1) om rfl om om om
 have n9:=p9.next
 have e7: ∀k,f.next<=k->dL N k:=λk hk id b2 m c e e2=>by have:=(G.oR.in _ _ _ _ e).1;omega
 have a6: ∀k,k<f.next->dL vO k->dL N k->h9.get k=f.get k:=λk Q l h3=>by rw[p9.old k om h3,o8 k om,a4 k Q l]
 have g5:h9.get (B+1)=aZ [aC n,vO,N]:=by rw[a6 _ d1 G.pO G.pR];exact G.get
 have e6: ∀(J:H) (x:V),dX (aZ [aC n,vO,N]) J (B+1) 1 [x]=some (J.set (B+1) (aZ [aC n,x,N])):=λJ x=>bN (by simp) J _ x
 have i0: ∀(J:H) (x y:V),dX (aZ [aC n,x,N]) J (B+1) 2 [y]=some (J.set (B+1) (aZ [aC n,x,y])):=λJ x y=>bN (by simp) J _ y
 simp(disch:=omega)only[go_sem,a9,g5,e6,i0]
 rw[eJ i]
 obtain⟨ha,hb⟩:h6.next=f.next+14/\h8.next=f.next+15:=⟨n6,om⟩
 rw[ha,hb]
 obtain⟨a5,a0⟩: ∃a5,a5=(h9.set (B+1) (aZ [aC n,.sl (f.next+14) 0 (i+1) (.un 1),N])).set (B+1) (aZ [aC n,.sl (f.next+14) 0 (i+1) (.un 1),.sl (f.next+15) 0 (i+1) (.un 1)]):=⟨_,rfl⟩
 rw[←a0]
 have b9: ∀k,k≠B+1->a5.get k=h9.get k:=λk hk=>by rw[a0,H.aG _ hk,H.aG _ hk]
 have j1:a5.next=f.next+16:=by rw[a0];show h9.next=_;omega
 have e4:=G.step (v4:= .sl P 0 q.length cp) (v5:=Z) (o:=q) (r:=r) (h6:=a5) (a:=f.next+14) (b:=f.next+15) (k1:=i+1) (k2:=i+1) d0 pl om om om om om om om (by rw[a0,H.aS])
  (by rw[b9 _ om,p9.old _ om (e7 _ om),o8 _ om,←ha];exact p7.get) (by rw[b9 _ om,←hb];exact p9.get) (λk Q l h3 h4=>by rw[b9 k l];exact a6 k Q h3 h4)
 refine⟨n-(i+1),om,i+1,_,_,_,_,_,_,_,aB rfl,om,e4,?_,by rw[jZ,lO];rfl,by rw[jZ,lR];rfl,λj hj=>?_,rfl⟩
 ·rw[a6 B (G.wb B G.d) G.qO G.qR];exact i2
 ·by_cases e:j=i
  ·subst e
   have e1:(O++ [q]).getD j []=q:=by rw[←lO];exact kG
   have e2:(R'++ [r]).getD j []=r:=by rw[←lR];exact kG
   rw[e1,e2]
   exact h0
  ·rw[mI om,mI om]
   exact hC j om
end Go.Proofs.YtcdbmkidaecdiaaGreat
namespace Go.Ay
set_option maxRecDepth 100000
def sm:Nat->(Nat->Int)->Int
 |0,_=>0
 |n+1,f=>sm n f+f n
def ab (x:Int):Int:=if x<0 then -x else x
end Go.Ay
namespace Go.Proofs.YtcdbmkidaecdiaaGreat
open Go Go.Ay
set_option maxRecDepth 100000
section
variable {h h' a:H} {l:List Int} {u:V} {b x:Nat}
def SL (h:H)(l:List Int)(v:V)(h':H):Prop:=cY h' v 1 (ints l) h.next/\Fr h h'/\(0<l.length-> ∃id,v= .sl id 0 l.length (.un 1)/\h.next<=id/\id<h'.next/\h'.get id=aZ (ints l))
theorem ZJ {v:V}(i:SI h v l)(j:l.length<1000000): ∃v' h',xQ (h.new (.cells false [])) 1 8 (.sl h.next 0 0 (.kn 0)) v=some (v',h')/\SL h l v' h':=by
 obtain⟨v',h',e,a⟩:=(cY.new h 1 0 h.next [] rfl (fM _)).app (bytes:=8) (n:=0) (by rw[H.aU];omega) (SV.mono i ((Fr.refl h).new _)) (m:=l.length) rfl (by rw[aP,uW]) om om;refine⟨v',h',e,a.own,a.fr h ((Fr.refl h).new _) (fM _),λk=>?_⟩;rcases a.cK with ⟨c,_⟩|⟨id,c,d,f,g⟩
 ·omega
 ·exact⟨id,by rw[c,Nat.zero_add],d,f,g⟩
theorem afK (v:V)(l:List Int)(h:H)(f:SI h v l)(d:l.length<1000000):Ev T 150 [v] h (SL h l):=by
 refine cV Dq rfl ?_;simp only[Dq,aD,go_sem];obtain⟨g,h',e,c⟩:=ZJ f d;simp only[e,go_sem];exact c
theorem TZ (n d:Nat):(n:Int).tmod (d:Int)=((n%d:Nat):Int):=rfl
theorem Nb {a b:List Int}(e:a.length=b.length)(h: ∀j,j<a.length->a.getD j 0=b.getD j 0):a=b:=by
 apply List.ext_getElem e;intro i c d;have:=h i c;rw[WN,dD c,WN,dD d] at this;exact this
theorem Qs {g:Nat}(s:T g=some kE.fn)(A B:V)(a b:List Int)(h:H)(r:SI h A a)(O:SI h B b)(R:a.length<1000000)(U:b.length<1000000):Ev T g [A,B] h (λv h'=>v= .bool (decide (a=b))/\Fr h h'):=by
 refine Ko s rfl ?_;obtain⟨id,a0,z,t,hc⟩:=r.open;obtain⟨W,L,p,q,y⟩:=O.open;simp (disch:=first|omega|(simp only[Qn];(try omega);done)|fail) only[go_sem,kE,aD,r.lens,O.lens];refine aW (λm=>?_) (λo=>?_)
 ·simp (disch:=first|omega|(simp only[Qn];(try omega);done)|fail) only[go_sem]
  have:a≠b:=λe=>m (by rw[e])
  exact⟨by rw[bH this],Fr.refl h⟩
 have o:a.length=b.length:=om
 simp (disch:=first|omega|(simp only[Qn];(try omega);done)|fail) only[go_sem,r.lens];refine aH (λk d G=> ∃(i:Nat) (N F K:V),d= [A,B,.bool false,N,.bool (decide ((a.length:Int)≠(b.length:Int))),aC (a.length:Int),aC i,F,K]/\i<=a.length/\(∀j,j<i->a.getD j 0=b.getD j 0)/\Fr h G/\k=a.length-i) a.length
  ⟨0,_,_,_,rfl,iJ _,λj J=>om,Fr.refl h,rfl⟩ ?_
 rintro k d G ⟨i,N,F,K,rfl,hi,f,c,rfl⟩;simp (disch:=first|omega|(simp only[Qn];(try omega);done)|fail) only[go_sem];refine aW (λZ=>?_) (λY=>?_)
 ·have w:=Fe c t hc
  have n:=Fe c q y;simp (disch:=first|omega|(simp only[Qn];(try omega);done)|fail) only[go_sem,z.ixa,p.ixa,w,n,NK];refine aW (λm=>?_) (λQ=>?_)
  ·simp (disch:=first|omega|(simp only[Qn];(try omega);done)|fail) only[go_sem]
   have:a≠b:=λe=>m (by rw[e])
   exact⟨by rw[bH this],c.bA om⟩
  ·simp (disch:=first|omega|(simp only[Qn];(try omega);done)|fail) only[go_sem]
   rw[eJ i];refine⟨a.length-(i+1),om,i+1,_,_,_,rfl,om,λj J=>?_,c.bA om,rfl⟩
   by_cases P:j=i
   ·rw[P];exact Decidable.byContradiction Q
   ·exact f j om
 ·simp (disch:=first|omega|(simp only[Qn];(try omega);done)|fail) only[go_sem]
  have:a=b:=Nb o λj J=>f j om
  exact⟨by rw[bP this],c⟩
theorem Wr (d c:V)(a b:List Int)(h:H)(i:SI h d a)(g:SI h c b)(e:a.length<1000000)(f:b.length<1000000):Ev T 105 [d,c] h (λv h'=>v= .bool (decide (a=b))/\Fr h h'):=Qs kE.ok d c a b h i g e f
theorem GV (y z:V)(a b:List Int)(h:H)(q:SI h y a)(G:SI h z b)(N:a.length<1000000)(O:b.length<1000000):Ev T 97 [y,z] h (λv h'=>v= .bool (decide (a=b))/\Fr h h'):=by
 refine cV Ac rfl ?_;obtain⟨id,Z,w,r,Y⟩:=q.open;obtain⟨Q,F,o,p,t⟩:=G.open;simp (disch:=first|omega|(simp only[Qn];(try omega);done)|fail) only[go_sem,Ac,aD,q.lens,G.lens];refine aW (λg=>?_) (λn=>?_)
 ·simp (disch:=first|omega|(simp only[Qn];(try omega);done)|fail) only[go_sem]
  have:a≠b:=λe=>g (by rw[e])
  exact⟨by rw[bH this],Fr.refl h⟩
 have n:a.length=b.length:=om
 simp (disch:=first|omega|(simp only[Qn];(try omega);done)|fail) only[go_sem,q.lens];refine aH (λk d A=> ∃(i:Nat) (W P L:V),d= [y,z,.bool false,aC i,W,P,L]/\i<=a.length/\(∀j,j<i->a.getD j 0=b.getD j 0)/\Fr h A/\k=a.length-i) a.length
  ⟨0,_,_,_,rfl,iJ _,λj B=>om,Fr.refl h,rfl⟩ ?_
 rintro k d A ⟨i,x3,x7,x8,rfl,hi,f,c,rfl⟩;simp (disch:=first|omega|(simp only[Qn];(try omega);done)|fail) only[go_sem,q.lens];refine aW (λU=>?_) (λR=>?_)
 ·have s:=Fe c r Y
  have m:=Fe c p t;simp (disch:=first|omega|(simp only[Qn];(try omega);done)|fail) only[go_sem,w.ixa,o.ixa,s,m,NK];refine aW (λg=>?_) (λK=>?_)
  ·simp (disch:=first|omega|(simp only[Qn];(try omega);done)|fail) only[go_sem]
   have:a≠b:=λe=>g (by rw[e])
   exact⟨by rw[bH this],c.bA om⟩
  ·simp (disch:=first|omega|(simp only[Qn];(try omega);done)|fail) only[go_sem]
   rw[eJ i];refine⟨a.length-(i+1),om,i+1,_,_,_,rfl,om,λj B=>?_,c.bA om,rfl⟩
   by_cases J:j=i
   ·rw[J];exact Decidable.byContradiction K
   ·exact f j om
 ·simp (disch:=first|omega|(simp only[Qn];(try omega);done)|fail) only[go_sem]
  have:a=b:=Nb n λj B=>f j om
  exact⟨by rw[bP this],c⟩
def Frs (u:V)(b:Nat):Prop:= ∀id off n c,u= .sl id off n c->b<=id
theorem Frs.ne {id off n:Nat}{c:lI}(f:Frs u b)(h:id<b):u≠ .sl id off n c:=λe=>by have:=f _ _ _ _ e;omega
theorem Frs.le {g:Nat}(f:Frs u b)(h:g<=b):Frs u g:=λid d n c e=>mT h (f id d n c e)
theorem Frs.own {v:V}{sz:Nat}{ws:List V}(o:cY h v sz ws b):Frs v b:=λid i n c e=>by
 rcases o with ⟨d,_⟩|⟨g,_,_,_,d,_,_,f,_⟩
 ·rw[d] at e;cases e
 ·rw[d] at e;cases e;exact f
structure AU (x:Nat)(h h':H):Prop where
 next:h.next<=h'.next
 get: ∀id,id<h.next->id≠x->h'.get id=h.get id
theorem AU.refl (x:Nat)(h:H):AU x h h:=⟨fM _,λ_ _ _=>rfl⟩
theorem AU.of (f:Fr h h'):AU x h h':=⟨f.next,λid c _=>f.get id c⟩
theorem AU.trans {b c:H}(f:AU x a b)(g:AU x b c):AU x a c:=⟨mT f.next g.next,λid d e=>(g.get id (iW d f.next) e).trans (f.get id d e)⟩
theorem AU.set {b:H}(f:AU x a b)(o:Option Ob):AU x a (b.set x o):=⟨f.next,λid c d=>(H.aG b d o).trans (f.get id c d)⟩
theorem AU.fr {b c:H}(f:Fr a b)(e:a.next<=x)(g:AU x b c):Fr a c:=⟨mT f.next g.next,λid d=>(g.get id (iW d f.next) om).trans (f.get id d)⟩
theorem SI.fx {g:Nat}(s:SI h u l)(q:Frs u g)(r:x<g)(f:AU x h h'):SI h' u l:=by
 rcases s with s|⟨id,d,len,c,i,j,rfl,k,e,m,n,p⟩
 ·exact .inl s
 ·have o:=q _ _ _ _ rfl
  exact .inr ⟨id,d,len,c,i,j,rfl,k,iW e f.next,by rw[f.get id e om];exact m,n,p⟩
def Tk (h:H)(x:Nat)(l:List Int):Prop:= ∃vl,∃a:Nat,h.get x=aZ [vl,aC a]/\SI h vl l/\(∀id off len c,vl= .sl id off len c->id<x)/\a<=l.length/\x<h.next
theorem Tk.mono (t:Tk h x l)(f:Fr h h'):Tk h' x l:=by
 obtain⟨d,a,e,i,g,j,c⟩:=t;exact⟨d,a,(f.get x c).trans e,i.mono f,g,j,iW c f.next⟩
theorem Tk.low (t:Tk h x l)(i:h.next<=h'.next)(g: ∀id,id<=x->h'.get id=h.get id):Tk h' x l:=by
 obtain⟨q,a,w,j,f,n,o⟩:=t;refine⟨q,a,(g x (fM _)).trans w,?_,f,n,iW o i⟩;rcases j with y|⟨id,d,len,c,p,r,e,z,k,s,v,m⟩
 ·exact .inl y
 ·have:=f _ _ _ _ e
  exact .inr ⟨id,d,len,c,p,r,e,z,iW k i,(g id om).trans s,v,m⟩
theorem Tk.set {y:Nat}(t:Tk h x l)(c:h.next<=y)(o:Option Ob):Tk (h.set y o) x l:=t.mono ((Fr.refl h).set c o)
def agU (n:Nat):Nat->Nat->Nat
 |0,_=>n
 |f+1,d=>if d*d<=n then (if n%d=0 then d else agU n f (d+1)) else n
def aiG (n:Nat):Nat:=agU n 1000 2
def cU (n:Int):Bool:=decide (1<n)&&(decide (n<1000000)&&decide (aiG n.toNat=n.toNat))
end
end Go.Proofs.YtcdbmkidaecdiaaGreat
namespace Go.Proofs.YtcdbmkidaecdiaaGreat
open Go Go.Ay Go.Pm
set_option maxRecDepth 100000
theorem vC {g:Nat}(s:T g=some eV.fn)(f:Nat)(l r:V)(a b:List V)(e:Nat->Bool)(h:H)(B:SV h l 1 a)(L:SV h r 1 b)(N:a.length<1000000)(U:b.length<1000000)
  (W:a.length=b.length-> ∀i,i<a.length-> ∀hh,Fr h hh->Ev T f [a.getD i .undef,b.getD i .undef] hh (λv h'=>v= .bool (e i)/\Fr hh h')):
  Ev T g [l,r,.fn f [] []] h (λv h'=>v= .bool (decide (a.length=b.length/\ ∀i,i<a.length->e i=true))/\Fr h h'):=by
 refine Ko s rfl ?_
 have G:bT l=some (aC (a.length:Int)):=by unfold bT;rw[B.len (n:=a.length) om om];rfl
 have O:bT r=some (aC (b.length:Int)):=by unfold bT;rw[L.len (n:=b.length) om om];rfl
 obtain⟨id,z,R,t,Y⟩:=B.shape a.length om om
 obtain⟨x,m,y,p,w⟩:=L.shape b.length om om
 simp(disch:=omega)only[go_sem,eV,aD,G,O]
 refine aW (λu=>?_) (λk=>?_)
 ·simp(disch:=omega)only[go_sem]
  exact⟨by rw[bH (λh=>u om)],Fr.refl h⟩
 have k:a.length=b.length:=om
 simp(disch:=omega)only[go_sem,G]
 refine aH (λK d hh=> ∃(i:Nat),(∃g:Nat->V,d= [l,r,.fn f [] [],g 3,g 4,g 5,g 6,g 7,l,aC (a.length:Int),aC i,g 11,g 12])/\i<=a.length/\(∀j,j<i->e j=true)/\Fr h hh/\K=a.length-i) a.length
  ⟨0,aB rfl,iJ _,λj Q=>om,Fr.refl h,rfl⟩ ?_
 rintro K d hh ⟨i,⟨g,rfl⟩,hi,q,F,rfl⟩
 by_cases o:(i:Int)<(a.length:Int)
 ·have A:=bP o
  have c:i<a.length:=om
  have c1:hh.cell id (z+i)=some (a.getD i .undef):=by rw[F.cell (t om),Y i c,List.getD,dD c];rfl
  have P:hh.cell x (m+i)=some (b.getD i .undef):=by rw[F.cell (p om),w i om,List.getD,dD om];rfl
  simp(disch:=omega)only[go_sem,A,R.ixa,y.ixa,c1,P]
  refine (W k i c hh F).mono ?_
  rintro _ h2 ⟨rfl,J⟩
  cases he:e i with
  |true=>
   simp(disch:=omega)only[go_sem];rw[eJ i];refine⟨a.length-(i+1),om,i+1,aB rfl,om,λj Q=>?_,F.trans J,rfl⟩
   by_cases Z:j=i
   ·rw[Z];exact he
   ·exact q j om
  |false=>
   simp(disch:=omega)only[go_sem];exact⟨by rw[bH (λh=>by have:=h.2 i c;rw[he] at this;cases this)],F.trans J⟩
 have A:=bH o
 obtain rfl:i=a.length:=om
 simp(disch:=omega)only[go_sem,A]
 exact⟨by rw[bP ⟨k,q⟩],F⟩
theorem iG {α β:Type}{R:α->β->Prop}{c:List α}{b:List β}(a:aM R c b){i:Nat}(hi:i<b.length)(d:α)(e:β):R (c.getD i d) (b.getD i e):=by
 have f:=a.length;rw[List.getD,dD om,List.getD,dD hi];exact a.get i om hi
theorem vE {α:Type}[DecidableEq α]{a b:List α}(d:α):decide (a=b)=decide (a.length=b.length/\ ∀i,i<a.length->decide (a.getD i d=b.getD i d)=true):=by
 congr 1;rw[eq_iff_iff];constructor
 ·rintro rfl;exact⟨rfl,λi _=>by simp⟩
 ·rintro⟨h1,h2⟩
  exact Ff (d:=d) h1 λi hi=>by simpa using h2 i hi
def Mf (R:List (List (List Int))):Prop:=R.length<1000000/\ ∀i,i<R.length->(R.getD i []).length<1000000
def sN (R:List (List (List Int))):Prop:=R.length<1000000/\ ∀i,i<R.length->(R.getD i []).length<1000000/\ ∀k,k<(R.getD i []).length->((R.getD i []).getD k []).length<1000000
def zV (O:List (List Int)):Prop:=O.length<1000000/\ ∀i,i<O.length->(O.getD i []).length<1000000
theorem VI (va vb:V)(d m:Int)(O x:List (List Int))(R G:List (List (List Int)))(h:H)(ha:WI h va d O R)(hb:WI h vb m x G)(so:zV O)(o:zV x)(sr:sN R)(n:sN G):
  Ev T 178 [va,vb] h (λv h'=>v= .bool (decide (d=m/\O=x/\R=G))/\Fr h h'):=by
 obtain⟨B,F,rfl,sO,sR⟩:=ha
 obtain⟨e,c,rfl,a2,Z⟩:=hb
 refine cV Hc rfl ?_
 obtain⟨wO,tO,aO⟩:=sO
 obtain⟨a0,s,r⟩:=a2
 obtain⟨wR,tR,aR,_⟩:=sR
 obtain⟨a1,A,y,_⟩:=Z
 have lO:=aO.length
 have p:=r.length
 have lR:=aR.length
 have z:=y.length
 simp(disch:=omega)only[go_sem,Hc,aD,bM h (v:= aC d) (u:=B) (w:=F) rfl tO.cK.2.1 tR.cK.2.1]
 obtain⟨a,j⟩: ∃a,a=h.new (.cells false [aC d,B,F]):=⟨_,rfl⟩
 have P:a.get h.next=some (.cells false [aC d,B,F]):=by rw[j,H.aL]
 have n1:a.next=h.next+1:=by rw[j,H.aU]
 have f1:Fr h a:=by rw[j];exact (Fr.refl h).new _
 rw[←j]
 simp(disch:=omega)only[go_sem,bM a (v:= aC m) (u:=e) (w:=c) rfl s.cK.2.1 A.cK.2.1]
 obtain⟨b,l⟩: ∃b,b=a.new (.cells false [aC m,e,c]):=⟨_,rfl⟩
 have g2:b.get a.next=some (.cells false [aC m,e,c]):=by rw[l,H.aL]
 have n2:b.next=a.next+1:=by rw[l,H.aU]
 have f2:Fr a b:=by rw[l];exact (Fr.refl a).new _
 rw[←l]
 have Y: ∀g,Fr b g-> ∀i,g.cell h.next i= [aC d,B,F][i]? :=λg f i=>by rw[H.aF (by rw[f.get _ om,f2.get _ om];exact P)]
 have gb: ∀g,Fr b g-> ∀i,g.cell a.next i= [aC m,e,c][i]? :=λg f i=>by rw[H.aF (by rw[f.get _ om];exact g2)]
 have F2:=f1.trans f2
 by_cases N:d=m
 case neg=>
  have e1:=bH N;simp(disch:=omega)only[go_sem,H.aF P,Y b (Fr.refl _),gb b (Fr.refl _),e1];exact⟨by rw[bH (λh=>N h.1)],F2⟩
 have e1:=bP N
 simp(disch:=omega)only[go_sem,H.aF P,Y b (Fr.refl _),gb b (Fr.refl _),e1]
 refine (vC eV.ok 105 B e wO a0 (λi=>decide (O.getD i []=x.getD i [])) b (tO.mono F2) (s.mono F2) (by rw[lO];exact so.1) (by rw[p];exact o.1) (λhl i hi g f=>?_)).mono ?_
 ·exact Wr _ _ _ _ g ((iG aO om _ _).mono (F2.trans f)) ((iG r om _ _).mono (F2.trans f)) (so.2 i om) (o.2 i om)
 rw[lO,p,←vE]
 rintro _ Q ⟨rfl,L⟩
 by_cases J:O=x
 case neg=>
  rw[bH J];simp(disch:=omega)only[go_sem];exact⟨by rw[bH (λh=>J h.2.1)],F2.trans L⟩
 rw[bP J]
 simp(disch:=omega)only[go_sem,Y Q L,gb Q L]
 have q:=F2.trans L
 refine (vC iC.ok 218 F c wR a1 (λi=>decide (R.getD i []=G.getD i [])) Q (tR.mono q) (A.mono q) (by rw[lR];exact sr.1) (by rw[z];exact n.1) (λhl i hi g f=>?_)).mono ?_
 ·refine cV Bd rfl ?_
  simp(disch:=omega)only[go_sem,Bd,aD]
  obtain⟨ws,s1,s2⟩:=(iG aR (i:=i) om .undef []).mono (q.trans f)
  obtain⟨W,U,t⟩:=(iG y (i:=i) om .undef []).mono (q.trans f)
  have k1:=s2.length
  have k2:=t.length
  refine (vC fY.ok 220 _ _ ws W (λk=>decide ((R.getD i []).getD k []=(G.getD i []).getD k [])) g s1 U (by rw[k1];exact (sr.2 i om).1) (by rw[k2];exact (n.2 i om).1) (λa3 k hk h4 K=>?_)).mono ?_
  ·refine cV wE rfl ?_
   simp(disch:=omega)only[go_sem,wE,aD]
   refine (Qs sP.ok _ _ _ _ h4 ((iG s2 om _ _).mono K) ((iG t om _ _).mono K) ((sr.2 i om).2 k om) ((n.2 i om).2 k om)).mono ?_
   rintro _ h5 ⟨rfl,f5⟩
   simp(disch:=omega)only[go_sem]
   exact f5
  rw[k1,k2,←vE]
  rintro _ h5 ⟨rfl,f5⟩
  simp(disch:=omega)only[go_sem]
  exact f5
 rw[lR,z,←vE]
 rintro _ h4 ⟨rfl,K⟩
 simp(disch:=omega)only[go_sem]
 refine⟨?_,q.trans K⟩
 congr 2
 rw[eq_iff_iff]
 exact⟨λh=>⟨N,J,h⟩,λh=>h.2.2⟩
section
variable {i:Nat} {a:List Int}
def mV (a:List Int):Bool:=decide a.Nodup&&a.all λx=>decide (0<=x)&&decide (x<(a.length:Int))
def AT (a:List Int):Int:=if a.length<1∨64<a.length then 2 else if mV a=true then 0 else 3
structure WC (a:List Int)(i:Nat):Prop where
 nd:(a.take i).Nodup
 rg: ∀x∈a.take i,0<=x/\x<(a.length:Int)
theorem Xb {l:List Int}(hi:i<l.length):l.take (i+1)=l.take i++ [l.getD i 0]:=by
 rw[List.take_add_one,dD hi];simp [List.getD,hi]
theorem WC.zero (a:List Int):WC a 0:=⟨by simp,λx b=>by simp at b⟩
theorem WC.succ (p:WC a i)(hi:i<a.length)(g:0<=a.getD i 0)(d:a.getD i 0<(a.length:Int))(h2:a.getD i 0∉a.take i):WC a (i+1):=by
 refine⟨?_,λx b=>?_⟩
 ·rw[Xb hi,List.nodup_append]
  exact⟨p.nd,by simp,λx b y c=>by
   have e:y=a.getD i 0:=by simpa using c
   intro f;rw[f,e] at b
   exact h2 b⟩
 ·rw[Xb hi] at b
  rcases pH.1 b with b|b
  ·exact p.rg x b
  ·simp at b;subst b;exact⟨g,d⟩
theorem WC.all (p:WC a a.length):mV a=true:=by
 have e:a.take a.length=a:=List.take_length;unfold mV;simp only[vN,decide_eq_true_eq,Kv];exact⟨e▸p.nd,λx b=>p.rg x (by rw[e];exact b)⟩
theorem Bz (hi:i<a.length)(h:a.getD i 0<0∨(a.length:Int)<=a.getD i 0∨a.getD i 0∈a.take i):mV a=false:=by
 cases e:mV a with
 |false=>rfl
 |true=>
  exfalso;unfold mV at e;simp only[vN,decide_eq_true_eq,Kv] at e;obtain⟨f,d⟩:=e
  have c:a.getD i 0∈a:=by
   have:a.getD i 0=a[i]:=by simp [List.getD,hi]
   rw[this];exact zG hi
  have:=d _ c;rcases h with h|h|h
  ·omega
  ·omega
  ·have b:(a.take (i+1)).Nodup:=f.sublist (List.take_sublist _ _)
   rw[Xb hi,List.nodup_append] at b;exact b.2.2 _ h _ (by simp) rfl
theorem ES: [V.bool false,.bool false,.bool false,.bool false,.bool false,.bool false,.bool false,.bool false,.bool false,.bool false,.bool false,.bool false,.bool false,.bool false,.bool false,.bool false,
 .bool false,.bool false,.bool false,.bool false,.bool false,.bool false,.bool false,.bool false,.bool false,.bool false,.bool false,.bool false,.bool false,.bool false,.bool false,.bool false,
 .bool false,.bool false,.bool false,.bool false,.bool false,.bool false,.bool false,.bool false,.bool false,.bool false,.bool false,.bool false,.bool false,.bool false,.bool false,.bool false,
 .bool false,.bool false,.bool false,.bool false,.bool false,.bool false,.bool false,.bool false,.bool false,.bool false,.bool false,.bool false,.bool false,.bool false,.bool false,.bool false]=rc 64 (λ_=> .bool false):=rfl
theorem vQ (u:V)(a:List Int)(h:H)(hl:a.length<1000000)(L:SI h u a):
  Ev T 140 [u] h (λv h'=>v= aC (AT a)/\Fr h h'):=by
 refine cV sI rfl ?_
 have l:=L.lens
 obtain⟨id,off,s,A,W⟩:=L.open
 by_cases Q:a.length<1
 ·have t:decide ((a.length:Int)<1)=true:=bP om
  simp(disch:=omega)only[go_sem,sI,aD,l,t]
  exact⟨by unfold AT;rw[bF (.inl Q)],Fr.refl h⟩
 have t:decide ((a.length:Int)<1)=false:=bH om
 by_cases U:64<a.length
 ·have B:decide ((64:Int)<(a.length:Int))=true:=bP om
  simp(disch:=omega)only[go_sem,sI,aD,l,t,B]
  exact⟨by unfold AT;rw[bF (.inr U)],Fr.refl h⟩
 have B:decide ((64:Int)<(a.length:Int))=false:=bH om
 have r:AT a=if mV a=true then 0 else 3:=by unfold AT;rw[bI om]
 simp(disch:=omega)only[go_sem,sI,aD,l,t,B,ES]
 have m:Fr h (h.new (.cells false (rc 64 λ_=>V.bool false))):=(Fr.refl h).new _
 have g:(h.new (.cells false (rc 64 λ_=>V.bool false))).get h.next=some (.cells false (rc 64 λ_=>V.bool false)):=H.aL ..
 have o:(h.new (.cells false (rc 64 λ_=>V.bool false))).next=h.next+1:=H.aU ..
 generalize h.new (.cells false (rc 64 λ_=>V.bool false))=Q at*
 obtain⟨S,O⟩:=exI h.next
 rw[O] at g o
 rw[O]
 refine aH (λP c J=> ∃(i:Nat),(∃j:Nat->V,c= [u,aC 0,.ptr S 0,j 3,j 4,u,aC (a.length:Int),aC i,j 8,j 9])/\i<=a.length/\WC a i/\
   J.get S=some (.cells false (rc 64 λj=> .bool ((a.take i).contains (j:Int))))/\Fr h J/\P=a.length-i) a.length
  ⟨0,aB rfl,iJ _,WC.zero a,by rw[g];rfl,m,rfl⟩ ?_
 clear g m o
 rintro P c G ⟨i,⟨Y,rfl⟩,hi,q,R,F,rfl⟩
 simp(disch:=omega)only[go_sem]
 by_cases p:(i:Int)<(a.length:Int)
 ·rw[bP p]
  have b:i<a.length:=om
  have ci:G.cell id (off+i)=some (aC (a.getD i 0)):=by rw[F.cell (A om),W i b]
  generalize d:a.getD i 0=x at ci
  by_cases f:x<0
  ·have n:=bP f
   simp(disch:=omega)only[go_sem,s.ixa,ci,n]
   refine⟨?_,F⟩
   rw[r,Bz b (.inl (by rw[d];exact f))];rfl
  have n:=bH f
  by_cases z:(a.length:Int)<=x
  ·have y:decide ((a.length:Int)<=x)=true:=bP om
   simp(disch:=omega)only[go_sem,s.ixa,ci,n,y,l]
   refine⟨?_,F⟩
   rw[r,Bz b (.inr (.inl (by rw[d];exact z)))];rfl
  have y:decide ((a.length:Int)<=x)=false:=bH om
  obtain⟨k,rfl⟩: ∃k:Nat,x=(k:Int):=⟨x.toNat,om⟩
  have N:k<64:=om
  have w:=sL R N
  cases hm:(a.take i).contains (k:Int) with
  |true=>
   rw[hm] at w;simp(disch:=omega)only[go_sem,s.ixa,ci,n,y,l,w];refine⟨?_,F⟩;rw[r,Bz b (.inr (.inr (by rw[d];simpa using hm)))];rfl
  |false=>
   rw[hm] at w;have K:=bN (vs:=rc 64 λj=> .bool ((a.take i).contains (j:Int))) (off:=k) (by rw[kH];exact N) G S (.bool true);rw[mS] at K;simp(disch:=omega)only[go_sem,s.ixa,ci,n,y,l,w,R,K];rw[eJ i];refine⟨a.length-(i+1),om,i+1,aB rfl,om,q.succ b (by rw[d];omega) (by rw[d];omega) (by rw[d];simpa using hm),?_,F.set om _,rfl⟩;congr 2;refine dB λj Z=>?_
   rw[Xb b,d]
   by_cases e:j=k
   ·subst e;rw[bF rfl];simp
   ·rw[bI e]
    congr 1;rw[Py];simp only[List.contains_iff_mem,pH,List.mem_singleton];constructor
    ·exact .inl
    ·rintro (h|h)
     ·exact h
     ·omega
 rw[bH p]
 obtain rfl:i=a.length:=om
 simp(disch:=omega)only[go_sem]
 refine⟨?_,F⟩
 rw[r,q.all];rfl
end
theorem Sd (a:H)(c:Nat)(b:c<=100000):Jo a 1 1 [.bool false] (aC c) (aC c)=some (.sl a.next 0 c (.kn c),a.new (.cells false (rc c λ_=> .bool false))):=by
 rw[tU om (Int.le_refl _) om om,NK,uW];congr 4;refine List.ext_getElem (by simp [cX,rc]) λi _ _=>?_
 simp [cX,Nat.mod_one,rc]
theorem YD (u:V)(a:List Int)(h:H)(U:a.length<=1000)(G:SI h u a):
  Ev T 129 [u,aC (a.length:Int)] h (λv h'=>v= .bool (mV a)/\Fr h h'):=by
 refine cV Mn rfl ?_
 have r:=G.lens
 obtain⟨id,off,q,y,O⟩:=G.open
 simp(disch:=omega)only[go_sem,Mn,aD,r]
 rw[bH (show ¬((a.length:Int)≠(a.length:Int)) by omega)]
 simp(disch:=omega)only[go_sem,Sd _ a.length om]
 have l:Fr h (h.new (.cells false (rc a.length λ_=>V.bool false))):=(Fr.refl h).new _
 have g:(h.new (.cells false (rc a.length λ_=>V.bool false))).get h.next=some (.cells false (rc a.length λ_=>V.bool false)):=H.aL ..
 have o:(h.new (.cells false (rc a.length λ_=>V.bool false))).next=h.next+1:=H.aU ..
 generalize h.new (.cells false (rc a.length λ_=>V.bool false))=R at*
 obtain⟨S,K⟩:=exI h.next
 rw[K] at g o
 rw[K]
 refine aH (λL c A=> ∃(i:Nat),(∃j:Nat->V,c= [u,aC (a.length:Int),j 2,.sl S 0 a.length (.kn a.length),aC i,j 5,j 6,j 7])/\i<=a.length/\WC a i/\
   A.get S=some (.cells false (rc a.length λj=> .bool ((a.take i).contains (j:Int))))/\Fr h A/\L=a.length-i) a.length
  ⟨0,aB rfl,iJ _,WC.zero a,by rw[g];rfl,l,rfl⟩ ?_
 clear g l o
 rintro L c z ⟨i,⟨P,rfl⟩,hi,p,N,F,rfl⟩
 simp(disch:=omega)only[go_sem]
 by_cases n:(i:Int)<(a.length:Int)
 ·rw[bP n]
  have b:i<a.length:=om
  have ci:z.cell id (off+i)=some (aC (a.getD i 0)):=by rw[F.cell (y om),O i b]
  generalize d:a.getD i 0=x at ci
  by_cases f:x<0
  ·have m:=bP f
   simp(disch:=omega)only[go_sem,q.ixa,ci,m]
   refine⟨?_,F⟩
   rw[Bz b (.inl (by rw[d];exact f))]
  have m:=bH f
  by_cases w:(a.length:Int)<=x
  ·have t:decide ((a.length:Int)<=x)=true:=bP om
   simp(disch:=omega)only[go_sem,q.ixa,ci,m,t,r]
   refine⟨?_,F⟩
   rw[Bz b (.inr (.inl (by rw[d];exact w)))]
  have t:decide ((a.length:Int)<=x)=false:=bH om
  obtain⟨k,rfl⟩: ∃k:Nat,x=(k:Int):=⟨x.toNat,om⟩
  have J:k<a.length:=om
  have s:=sL N J
  cases hm:(a.take i).contains (k:Int) with
  |true=>
   rw[hm] at s;simp(disch:=omega)only[go_sem,q.ixa,ci,m,t,r,s];refine⟨?_,F⟩;rw[Bz b (.inr (.inr (by rw[d];simpa using hm)))]
  |false=>
   rw[hm] at s;have B:=bN (vs:=rc a.length λj=> .bool ((a.take i).contains (j:Int))) (off:=k) (by rw[kH];exact J) z S (.bool true);rw[mS] at B;simp(disch:=omega)only[go_sem,q.ixa,ci,m,t,r,s,N,B];rw[eJ i];refine⟨a.length-(i+1),om,i+1,aB rfl,om,p.succ b (by rw[d];omega) (by rw[d];omega) (by rw[d];simpa using hm),?_,F.set om _,rfl⟩;congr 2;refine dB λj Q=>?_
   rw[Xb b,d]
   by_cases e:j=k
   ·subst e;rw[bF rfl];simp
   ·rw[bI e]
    congr 1;rw[Py];simp only[List.contains_iff_mem,pH,List.mem_singleton];constructor
    ·exact .inl
    ·rintro (h|h)
     ·exact h
     ·omega
 rw[bH n]
 obtain rfl:i=a.length:=om
 simp(disch:=omega)only[go_sem]
 refine⟨?_,F⟩
 rw[p.all]
theorem Vs (u:V)(a:List Int)(h:H)(k:a.length<1000000)(g:SI h u a):
  Ev T 85 [u] h (λv h'=>v= aC (AT a)/\Fr h h'):=by
 refine cV qQ rfl ?_
 have c:=g.lens
 by_cases j:a.length<1
 ·have b:decide ((a.length:Int)<1)=true:=bP om
  simp(disch:=omega)only[go_sem,qQ,aD,c,b]
  exact⟨by unfold AT;rw[bF (.inl j)],Fr.refl h⟩
 have b:decide ((a.length:Int)<1)=false:=bH om
 by_cases f:64<a.length
 ·have d:decide ((64:Int)<(a.length:Int))=true:=bP om
  simp(disch:=omega)only[go_sem,qQ,aD,c,b,d]
  exact⟨by unfold AT;rw[bF (.inr f)],Fr.refl h⟩
 have d:decide ((64:Int)<(a.length:Int))=false:=bH om
 have i:AT a=if mV a=true then 0 else 3:=by unfold AT;rw[bI om]
 simp(disch:=omega)only[go_sem,qQ,aD,c,b,d]
 refine (YD u a h om g).mono ?_
 rintro _ f ⟨rfl,F⟩
 cases e:mV a with
 |true=>
  simp(disch:=omega)only[go_sem];exact⟨by rw[i,e];rfl,F⟩
 |false=>
  simp(disch:=omega)only[go_sem];exact⟨by rw[i,e];rfl,F⟩
theorem Iz {a:List Int}(h:mV a=true):a=zi (a.map Int.toNat)/\bE a.length (a.map Int.toNat):=by
 unfold mV at h;simp only[vN,decide_eq_true_eq,Kv] at h;obtain⟨f,c⟩:=h
 have e:a=zi (a.map Int.toNat):=by
  unfold zi;rw[List.map_map];refine (List.map_id a).symm.trans (Vy λx b=>?_);have:=(c x b).1
  show x=((x.toNat:Nat):Int)
  omega
 refine⟨e,by simp,?_,λx b=>?_⟩
 ·rw[nPN,List.pairwise_map]
  rw[nPN] at f;refine f.imp_of_mem λ{x y} b d g i=>?_
  have:=(c x b).1;have:=(c y d).1;omega
 ·obtain⟨y,d,rfl⟩:=uF.1 b
  have:=c y d;omega
theorem Yd {n:Nat}{l:List Nat}(L:bE n l):mV (zi l)=true:=by
 unfold mV;simp only[vN,decide_eq_true_eq,Kv];refine⟨?_,λx b=>?_⟩
 ·unfold zi
  have:=L.nd;rw[nPN] at this ⊢;rw[List.pairwise_map];exact this.imp λa e=>a om
 ·obtain⟨k,c,rfl⟩:=uF.1 b
  have:=L.lt k c;rw[aQ,L.len];omega
def yU:List Nat->List Nat->Bool
 |x::a,y::b=>if x=y then yU a b else decide (x<y)
 |a,b=>decide (a.length<b.length)
theorem Zf: ∀{a b:List Nat} {i:Nat},(∀j,j<i->a.getD j 0=b.getD j 0)->i<a.length->i<b.length->a.getD i 0≠b.getD i 0->yU a b=decide (a.getD i 0<b.getD i 0)
 | [],_,i,_,h,_,_=>by simp at h
 |_::_, [],i,_,_,h,_=>by simp at h
 |x::a,y::b,0,_,_,_,hne=>by
  have:x≠y:=by simpa using hne
  simp [yU,this]
 |x::a,y::b,i+1,h,h1,h2,hne=>by
  have e:x=y:=by simpa using h 0 om
  unfold yU;rw[bF e,Zf (a:=a) (b:=b) (i:=i) (λj c=>by simpa using h (j+1) om) (by simpa using h1) (by simpa using h2) (by simpa using hne)];simp
theorem Oa: ∀a:List Nat,yU a a=false
 | []=>by simp [yU]
 |x::a=>by unfold yU;rw[bF rfl];exact Oa a
theorem Cb {a b:List Nat}(n:a.length=b.length):yU a b=true↔Lt a b:=by
 by_cases h: ∃i,i<a.length/\a.getD i 0≠b.getD i 0
 ·have o: ∃i,(i<a.length/\a.getD i 0≠b.getD i 0)/\ ∀j,j<i-> ¬(j<a.length/\a.getD j 0≠b.getD j 0):=by
   obtain⟨i,hi⟩:=h
   induction i using Nat.strongRecOn with
   |_ i ih=>
    by_cases g: ∃j,j<i/\j<a.length/\a.getD j 0≠b.getD j 0
    ·obtain⟨j,f,d⟩:=g;exact ih j f d
    ·exact⟨i,hi,λj f d=>g ⟨j,f,d⟩⟩
  obtain⟨i,⟨f,d⟩,m⟩:=o;have c: ∀j,j<i->a.getD j 0=b.getD j 0:=λj g=>Jg λl=>m j g ⟨om,l⟩
  rw[Zf c f om d,decide_eq_true_eq];constructor
  ·intro h;exact⟨i,f,c,h⟩
  ·rintro⟨k,h4,h5,h6⟩
   rcases Nat.lt_trichotomy i k with h|h|h
   ·exact absurd (h5 i h) d
   ·subst h;exact h6
   ·have:=c k h;omega
 ·have e:a=b:=yC n λi hi=>Jg λl=>h ⟨i,hi,l⟩
  subst e;rw[Oa];constructor
  ·intro h;cases h
  ·exact λh=>(h.asymm h).elim
section
variable {n:Nat} {O:List (List Int)}
theorem HD (d:Int)(b a:V)(e:b.one=true)(c:a.one=true)(h:H):Ev T 146 [.agg [aC d,b,a]] h (λv h'=>v= .fn 199 [] [.ptr h.next 0]/\h'.get h.next=aZ [aC d,b,a]/\h'.next=h.next+1/\Fr h h'):=by
 refine cV Ge rfl ?_;simp(disch:=omega)only[go_sem,Ge,aD,bM h (v:= aC d) (u:=b) (w:=a) rfl e c];exact (Fr.refl h).new _
theorem Zb (id b:Nat)(d:Int)(x e:V)(ws:List V)(h:H)(L:ws.length<1000000)(J:Nat->H->Prop)(D:H->Prop)(q:J 0 h)
  (r: ∀i hh,J i hh->hh.get b=aZ [aC d,x,e]/\SV hh e 1 ws)
  (y: ∀i hh,i<ws.length->J i hh->Ey T id [aC i,ws.getD i .undef] hh (λv h'=>v= .bool true/\J (i+1) h'∨v= .bool false/\D h')):
  Ev T 199 [.yl id,.ptr b 0] h (λ_ h'=>J ws.length h'∨D h'):=by
 refine cV zM rfl ?_
 obtain⟨w,s⟩:=r 0 h q
 have F:h.cell b 2=some e:=by rw[H.aF w];rfl
 have B:bT e=some (aC (ws.length:Int)):=by unfold bT;rw[s.len (n:=ws.length) om om];rfl
 simp(disch:=omega)only[go_sem,zM,aD,F,B]
 refine aH (λp a hh=> ∃(i:Nat),(∃g:Nat->V,a= [.yl id,.ptr b 0,g 2,g 3,e,aC (ws.length:Int),aC i,g 7,g 8])/\i<=ws.length/\J i hh/\p=ws.length-i) ws.length
  ⟨0,aB rfl,iJ _,q,rfl⟩ ?_
 rintro p a f ⟨i,⟨g,rfl⟩,hi,j,rfl⟩
 by_cases c:(i:Int)<(ws.length:Int)
 ·have o:=bP c
  obtain⟨G,u⟩:=r i f j
  obtain⟨m,l,z,t,A⟩:=u.shape ws.length om om
  have ci:f.cell m (l+i)=some (ws.getD i .undef):=by rw[A i om,List.getD,dD om];rfl
  simp(disch:=omega)only[go_sem,o,z.ixa,ci]
  refine (y i f om j).mono ?_
  rintro v K (⟨rfl,k⟩|⟨rfl,k⟩)
  ·simp(disch:=omega)only[go_sem]
   rw[eJ i]
   exact⟨ws.length-(i+1),om,i+1,aB rfl,om,k,rfl⟩
  ·simp(disch:=omega)only[go_sem]
   exact .inr k
 have o:=bH c
 obtain rfl:i=ws.length:=om
 simp(disch:=omega)only[go_sem,o]
 exact .inl j
structure ON (n:Nat)(O:List (List Int))(R:List (List (List Int))):Prop where
 lo:O.length=n
 lr:R.length=n
 row: ∀i,i<n->(R.getD i []).length=(O.getD i []).length/\(R.getD i []).length<=n-i
 perm: ∀i,i<n-> ∀x∈R.getD i [],x.length=n/\mV x=true
def IX (d:Int)(O:List (List Int))(R:List (List (List Int))):Prop:= ∃(n:Nat) (O':LN) (R':jI),d=(n:Int)/\1<=n/\n<=64/\O=O'.map zi/\R=R'.map (List.map zi)/\Valid n O' R'
open Classical in
noncomputable def Um (d:Int)(O:List (List Int))(R:List (List (List Int))):Int:=if d<1∨64<d then 2 else if IX d O R then 0 else 3
theorem Vl {a b:List Nat}(h:zi a=zi b):a=b:=by
 have:=congrArg (List.map Int.toNat) h
 have e: ∀a:List Nat,(zi a).map Int.toNat=a:=λa=>by
  unfold zi;rw[List.map_map];exact (Vy λx _=>by simp).trans (List.map_id a)
 rwa [e,e] at this
theorem map_inj {α β:Type}{f:α->β}(c: ∀x y,f x=f y->x=y): ∀{a b:List α},a.map f=b.map f->a=b
 | [], [],_=>rfl
 | [],_::_,h=>by cases h
 |_::_, [],h=>by cases h
 |x::a,y::b,h=>by
  simp only[List.map_cons,List.cons.injEq] at h;rw[c x y h.1,map_inj c h.2]
theorem uQ {i:Nat}{G:List Nat->Prop}(c: ∀x,G x->bE n x){o:List Nat}(hi:i<n)(a:o.Pairwise (· < ·))(mem: ∀p,p∈o↔ ∃x,G x/\Fix i x/\x.getD i 0=p):o.length<=n-i:=by
 have nd:o.Nodup:=by rw[nPN];exact a.imp λh e=>om
 have:=List.Nodup.length_le_of_subset nd (l₂:=(List.range (n-i)).map (· +i)) λp f=>by
  obtain⟨x,b,d,rfl⟩:=(mem p).1 f;have X:=c x b;have l:=X.iN hi
  have g:i<=x.getD i 0:=Jg λk=>by
   have:=X.inj hi (j:=x.getD i 0) om (by rw[d (x.getD i 0) om]);omega
  exact uF.2 ⟨x.getD i 0-i,Gu.2 om,om⟩
 simpa using this
theorem IX.frm {R:List (List (List Int))}(c:IX (n:Int) O R):ON n O R:=by
 obtain⟨m,d,b,e,r,p,rfl,rfl,h,v⟩:=c;obtain rfl:n=m:=om
 have g: ∀i,i<n->(b.map (List.map zi)).getD i []=(b.getD i []).map zi/\(d.map zi).getD i []=zi (d.getD i [])/\ ∀x∈b.getD i [],x∈b.flatten:=λi hi=>by
  have o:=v.lr;have q:=v.lo;refine⟨by simp [List.getD,show i<b.length by omega],by simp [List.getD,show i<d.length by omega],λx a=>?_⟩;rw[List.getD,dD om] at a;exact List.mem_flatten.2 ⟨_,zG om,a⟩
 refine⟨by rw[jV];exact v.lo,by rw[jV];exact v.lr,λi hi=>?_,λi hi x a=>?_⟩
 ·obtain⟨f,l,_⟩:=g i hi
  rw[f,l,jV,aQ,v.rl i hi];exact⟨rfl,uQ (λx a=>bX.cU h a) hi (v.asc i hi) (v.mem i hi)⟩
 ·obtain⟨f,_,j⟩:=g i hi
  rw[f] at a;obtain⟨y,k,rfl⟩:=uF.1 a;have Y:=h y (j y k);exact⟨by rw[aQ];exact Y.len,Yd Y⟩
theorem ON.nat {R:List (List (List Int))}(f:ON n O R): ∃R':jI,R=R'.map (List.map zi)/\ ∀g∈R'.flatten,bE n g:=by
 have b: ∀x,(∃i,i<n/\x∈R.getD i [])->x=zi (x.map Int.toNat)/\bE n (x.map Int.toNat):=λx ⟨i,hi,a⟩=>by
  obtain⟨l,k⟩:=f.perm i hi x a;obtain⟨j,h⟩:=Iz k;rw[l] at h;exact⟨j,h⟩
 have mem: ∀r∈R,∀x∈r,∃i,i<n/\x∈R.getD i []:=λr c x a=>by
  obtain⟨i,hi,rfl⟩:=zF.1 c;have:=f.lr;exact⟨i,om,by rw[List.getD,dD hi];exact a⟩
 refine⟨R.map (List.map (List.map Int.toNat)),?_,λg d=>?_⟩
 ·rw[List.map_map]
  refine (List.map_id R).symm.trans (Vy λr c=>?_);show r=(r.map (List.map Int.toNat)).map zi;rw[List.map_map];refine (List.map_id r).symm.trans (Vy λx a=>(b x (mem r c x a)).1)
 ·obtain⟨m,e,d⟩:=List.mem_flatten.1 d
  obtain⟨r,c,rfl⟩:=uF.1 e;obtain⟨x,a,rfl⟩:=uF.1 d;exact (b x (mem r c x a)).2
theorem IX.iff {d:jI}(l:1<=n)(h2:n<=64)(i: ∀g∈d.flatten,bE n g){f:LN}{j:jI}(c:bC n (BV n d) f j):
  IX (n:Int) O (d.map (List.map zi))↔O=f.map zi/\d.map (List.map zi)=j.map (List.map zi):=by
 have inj: ∀a b:LN,a.map zi=b.map zi->a=b:=λa b h=>map_inj (λ_ _=>Vl) h
 constructor
 ·rintro⟨m,O3,R3,e,_,_,rfl,e3,v⟩
  obtain rfl:n=m:=om
  have:=map_inj inj e3
  subst this
  obtain⟨o,k⟩:=(Valid.iff i c).1 v
  subst o k
  exact⟨rfl,rfl⟩
 ·rintro⟨rfl,e⟩
  have:=map_inj inj e
  subst this
  exact⟨n,f,d,rfl,l,h2,rfl,rfl,(Valid.iff i c).2 ⟨rfl,rfl⟩⟩
end
end Go.Proofs.YtcdbmkidaecdiaaGreat
