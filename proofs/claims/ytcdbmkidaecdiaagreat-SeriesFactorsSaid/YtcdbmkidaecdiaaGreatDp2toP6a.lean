/- Texts of the claim. -/
import Derived.Test.YtcdbmkidaecdiaaGreatDp1
import Derived.Test.YtcdbmkidaecdiaaGreatP5a
import Derived.Test.YtcdbmkidaecdiaaGreatAy39
import Derived.Test.YtcdbmkidaecdiaaGreatC16code
import Derived.Sort.AssemblyPlain
import Derived.Test.YtcdbmkidaecdiaaGreatAy26
set_option maxHeartbeats 32000000
namespace Go.Pm
set_option maxRecDepth 100000
section
variable {j p:Nat}
structure Lv where
 gens:zI
 orb:List Nat
 to:Nat->Option (List Nat)
 tr:Nat->Nat
abbrev pM:=Nat->Lv
def Fix (i:Nat)(x:List Nat):Prop:= ∀k,k<i->x.getD k 0=k
def InS (n:Nat)(τ:pM):Nat->Nat->List Nat->Prop
 |_,0,x=>x=bL n
 |i,d+1,x=> ∃p y h,(τ i).to p=some y/\InS n τ (i+1) d h/\x=aX h y
def S (n:Nat)(τ:pM)(i:Nat)(x:List Nat):Prop:=InS n τ i (n-i) x
section
variable {n:Nat} {τ τ':pM} {x y z:List Nat} {i:Nat}
theorem vB:S n τ n x↔x=bL n:=by unfold S;rw[Nat.sub_self];exact Iff.rfl
theorem qD (hi:i<n):S n τ i x↔ ∃p y h,(τ i).to p=some y/\S n τ (i+1) h/\x=aX h y:=by
 unfold S;rw[show n-i=(n-(i+1))+1 from oq];exact Iff.rfl
theorem Qw: ∀(d i:Nat) (x:List Nat),(∀j,i<=j->j<i+d->τ j=τ' j)->(InS n τ i d x↔InS n τ' i d x)
 |0,_,_,_=>Iff.rfl
 |d+1,i,x,h=>by
  simp only[InS];rw[h i (Nat.le_refl _) oq];have a:=λg=>Qw d (i+1) g (λj c b=>h j oq oq)
  simp only[a]
theorem alF (h: ∀j,i<=j->j<n->τ j=τ' j):S n τ i x↔S n τ' i x:=
 Qw _ _ _ λj a b=>h j a oq
structure TE (n j:Nat)(l:Lv):Prop where
 nd:l.orb.Nodup
 base:j∈l.orb
 one:l.to j=some (bL n)
 iff: ∀p,p∈l.orb↔(l.to p).isSome
 cU: ∀p y,l.to p=some y->bE n y
 fix: ∀p y,l.to p=some y->Fix j y
 maps: ∀p y,l.to p=some y->y.getD j 0=p
 gen: ∀p y,l.to p=some y->bX n (· ∈l.gens) y
 gP: ∀s∈l.gens,bE n s
 gF: ∀s∈l.gens,Fix j s
 gN:l.gens.Nodup
 le: ∀q,l.tr q<=l.gens.length
 zero: ∀q,q∉l.orb->l.tr q=0
theorem TE.lt {l:Lv}(L:TE n j l)(c:j<n)(b:p∈l.orb):p<n:=by
 obtain⟨y,a⟩:=Option.isSome_iff_exists.1 ((L.iff p).1 b);rw[←L.maps p y a];exact (L.cU p y a).iN c
theorem TE.to {l:Lv}(L:TE n j l)(a:p∈l.orb): ∃y,l.to p=some y:=Option.isSome_iff_exists.1 ((L.iff p).1 a)
theorem TE.mem {l:Lv}(L:TE n j l){y:List Nat}(h:l.to p=some y):p∈l.orb:=(L.iff p).2 (by rw[h];rfl)
def Cl (n j:Nat)(τ:pM):Prop:= ∀q y,(τ j).to q=some y-> ∀k s,k<(τ j).tr q->(τ j).gens[k]? =some s->
 ∃u,(τ j).to ((aX y s).getD j 0)=some u/\S n τ (j+1) (aX (aX y s) (dA u))
def Full (l:Lv):Prop:= ∀q∈l.orb,l.tr q=l.gens.length
def Dn (n j:Nat)(τ:pM):Prop:=j+1<n-> ∀s∈(τ (j+1)).gens,bX n (· ∈(τ j).gens) s
def pI (n i:Nat)(τ:pM):Prop:= ∀j,i<=j->j<n->TE n j (τ j)/\Cl n j τ/\Full (τ j)/\Dn n j τ
theorem pI.mono (t:pI n i τ){k:Nat}(h:i<=k):pI n k τ:=λj b a=>t j oq a
theorem pI.congr (t:pI n i τ)(h: ∀j,i<=j->j<n->τ j=τ' j):pI n i τ':=λj v l=>by
 obtain⟨a,b,c,d⟩:=t j v l;have e:=h j v l;refine⟨e▸a,λq y r k s m f=>?_,e▸c,λo s f=>?_⟩
 ·rw[←e] at r m f ⊢
  obtain⟨u,B,A⟩:=b q y r k s m f;exact⟨u,B,(alF λk F w=>h k oq w).1 A⟩
 ·rw[←h (j+1) oq o] at f
  rw[←e];exact d o s f
theorem Fix.one (n i:Nat)(hi:i<=n):Fix i (bL n):=λk a=>fQ oq
theorem Fix.mul (X:bE n x)(hi:i<=n)(a:Fix i x)(b:Fix i y):Fix i (aX x y):=λk c=>by
 rw[cM (by rw[X.len];omega),a k c,b k c]
theorem Fix.inv (X:bE n x)(hi:i<=n)(a:Fix i x):Fix i (dA x):=λk b=>by
 have:=afU X (show k<n by omega);rwa [a k b] at this
theorem Fix.mono (a:Fix j x)(h:i<=j):Fix i x:=λk b=>a k oq
theorem Fix.succ (a:Fix i x)(h:x.getD i 0=i):Fix (i+1) x:=λk b=>by
 by_cases e:k=i
 ·rw[e];exact h
 ·exact a k oq
theorem Fix.all (X:bE n x)(a:Fix n x):x=bL n:=by
 refine yC (by rw[X.len,jG]) λk b=>?_
 rw[X.len] at b;rw[a k b,fQ b]
theorem bX.fix {L:List Nat->Prop}(a: ∀g,L g->bE n g)(hi:i<=n)(b: ∀g,L g->Fix i g)(h:bX n L x):Fix i x:=by
 induction h with
 |one=>exact Fix.one n i hi
 |mul hx hg ih=>exact Fix.mul (hx.cU a) hi ih (b _ hg)
theorem pI.HU: ∀(d i:Nat),i+d=n->pI n i τ-> ∀x,(S n τ i x->bE n x/\Fix i x)/\(i<n->(S n τ i x↔bX n (· ∈(τ i).gens) x))
 |0,i,h,_,x=>by
  obtain rfl:i=n:=oq
  refine⟨λa=>?_,λh=>oq⟩;rw[vB] at a;subst a;exact⟨bE.one i,Fix.one i i (Nat.le_refl _)⟩
 |d+1,i,h,t,x=>by
  have hi:i<n:=oq
  have m:=pI.HU d (i+1) oq (t.mono oq);obtain⟨L,C,F,D⟩:=t i (Nat.le_refl _) hi;have v: ∀g,g∈(τ i).gens->bE n g:=L.gP
  have O: ∀z,S n τ (i+1) z->bX n (· ∈(τ i).gens) z:=by
   intro z f
   by_cases c:i+1<n
   ·exact ((m z).2 c|>.1 f).le (bX.dN v) (D c)
   ·obtain rfl:i+1=n:=oq
    rw[vB] at f;subst f;exact .one
  have r: ∀u z,S n τ (i+1) u->S n τ (i+1) z->S n τ (i+1) (aX u z):=by
   intro u z l f
   by_cases c:i+1<n
   ·obtain⟨N,_⟩:=t (i+1) oq c
    exact ((m _).2 c).2 ((((m u).2 c).1 l).app N.gP (((m z).2 c).1 f))
   ·obtain rfl:i+1=n:=oq
    rw[vB] at l f ⊢;subst l f;exact bZ (bE.one _)
  have w:S n τ (i+1) (bL n):=by
   by_cases c:i+1<n
   ·exact ((m _).2 c).2 .one
   ·obtain rfl:i+1=n:=oq
    exact vB.2 rfl
  have b:S n τ i x->bX n (· ∈(τ i).gens) x:=by
   intro a;obtain⟨p,y,g,o,A,rfl⟩:=(qD hi).1 a;exact (O g A).app v (L.gen p y o)
  refine⟨λa=>⟨(b a).cU v,(b a).fix v oq L.gF⟩,λ_=>⟨b,λQ=>?_⟩⟩;clear b
  induction Q with
  |one=>exact (qD hi).2 ⟨i,bL n,bL n,L.one,w,(bZ (bE.one n)).symm⟩
  |mul hx a hind=>
   rename_i R s;obtain⟨q,y,g,o,A,e⟩:=(qD hi).1 hind;obtain⟨k,K,J⟩:=List.mem_iff_getElem.1 a;obtain⟨u,l,P⟩:=C q y o k s (by rw[F q (L.mem o)];exact K) (by rw[List.getElem?_eq_getElem K,J]);refine (qD hi).2 ⟨_,u,aX g (aX (aX y s) (dA u)),l,r _ _ A P,?_⟩;have G:=((m g).1 A).1;have Y:=L.cU q y o;have U:=L.cU _ u l;have B:=v s a;rw[e,aV G Y B,aV G ((Y.mul B).mul U.inv) U,aV (Y.mul B) U.inv U,iE U,bZ (Y.mul B)]
theorem pI.gen (t:pI n i τ)(hi:i<n):S n τ i x↔bX n (· ∈(τ i).gens) x:=(pI.HU (n-i) i oq t x).2 hi
theorem pI.cU (t:pI n i τ)(hi:i<=n)(h:S n τ i x):bE n x:=((pI.HU (n-i) i oq t x).1 h).1
theorem pI.fix (t:pI n i τ)(hi:i<=n)(h:S n τ i x):Fix i x:=((pI.HU (n-i) i oq t x).1 h).2
theorem pI.dN (t:pI n i τ)(hi:i<=n):iX n (S n τ i):=by
 by_cases h:i<n
 ·have g:=bX.dN (n:=n) (L:=(· ∈(τ i).gens)) (t i (Nat.le_refl _) h).1.gP
  exact⟨λa=>t.cU hi a,(t.gen h).2 g.one,λa b=>(t.gen h).2 (g.mul ((t.gen h).1 a) ((t.gen h).1 b)),λa=>(t.gen h).2 (g.inv ((t.gen h).1 a))⟩
 ·obtain rfl:i=n:=oq
  refine⟨λa=>t.cU hi a,vB.2 rfl,λa b=>?_,λa=>?_⟩
  ·rw[vB] at a b ⊢;subst a b;exact bZ (bE.one _)
  ·rw[vB] at a ⊢;subst a;exact oJ _
theorem pI.sift (t:pI n i τ)(hi:i<n)(h:S n τ i x): ∃y,(τ i).to (x.getD i 0)=some y/\S n τ (i+1) (aX x (dA y)):=by
 obtain⟨p,y,g,b,a,rfl⟩:=(qD hi).1 h;have L:=(t i (Nat.le_refl _) hi).1;have c:=t.mono (Nat.le_succ i);have G:=c.cU hi a;have Y:=L.cU p y b
 have e:(aX g y).getD i 0=p:=by
  rw[cM (by rw[G.len];exact hi),c.fix hi a i oq,L.maps p y b]
 refine⟨y,by rw[e];exact b,?_⟩;rw[aV G Y Y.inv,fC Y,bZ G];exact a
theorem pI.back (t:pI n i τ)(hi:i<n){y:List Nat}(a:bE n x)(b:(τ i).to (x.getD i 0)=some y)(h2:S n τ (i+1) (aX x (dA y))):S n τ i x:=by
 have Y:=(t i (Nat.le_refl _) hi).1.cU _ y b;refine (qD hi).2 ⟨_,y,_,b,h2,?_⟩;rw[aV a Y.inv Y,iE Y,bZ a]
theorem pI.ahX (t:pI n i τ)(hi:i<n):S n τ (i+1) x↔S n τ i x/\x.getD i 0=i:=by
 have L:=(t i (Nat.le_refl _) hi).1;have a:=t.mono (Nat.le_succ i);constructor
 ·intro h
  have e:=a.fix hi h i oq;have X:=a.cU hi h;refine⟨t.back hi X (y:=bL n) (by rw[e];exact L.one) ?_,e⟩;rw[oJ,bZ X];exact h
 ·rintro⟨h,e⟩
  obtain⟨y,b,c⟩:=t.sift hi h;rw[e,L.one] at b;cases b;rwa [oJ,bZ (t.cU oq h)] at c
theorem pI.Xo (t:pI n i τ): ∀{k:Nat},i<=k->k<=n->(S n τ k x↔S n τ i x/\Fix k x):=by
 intro k
 induction k with
 |zero=>
  intro h _;obtain rfl:i=0:=oq
  exact⟨λh=>⟨h,λ_ h=>oq⟩,λh=>h.1⟩
 |succ k ih=>
  intro l f
  by_cases e:i=k+1
  ·subst e
   exact⟨λh=>⟨h,t.fix f h⟩,λh=>h.1⟩
  ·have a:=ih oq oq
   rw[(t.mono oq).ahX (i:=k) f,a];constructor
   ·rintro⟨⟨b,c⟩,d⟩;exact⟨b,c.succ d⟩
   ·rintro⟨b,c⟩;exact⟨⟨b,c.mono oq⟩,c k oq⟩
end
end
section
variable {j k q:Nat}
def vI (τ:pM)(i:Nat)(l:Lv):pM:=λj=>if j=i then l else τ j
theorem bU (τ:pM)(i:Nat)(l:Lv):vI τ i l i=l:=by simp [vI]
theorem dZ (τ:pM){i:Nat}(l:Lv)(h:j≠i):vI τ i l j=τ j:=by simp [vI,h]
def Lv.tick (l:Lv)(q:Nat):Lv:={l with tr:=λr=>if r=q then l.tr q+1 else l.tr r}
def Lv.reach (l:Lv)(p:Nat)(y:List Nat):Lv:={l with orb:=l.orb++ [p],to:=λr=>if r=p then some y else l.to r}
def Lv.more (l:Lv)(r:List Nat):Lv:={l with gens:=l.gens++ [r]}
structure CI (n i:Nat)(τ:pM):Prop where
 jX:TE n i (τ i)
 cl:Cl n i τ
 dn:Dn n i τ
 up:pI n (i+1) τ
section
variable {n:Nat} {τ τ':pM} {x y z s u w:List Nat} {i:Nat}
theorem CI.full (c:CI n i τ)(b:Full (τ i)):pI n i τ:=λj d a=>by
 by_cases e:j=i
 ·subst e;exact⟨c.jX,c.cl,b,c.dn⟩
 ·exact c.up j oq a
theorem acV {l:Lv}(h:i<k):S n (vI τ i l) k x↔S n τ k x:=alF λj a _=>dZ τ l oq
theorem pI.afT {l:Lv}(h:i<k)(t:pI n k τ):pI n k (vI τ i l):=t.congr λj a _=>(dZ τ l oq).symm
theorem CI.Mu (c:CI n i τ)(hi:i<n)(b:(τ i).to q=some y)(h:s∈(τ i).gens)(a:(τ i).to ((aX y s).getD i 0)=some u):
  bE n (aX (aX y s) (dA u))/\Fix (i+1) (aX (aX y s) (dA u))/\bX n (· ∈(τ i).gens) (aX (aX y s) (dA u)):=by
 have L:=c.jX
 have Y:=L.cU q y b
 have U:=L.cU _ u a
 have l:=L.gP s h
 have d:=Y.mul l
 have f:bX n (· ∈(τ i).gens) (aX (aX y s) (dA u)):=((L.gen q y b).mul h).app L.gP ((L.gen _ u a).inv L.gP)
 refine⟨d.mul U.inv,Fix.succ (f.fix L.gP oq L.gF) ?_,f⟩
 rw[cM (by rw[d.len];exact hi)]
 have:=afU U hi
 rwa [L.maps _ u a] at this
theorem CI.tick (c:CI n i τ)(A:(τ i).to q=some y)(F:(τ i).tr q=k)(o:(τ i).gens[k]? =some s)(K:(τ i).to ((aX y s).getD i 0)=some u)
  (J:S n τ (i+1) (aX (aX y s) (dA u))):CI n i (vI τ i ((τ i).tick q)):=by
 have L:=c.jX
 have l:k<(τ i).gens.length:=(List.getElem?_eq_some_iff.1 o).1
 refine⟨?_,?_,?_,c.up.afT oq⟩
 ·rw[bU]
  refine⟨L.nd,L.base,L.one,L.iff,L.cU,L.fix,L.maps,L.gen,L.gP,L.gF,L.gN,λr=>?_,λr B=>?_⟩
  ·show (if r=q then (τ i).tr q+1 else (τ i).tr r)<=_
   split
   ·rw[F];exact l
   ·exact L.le r
  ·show (if r=q then (τ i).tr q+1 else (τ i).tr r)=0
   have:r≠q:=λe=>B (by rw[e];exact L.mem A)
   rw[if_neg this];exact L.zero r B
 ·intro r v f j t m h
  rw[bU] at f m h ⊢
  simp only[acV (Nat.lt_succ_self i)]
  have b:j<(if r=q then (τ i).tr q+1 else (τ i).tr r):=m
  by_cases e:r=q/\j=k
  ·obtain⟨rfl,rfl⟩:=e
   have a:(τ i).to r=some v:=f
   have d:(τ i).gens[j]? =some t:=h
   rw[A] at a;cases a
   rw[o] at d;cases d
   exact⟨u,K,J⟩
  ·refine c.cl r v f j t ?_ h
   split at b
   ·rename_i G;subst G
    have:j≠k:=λO=>e ⟨rfl,O⟩
    omega
   ·exact b
 ·intro N g p
  rw[dZ τ _ oq] at p
  rw[bU]
  exact c.dn N g p
theorem CI.reach (c:CI n i τ)(hi:i<n){p:Nat}(K:(τ i).to p=none)(Y:bE n y)(F:Fix i y)(O:y.getD i 0=p)(P:bX n (· ∈(τ i).gens) y):CI n i (vI τ i ((τ i).reach p y)):=by
 have L:=c.jX;have l:p∉(τ i).orb:=λh=>by have:=(L.iff p).1 h;rw[K] at this;cases this
 have d: ∀r v,((τ i).reach p y).to r=some v->(r=p/\v=y)∨(r≠p/\(τ i).to r=some v):=by
  intro r v h;have o:(if r=p then some y else (τ i).to r)=some v:=h;split at o
  ·rename_i e;cases o;exact .inl ⟨e,rfl⟩
  ·rename_i e;exact .inr ⟨e,o⟩
 have f: ∀r v,(τ i).to r=some v->((τ i).reach p y).to r=some v:=by
  intro r v h;have:r≠p:=λe=>by rw[e,K] at h;cases h
  show (if r=p then some y else (τ i).to r)=some v;rw[if_neg this];exact h
 refine⟨?_,?_,?_,c.up.afT oq⟩
 ·rw[bU]
  refine⟨?_,List.mem_append_left _ L.base,f _ _ L.one,λr=>?_,λr v h=>?_,λr v h=>?_,λr v h=>?_,λr v h=>?_,L.gP,L.gF,L.gN,L.le,λr U=>?_⟩
  ·show ((τ i).orb++ [p]).Nodup
   rw[List.nodup_append];exact⟨L.nd,by simp,λa Q b G=>by simp at G;subst G;exact λe=>l (e▸Q)⟩
  ·show r∈(τ i).orb++ [p]↔(if r=p then some y else (τ i).to r).isSome
   by_cases e:r=p
   ·subst e;simp
   ·rw[if_neg e,←L.iff r];simp [e]
  ·rcases d r v h with ⟨_,rfl⟩|⟨_,h⟩
   ·exact Y
   ·exact L.cU r v h
  ·rcases d r v h with ⟨_,rfl⟩|⟨_,h⟩
   ·exact F
   ·exact L.fix r v h
  ·rcases d r v h with ⟨rfl,rfl⟩|⟨_,h⟩
   ·exact O
   ·exact L.maps r v h
  ·rcases d r v h with ⟨_,rfl⟩|⟨_,h⟩
   ·exact P
   ·exact L.gen r v h
  ·exact L.zero r λh=>U (List.mem_append_left _ h)
 ·intro r v B j t A J
  rw[bU] at B A J ⊢;simp only[acV (Nat.lt_succ_self i)];rcases d r v B with ⟨rfl,rfl⟩|⟨_,h⟩
  ·have hz:(τ i).tr r=0:=L.zero r l
   have R:j<(τ i).tr r:=A;omega
  ·obtain⟨a,Z,N⟩:=c.cl r v h j t A J
   exact⟨a,f _ _ Z,N⟩
 ·intro W g m
  rw[dZ τ _ oq] at m;rw[bU];exact c.dn W g m
theorem CI.found (c:CI n i τ)(hi:i<n){p:Nat}(b:(τ i).to q=some y)(B:(τ i).tr q=k)(t:(τ i).gens[k]? =some s)(m:(aX y s).getD i 0=p)(o:(τ i).to p=none):
  CI n i (vI τ i (((τ i).tick q).reach p (aX y s))):=by
 have L:=c.jX
 have a:s∈(τ i).gens:=List.mem_of_getElem? t
 have Y:=L.cU q y b
 have l:=L.gP s a
 have r:=c.reach hi o (Y.mul l) (Fix.mul Y oq (L.fix q y b) (L.gF s a)) m ((L.gen q y b).mul a)
 have f:q≠p:=λe=>by rw[e,o] at b;cases b
 have d:(vI τ i ((τ i).reach p (aX y s)) i).to p=some (aX y s):=by
  rw[bU];show (if p=p then some (aX y s) else (τ i).to p)=_;rw[if_pos rfl]
 have v:S n (vI τ i ((τ i).reach p (aX y s))) (i+1) (aX (aX y s) (dA (aX y s))):=by
  rw[fC (Y.mul l)];exact (r.up.dN oq).one
 have A:=r.tick (q:=q) (k:=k) (y:=y) (s:=s) (u:=aX y s) (by
  rw[bU];show (if q=p then some (aX y s) else (τ i).to q)=_
  rw[if_neg f];exact b) (by rw[bU];exact B) (by rw[bU];exact t) (by rw[m];exact d) v
 have e:vI (vI τ i ((τ i).reach p (aX y s))) i ((vI τ i ((τ i).reach p (aX y s)) i).tick q)=vI τ i (((τ i).tick q).reach p (aX y s)):=by
  funext j
  by_cases h:j=i
  ·subst h;rw[bU,bU,bU];rfl
  ·rw[dZ _ _ h,dZ _ _ h,dZ _ _ h]
 rwa [e] at A
structure Iw (n i:Nat)(x:List Nat)(τ τ':pM):Prop where
 low: ∀j,j<i->τ' j=τ j
 tw:pI n i τ'
 old: ∀s∈(τ i).gens,s∈(τ' i).gens
 new: ∀s∈(τ' i).gens,bX n (λg=>g∈(τ i).gens∨g=x) s
 has:bX n (· ∈(τ' i).gens) x
theorem Iw.S (a:Iw n i x τ τ')(t:pI n i τ)(hi:i<n)(h:Go.Pm.S n τ i z):Go.Pm.S n τ' i z:=
 (a.tw.gen hi).2 (((t.gen hi).1 h).mono a.old)
theorem CI.added (c:CI n i τ)(d:i+1<n)(a:Iw n (i+1) z τ τ')(p:bX n (· ∈(τ i).gens) z):CI n i τ'/\Go.Pm.S n τ' (i+1) z:=by
 have e:=a.low i oq;refine⟨⟨e▸c.jX,λq y l k s f m=>?_,λh g b=>?_,a.tw⟩,(a.tw.gen d).2 a.has⟩
 ·rw[e] at l f m ⊢
  obtain⟨u,r,o⟩:=c.cl q y l k s f m;exact⟨u,r,a.S c.up d o⟩
 ·rw[e]
  refine (a.new g b).le (bX.dN c.jX.gP) λg b=>?_
  rcases b with b|rfl
  ·exact c.dn d g b
  ·exact p
def Zc (n:Nat)(τ:pM):Nat->Nat->List Nat->Nat×List Nat
 |0,i,x=>(i,x)
 |d+1,i,x=>match (τ i).to (x.getD i 0) with
  |none=>(i,x)
  |some y=>Zc n τ d (i+1) (if x.getD i 0=i then x else aX x (dA y))
structure SfP (n i:Nat)(τ:pM)(x:List Nat)(k:Nat)(r:List Nat):Prop where
 ge:i<=k
 le:k<=n
 cU:bE n r
 fix:Fix k r
 out:k<n->(τ k).to (r.getD k 0)=none
 rest:i<n-> ∃w,bX n (· ∈(τ i).gens) w/\x=aX r w
theorem TR: ∀(d i:Nat) (x:List Nat),i+d=n->pI n i τ->bE n x->Fix i x->SfP n i τ x (Zc n τ d i x).1 (Zc n τ d i x).2
 |0,i,x,h,_,X,F=>⟨Nat.le_refl _,by show i<=n;omega,X,F,λa=>by have:i<n:=a;omega,λa=>oq⟩
 |d+1,i,x,h,t,X,F=>by
  have hi:i<n:=oq
  obtain⟨L,C,B,D⟩:=t i (Nat.le_refl _) hi;unfold Zc
  cases e:(τ i).to (x.getD i 0) with
  |none=>exact⟨Nat.le_refl _,by show i<=n;omega,X,F,λ_=>e,λ_=>⟨bL n,.one,(bZ X).symm⟩⟩
  |some y=>
   simp only;have Y:=L.cU _ y e
   have m: ∀c,c=(if x.getD i 0=i then x else aX x (dA y))->bE n c/\Fix (i+1) c/\x=aX c y:=by
    intro c a
    by_cases l:x.getD i 0=i
    ·rw[if_pos l] at a
     subst a;rw[l,L.one] at e;cases e;exact⟨X,F.succ l,(bZ X).symm⟩
    ·rw[if_neg l] at a
     subst a;refine⟨X.mul Y.inv,(Fix.mul X oq F (Fix.inv Y oq (L.fix _ y e))).succ ?_,by rw[aV X Y.inv Y,iE Y,bZ X]⟩;rw[cM (by rw[X.len];exact hi)];have:=afU Y hi;rwa [L.maps _ y e] at this
   obtain⟨v,F2,ex⟩:=m _ rfl;have b:=TR d (i+1) _ oq (t.mono oq) v F2;refine⟨by have:=b.ge;omega,b.le,b.cU,b.fix,b.out,λ_=>?_⟩
   by_cases o:i+1<n
   ·obtain⟨w,p,r⟩:=b.rest o
    have f:bX n (· ∈(τ i).gens) w:=p.le (bX.dN L.gP) (D o);refine⟨aX w y,f.app L.gP (L.gen _ y e),?_⟩;rw[←aV b.cU (f.cU L.gP) Y,←r];exact ex
   ·have A:d=0:=oq
    subst A;exact⟨y,L.gen _ y e,ex⟩
theorem SfP.in (f:SfP n i τ x n w)(t:pI n i τ)(hi:i<n):S n τ i x:=by
 obtain⟨v,a,e⟩:=f.rest hi;have:=f.fix.all f.cU;rw[this,mN (a.cU (t i (Nat.le_refl _) hi).1.gP)] at e;subst e;exact (t.gen hi).2 a
theorem SfP.ahM (f:SfP n i τ x k w)(t:pI n i τ)(a:k<n)(d:i<=j)(h2:j<=k): ¬S n τ j w:=by
 intro h;have l:=t.mono d;have c:=(l.Xo h2 oq).2 ⟨h,f.fix⟩;obtain⟨y,b,_⟩:=(t.mono f.ge).sift a c;rw[f.out a] at b;cases b
def push (τ:pM)(i k:Nat)(r:List Nat):pM:=λj=>if i<=j/\j<=k then (τ j).more r else τ j
theorem HC (τ:pM){i:Nat}(r:List Nat)(a:i<=j)(h2:j<=k):push τ i k r j=(τ j).more r:=by simp [push,a,h2]
theorem Mc (τ:pM){i:Nat}(r:List Nat)(h:j<i∨k<j):push τ i k r j=τ j:=by
 unfold push;rw[if_neg oq]
structure Nu (n i k:Nat)(r:List Nat)(τ τ':pM)(j:Nat):Prop where
 low: ∀m,m<j->τ' m=push τ i k r m
 tw:pI n j τ'
 gens:j<=k->(τ' j).gens=(τ j).gens++ [r]
 same:k<j->τ' j=τ j
theorem Nu.start (f:SfP n i τ x k w)(t:pI n i τ)(_:k<n):Nu n i k w τ (push τ i k w) (k+1):=
 ⟨λ_ _=>rfl,(t.mono (by have:=f.ge;omega)).congr λj a _=>(Mc τ w (.inr oq)).symm,λh=>oq,λ_=>Mc τ w (.inr oq)⟩
theorem Nu.ci (f:SfP n i τ x k w)(t:pI n i τ)(U:k<n)(a:Nu n i k w τ τ' (j+1))(B:i<=j)(h2:j<=k):CI n j τ':=by
 have R:j<n:=oq
 obtain⟨L,C,Fu,D⟩:=t j B R;have e:τ' j=(τ j).more w:=(a.low j oq).trans (HC τ w B h2);have tj:=t.mono B;have F:w∉(τ j).gens:=λZ=>f.ahM t U B h2 ((tj.gen R).2 (bX.of L.gP Z))
 have N: ∀z,S n τ (j+1) z->S n τ' (j+1) z:=by
  intro z G
  by_cases r:j+1<n
  ·have K:=t.mono (show i<=j+1 by omega)
   refine (a.tw.gen r).2 (((K.gen r).1 G).mono λg c=>?_)
   by_cases o:j+1<=k
   ·rw[a.gens o];exact List.mem_append_left _ c
   ·rw[a.same oq];exact c
  ·obtain rfl:j+1=n:=oq
   rw[vB] at G ⊢;exact G
 have l: ∀g,g∈(τ j).gens->g∈(τ j).gens++ [w]:=λg c=>List.mem_append_left _ c
 have A: ∀g,g∈(τ j).gens++ [w]->bE n g:=λg c=>by
  rcases List.mem_append.1 c with c|c
  ·exact L.gP g c
  ·simp at c;subst c;exact f.cU
 refine⟨?_,λq y P m s O d=>?_,λr s d=>?_,a.tw⟩
 ·rw[e]
  refine⟨L.nd,L.base,L.one,L.iff,L.cU,L.fix,L.maps,λp y h=>(L.gen p y h).mono l,A,λg c=>?_,?_,λq=>?_,L.zero⟩
  ·rcases List.mem_append.1 c with c|c
   ·exact L.gF g c
   ·simp at c;subst c;exact f.fix.mono h2
  ·show ((τ j).gens++ [w]).Nodup
   rw[List.nodup_append];exact⟨L.gN,by simp,λa Y b Q=>by simp at Q;subst Q;exact λe=>F (e▸Y)⟩
  ·show (τ j).tr q<=((τ j).gens++ [w]).length
   have:=L.le q;simp;omega
 ·rw[e] at P O d ⊢
  have J:m<(τ j).tr q:=O;have v:((τ j).gens++ [w])[m]? =some s:=d;rw[List.getElem?_append_left (by have:=L.le q;omega)] at v;obtain⟨u,W,g2⟩:=C q y P m s J v;exact⟨u,W,N _ g2⟩
 ·rw[e]
  show bX n (· ∈(τ j).gens++ [w]) s
  by_cases o:j+1<=k
  ·rw[a.gens o] at d
   rcases List.mem_append.1 d with d|d
   ·exact (D r s d).mono l
   ·simp at d;subst d
    exact bX.of A (List.mem_append_right _ (by simp))
  ·rw[a.same oq] at d
   exact (D r s d).mono l
theorem Nu.next {b:pM}(a:Nu n i k w τ τ' (j+1))(d:i<=j)(h2:j<=k)(low: ∀m,m<j->b m=τ' m)(g:(b j).gens=(τ' j).gens)(t:pI n j b):Nu n i k w τ b j:=
 ⟨λm c=>(low m c).trans (a.low m oq),t,λ_=>by rw[g,a.low j oq,HC τ w d h2];rfl,λh=>oq⟩
theorem Nu.done (f:SfP n i τ x k w)(t:pI n i τ)(X:bE n x)(p:k<n)(a:Nu n i k w τ τ' i):Iw n i x τ τ':=by
 have hi:i<n:=by have:=f.ge;omega
 have L:=(t i (Nat.le_refl _) hi).1;have c:=a.gens f.ge;obtain⟨v,h,e⟩:=f.rest hi;have V:=h.cU L.gP;refine⟨λj m=>(a.low j m).trans (Mc τ w (.inl m)),a.tw,λs d=>?_,λs d=>?_,?_⟩
 ·rw[c];exact List.mem_append_left _ d
 ·have b: ∀g,(g∈(τ i).gens∨g=x)->bE n g:=λg c=>by
   rcases c with c|rfl
   ·exact L.gP g c
   ·exact X
  rw[c] at d;rcases List.mem_append.1 d with d|d
  ·exact bX.of b (.inl d)
  ·simp at d;subst d
   have o:s=aX x (dA v):=by rw[e,aV f.cU V V.inv,fC V,bZ f.cU]
   rw[o];exact (bX.of b (.inr rfl)).app b ((h.mono λg c=>Or.inl c).inv b)
 ·have b: ∀g,g∈(τ' i).gens->bE n g:=(a.tw i (Nat.le_refl _) hi).1.gP
  rw[e];exact (bX.of b (by rw[c];exact List.mem_append_right _ (by simp))).app b (h.mono λg l=>by rw[c];exact List.mem_append_left _ l)
theorem Iw.none (t:pI n i τ)(hi:i<n)(h:Go.Pm.S n τ i x):Iw n i x τ τ:=by
 have L:=(t i (Nat.le_refl _) hi).1
 have b: ∀g,(g∈(τ i).gens∨g=x)->bE n g:=λg a=>by
  rcases a with a|rfl
  ·exact L.gP g a
  ·exact t.cU oq h
 exact⟨λ_ _=>rfl,t,λ_ c=>c,λs c=>bX.of b (.inl c),(t.gen hi).1 h⟩
theorem TE.many {l:Lv}(L:TE n j l):l.gens.length<=n^n:=Be L.gN L.gP
def PX (n:Nat):pM:=λj=>⟨[], [j],λp=>if p=j then some (bL n) else none,λ_=>0⟩
theorem PI (n:Nat):pI n 0 (PX n):=λj _ d=>by
 refine⟨⟨by simp [PX],by simp [PX],by simp [PX],λp=>?_,λp y h=>?_,λp y h=>?_,λp y h=>?_,λp y h=>?_,λs b=>?_,λs b=>?_,by simp [PX],λq=>Nat.le_refl _,λ_ _=>rfl⟩,λq y l k s c=>?_,λq _=>rfl,λ_ s b=>?_⟩
 ·show p∈ [j]↔(if p=j then some (bL n) else none).isSome
  by_cases e:p=j<;>simp [e]
 all_goals first
  |(have a:(if p=j then some (bL n) else none)=some y:=h
    split at a
    ·rename_i e
     cases a
     first
      |exact bE.one n
      |exact Fix.one n j oq
      |(rw[e];exact fQ d)
      |exact .one
    ·cases a)
  |(cases b;done)
  |(have f:k<0:=c;omega)
end
end
end Go.Pm
namespace Go.Proofs.YtcdbmkidaecdiaaGreat
open Go Go.Ay Go.Pm
set_option maxRecDepth 100000
def Slot (W:Nat->Prop)(h:H)(v:V):Option (List Nat)->Prop
 |none=>v= .aE
 |some y=>PV W h v y
def uA (F:Nat->V)(s:Nat):V:=F (s/2*194+s%2)
def WT (n L:Nat)(F:Nat->V)(id:Nat):Prop:=id=L∨ ∃s,s<2*n/\ ∃off len c,uA F s= .sl id off len c
structure rX (h:H)(n tid L:Nat)(F:Nat->V)(τ:pM):Prop where
 t:h.get tid=some (.cells false [aC n,.sl L 0 n (.kn n)])
 l:h.get L=some (.cells false (rc (n*194) F))
 tn:tid<h.next
 ln:L<h.next
 tw: ¬WT n L F tid
 to: ∀j p,j<n->p<64->Slot (WT n L F) h (F (j*194+2+p)) ((τ j).to p)
 iv: ∀j p,j<n->p<64->Slot (WT n L F) h (F (j*194+66+p)) (((τ j).to p).map dA)
 tr: ∀j p,j<n->p<64->F (j*194+130+p)= aC ((τ j).tr p:Nat)
 gens: ∀j,j<n-> ∃vs,cY h (F (j*194)) 1 vs 0/\fW (WT n L F) h vs (τ j).gens
 orb: ∀j,j<n->cY h (F (j*194+1)) 1 (ints (zi (τ j).orb)) 0
 IQ: ∀s s',s<2*n->s'<2*n->s≠s'->Dis (uA F s) (uA F s')
 ap: ∀s,s<2*n->dL (uA F s) L
section
variable {h h':H} {n tid L:Nat} {F:Nat->V} {τ:pM}
theorem Slot.fx {W:Nat->Prop}{v:V}{o:Option (List Nat)}(s:Slot W h v o)(f:Fx W h h'):Slot W h' v o:=by
 cases o with
 |none=>exact s
 |some y=>exact PV.fx s f
theorem Slot.Fo {W W':Nat->Prop}{v:V}{o:Option (List Nat)}(s:Slot W h v o)(a: ∀id,id<h.next->W' id->W id):Slot W' h v o:=by
 cases o with
 |none=>exact s
 |some y=>exact PV.Fo s a
theorem Hr (F:Nat->V)(j:Nat):uA F (2*j)=F (j*194):=by
 unfold uA;congr 1;omega
theorem Jw (F:Nat->V)(j:Nat):uA F (2*j+1)=F (j*194+1):=by
 unfold uA;congr 1;omega
theorem rX.own (R:rX h n tid L F τ){s:Nat}(c:s<2*n): ∃ws,cY h (uA F s) 1 ws 0:=by
 rcases Nat.mod_two_eq_zero_or_one s with e|e
 ·obtain⟨a,b,_⟩:=R.gens (s/2) om
  exact⟨a,by unfold uA;rw[e];exact b⟩
 ·exact⟨_,by unfold uA;rw[e];exact R.orb (s/2) om⟩
theorem rX.Nw (R:rX h n tid L F τ){id:Nat}(a:WT n L F id):id<h.next:=by
 rcases a with rfl|⟨s,d,b,len,c,e⟩
 ·exact R.ln
 ·obtain⟨f,o⟩:=R.own d
  exact (o.in _ _ _ _ e).1
theorem rX.mono (R:rX h n tid L F τ)(f:Fr h h'):rX h' n tid L F τ:=by
 refine⟨by rw[f.get _ R.tn];exact R.t,by rw[f.get _ R.ln];exact R.l,iW R.tn f.next,iW R.ln f.next,R.tw,
  λj p b a=>(R.to j p b a).fx (Fx.of f),λj p b a=>(R.iv j p b a).fx (Fx.of f),R.tr,λj c=>?_,λj c=>(R.orb j c).fr f,R.IQ,R.ap⟩
 obtain⟨d,b,a⟩:=R.gens j c;exact⟨d,b.fr f,a.fx (Fx.of f)⟩
theorem rX.cell (R:rX h n tid L F τ){j c:Nat}(a:j<n)(b:c<194):h.cell L (j*194+c)=some (F (j*194+c)):=
 Bw R.l (by
         have:(j+1)*194<=n*194:=Nat.mul_le_mul_right _ a
         omega)
theorem rX.Sh (R:rX h n tid L F τ){j c p:Nat}(a:j<n)(b:c+p<194):h.cell L (j*194+c+p)=some (F (j*194+c+p)):=by
 rw[Nat.add_assoc];exact R.cell a b
end
theorem PE {n:Nat}{τ:pM}{d i:Nat}{x:List Nat}(h:(τ i).to (x.getD i 0)=none):Zc n τ (d+1) i x=(i,x):=by
 rw[Zc,h]
theorem RH {n:Nat}{τ:pM}{d i:Nat}{x z:List Nat}(h:(τ i).to (x.getD i 0)=some z):Zc n τ (d+1) i x=Zc n τ d (i+1) (if x.getD i 0=i then x else aX x (dA z)):=by
 rw[Zc,h]
theorem aaD (h:H)(n tid L:Nat)(F:Nat->V)(τ:pM)(U:V)(x:List Nat)(a:Nat)(hn:n<=64)(h0:0<n)(R:rX h n tid L F τ)(hx:PV (WT n L F) h U x)(X:bE n x)(a3:a<=n)(t:pI n a τ):
  Ev T 229 [.ptr tid 0,U,aC a] h (λv h'=> ∃vr,v= .tup [aC (((Zc n τ (n-a) a x).1:Nat):Int),vr]/\PV (WT n L F) h' vr (Zc n τ (n-a) a x).2/\bE n (Zc n τ (n-a) a x).2/\Fr h h'):=by
 refine cV tH rfl ?_
 simp(disch:=omega)only[go_sem,tH,aD]
 refine aH (λk' o hh=> ∃(i:Nat) (y:List Nat) (s:V),(∃g:Nat->V,o= [.ptr tid 0,s,g 2,g 3,g 4,aC i,g 6,g 7,g 8,g 9])/\a<=i/\i<=n/\Zc n τ (n-i) i y=Zc n τ (n-a) a x/\
   PV (WT n L F) hh s y/\bE n y/\Fr h hh/\k'=n-i) (n-a)
  ⟨a,x,U,aB rfl,fM _,a3,rfl,hx,X,Fr.refl h,rfl⟩ ?_
 rintro k' o d ⟨i,y,s,⟨g,rfl⟩,a0,a4,l,A,Y,f,rfl⟩
 have K:=R.mono f
 have ct:d.cell tid 0=some (aC n):=by rw[H.aF K.t];rfl
 have cl:d.cell tid 1=some (.sl L 0 n (.kn n)):=by rw[H.aF K.t];rfl
 simp(disch:=omega)only[go_sem,ct,cl]
 by_cases B:(i:Int)<(n:Int)
 ·have b:i<n:=om
  rw[oQ B]
  obtain⟨id,a1,J,P,hc⟩:=A.si.open
  rw[aQ,Y.len] at J P hc
  have ci:d.cell id (a1+i)=some (aC (y.getD i 0:Nat)):=by rw[hc i b];congr 2;simp [zi,Y.len,b]
  have r:=Y.iN b
  have lv:=(t i a0 b).1
  generalize N:y.getD i 0=k at ci r
  have cb:=K.Sh (c:=66) (p:=k) b om
  have G:=K.iv i k b om
  simp(disch:=omega)only[go_sem,ct,cl,J.ixa,ci,cb]
  generalize F (i*194+66+k)=O at G cb
  have q:n-i=(n-(i+1))+1:=om
  rw[q] at l
  cases hto:(τ i).to k with
  |none=>
   rw[hto] at G;rw[PE (by rw[N];exact hto)] at l;have m:O= .aE:=G;subst m;simp(disch:=omega)only[go_sem];rw[←l];exact⟨s,rfl,A.fx (Fx.of ((Fr.refl d).bA om)),Y,f.bA om⟩
  |some z=>
   rw[hto] at G;rw[RH (by rw[N];exact hto),N] at l;have Z:=lv.cU _ _ hto;have m:PV (WT n L F) d O (dA z):=G;have sn:=Hv m (bE.ne h0 Z.inv) false;have w:Fr d (H.mk d.tr (d.next+14)):=(Fr.refl d).bA om
   by_cases u:k=i
   ·have e0:decide ((k:Int)≠(i:Int))=false:=bH om
    rw[bF u] at l;simp(disch:=omega)only[go_sem,sn,J.ixa,ci,e0];rw[eJ i];exact⟨n-(i+1),om,i+1,y,s,aB rfl,om,om,l,A.fx (Fx.of w),Y,f.trans w,rfl⟩
   ·have e0:decide ((k:Int)≠(i:Int))=true:=oQ om
    rw[bI u] at l;simp(disch:=omega)only[go_sem,sn,J.ixa,ci,e0];have W:=A.fx (Fx.of w);have a2:=m.fx (Fx.of w);have f':=f.trans w;generalize H.mk d.tr (d.next+14)=h3 at*;refine (mY oF.ok s O y (dA z) h3 (by rw[Y.len];omega) W.si a2.si (λj hj=>by rw[jQ,Z.len];exact Y.iN (by rw[←Y.len];exact hj))).mono ?_;rintro v h4 nw;have f4:=f'.trans nw.fr;simp(disch:=omega)only[go_sem];rw[eJ i];refine⟨n-(i+1),om,i+1,_,v,aB rfl,om,om,l,nw.pv (λhw=>?_),Y.mul Z.inv,f4,rfl⟩;have:=R.Nw hw;have:=f'.next;omega
 ·rw[bH B]
  obtain rfl:i=n:=om
  simp(disch:=omega)only[go_sem,ct,cl]
  rw[Nat.sub_self] at l
  have Q:Zc i τ (i-a) a x=(i,y):=l.symm
  rw[Q]
  exact⟨s,rfl,A,Y,f⟩
section
variable {h h' h2:H} {n tid L i:Nat} {F F':Nat->V} {τ τ':pM}
theorem PC (b: ∀s,s<2*n->uA F' s=uA F s)(id:Nat):WT n L F' id↔WT n L F id:=by
 unfold WT;constructor
 ·rintro (e|⟨s,a,h2⟩)
  ·exact .inl e
  ·exact .inr ⟨s,a,by rw[←b s a];exact h2⟩
 ·rintro (e|⟨s,a,h2⟩)
  ·exact .inl e
  ·exact .inr ⟨s,a,by rw[b s a];exact h2⟩
theorem QK {j:Nat}(P: ∀s,s<2*n->uA F' s=uA F s)(a:j<n):F' (j*194)=F (j*194)/\F' (j*194+1)=F (j*194+1):=
 ⟨(Hr F' j).symm.trans ((P _ om).trans (Hr F j)),(Jw F' j).symm.trans ((P _ om).trans (Jw F j))⟩
theorem PV.go {W W':Nat->Prop}{v:V}{l:List Nat}(p:PV W h v l)(f:Fx W h h')(a: ∀id,id<h.next->W' id->W id):PV W' h' v l:=⟨p.si.fx p.off f,p.off.Fo p.si a⟩
theorem Slot.go {W W':Nat->Prop}{v:V}{o:Option (List Nat)}(s:Slot W h v o)(f:Fx W h h')(a: ∀id,id<h.next->W' id->W id):Slot W' h' v o:=by
 cases o with
 |none=>exact s
 |some y=>exact PV.go s f a
theorem fW.go {W W':Nat->Prop}{vs:List V}{ls:LN}(s:fW W h vs ls)(f:Fx W h h')(a: ∀id,id<h.next->W' id->W id):fW W' h' vs ls:=s.mono λ_ _ x=>PV.go x f a
theorem rX.cells (R:rX h n tid L F τ)(o:h.next<=h'.next)(z: ∀id,id≠L->id<h.next->h'.get id=h.get id)(J:h'.get L=some (.cells false (rc (n*194) F')))
  (k: ∀s,s<2*n->uA F' s=uA F s) (y: ∀j,j<n->(τ' j).gens=(τ j).gens/\(τ' j).orb=(τ j).orb)
  (r: ∀j p,j<n->p<64->Slot (WT n L F) h' (F' (j*194+2+p)) ((τ' j).to p)) (v: ∀j p,j<n->p<64->Slot (WT n L F) h' (F' (j*194+66+p)) (((τ' j).to p).map dA))
  (u: ∀j p,j<n->p<64->F' (j*194+130+p)= aC ((τ' j).tr p:Nat)):rX h' n tid L F' τ'/\Fx (WT n L F) h h'/\ ∀id,WT n L F' id↔WT n L F id:=by
 have f:Fx (WT n L F) h h':=⟨o,λid b h2=>z id (λe=>h2 (.inl e)) b⟩
 have w:=PC (L:=L) k
 have q:WT n L F'=WT n L F:=funext λid=>propext (w id)
 have x: ∀s,s<2*n-> ∀id a len c,uA F s= .sl id a len c->id<h.next->h'.get id=h.get id:=λs b id a len c e h2=>z id (λB=>(R.ap s b _ _ _ _ e) B.symm) h2
 refine⟨⟨?_,J,iW R.tn o,iW R.ln o,by rw[q];exact R.tw,by rw[q];exact r,by rw[q];exact v,u,λj d=>?_,λj d=>?_,λs A b h2 l=>by rw[k s b,k A h2];exact R.IQ s A b h2 l,λs b=>by rw[k s b];exact R.ap s b⟩,f,w⟩
 ·rw[f.get tid R.tn R.tw];exact R.t
 ·obtain⟨G,b,h2⟩:=R.gens j d
  rw[(QK k d).1,q,(y j d).1]
  exact⟨G,b.zA o λid a m c e l=>x (2*j) om id a m c (by rw[Hr];exact e) l,h2.fx f⟩
 ·rw[(QK k d).2,(y j d).2]
  exact (R.orb j d).zA o λid a m c e l=>x (2*j+1) om id a m c (by rw[Jw];exact e) l
structure aiH (h h':H)(n tid L:Nat)(F F':Nat->V)(s0:Nat):Prop where
 fx:Fx (WT n L F) h h'
 wt: ∀id,id<h.next->WT n L F' id->WT n L F id
 IQ: ∀s s',s<2*n->s'<2*n->s≠s'->Dis (uA F' s) (uA F' s')
 ap: ∀s,s<2*n->dL (uA F' s) L
 own: ∀s,s<2*n->s≠s0->uA F' s=uA F s/\ ∀ws,cY h (uA F s) 1 ws 0->cY h' (uA F s) 1 ws 0
theorem rX.aiD (R:rX h n tid L F τ){s0 u m:Nat}(x:s0<2*n){ws us:List V}(p:uL h (uA F s0) u m 1 ws us h2)(j: ∀s,s<2*n->s≠s0->uA F' s=uA F s){B:Kh}(f:uA F' s0= .sl h.next 0 (u+m) B)(o:Option Ob):
  aiH h (h2.set L o) n tid L F F' s0:=by
 have l: ∀s,s<2*n-> ∀id a len c,uA F s= .sl id a len c->id<h.next:=λs t id a len c e=>by
  obtain⟨ws,o⟩:=R.own t;exact (o.in _ _ _ _ e).1
 have N:Fx (WT n L F) h h2:=p.fx λid a len c e=> .inr ⟨s0,x,a,len,c,e⟩
 refine⟨N.trans (Fx.set h2 (.inl rfl:WT n L F L) o) (λ_ _ h=>h),λid d K=>?_,λs q d h2 r=>?_,λs d=>?_,λs d r=>⟨j s d r,λws P=>?_⟩⟩
 ·rcases K with e|⟨s,t,a,len,c,e⟩
  ·exact .inl e
  ·by_cases b:s=s0
   ·rw[b,f] at e;cases e;omega
   ·exact .inr ⟨s,t,a,len,c,by rw[←j s t b];exact e⟩
 ·by_cases b:s=s0
  ·rw[b,f,j q h2 om]
   intro i o n c e G O y z k
   cases e
   have:=l q h2 _ _ _ _ k
   omega
  ·rw[j s d b]
   by_cases w:q=s0
   ·rw[w,f]
    intro i o n c e G O y z k
    cases k
    have:=l s d _ _ _ _ e
    omega
   ·rw[j q h2 w];exact R.IQ s q d h2 r
 ·by_cases b:s=s0
  ·rw[b,f]
   exact dL.sl (by have:=R.ln;omega)
  ·rw[j s d b];exact R.ap s d
 ·refine P.zA (show h.next<=h2.next by rw[p.next];omega) λid a m c e J=>?_
  rw[H.aG h2 (λb:id=L=>(R.ap s d _ _ _ _ e) b.symm)]
  refine p.old id om λA v y z k b=>?_
  exact R.IQ s s0 d x r _ _ _ _ e _ _ _ _ k b
def F1 (F:Nat->V)(k:Nat)(v:V):Nat->V:=λc=>if c=k then v else F c
theorem rX.slot (R:rX h n tid L F τ){e f m:Nat}(hi:i<n)(W:e<2){ws us:List V}(p:uL h (F (i*194+e)) f m 1 ws us h2){h3:H}{v:V}{q:Kh}(y:q= .un 1∨q= .kn (f+m))(A:v= .sl h.next 0 (f+m) q)(l:h3=h2.set L (some (.cells false (rc (n*194) (F1 F (i*194+e) v)))))
  (a: ∀j,j<n->(τ' j).to=(τ j).to/\(τ' j).tr=(τ j).tr)
  (O:Fx (WT n L F) h h3->(∀id,id<h.next->WT n L (F1 F (i*194+e) v) id->WT n L F id)->(∀s,s<2*n->s≠2*i+e-> ∀ws,cY h (uA F s) 1 ws 0->cY h3 (uA F s) 1 ws 0)->cY h3 v 1 (ws++us) 0->ws.length=f*1/\us.length=m*1->
   (∀j,j<n-> ∃vs,cY h3 (F1 F (i*194+e) v (j*194)) 1 vs 0/\fW (WT n L (F1 F (i*194+e) v)) h3 vs (τ' j).gens)/\ ∀j,j<n->cY h3 (F1 F (i*194+e) v (j*194+1)) 1 (ints (zi (τ' j).orb)) 0)
  (w:ws.length=f*1/\us.length=m*1):
  rX h3 n tid L (F1 F (i*194+e) v) τ'/\Fx (WT n L F) h h3/\ ∀id,id<h.next->WT n L (F1 F (i*194+e) v) id->WT n L F id:=by
 have x: ∀s,s<2*n->s≠2*i+e->uA (F1 F (i*194+e) v) s=uA F s:=λs d h2=>by
  unfold uA F1;rw[bI om]
 have k:(2*i+e)/2*194+(2*i+e)%2=i*194+e:=om
 have u:uA F (2*i+e)=F (i*194+e):=by unfold uA;rw[k]
 have z:uA (F1 F (i*194+e) v) (2*i+e)= .sl h.next 0 (f+m) q:=by unfold uA F1;rw[k,bF rfl,A]
 have G:=R.aiD (F':=F1 F (i*194+e) v) (s0:=2*i+e) om (by rw[u];exact p) x z (some (.cells false (rc (n*194) (F1 F (i*194+e) v))))
 rw[←l] at G
 obtain⟨P,K⟩:=O G.fx G.wt (λs d h2=>(G.own s d h2).2) (by
  rw[A,l];have J:cY h2 (.sl h.next 0 (f+m) q) 1 (ws++us) 0:= .inr ⟨h.next,f+m,q, [],rfl,by rw[jZ,w.1,w.2];omega,by rcases y with e|e;exact .inl e;exact .inr ⟨e,rfl⟩,iJ _,by rw[p.next];omega,by rw[vF];exact p.get⟩;refine J.zA (fM _) λid N m c e Q=>?_
  cases e
  exact H.aG h2 (by have:=R.ln;omega) _) w
 have U: ∀j c,2<=c->c<194->F1 F (i*194+e) v (j*194+c)=F (j*194+c):=λj c d h2=>by
  unfold F1;rw[bI om]
 have o: ∀j b c,2<=b->b+c<194->F1 F (i*194+e) v (j*194+b+c)=F (j*194+b+c):=λj b c d h2=>by
  rw[Nat.add_assoc];exact U j (b+c) om h2
 have r:=G.fx.next
 refine⟨⟨?_,by rw[l,H.aS],iW R.tn r,iW R.ln r,λB=>R.tw (G.wt _ R.tn B),λj p d h2=>?_,λj p d h2=>?_,λj p d h2=>?_,P,K,G.IQ,G.ap⟩,G.fx,G.wt⟩
 ·rw[G.fx.get tid R.tn R.tw];exact R.t
 ·rw[o j 2 p om om,(a j d).1];exact (R.to j p d h2).go G.fx G.wt
 ·rw[o j 66 p om om,(a j d).1];exact (R.iv j p d h2).go G.fx G.wt
 ·rw[o j 130 p om om,(a j d).2];exact R.tr j p d h2
theorem rX.more (R:rX h n tid L F τ)(hi:i<n){vs:List V}{d:V}{r:List Nat}(pv:fW (WT n L F) h vs (τ i).gens)(q:PV (WT n L F) h d r)(p:uL h (F (i*194)) (τ i).gens.length 1 1 vs [d] h2){h3:H}{v:V}(m:v= .sl h.next 0 ((τ i).gens.length+1) (.un 1))(b:h3=h2.set L (some (.cells false (rc (n*194) (F1 F (i*194) v))))):
  rX h3 n tid L (F1 F (i*194) v) (vI τ i ((τ i).more r))/\Fx (WT n L F) h h3/\ ∀id,id<h.next->WT n L (F1 F (i*194) v) id->WT n L F id:=by
 refine R.slot (e:=0) hi om p (.inl rfl) m b (λj a=>?_) (λf c k o t=>⟨λj a=>?_,λj a=>?_⟩) ⟨by have:=aM.length pv;omega,rfl⟩
 ·by_cases e:j=i
  ·subst e;rw[bU];exact⟨rfl,rfl⟩
  ·rw[dZ _ _ e];exact⟨rfl,rfl⟩
 ·by_cases e:j=i
  ·subst e
   rw[bU]
   refine⟨vs++ [d],?_,(fW.go pv f c).append (fW.one (PV.go q f c))⟩
   unfold F1;rw[bF (Nat.add_zero _).symm];exact o
  ·rw[dZ _ _ e]
   obtain⟨l,s,h2⟩:=R.gens j a
   refine⟨l,?_,fW.go h2 f c⟩
   have:=k (2*j) om om l (by rw[Hr];exact s)
   rw[Hr] at this
   unfold F1;rw[bI om];exact this
 ·have:=k (2*j+1) om om _ (by rw[Jw];exact R.orb j a)
  rw[Jw] at this
  unfold F1;rw[bI om]
  by_cases e:j=i
  ·subst e;rw[bU];exact this
  ·rw[dZ _ _ e];exact this
theorem rX.UW (R:rX h n tid L F τ)(hi:i<n){q:Nat}(p:uL h (F (i*194+1)) (τ i).orb.length 1 1 (ints (zi (τ i).orb)) [aC q] h2){h3:H}{v:V}{c:Kh}(d:c= .un 1∨c= .kn ((τ i).orb.length+1))(o:v= .sl h.next 0 ((τ i).orb.length+1) c)(b:h3=h2.set L (some (.cells false (rc (n*194) (F1 F (i*194+1) v))))):
  rX h3 n tid L (F1 F (i*194+1) v) (vI τ i {τ i with orb:=(τ i).orb++ [q]})/\Fx (WT n L F) h h3/\ ∀id,id<h.next->WT n L (F1 F (i*194+1) v) id->WT n L F id:=by
 refine R.slot (e:=1) hi om p d o b (λj a=>?_) (λf k l r u=>⟨λj a=>?_,λj a=>?_⟩) ⟨by rw[fT,aQ,uW],rfl⟩
 ·by_cases e:j=i
  ·subst e;rw[bU];exact⟨rfl,rfl⟩
  ·rw[dZ _ _ e];exact⟨rfl,rfl⟩
 ·obtain⟨m,t,h2⟩:=R.gens j a
  have:=l (2*j) om om m (by rw[Hr];exact t)
  rw[Hr] at this
  refine⟨m,?_,?_⟩
  ·unfold F1;rw[bI om];exact this
  ·by_cases e:j=i
   ·subst e;rw[bU];exact fW.go h2 f k
   ·rw[dZ _ _ e];exact fW.go h2 f k
 ·by_cases e:j=i
  ·subst e
   rw[bU]
   have s:ints (zi ((τ j).orb++ [q]))=ints (zi (τ j).orb)++ [aC q]:=by simp [zi,ints]
   show cY h3 _ 1 (ints (zi ((τ j).orb++ [q]))) 0
   rw[s]
   unfold F1;rw[bF rfl];exact r
  ·rw[dZ _ _ e]
   have:=l (2*j+1) om om _ (by rw[Jw];exact R.orb j a)
   rw[Jw] at this
   unfold F1;rw[bI om];exact this
theorem rX.tick (R:rX h n tid L F τ)(hi:i<n){q:Nat}(l:q<64){z:Int}(k:z=((τ i).tr q:Nat)+1){h3:H}(c:h3=h.set L (some (.cells false (rc (n*194) (F1 F (i*194+130+q) (aC z)))))):
  rX h3 n tid L (F1 F (i*194+130+q) (aC z)) (vI τ i ((τ i).tick q))/\Fx (WT n L F) h h3/\ ∀id,WT n L (F1 F (i*194+130+q) (aC z)) id↔WT n L F id:=by
 subst c
 have f:Fx (WT n L F) h (h.set L (some (.cells false (rc (n*194) (F1 F (i*194+130+q) (aC z)))))):=Fx.set h (.inl rfl) _
 have a: ∀j,(vI τ i ((τ i).tick q) j).to=(τ j).to/\(vI τ i ((τ i).tick q) j).gens=(τ j).gens/\(vI τ i ((τ i).tick q) j).orb=(τ j).orb:=λj=>by
  by_cases e:j=i
  ·subst e;rw[bU];exact⟨rfl,rfl,rfl⟩
  ·rw[dZ _ _ e];exact⟨rfl,rfl,rfl⟩
 refine R.cells (fM _) (λid b _=>H.aG h b _) (H.aS ..) (λs m=>?_) (λj _=>(a j).2) (λj p b h2=>?_) (λj p b h2=>?_) (λj p b h2=>?_)
 ·unfold uA F1;rw[bI om]
 ·rw[(a j).1]
  have:=(R.to j p b h2).fx f
  unfold F1;rw[bI om];exact this
 ·rw[(a j).1]
  have:=(R.iv j p b h2).fx f
  unfold F1;rw[bI om];exact this
 ·have:=R.tr j p b h2
  unfold F1
  by_cases e:j=i
  ·subst e
   rw[bU]
   show _=aC (if p=q then (τ j).tr q+1 else (τ j).tr p:Nat)
   by_cases d:p=q
   ·subst d;rw[bF rfl,bF rfl,k];rfl
   ·rw[bI om,bI d];exact this
  ·rw[bI om,dZ _ _ e];exact this
theorem rX.way (R:rX h n tid L F τ)(hi:i<n){q:Nat}(w:q<64){d k:V}{y:List Nat}(o:PV (WT n L F) h d y)(t:PV (WT n L F) h k (dA y)){h3:H}(m:h.next<=h3.next)(l: ∀id,id≠L->id<h.next->h3.get id=h.get id)
  (u:h3.get L=some (.cells false (rc (n*194) (F1 (F1 F (i*194+2+q) d) (i*194+66+q) k)))):
  rX h3 n tid L (F1 (F1 F (i*194+2+q) d) (i*194+66+q) k) (vI τ i {τ i with to:=λr=>if r=q then some y else (τ i).to r})/\Fx (WT n L F) h h3/\ ∀id,WT n L (F1 (F1 F (i*194+2+q) d) (i*194+66+q) k) id↔WT n L F id:=by
 have f:Fx (WT n L F) h h3:=⟨m,λid a h2=>l id (λe=>h2 (.inl e)) a⟩
 have b: ∀j,(vI τ i {τ i with to:=λr=>if r=q then some y else (τ i).to r} j).tr=(τ j).tr/\(vI τ i {τ i with to:=λr=>if r=q then some y else (τ i).to r} j).gens=(τ j).gens/\(vI τ i {τ i with to:=λr=>if r=q then some y else (τ i).to r} j).orb=(τ j).orb:=λj=>by
  by_cases e:j=i
  ·subst e;rw[bU];exact⟨rfl,rfl,rfl⟩
  ·rw[dZ _ _ e];exact⟨rfl,rfl,rfl⟩
 refine R.cells m l u (λs v=>?_) (λj _=>(b j).2) (λj p a h2=>?_) (λj p a h2=>?_) (λj p a h2=>?_)
 ·unfold uA F1;rw[bI om,bI om]
 ·have:=(R.to j p a h2).fx f
  unfold F1
  by_cases e:j=i
  ·subst e
   rw[bU]
   show Slot _ _ _ (if p=q then some y else (τ j).to p)
   by_cases c:p=q
   ·subst c;rw[bI om,bF rfl,bF rfl];exact PV.fx o f
   ·rw[bI om,bI om,bI c];exact this
  ·rw[bI om,bI om,dZ _ _ e];exact this
 ·have:=(R.iv j p a h2).fx f
  unfold F1
  by_cases e:j=i
  ·subst e
   rw[bU]
   show Slot _ _ _ ((if p=q then some y else (τ j).to p).map dA)
   by_cases c:p=q
   ·subst c;rw[bF rfl,bF rfl];exact PV.fx t f
   ·rw[bI om,bI om,bI c];exact this
  ·rw[bI om,bI om,dZ _ _ e];exact this
 ·rw[(b j).1]
  have:=R.tr j p a h2
  unfold F1;rw[bI om,bI om];exact this
end
theorem CK {l:List Nat}(nd:l.Nodup){k:Nat}(a:k<l.length):l.getD k 0∉l.take k:=by
 intro h;obtain⟨m,d,e⟩:=zF.1 h;have b:m<k:=by simp at d;omega
 rw[List.getElem_take,cJ a] at e;have c:=nd.idxOf_getElem m om;have f:=nd.idxOf_getElem k a;rw[e] at c;omega
theorem aeG {n i:Nat}{τ b:pM}{y s u z:List Nat}{q k:Nat}(c:CI n i τ)(L:i+1<n)(A:(τ i).to q=some y)(G:(τ i).tr q=k)(l:(τ i).gens[k]? =some s)(F:(τ i).to ((aX y s).getD i 0)=some u)
  (x:z=aX (aX y s) (dA u)) (a:Iw n (i+1) z (vI τ i ((τ i).tick q)) b):CI n i b/\b i=(τ i).tick q/\ ∀j,j<i->b j=τ j:=by
 have w:b i=(τ i).tick q:=(a.low i om).trans (bU ..)
 have f: ∀j,j<i->b j=τ j:=λj p=>(a.low j om).trans (dZ _ _ om)
 have J:Iw n (i+1) z τ (vI b i (τ i)):=by
  have B: ∀j,i<j->vI τ i ((τ i).tick q) j=τ j:=λj p=>dZ _ _ om
  have d: ∀j,i<j->vI b i (τ i) j=b j:=λj p=>dZ _ _ om
  refine⟨λj p=>?_,a.tw.congr λj N _=>(d j om).symm,λs l=>?_,λs l=>?_,?_⟩
  ·by_cases e:j=i
   ·subst e;exact bU ..
   ·rw[dZ _ _ e];exact f j om
  ·rw[d _ om];exact a.old s (by rw[B _ om];exact l)
  ·rw[d _ om] at l
   have:=a.new s l;rwa [B _ om] at this
  ·rw[d _ om];exact a.has
 have m:s∈(τ i).gens:=AW l
 obtain⟨_,_,t⟩:=c.Mu om A m F
 obtain⟨K,r⟩:=c.added L J (by rw[x];exact t)
 have o:vI b i (τ i) i=τ i:=bU ..
 have v:=K.tick (q:=q) (k:=k) (y:=y) (s:=s) (u:=u) (by rw[o];exact A) (by rw[o];exact G) (by rw[o];exact l) (by rw[o];exact F) (by rw[←x];exact r)
 have e:vI (vI b i (τ i)) i ((vI b i (τ i) i).tick q)=b:=by
  funext j
  by_cases h:j=i
  ·subst h;rw[bU,bU,w]
  ·rw[dZ _ _ h,dZ _ _ h]
 rw[e] at v
 exact⟨v,w,f⟩
theorem cY.lens {h:H}{v:V}{ws:List V}{b n:Nat}(o:cY h v 1 ws b)(a:ws.length=n):bT v=some (aC n):=by
 unfold bT;rw[o.sv.len (n:=n) om om];rfl
theorem EX {F:Nat->V}{k c:Nat}{v:V}(h:c≠k):F1 F k v c=F c:=bI h
theorem Jr {N k:Nat}{F:Nat->V}(b:k<N)(a:H)(L:Nat)(v:V):dX (some (.cells false (rc N F))) a L k [v]=some (a.set L (some (.cells false (rc N (F1 F k v))))):=by
 rw[bN (by rw[Df];exact b),mS];rfl
def XQ (h:H)(n tid L:Nat)(F:Nat->V)(τ:pM)(i:Nat)(x:List Nat):V->H->Prop:=λ_ h'=> ∃F' τ',rX h' n tid L F' τ'/\Iw n i x τ τ'/\Fx (WT n L F) h h'/\ ∀id,id<h.next->WT n L F' id->WT n L F id
def MB (h:H)(n tid L:Nat)(F:Nat->V)(τ:pM)(i:Nat):V->H->Prop:=λ_ h'=> ∃F' τ',rX h' n tid L F' τ'/\pI n i τ'/\(∀j,j<i->τ' j=τ j)/\(τ' i).gens=(τ i).gens/\Fx (WT n L F) h h'/\ ∀id,id<h.next->WT n L F' id->WT n L F id
def XH (n i:Nat):Prop:= ∀(h:H) (tid L:Nat) (F:Nat->V) (τ:pM) (vx:V) (x:List Nat),rX h n tid L F τ->PV (WT n L F) h vx x->bE n x->Fix i x->pI n i τ->Ev T 193 [.ptr tid 0,vx,aC i] h (XQ h n tid L F τ i x)
def Wa (n i:Nat):Prop:= ∀(h:H) (tid L:Nat) (F:Nat->V) (τ:pM),rX h n tid L F τ->CI n i τ->Ev T 230 [.ptr tid 0,aC i] h (MB h n tid L F τ i)
structure ClS (h:H)(n tid L:Nat)(F:Nat->V)(τ:pM)(i:Nat)(h':H)(F':Nat->V)(τ':pM)(k:Nat):Prop where
 R:rX h' n tid L F' τ'
 c:CI n i τ'
 hk:k<=(τ' i).orb.length
 done: ∀r∈(τ' i).orb.take k,(τ' i).tr r=(τ' i).gens.length
 low: ∀j,j<i->τ' j=τ j
 gens:(τ' i).gens=(τ i).gens
 fx:Fx (WT n L F) h h'
 wt: ∀id,id<h.next->WT n L F' id->WT n L F id
theorem YY {n j:Nat}{l:Lv}(V:TE n j l)(a:j<n):l.orb.length<=n:=by
 have:=List.Nodup.length_le_of_subset V.nd (l₂:=List.range n) λx b=>Gu.2 (V.lt a b)
 simpa using this
theorem Vp (n i:Nat)(hn:n<=7)(hi:i<n)(A:i+1<n->XH n (i+1)):Wa n i:=by
 intro h Q L F τ R c;refine cV rT rfl ?_;have cl:h.cell Q 1=some (.sl L 0 n (.kn n)):=by rw[H.aF R.t];rfl
 simp(disch:=omega)only[go_sem,rT,aD,cl];refine aH (λm N hh=> ∃(k:Nat) (F':Nat->V) (a2:pM),(∃g:Nat->V,N= [.ptr Q 0,aC i,.ptr L (i*194),aC k,g 4,g 5,g 6,g 7,g 8,g 9,g 10,g 11])/\ClS h n Q L F τ i hh F' a2 k/\m=n-k) n
  ⟨0,F,τ,aB rfl,⟨R,c,iJ _,λr d=>by simp at d,λ_ _=>rfl,rfl,Fx.refl _ h,λ_ _ h=>h⟩,rfl⟩ ?_
 rintro m N G ⟨k,a5,f,⟨g,rfl⟩,S,rfl⟩;have co:G.cell L (i*194+1)=some (a5 (i*194+1)):=S.R.cell hi om;have oo:=S.R.orb i hi;have lo:=cY.lens oo (by rw[fT,aQ]);have d4:=YY S.c.jX hi;simp(disch:=omega)only[go_sem,co,lo]
 by_cases a0:(k:Int)<((f i).orb.length:Int)
 case neg=>
  rw[bH a0];simp(disch:=omega)only[go_sem];refine⟨a5,f,S.R,S.c.full λq hq=>S.done q ?_,S.low,S.gens,S.fx,S.wt⟩;rw[Tn om];exact hq
 rw[oQ a0];have b:k<(f i).orb.length:=om
 obtain⟨id,d7,sh,c5,hc⟩:=(show SI G (a5 (i*194+1)) (zi (f i).orb) from oo.sv).open;rw[aQ] at sh c5 hc;obtain⟨q,hq⟩:=exI ((f i).orb.getD k 0);have ck:G.cell id (d7+k)=some (aC q):=by rw[hc k b];congr 2;simp [zi,b,←hq]
 simp(disch:=omega)only[go_sem,co,sh.ixa,ck];have b4:q∈(f i).orb:=by rw[←hq,cJ b];exact zG b
 have e8:q<n:=S.c.jX.lt hi b4;clear sh c5 hc ck co lo oo d4 b4
 refine aH (λm N hh=> ∃(F':Nat->V) (a2:pM),(∃g:Nat->V,N= [.ptr Q 0,aC i,.ptr L (i*194),aC k,aC q,g 5,g 6,g 7,g 8,g 9,g 10,g 11])/\ClS h n Q L F τ i hh F' a2 k/\
   k<(a2 i).orb.length/\(a2 i).orb.getD k 0=q/\m=(a2 i).gens.length-(a2 i).tr q) ((f i).gens.length-(f i).tr q)
  ⟨a5,f,aB rfl,S,b,hq,rfl⟩ ?_
 clear a0 b hq S f a5;rintro m N K ⟨F2,a,⟨g2,rfl⟩,S,b,hq,rfl⟩;have R2:=S.R;have jX:=S.c.jX;have b4:q∈(a i).orb:=by rw[←hq,cJ b];exact zG b
 obtain⟨y,hy⟩:=jX.to b4;have Y:=jX.cU _ _ hy;have b3:K.cell L (i*194+130+q)=some (aC ((a i).tr q:Nat)):=by rw[R2.Sh hi om,R2.tr i q hi om]
 have cg:K.cell L (i*194)=some (F2 (i*194)):=by
  have:=R2.cell (c:=0) hi om;rwa [Nat.add_zero] at this
 obtain⟨vs,og,b0⟩:=R2.gens i hi;have lg:=cY.lens og (aM.length b0);have d4:=YY jX hi;simp(disch:=omega)only[go_sem,b3,cg,lg]
 by_cases a0:(((a i).tr q:Nat):Int)<((a i).gens.length:Int)
 case neg=>
  rw[bH a0];simp(disch:=omega)only[go_sem];rw[eJ k];have fb:Fr K (H.mk K.tr (K.next+12)):=(Fr.refl K).bA om;have e9:=jX.le q;refine⟨n-(k+1),om,k+1,F2,a,aB rfl,⟨R2.mono fb,S.c,b,λr d=>?_,S.low,S.gens,⟨mT S.fx.next fb.next,S.fx.get⟩,S.wt⟩,rfl⟩;rw[List.take_add_one,dD b,←cJ b,hq] at d;rcases pH.1 d with d|d
  ·exact S.done r d
  ·simp at d;subst d;omega
 rw[oQ a0];obtain⟨t,ht⟩:=exI ((a i).tr q);rw[ht] at a0 b3;have f0:(a i).gens.length<=1000000:=mT jX.many (mT (Nat.pow_le_pow_left hn n) (mT (Nat.pow_le_pow_right om hn) (by decide)));obtain⟨e2,d2,d3,d1,c8⟩:=og.sv.shape (a i).gens.length (by have:=aM.length b0;omega) om;obtain⟨vS,c7,pS⟩:=b0.at (i:=t) om;obtain⟨s,hs⟩:=exI ((a i).gens.getD t []);rw[hs] at pS
 have a4:(a i).gens[t]? =some s:=by
  rw[←hs,List.getD,dD om];rfl
 have Sp:=jX.gP s (AW a4);have cS:K.cell e2 (d2+t)=some vS:=by rw[c8 t (by have:=aM.length b0;omega)];exact c7
 have pT:PV (WT n L F2) K (F2 (i*194+2+q)) y:=by
  have:=R2.to i q hi om;rw[hy] at this;exact this
 have hN:i*194+194<=n*194:=om
 simp(disch:=omega)only[go_sem,b3,cg,lg,d3.ixa,cS,R2.l,Jr,Mi,EX];have fb:Fr K (H.mk K.tr (K.next+12+13+11)):=(Fr.refl K).bA om
 obtain⟨h3,b9⟩: ∃h3,h3=(H.mk K.tr (K.next+12+13+11)).set L (some (.cells false (rc (n*194) (F1 F2 (i*194+130+q) (aC ((t:Int)+1)))))):=⟨_,rfl⟩
 rw[←b9];obtain⟨R3,f3,w3⟩:=(R2.mono fb).tick hi (q:=q) om (z:=(t:Int)+1) (by rw[ht]) b9;have c1:=(Fx.of (W:=WT n L F2) fb).trans f3 (λ_ _ h=>h);have c2:=PV.go pT c1 (λid _ h=>(w3 id).1 h);have d0:=PV.go pS c1 (λid _ h=>(w3 id).1 h);generalize F2 (i*194+2+q)=vt at pT c2;clear b9 pT pS b3 cg lg d3 d1 c8 cS c7 b0 og
 obtain⟨B,e4⟩: ∃B,B=F1 F2 (i*194+130+q) (aC ((t:Int)+1)):=⟨_,rfl⟩
 rw[←e4] at R3 w3 c2 d0
 obtain⟨x,w⟩: ∃x,x=vI a i ((a i).tick q):=⟨_,rfl⟩
 rw[←w] at R3;have e3:x i=(a i).tick q:=by rw[w];exact bU ..
 refine (mY oF.ok vt vS y s h3 (by rw[Y.len];omega) c2.si d0.si (λj hj=>by rw[Sp.len];exact Y.iN (by rw[←Y.len];exact hj))).mono ?_;rintro v O nw;have P:=Y.mul Sp;obtain⟨p,hp⟩:=exI ((aX y s).getD i 0);have f1:p<n:=by rw[←hp];exact P.iN hi
 have R4:=R3.mono nw.fr;have pv:=nw.pv (W:=WT n L B) (λJ=>by have:=R3.Nw J;omega)
 have cp:O.cell h3.next i=some (aC p):=by
  rw[H.aF nw.get,Ip (by rw[P.len];exact hi),hp]
 have e7:O.cell L (i*194+2+p)=some (B (i*194+2+p)):=R4.Sh hi om;have o:=R4.to i p hi om;have ev:=nw.val;rw[P.len] at ev;have f4:Fx (WT n L F2) K O:=c1.trans (Fx.of (W:=WT n L F2) nw.fr) (λ_ _ h=>h);simp(disch:=omega)only[go_sem,ev,cp,e7];rw[←ev];have a1: ∀r∈(a i).orb.take k,r≠q:=λr d e=>CK jX.nd b (by rw[hq,←e];exact d)
 cases hpo:(a i).to p with
 |none=>
  have a7:B (i*194+2+p)= .aE:=by
   rw[e3] at o;have o:Slot _ _ _ ((a i).to p):=o;rw[hpo] at o;exact o
  simp(disch:=omega)only[go_sem,a7];refine (Ce zT.ok v n (aX y s) (H.mk O.tr (O.next+15)) om P (pv.mono ((Fr.refl O).bA om)).si).mono ?_;rintro vu h5 nu;have f5:Fr O h5:=((Fr.refl O).bA om:Fr O (H.mk O.tr (O.next+15))).trans nu.fr;have R5:=R4.mono f5;have c3:=pv.mono f5;have c0:=nu.pv (W:=WT n L B) (λJ=>by have:=R4.Nw J;simp at this;omega);simp(disch:=omega)only[go_sem,R5.l,Fw c3.fG.1 c3.fG.2,Fw c0.fG.1 c0.fG.2,Jr,Mi,EX]
  obtain⟨F6,d5⟩: ∃F6,F6=F1 (F1 B (i*194+2+p) v) (i*194+66+p) vu:=⟨_,rfl⟩
  obtain⟨h6,b6⟩: ∃h6,h6=(h5.set L (some (Ob.cells false (rc (n*194) (F1 B (i*194+2+p) v))))).set L (some (Ob.cells false (rc (n*194) (F1 (F1 B (i*194+2+p) v) (i*194+66+p) vu)))):=⟨_,rfl⟩
  rw[←b6];obtain⟨R6,f6,w6⟩:=R5.way hi (q:=p) om c3 c0 (h3:=h6) (by rw[b6];exact fM _) (λid G _=>by rw[b6,H.aG _ G,H.aG _ G]) (by rw[b6,H.aS]);have eO:B (i*194+1)=F6 (i*194+1):=by rw[d5,EX om,EX om]
  rw[←d5] at R6 w6
  obtain⟨a3,a9⟩: ∃a3,a3=vI x i {x i with to:=λr=>if r=p then some (aX y s) else (x i).to r}:=⟨_,rfl⟩
  rw[←a9] at R6;have e6:a3 i={x i with to:=λr=>if r=p then some (aX y s) else (x i).to r}:=by rw[a9];exact bU ..
  have b1:(a3 i).orb=(a i).orb:=by rw[e6,e3];rfl
  simp(disch:=omega)only[go_sem,cT h6 (z:= aC 0) (v:= aC p) rfl rfl,eO]
  obtain⟨h7,b7⟩: ∃h7,h7=h6.new (.cells false [aC p]):=⟨_,rfl⟩
  have f7:Fr h6 h7:=by rw[b7];exact (Fr.refl h6).new _
  have n7:h7.next=h6.next+1:=by rw[b7];exact H.aU ..
  have g7:h7.get h6.next=some (.cells false [aC p]):=by rw[b7];exact H.aL ..
  rw[←b7];have R7:=R6.mono f7;have o7:=R7.orb i hi;rw[b1] at o7;obtain⟨h8,a8,p8⟩:=o7.push (bytes:=8) (SV.one om g7 (.kn 1)) (n:=(a i).orb.length) (m:=1) (by rw[fT,aQ,uW]) rfl om om om
  have gL:h8.get L=some (.cells false (rc (n*194) F6)):=by
   rw[p8.old L (by have:=R7.ln;omega) (by have:=R7.ap (2*i+1) om;rw[Jw] at this;exact this)];exact R7.l
  simp(disch:=omega)only[go_sem,a8,gL,Jr]
  obtain⟨h9,c4⟩: ∃h9,h9=h8.set L (some (.cells false (rc (n*194) (F1 F6 (i*194+1) (.sl h7.next 0 ((a i).orb.length+1) (.un 1)))))):=⟨_,rfl⟩
  rw[←c4];obtain⟨R9,f9,w9⟩:=R7.UW hi (q:=p) (by rw[b1];exact p8) (.inl rfl) (by rw[b1]) c4;rw[b1] at R9
  have eT:vI a3 i {a3 i with orb:=(a i).orb++ [p]}=vI a i (((a i).tick q).reach p (aX y s)):=by
   funext j
   by_cases e:j=i
   ·subst e
    rw[bU,bU,e6,e3];rfl
   ·rw[dZ _ _ e,dZ _ _ e,a9,dZ _ _ e,w,dZ _ _ e]
  rw[eT] at R9;have c9:=S.c.found hi hy ht a4 hp hpo;have ei:vI a i (((a i).tick q).reach p (aX y s)) i=((a i).tick q).reach p (aX y s):=bU ..
  have W9: ∀id,id<K.next->WT n L (F1 F6 (i*194+1) (.sl h7.next 0 ((a i).orb.length+1) (.un 1))) id->WT n L F2 id:=λid G J=>
   (w3 id).1 ((w6 id).1 (w9 id (by have:=f4.next;have:=f5.next;have:=f6.next;have:=f7.next;omega) J))
  have b5:WT n L B=WT n L F2:=funext λid=>propext (w3 id)
  have d6:WT n L F6=WT n L F2:=(funext λid=>propext (w6 id)).trans b5;rw[b5] at f6;rw[d6] at f9;have d9:Fx (WT n L F2) K h9:=f4.trans ((Fx.of f5).trans (f6.trans ((Fx.of f7).trans f9 (λ_ _ h=>h)) (λ_ _ h=>h)) (λ_ _ h=>h)) (λ_ _ h=>h);refine⟨(a i).gens.length-(t+1),om,_,_,aB rfl,⟨R9,c9,?_,?_,λj hj=>(dZ _ _ om).trans (S.low j hj),?_,S.fx.trans d9 λid G J=>S.wt id G J,λid G J=>S.wt id G (W9 id (by have:=S.fx.next;omega) J)⟩,?_,?_,?_⟩
  all_goals rw[ei]
  ·show k<=((a i).orb++ [p]).length
   rw[jZ];omega
  ·intro r d
   have d:r∈((a i).orb++ [p]).take k:=d;rw[List.take_append_of_le_length om] at d;show (if r=q then (a i).tr q+1 else (a i).tr r)=(a i).gens.length;rw[bI (a1 r d)];exact S.done r d
  ·exact S.gens
  ·show k<((a i).orb++ [p]).length
   rw[jZ];omega
  ·show ((a i).orb++ [p]).getD k 0=q
   rw[←hq,List.getD,List.getD,Dv b]
  ·show _=(a i).gens.length-(if q=q then (a i).tr q+1 else (a i).tr q)
   rw[bF rfl,ht]
 |some u=>
  have U:=jX.cU _ _ hpo
  have a7:PV (WT n L B) O (B (i*194+2+p)) u:=by
   rw[e3] at o;have o:Slot _ _ _ ((a i).to p):=o;rw[hpo] at o;exact o
  have sn:=Hv a7 (bE.ne om U) false;have ct:O.cell Q 0=some (aC n):=by rw[H.aF R4.t];rfl
  have e1:O.cell L (i*194+66+p)=some (B (i*194+66+p)):=R4.Sh hi om
  have d8:PV (WT n L B) O (B (i*194+66+p)) (dA u):=by
   have:=R4.iv i p hi om;rw[e3] at this;have this:Slot _ _ _ (((a i).to p).map dA):=this;rw[hpo] at this;exact this
  simp(disch:=omega)only[go_sem,sn,ct]
  by_cases b8:(i:Int)+1<(n:Int)
  ·rw[oQ b8]
   simp(disch:=omega)only[go_sem,e1];refine (mY oF.ok v _ (aX y s) (dA u) O (by rw[P.len];omega) pv.si d8.si (λj hj=>by rw[jQ,U.len];exact P.iN (by rw[←P.len];exact hj))).mono ?_;rintro v2 h5 nu;have R5:=R4.mono nu.fr;have Z:=P.mul U.inv;have pz:=nu.pv (W:=WT n L B) (λJ=>by have:=R4.Nw J;omega);obtain⟨_,b2,_⟩:=S.c.Mu hi hy (AW a4) (by rw[hp];exact hpo);simp(disch:=omega)only[go_sem];rw[eJ i];refine (A om h5 Q L B x v2 _ R5 pz Z b2 ?_).mono ?_
   ·rw[w];exact S.c.up.afT om
   rintro vv h6 ⟨F6,a3,R6,a6,f6,w6⟩;rw[w] at a6;obtain⟨c6,e6,l6⟩:=aeG S.c om hy ht a4 (by rw[hp];exact hpo) rfl a6;have b5:WT n L B=WT n L F2:=funext λid=>propext (w3 id)
   rw[b5] at f6 w6;have e5:Fx (WT n L F2) K h6:=f4.trans ((Fx.of nu.fr).trans f6 (λ_ _ h=>h)) (λ_ _ h=>h);simp(disch:=omega)only[go_sem];refine⟨(a i).gens.length-(t+1),om,_,_,aB rfl,⟨R6,c6,?_,?_,λj hj=>(l6 j hj).trans (S.low j hj),?_,S.fx.trans e5 λid G J=>S.wt id G J,λid G J=>S.wt id G (w6 id (by have:=S.fx.next;have:=f4.next;have:=nu.fr.next;omega) J)⟩,?_,?_,?_⟩
   all_goals rw[e6]
   ·exact Nat.le_of_lt b
   ·intro r d
    have d:r∈(a i).orb.take k:=d;show (if r=q then (a i).tr q+1 else (a i).tr r)=(a i).gens.length;rw[bI (a1 r d)];exact S.done r d
   ·exact S.gens
   ·exact b
   ·exact hq
   ·show _=(a i).gens.length-(if q=q then (a i).tr q+1 else (a i).tr q)
    rw[bF rfl,ht]
  ·rw[bH b8]
   obtain⟨e0,b2,_⟩:=S.c.Mu hi hy (AW a4) (by rw[hp];exact hpo);have en:i+1=n:=om
   have c6:=S.c.tick hy ht a4 (by rw[hp];exact hpo) (by
    rw[en];rw[en] at b2
    exact vB.2 (b2.all e0))
   simp(disch:=omega)only[go_sem];rw[w] at R4;have e6:vI a i ((a i).tick q) i=(a i).tick q:=bU ..;refine⟨(a i).gens.length-(t+1),om,_,_,aB rfl,⟨R4,c6,?_,?_,λj hj=>(dZ _ _ om).trans (S.low j hj),?_,S.fx.trans f4 λid G J=>S.wt id G J,λid G J=>S.wt id G ((w3 id).1 J)⟩,?_,?_,?_⟩
   all_goals rw[e6]
   ·exact Nat.le_of_lt b
   ·intro r d
    have d:r∈(a i).orb.take k:=d;show (if r=q then (a i).tr q+1 else (a i).tr r)=(a i).gens.length;rw[bI (a1 r d)];exact S.done r d
   ·exact S.gens
   ·exact b
   ·exact hq
   ·show _=(a i).gens.length-(if q=q then (a i).tr q+1 else (a i).tr q)
    rw[bF rfl,ht]
def yX (τ:pM)(i m:Nat)(r:List Nat):pM:=λj=>if i<=j/\j<m then (τ j).more r else τ j
theorem DQ (τ:pM)(i:Nat)(r:List Nat):yX τ i i r=τ:=by
 funext j;unfold yX;rw[bI om]
theorem BW (τ:pM){i m:Nat}(r:List Nat)(h:i<=m):vI (yX τ i m r) m ((yX τ i m r m).more r)=yX τ i (m+1) r:=by
 funext j
 by_cases e:j=m
 ·subst e
  rw[bU];unfold yX;rw[bI om,bF om]
 ·rw[dZ _ _ e]
  unfold yX
  by_cases a:i<=j/\j<m
  ·rw[bF a,bF om]
  ·rw[bI a,bI om]
theorem EC (τ:pM)(i k:Nat)(r:List Nat):yX τ i (k+1) r=push τ i k r:=by
 funext j;unfold yX push
 by_cases h:i<=j/\j<=k
 ·rw[bF h,bF om]
 ·rw[bI h,bI om]
theorem aeY (a b c:Nat)(d:Kh):dE (.sl a b c d) (.sl a b c d)=true:=by simp [dE]
theorem Tv (n b:Nat)(hn:n<=7)(hi:b<n)(C: ∀j,b<=j->j<n->Wa n j):XH n b:=by
 intro h a L F τ vx x R hx X Fi t;refine cV uH rfl ?_;simp(disch:=omega)only[go_sem,uH,aD];refine (aaD h n a L F τ vx x b om om R hx X om t).mono ?_;have B:=TR (n-b) b x om t X Fi;obtain⟨k,hk⟩:=exI ((Zc n τ (n-b) b x).1);obtain⟨r,hr⟩:=exI ((Zc n τ (n-b) b x).2);rw[hk,hr] at B ⊢;rintro _ y ⟨vr,rfl,G,Rr,f1⟩;have R1:=R.mono f1;have ct:y.cell a 0=some (aC n):=by rw[H.aF R1.t];rfl
 simp(disch:=omega)only[go_sem,ct]
 by_cases a2:(k:Int)=(n:Int)
 ·rw[oQ a2]
  have e:k=n:=om
  subst e;simp(disch:=omega)only[go_sem];exact⟨F,τ,R1,Iw.none t hi (B.in t hi),Fx.of f1,λ_ _ h=>h⟩
 rw[bH a2];have o:k<n:=by have:=B.le;omega
 have a7:=B.ge;simp(disch:=omega)only[go_sem]
 refine aH (λv d P=> ∃(m:Nat) (O:Nat->V),(∃g:Nat->V,d= [.ptr a 0,g 1,aC b,aC k,vr,aC m,g 6,g 7,g 8,g 9])/\b<=m/\m<=k+1/\rX P n a L O (yX τ b m r)/\PV (WT n L O) P vr r/\
   Fx (WT n L F) h P/\(∀id,id<h.next->WT n L O id->WT n L F id)/\v=k+1-m) (k+1-b)
  ⟨b,F,aB rfl,fM _,om,by rw[DQ];exact R1,G,Fx.of f1,λ_ _ h=>h,rfl⟩ ?_
 clear R1 ct G f1;rintro v d i ⟨m,F2,⟨g,rfl⟩,s,U,z,G,f2,w2,rfl⟩;simp(disch:=omega)only[go_sem]
 by_cases f:(m:Int)<=(k:Int)
 ·rw[oQ f]
  have q:m<n:=om
  have cl:i.cell a 1=some (.sl L 0 n (.kn n)):=by rw[H.aF z.t];rfl
  have cg:i.cell L (m*194)=some (F2 (m*194)):=by
   have:=z.cell (c:=0) q om;rwa [Nat.add_zero] at this
  have A:yX τ b m r m=τ m:=by unfold yX;rw[bI om]
  have ln:=z.ln;have tn:=z.tn;simp(disch:=omega)only[go_sem,cl,cg,cT _ G.fG.1 G.fG.2]
  obtain⟨w,u⟩: ∃w:H,w=H.mk ((H.mk i.tr (i.next+14)).new (Ob.cells false [vr])).tr (i.next+19):=⟨_,rfl⟩
  rw[←u];have g3:w.get (i.next+14)=aZ [vr]:=by rw[u];exact H.aL (H.mk i.tr (i.next+14)) _
  have n3:w.next=i.next+19:=by rw[u]
  have J:Fr i w:=⟨om,λid a9=>by rw[u];exact H.bG (H.mk i.tr (i.next+14)) (by simp;omega) _⟩
  have p:=z.mono J;have a1:=G.mono J;obtain⟨vs,o3,K⟩:=p.gens m q;rw[A] at K;have jX:=(t m s q).1;have a8:(τ m).gens.length<=1000000:=mT jX.many (mT (Nat.pow_le_pow_left hn n) (mT (Nat.pow_le_pow_right om hn) (by decide)));obtain⟨h4,a4,p4⟩:=o3.push (bytes:=24) (SV.one om g3 (.kn 1)) (n:=(τ m).gens.length) (m:=1) (by have:=aM.length K;omega) rfl om om om;have gt:h4.get a=w.get a:=p4.old a om (λid a5 nn c e e2=>p.tw (.inr ⟨2*m,om,a5,nn,c,by rw[Hr,e2];exact e⟩))
  have gL:h4.get L=aZ (rc (n*194) F2):=by
   rw[p4.old L om (by have:=p.ap (2*m) om;rw[Hr] at this;exact this)];exact p.l
  have a6:h4.cell a 1=some (.sl L 0 n (.kn n)):=by unfold H.cell;rw[gt,p.t];rfl
  have hN:m*194+194<=n*194:=om
  simp(disch:=omega)only[go_sem,a4,a6,aeY,gL,Jr]
  obtain⟨h5,a0⟩: ∃h5,h5=h4.set L (aZ (rc (n*194) (F1 F2 (m*194) (.sl w.next 0 ((τ m).gens.length+1) (.un 1))))):=⟨_,rfl⟩
  rw[←a0];obtain⟨R5,f5,w5⟩:=p.more q (by rw[A];exact K) a1 (by rw[A];exact p4) (by rw[A]) a0;rw[BW τ r s] at R5;rw[eJ m];refine⟨k+1-(m+1),om,m+1,_,aB rfl,om,om,R5,PV.go a1 f5 w5,f2.trans ((Fx.of (W:=WT n L F2) J).trans f5 (λ_ _ h=>h)) (λid y N=>w2 id y N),λid y N=>w2 id y (w5 id (by have:=f2.next;omega) N),rfl⟩
 rw[bH f];have A:m=k+1:=om
 subst A;rw[EC] at z;simp(disch:=omega)only[go_sem];have Y:=Nu.start B t o
 refine aH (λv d P=> ∃(m:Nat) (O:Nat->V) (Z:pM),(∃g:Nat->V,d= [.ptr a 0,g 1,aC b,g 3,g 4,g 5,aC ((m:Int)- 1),g 7,g 8,g 9])/\b<=m/\m<=k+1/\rX P n a L O Z/\Nu n b k r τ Z m/\
   Fx (WT n L F) h P/\(∀id,id<h.next->WT n L O id->WT n L F id)/\v=m) (k+1)
  ⟨k+1,F2,_,aB (by rw[show ((k+1:Nat):Int)- 1=(k:Int) from om];rfl),om,om,z,Y,f2,w2,rfl⟩ ?_
 clear z Y f2 w2 G f s U;rintro v d w ⟨m,F3,Q,⟨g3,rfl⟩,s,U,p,AI,J,w3,hm⟩;subst hm;simp(disch:=omega)only[go_sem]
 by_cases f:(b:Int)<=(v:Int)- 1
 ·rw[oQ f]
  obtain⟨j,rfl⟩: ∃j,v=j+1:=⟨v- 1,om⟩
  have ci:=AI.ci B t o om om;simp(disch:=omega)only[go_sem];rw[show ((j+1:Nat):Int)- 1=(j:Int) from om];refine (C j om om w a L F3 Q p ci).mono ?_;rintro _ h4 ⟨F4,a3,R4,t4,l4,g4,f4,w4⟩;simp(disch:=omega)only[go_sem];refine⟨j,om,j,F4,a3,aB rfl,om,om,R4,AI.next om om l4 g4 t4,J.trans f4 (λid y N=>w3 id y N),λid y N=>w3 id y (w4 id (by have:=J.next;omega) N),rfl⟩
 rw[bH f];have A:v=b:=om
 rw[A] at AI;simp(disch:=omega)only[go_sem];exact⟨F3,Q,p,AI.done B t X o,J,w3⟩
theorem Vf (n:Nat)(b:n<=7): ∀d i,i+d=n->(i<n->XH n i)/\(i<n->Wa n i)
 |0,i,h=>⟨λa=>om,λa=>om⟩
 |d+1,i,h=>by
  have f:=Vf n b d (i+1) om
  have c: ∀j,i<=j->j<n->Wa n j:=λj l a=>by
   by_cases e:j=i
   ·subst e;exact Vp n j b a λk=>f.1 k
   ·exact (Vf n b (n-j) j om).2 a
  exact⟨λa=>Tv n i b a c,λa=>c i (fM _) a⟩
termination_by d=>d
theorem adY (n:Nat)(b:n<=7)(a:0<n):XH n 0:=(Vf n b n 0 om).1 a
end Go.Proofs.YtcdbmkidaecdiaaGreat
namespace Go.Pm
set_option maxRecDepth 100000
section
variable {x y:List Nat} {R:PZ}
def Lt (x y:List Nat):Prop:= ∃k,k<x.length/\(∀j,j<k->x.getD j 0=y.getD j 0)/\x.getD k 0<y.getD k 0
def Le (x y:List Nat):Prop:=x=y∨Lt x y
theorem Lt.asymm (a:Lt x y)(b:Lt y x):False:=by
 obtain⟨k,_,d,f⟩:=a;obtain⟨m,_,c,i⟩:=b;rcases Nat.lt_trichotomy k m with h|h|h
 ·have:=c k h;omega
 ·subst h;omega
 ·have:=d m h;omega
theorem Le.antisymm (a:Le x y)(b:Le y x):x=y:=by
 rcases a with a|a
 ·exact a
 ·rcases b with b|b
  ·exact b.symm
  ·exact (a.asymm b).elim
def oI (x:List Nat):Nat->List Nat->Nat
 |b, []=>b
 |b,q::l=>oI x (if x.getD q 0<x.getD b 0 then q else b) l
theorem EZ (x:List Nat): ∀(l:List Nat) (b:Nat),oI x b l∈b::l/\ ∀q∈b::l,x.getD (oI x b l) 0<=x.getD q 0
 | [],b=>⟨by simp [oI],λq d=>by simp at d;subst d;exact Nat.le_refl _⟩
 |q::l,b=>by
  have c:=EZ x l (if x.getD q 0<x.getD b 0 then q else b);unfold oI;refine⟨?_,λr a=>?_⟩
  ·rcases List.mem_cons.1 c.1 with h|h
   ·rw[h];split<;>simp
   ·exact List.mem_cons_of_mem _ (List.mem_cons_of_mem _ h)
  ·have f:=c.2 _ (List.mem_cons_self ..)
   rcases List.mem_cons.1 a with rfl|a
   ·split at f<;>(split<;>omega)
   ·rcases List.mem_cons.1 a with rfl|a
    ·split at f<;>(split<;>omega)
    ·exact c.2 r (List.mem_cons_of_mem _ a)
def Kb (τ:pM):Nat->Nat->List Nat->List Nat
 |0,_,x=>x
 |d+1,k,x=>Kb τ d (k+1) (if oI x k (τ k).orb=k then x else aX (((τ k).to (oI x k (τ k).orb)).getD []) x)
section
variable {n:Nat} {τ:pM} {G:List Nat->Prop}
theorem VH: ∀(d k:Nat) (x:List Nat),k+d=n->pI n k τ->bE n x-> ∃h,S n τ k h/\Kb τ d k x=aX h x/\ ∀g,S n τ k g->Le (Kb τ d k x) (aX g x)
 |0,k,x,h,_,X=>by
  obtain rfl:k=n:=oq
  refine⟨bL k,vB.2 rfl,(mN X).symm,λg f=> .inl ?_⟩;rw[vB] at f;subst f;exact (mN X).symm
 |d+1,k,x,h,t,X=>by
  have a:k<n:=oq
  have L:=(t k (Nat.le_refl _) a).1;have m:=t.mono (Nat.le_succ k);obtain⟨J,K⟩:=EZ x (τ k).orb k
  have A:oI x k (τ k).orb∈(τ k).orb:=by
   rcases List.mem_cons.1 J with h|h
   ·rw[h];exact L.base
   ·exact h
  obtain⟨y,c⟩:=L.to A;have Y:=L.cU _ y c
  have o:(if oI x k (τ k).orb=k then x else aX (((τ k).to (oI x k (τ k).orb)).getD []) x)=aX y x:=by
   split
   ·rename_i e
    rw[e,L.one] at c;cases c;exact (mN X).symm
   ·rw[c];rfl
  unfold Kb;rw[o];obtain⟨g,f,e,z⟩:=VH d (k+1) (aX y x) oq m (Y.mul X);have i:=m.cU a f;have p:S n τ k (aX g y):=(qD a).2 ⟨_,y,g,c,f,rfl⟩;refine⟨aX g y,p,by rw[e,aV i Y X],λu r=>?_⟩;have U:=t.cU oq r;obtain⟨v,l,w⟩:=t.sift a r;have b:=L.mem l;have V:=L.cU _ v l;have N:(aX u x).getD k 0=x.getD (u.getD k 0) 0:=cM (by rw[U.len];exact a)
  have F:(aX g (aX y x)).getD k 0=x.getD (oI x k (τ k).orb) 0:=by
   rw[cM (by rw[i.len];exact a),m.fix a f k oq,cM (by rw[Y.len];exact a),L.maps _ y c]
  have O:=K _ (List.mem_cons_of_mem _ b)
  by_cases q:x.getD (oI x k (τ k).orb) 0<x.getD (u.getD k 0) 0
  ·rw[e]
   refine .inr ⟨k,by rw[eY,i.len];exact a,λj B=>?_,by rw[N,F];exact q⟩;rw[cM (by rw[i.len];omega),m.fix a f j oq,cM (by rw[Y.len];omega),L.fix _ y c j B,cM (by rw[U.len];omega),t.fix oq r j B]
  ·have s:oI x k (τ k).orb=u.getD k 0:=X.inj (L.lt a A) (L.lt a b) oq
   rw[←s,c] at l;cases l;have:=z _ w;rwa [aV U Y.inv (Y.mul X),←aV Y.inv Y X,iE Y,mN X] at this
structure Xf (n:Nat)(G:List Nat->Prop)(i p:Nat)(x:List Nat):Prop where
 mem:G x
 fix:Fix i x
 maps:x.getD i 0=p
 least: ∀y,G y->Fix i y->y.getD i 0=p->Le x y
theorem Xf.uniq {i p:Nat}(a:Xf n G i p x)(b:Xf n G i p y):x=y:=
 (a.least y b.mem b.fix b.maps).antisymm (b.least x a.mem a.fix a.maps)
structure bC (n:Nat)(G:List Nat->Prop)(O:zI)(R:PZ):Prop where
 lo:O.length=n
 lr:R.length=n
 asc: ∀i,i<n->(O.getD i []).Pairwise (· < ·)
 mem: ∀i,i<n-> ∀p,p∈O.getD i []↔ ∃x,G x/\Fix i x/\x.getD i 0=p
 rl: ∀i,i<n->(R.getD i []).length=(O.getD i []).length
 rep: ∀i,i<n-> ∀k,k<(O.getD i []).length->Xf n G i ((O.getD i []).getD k 0) ((R.getD i []).getD k [])
theorem VD: ∀{a b:List Nat},a.Pairwise (· < ·)->b.Pairwise (· < ·)->(∀p,p∈a↔p∈b)->a=b
 | [], [],_,_,_=>rfl
 | [],y::b,_,_,h=>by have:=(h y).2 (by simp);simp at this
 |x::a, [],_,_,h=>by have:=(h x).1 (by simp);simp at this
 |x::a,y::b,ha,hb,h=>by
  obtain⟨k,m⟩:=List.pairwise_cons.1 ha;obtain⟨j,l⟩:=List.pairwise_cons.1 hb
  have e:x=y:=by
   have f:=(h x).1 (by simp);have c:=(h y).2 (by simp);rcases List.mem_cons.1 f with f|f
   ·exact f
   ·rcases List.mem_cons.1 c with c|c
    ·exact c.symm
    ·have:=j x f;have:=k y c;omega
  subst e;congr 1
  refine VD m l λp=>⟨λd=>?_,λd=>?_⟩
  ·rcases List.mem_cons.1 ((h p).1 (List.mem_cons_of_mem _ d)) with e|i
   ·subst e;have:=k p d;omega
   ·exact i
  ·rcases List.mem_cons.1 ((h p).2 (List.mem_cons_of_mem _ d)) with e|i
   ·subst e;have:=j p d;omega
   ·exact i
theorem Ff {α:Type}{d:α}{a b:List α}(f:a.length=b.length)(h: ∀i,i<a.length->a.getD i d=b.getD i d):a=b:=by
 refine List.ext_getElem f λi c j=>?_
 have:=h i c;simpa [List.getD,c,j] using this
theorem bC.uniq {O c:zI}{h:PZ}(a:bC n G O R)(b:bC n G c h):O=c/\R=h:=by
 have e:O=c:=Ff (d:= []) (by rw[a.lo,b.lo]) λi hi=>by
  rw[a.lo] at hi;exact VD (a.asc i hi) (b.asc i hi) λp=>(a.mem i hi p).trans (b.mem i hi p).symm
 subst e;refine⟨rfl,Ff (d:= []) (by rw[a.lr,b.lr]) λi hi=>?_⟩;rw[a.lr] at hi;refine Ff (d:= []) (by rw[a.rl i hi,b.rl i hi]) λk f=>?_
 rw[a.rl i hi] at f;exact (a.rep i hi k f).uniq (b.rep i hi k f)
theorem bC.congr {H:List Nat->Prop}{O:zI}(a:bC n G O R)(h: ∀x,G x↔H x):bC n H O R:=by
 have:G=H:=funext λx=>propext (h x)
 exact this▸a
theorem pI.chain (t:pI n 0 τ){O:zI}(K:O.length=n)(F:R.length=n)
  (m: ∀i,i<n->(O.getD i []).Pairwise (· < ·)) (mem: ∀i,i<n-> ∀p,p∈O.getD i []↔p∈(τ i).orb) (N: ∀i,i<n->(R.getD i []).length=(O.getD i []).length)
  (f: ∀i,i<n-> ∀k,k<(O.getD i []).length-> ∀y,(τ i).to ((O.getD i []).getD k 0)=some y->(R.getD i []).getD k []=Kb τ (n-(i+1)) (i+1) y):bC n (S n τ 0) O R:=by
 refine⟨K,F,m,λi hi p=>?_,N,λi hi k l=>?_⟩
 ·have L:=(t i (Nat.zero_le _) hi).1
  have d:=t.mono (Nat.zero_le i)
  rw[mem i hi p]
  constructor
  ·intro q
   obtain⟨y,a⟩:=L.to q
   have B:S n τ i y:=(d.gen hi).2 (L.gen p y a)
   have:=(t.Xo (Nat.zero_le i) oq).1 B
   exact⟨y,this.1,this.2,L.maps p y a⟩
  ·rintro⟨x,c,j,rfl⟩
   obtain⟨y,a,_⟩:=d.sift hi ((t.Xo (Nat.zero_le i) oq).2 ⟨c,j⟩)
   exact L.mem a
 ·have L:=(t i (Nat.zero_le _) hi).1
  have d:=t.mono (Nat.zero_le i)
  have r:=t.mono (Nat.zero_le (i+1))
  have q:(O.getD i []).getD k 0∈O.getD i []:=by
   rw[cJ l];exact List.getElem_mem l
  obtain⟨y,a⟩:=L.to ((mem i hi _).1 q)
  rw[f i hi k l y a]
  generalize (O.getD i []).getD k 0=p at a
  have Y:=L.cU p y a
  obtain⟨h,s,e,b⟩:=VH (n-(i+1)) (i+1) y oq r Y
  have H:=r.cU hi s
  have o:S n τ i (aX h y):=(qD hi).2 ⟨p,y,h,a,s,rfl⟩
  have A:=(t.Xo (Nat.zero_le i) oq).1 o
  rw[e] at b ⊢
  refine⟨A.1,A.2,?_,λz c j J=>?_⟩
  ·rw[cM (by rw[H.len];exact hi),r.fix hi s i oq,L.maps p y a]
  ·obtain⟨v,w,u⟩:=d.sift hi ((t.Xo (Nat.zero_le i) oq).2 ⟨c,j⟩)
   rw[J,a] at w
   cases w
   have Z:=t.cU (Nat.zero_le _) c
   have:=b _ u
   rwa [aV Z Y.inv Y,iE Y,bZ Z] at this
theorem Iw.group {i:Nat}{d:pM}(a:Iw n i x τ d)(t:pI n i τ)(hi:i<n)(X:bE n x)(z:List Nat):Go.Pm.S n d i z↔bX n (λg=>Go.Pm.S n τ i g∨g=x) z:=by
 have L:=(t i (Nat.le_refl _) hi).1
 have f: ∀g,(Go.Pm.S n τ i g∨g=x)->bE n g:=λg b=>by
  rcases b with b|rfl
  ·exact t.cU oq b
  ·exact X
 rw[a.tw.gen hi];constructor
 ·intro h
  refine h.le (bX.dN f) λg b=>(a.new g b).mono λu c=>?_
  rcases c with c|c
  ·exact .inl ((t.gen hi).2 (bX.of L.gP c))
  ·exact .inr c
 ·intro h
  refine h.le (bX.dN (a.tw i (Nat.le_refl _) hi).1.gP) λg b=>?_
  rcases b with b|rfl
  ·exact ((t.gen hi).1 b).mono a.old
  ·exact a.has
end
end
section
variable {j:Nat} {y:List Nat}
abbrev rL:=Nat->Nat->Option (List Nat)
def ins (t:rL):Nat->Nat->List Nat->Option (Nat×List Nat)
 |0,_,_=>none
 |d+1,i,x=>if x.getD i 0=i then ins t d (i+1) x else
  match t i (x.getD i 0) with
  |none=>some (i,x)
  |some y=>ins t d (i+1) (aX x (dA y))
def dd:zI->zI
 | []=> []
 |a::l=>if a∈dd l then dd l else a::dd l
theorem Vh {a:List Nat}: ∀{l:zI},a∈dd l↔a∈l
 | []=>Iff.rfl
 |b::l=>by
  unfold dd;have d:=Vh (a:=a) (l:=l);split
  ·rename_i h
   rw[d];constructor
   ·exact List.mem_cons_of_mem _
   ·intro c
    rcases List.mem_cons.1 c with rfl|c
    ·exact d.1 h
    ·exact c
  ·simp [d]
theorem Ms: ∀l:zI,(dd l).Nodup
 | []=>List.nodup_nil
 |b::l=>by
  unfold dd;split
  ·exact Ms l
  ·rename_i h;exact List.nodup_cons.2 ⟨h,Ms l⟩
def fR (n:Nat)(t:rL)(j:Nat):zI:=(List.range n).flatMap λi=>if j<=i then (List.range n).filterMap λp=>t i p else []
theorem fV {n:Nat}{t:rL}:y∈fR n t j↔ ∃i p,j<=i/\i<n/\p<n/\t i p=some y:=by
 simp only[fR,List.mem_flatMap,List.mem_range];constructor
 ·rintro⟨i,hi,h⟩
  split at h
  ·rename_i b
   obtain⟨p,a,e⟩:=List.mem_filterMap.1 h;exact⟨i,p,b,hi,List.mem_range.1 a,e⟩
  ·simp at h
 ·rintro⟨i,p,b,hi,a,e⟩
  refine⟨i,hi,?_⟩;rw[if_pos b];exact List.mem_filterMap.2 ⟨p,List.mem_range.2 a,e⟩
def kX (n:Nat)(t:rL):pM:=λj=>
 {gens:=dd (fR n t j)
  orb:=(List.range n).filter λp=>p==j||(t j p).isSome
  to:=λp=>if p=j then some (bL n) else t j p
  tr:=λq=>if q=j∨(t j q).isSome then (dd (fR n t j)).length else 0}
structure oK (n:Nat)(t:rL):Prop where
 lt: ∀i p y,t i p=some y->i<n/\p<n/\p≠i
 cU: ∀i p y,t i p=some y->bE n y
 fix: ∀i p y,t i p=some y->Fix i y
 maps: ∀i p y,t i p=some y->y.getD i 0=p
def Jh (n:Nat)(t:rL):Prop:= ∀a b,a∈fR n t 0->b∈fR n t 0->ins t n 0 (aX a b)=none
section
variable {n:Nat} {t:rL}
theorem uN {p:Nat}(T:oK n t)(b:j<n)(h:(kX n t j).to p=some y):bE n y/\Fix j y/\y.getD j 0=p/\(p=j/\y=bL n∨t j p=some y):=by
 have a:(if p=j then some (bL n) else t j p)=some y:=h;split at a
 ·rename_i e
  cases a;exact⟨bE.one n,Fix.one n j oq,by rw[e];exact fQ b,.inl ⟨e,rfl⟩⟩
 ·exact⟨T.cU _ _ _ a,T.fix _ _ _ a,T.maps _ _ _ a,.inr a⟩
theorem QM (T:oK n t): ∀(d j:Nat) (x:List Nat),j+d=n->S n (kX n t) j x->bE n x/\Fix j x
 |0,j,x,h,hs=>by
  obtain rfl:j=n:=oq
  rw[vB] at hs;subst hs;exact⟨bE.one j,Fix.one j j (Nat.le_refl _)⟩
 |d+1,j,x,h,hs=>by
  obtain⟨p,y,g,b,a,rfl⟩:=(qD oq).1 hs;obtain⟨G,F⟩:=QM T d (j+1) g oq a;obtain⟨Y,F2,_⟩:=uN T oq b;exact⟨G.mul Y,Fix.mul G oq (F.mono oq) F2⟩
theorem Ng (j:Nat)(a:j<n){x:List Nat}(X:bE n x)(h:S n (kX n t) (j+1) x):S n (kX n t) j x:=
 (qD a).2 ⟨j,bL n,x,by show (if j=j then some (bL n) else t j j)=_;rw[if_pos rfl],h,(bZ X).symm⟩
theorem Zr: ∀(d j:Nat),j+d=n->S n (kX n t) j (bL n)
 |0,j,h=>by
         obtain rfl:j=n:=oq
         exact vB.2 rfl
 |d+1,j,h=>Ng j oq (bE.one n) (Zr d (j+1) oq)
theorem Mw (T:oK n t): ∀(d j:Nat) (x:List Nat),j+d=n->bE n x->Fix j x->ins t d j x=none->S n (kX n t) j x
 |0,j,x,h,X,F,_=>by
  obtain rfl:j=n:=oq
  exact vB.2 (F.all X)
 |d+1,j,x,h,X,F,hi=>by
  unfold ins at hi;split at hi
  ·rename_i e
   exact Ng j oq X (Mw T d (j+1) x oq X (F.succ e) hi)
  ·rename_i e
   split at hi
   ·cases hi
   ·rename_i y a
    have Y:=T.cU _ _ _ a;have F2:=T.fix _ _ _ a;refine (qD oq).2 ⟨x.getD j 0,y,aX x (dA y),?_,?_,by rw[aV X Y.inv Y,iE Y,bZ X]⟩
    ·show (if x.getD j 0=j then some (bL n) else t j (x.getD j 0))=_
     rw[if_neg e];exact a
    ·refine Mw T d (j+1) _ oq (X.mul Y.inv) ((Fix.mul X oq F (Fix.inv Y oq F2)).succ ?_) hi
     rw[cM (by rw[X.len];omega)];have:=afU Y (show j<n by omega);rwa [T.maps _ _ _ a] at this
theorem Zg: ∀(k d j:Nat) (x:List Nat),Fix (j+k) x->ins t (d+k) j x=ins t d (j+k) x
 |0,_,_,_,_=>rfl
 |k+1,d,j,x,F=>by
  have e:ins t (d+k+1) j x=ins t (d+k) (j+1) x:=by
   show (if x.getD j 0=j then ins t (d+k) (j+1) x else _)=_;rw[if_pos (F j oq)]
  rw[show d+(k+1)=(d+k)+1 from rfl,e,Zg k d (j+1) x (by rw[show j+1+k=j+(k+1) from oq];exact F),show j+1+k=j+(k+1) from oq]
theorem OC (T:oK n t)(c:Jh n t){a b:List Nat}(l:j<=n)(f:a∈fR n t 0)(k:b∈fR n t 0)(A:bE n a)(B:bE n b)(d:Fix j a)(i:Fix j b):S n (kX n t) j (aX a b):=by
 have F:=Fix.mul A l d i;have h:=c a b f k;rw[show n=(n-j)+j from oq,Zg j (n-j) 0 _ (by rw[Nat.zero_add];exact F),Nat.zero_add] at h;exact Mw T (n-j) j _ oq (A.mul B) F h
theorem ahI (T:oK n t)(h:y∈fR n t j):S n (kX n t) j y:=by
 obtain⟨i,p,f,b,c,e⟩:=fV.1 h;have Y:=T.cU _ _ _ e
 have a:S n (kX n t) i y:=by
  refine (qD b).2 ⟨p,y,bL n,?_,Zr (n-(i+1)) (i+1) oq,(mN Y).symm⟩;show (if p=i then some (bL n) else t i p)=_;rw[if_neg (T.lt _ _ _ e).2.2];exact e
 have: ∀k,k<=i->S n (kX n t) (i-k) y:=by
  intro k
  induction k with
  |zero=>intro _;exact a
  |succ k ih=>
   intro d;refine Ng (i-(k+1)) oq Y ?_;rw[show i-(k+1)+1=i-k from oq];exact ih oq
 have:=this (i-j) oq;rwa [show i-(i-j)=j from oq] at this
theorem alW (T:oK n t)(c:Jh n t):pI n 0 (kX n t):=λj _ f=>by
 have d: ∀p,p∈(kX n t j).orb↔((kX n t j).to p).isSome:=by
  intro p;show p∈(List.range n).filter (λp=>p==j||(t j p).isSome)↔(if p=j then some (bL n) else t j p).isSome;rw[List.mem_filter,List.mem_range]
  by_cases e:p=j
  ·subst e;simp [f]
  ·simp only[beq_iff_eq,e,if_neg,Bool.or_eq_true,false_or]
   constructor
   ·exact λh=>h.2
   ·intro h
    obtain⟨y,A⟩:=Option.isSome_iff_exists.1 h;exact⟨(T.lt _ _ _ A).2.1,h⟩
 have a: ∀s,s∈(kX n t j).gens↔s∈fR n t j:=λs=>Vh
 have b: ∀s,s∈fR n t j->bE n s/\Fix j s/\s∈fR n t 0:=λs l=>by
  obtain⟨i,p,w,o,r,e⟩:=fV.1 l;exact⟨T.cU _ _ _ e,(T.fix _ _ _ e).mono w,fV.2 ⟨i,p,Nat.zero_le _,o,r,e⟩⟩
 refine⟨⟨List.nodup_range.filter _,(d j).2 ?_,?_,d,λp y h=>(uN T f h).1,λp y h=>(uN T f h).2.1,λp y h=>(uN T f h).2.2.1,λp y h=>?_,λs l=>(b s ((a s).1 l)).1,λs l=>(b s ((a s).1 l)).2.1,Ms _,λq=>?_,λq x=>?_⟩,λq y A k s W l=>?_,λq x=>?_,λh s l=>?_⟩
 ·show (if j=j then some (bL n) else t j j).isSome
  rw[if_pos rfl];rfl
 ·show (if j=j then some (bL n) else t j j)=_
  rw[if_pos rfl]
 ·rcases (uN T f h).2.2.2 with ⟨_,rfl⟩|e
  ·exact .one
  ·refine bX.of (λg G=>(b g ((a g).1 G)).1) ((a y).2 (fV.2 ⟨j,p,Nat.le_refl _,f,(T.lt _ _ _ e).2.1,e⟩))
 ·show (if q=j∨(t j q).isSome then (dd (fR n t j)).length else 0)<=_
  split
  ·exact Nat.le_refl _
  ·exact Nat.zero_le _
 ·show (if q=j∨(t j q).isSome then (dd (fR n t j)).length else 0)=0
  rw[if_neg];rintro (e|e)
  ·exact x ((d q).2 (by show (if q=j then some (bL n) else t j q).isSome;rw[if_pos e];rfl))
  ·refine x ((d q).2 ?_)
   show (if q=j then some (bL n) else t j q).isSome;split
   ·rfl
   ·exact e
 ·--closure
  have v:s∈fR n t j:=(a s).1 (List.mem_of_getElem? l);obtain⟨K,P,z⟩:=b s v;obtain⟨Y,L,my,m⟩:=uN T f A
  have Q:S n (kX n t) j (aX y s):=by
   rcases m with ⟨_,rfl⟩|e
   ·rw[mN K];exact ahI T v
   ·exact OC T c oq (fV.2 ⟨j,q,Nat.zero_le _,f,(T.lt _ _ _ e).2.1,e⟩) z Y K L P
  obtain⟨p,u,g,w,o,r⟩:=(qD f).1 Q;obtain⟨U,Z,N,_⟩:=uN T f w;obtain⟨B,R⟩:=QM T (n-(j+1)) (j+1) g oq o
  have O:(aX y s).getD j 0=p:=by
   rw[r,cM (by rw[B.len];exact f),R j oq,N]
  refine⟨u,by rw[O];exact w,?_⟩;rw[r,aV B U U.inv,fC U,bZ B];exact o
 ·show (if q=j∨(t j q).isSome then (dd (fR n t j)).length else 0)=(dd (fR n t j)).length
  rw[if_pos];have:=(d q).1 x;have J:(if q=j then some (bL n) else t j q).isSome:=this;split at J
  ·rename_i e;exact .inl e
  ·exact .inr J
 ·have F:s∈fR n t (j+1):=Vh.1 l
  obtain⟨i,p,w,o,r,e⟩:=fV.1 F;exact bX.of (λg G=>(b g ((a g).1 G)).1) ((a s).2 (fV.2 ⟨i,p,oq,o,r,e⟩))
theorem DJ (T:oK n t)(c:Jh n t)(a:0<n)(x:List Nat):S n (kX n t) 0 x↔bX n (· ∈fR n t 0) x:=by
 rw[(alW T c).gen a];have:(λg=>g∈(kX n t 0).gens)=λg=>g∈fR n t 0:=funext λg=>propext Vh
 rw[this]
def put (t:rL)(i p:Nat)(x:List Nat):rL:=λj q=>if j=i/\q=p then some x else t j q
def jJ (t:rL)(n:Nat)(x:List Nat):rL:=match ins t n 0 x with
 |none=>t
 |some (i,r)=>put t i (r.getD i 0) r
theorem Bu (T:oK n t): ∀(d j:Nat) (x:List Nat) (i:Nat) (r:List Nat),j+d=n->bE n x->Fix j x->ins t d j x=some (i,r)->
  j<=i/\i<n/\bE n r/\Fix i r/\r.getD i 0≠i/\t i (r.getD i 0)=none/\ ∃w,bX n (· ∈fR n t 0) w/\x=aX r w
 |0,_,_,_,_,_,_,_,h=>by cases h
 |d+1,j,x,i,r,h,X,F,hi=>by
  unfold ins at hi;split at hi
  ·rename_i e
   obtain⟨v,b⟩:=Bu T d (j+1) x i r oq X (F.succ e) hi;exact⟨oq,b⟩
  ·rename_i e
   split at hi
   ·rename_i u
    cases hi;exact⟨Nat.le_refl _,oq,X,F,e,u,bL n,.one,(bZ X).symm⟩
   ·rename_i y a
    have Y:=T.cU _ _ _ a
    have o: ∀g,g∈fR n t 0->bE n g:=λg s=>by
     obtain⟨_,_,_,_,_,e⟩:=fV.1 s;exact T.cU _ _ _ e
    obtain⟨v,b,k,l,p,q,w,f,m⟩:=Bu T d (j+1) _ i r oq (X.mul Y.inv) ((Fix.mul X oq F (Fix.inv Y oq (T.fix _ _ _ a))).succ (by
     rw[cM (by rw[X.len];omega)];have:=afU Y (show j<n by omega)
     rwa [T.maps _ _ _ a] at this)) hi
    have c:y∈fR n t 0:=fV.2 ⟨j,_,Nat.zero_le _,oq,(T.lt _ _ _ a).2.1,a⟩;refine⟨oq,b,k,l,p,q,aX w y,f.mul c,?_⟩;rw[←aV k (f.cU o) Y,←m,aV X Y.inv Y,iE Y,bZ X]
theorem xS (T:oK n t): ∀(d j:Nat) (x:List Nat),j+d=n->bE n x->Fix j x->ins t d j x=none->bX n (· ∈fR n t 0) x
 |0,j,x,h,X,F,_=>by
  obtain rfl:j=n:=oq
  rw[F.all X];exact .one
 |d+1,j,x,h,X,F,hi=>by
  unfold ins at hi;split at hi
  ·rename_i e
   exact xS T d (j+1) x oq X (F.succ e) hi
  ·rename_i e
   split at hi
   ·cases hi
   ·rename_i y a
    have Y:=T.cU _ _ _ a
    have b:=xS T d (j+1) _ oq (X.mul Y.inv) ((Fix.mul X oq F (Fix.inv Y oq (T.fix _ _ _ a))).succ (by
     rw[cM (by rw[X.len];omega)];have:=afU Y (show j<n by omega)
     rwa [T.maps _ _ _ a] at this)) hi
    have:=b.mul (fV.2 ⟨j,_,Nat.zero_le _,oq,(T.lt _ _ _ a).2.1,a⟩);rwa [aV X Y.inv Y,iE Y,bZ X] at this
def Sub (t t':rL):Prop:= ∀i p y,t i p=some y->t' i p=some y
theorem Fg {a:rL}(s:Sub t a): ∀(d j:Nat) (x:List Nat),ins t d j x=none->ins a d j x=none
 |0,_,_,_=>rfl
 |d+1,j,x,h=>by
  unfold ins at h ⊢;split at h
  ·rename_i e;rw[if_pos e];exact Fg s d _ _ h
  ·rename_i e
   rw[if_neg e];split at h
   ·cases h
   ·rename_i y b
    rw[s _ _ _ b];exact Fg s d _ _ h
theorem EW {i p:Nat}{x:List Nat}(h:t i p=none):Sub t (put t i p x):=λj q y a=>by
 unfold put;rw[if_neg (λe=>by rw[e.1,e.2,h] at a;cases a)];exact a
theorem Ui (T:oK n t): ∀(d j:Nat) (x:List Nat) (i:Nat) (r:List Nat),j+d=n->bE n x->Fix j x->ins t d j x=some (i,r)->ins (put t i (r.getD i 0) r) d j x=none
 |0,_,_,_,_,_,_,_,h=>by cases h
 |d+1,j,x,i,r,h,X,F,hi=>by
  obtain⟨m,p,l,k,o,c,_⟩:=Bu T (d+1) j x i r h X F hi;have sub:=EW (t:=t) (x:=r) c;unfold ins at hi ⊢;split at hi
  ·rename_i e;rw[if_pos e];exact Ui T d (j+1) x i r oq X (F.succ e) hi
  ·rename_i e
   rw[if_neg e];split at hi
   ·cases hi
    have:put t j (x.getD j 0) x j (x.getD j 0)=some x:=by unfold put;rw[if_pos ⟨rfl,rfl⟩]
    rw[this];simp only;rw[fC X]
    have: ∀(d j:Nat),j+d=n-> ∀b:rL,ins b d j (bL n)=none:=by
     intro d
     induction d with
     |zero=>intro _ _ _;rfl
     |succ d ih=>intro j f b;unfold ins;rw[if_pos (fQ oq)];exact ih (j+1) oq b
    exact this d (j+1) oq _
   ·rename_i y a
    have Y:=T.cU _ _ _ a;rw[sub _ _ _ a]
    exact Ui T d (j+1) _ i r oq (X.mul Y.inv) ((Fix.mul X oq F (Fix.inv Y oq (T.fix _ _ _ a))).succ (by
     rw[cM (by rw[X.len];omega)];have:=afU Y (show j<n by omega)
     rwa [T.maps _ _ _ a] at this)) hi
end
end
section
variable {x:List Nat}
section
variable {n:Nat} {t:rL}
theorem oK.MK (T:oK n t){j:Nat}: ∀g,g∈fR n t j->bE n g:=λg a=>by
 obtain⟨_,_,_,_,_,e⟩:=fV.1 a;exact T.cU _ _ _ e
theorem Sub.refl (t:rL):Sub t t:=λ_ _ _ h=>h
theorem Sub.trans {a b c:rL}(x:Sub a b)(y:Sub b c):Sub a c:=λi p z h=>y i p z (x i p z h)
theorem oK.empty (n:Nat):oK n (λ_ _=>none):=⟨λ_ _ _ h=>(by cases h),λ_ _ _ h=>(by cases h),λ_ _ _ h=>(by cases h),λ_ _ _ h=>(by cases h)⟩
theorem aaG (T:oK n t)(X:bE n x):oK n (jJ t n x)/\Sub t (jJ t n x)/\ins (jJ t n x) n 0 x=none/\ ∀g,g∈fR n (jJ t n x) 0->bX n (λu=>u∈fR n t 0∨u=x) g:=by
 unfold jJ
 cases h:ins t n 0 x with
 |none=>exact⟨T,Sub.refl t,h,λg l=>bX.of (λu c=>by rcases c with c|rfl;exact T.MK u c;exact X) (.inl l)⟩
 |some q=>
  obtain⟨i,r⟩:=q;have p:Fix 0 x:=λk K=>oq
  obtain⟨L,m,f,z,J,G,w,o,v⟩:=Bu T n 0 x i r oq X p h
  have a: ∀j q y,put t i (r.getD i 0) r j q=some y->(j=i/\q=r.getD i 0/\y=r)∨t j q=some y:=λj q y b=>by
   unfold put at b;split at b
   ·rename_i e;cases b;exact .inl ⟨e.1,e.2,rfl⟩
   ·exact .inr b
  refine⟨⟨λj q y b=>?_,λj q y b=>?_,λj q y b=>?_,λj q y b=>?_⟩,EW G,Ui T n 0 x i r oq X p h,λg l=>?_⟩
  ·rcases a j q y b with ⟨rfl,rfl,rfl⟩|h
   ·exact⟨m,f.iN m,J⟩
   ·exact T.lt _ _ _ h
  ·rcases a j q y b with ⟨rfl,rfl,rfl⟩|h
   ·exact f
   ·exact T.cU _ _ _ h
  ·rcases a j q y b with ⟨rfl,rfl,rfl⟩|h
   ·exact z
   ·exact T.fix _ _ _ h
  ·rcases a j q y b with ⟨rfl,rfl,rfl⟩|h
   ·rfl
   ·exact T.maps _ _ _ h
  ·have d: ∀u,(u∈fR n t 0∨u=x)->bE n u:=λu c=>by
    rcases c with c|rfl
    ·exact T.MK u c
    ·exact X
   obtain⟨j,q,B,s,A,e⟩:=fV.1 l;rcases a j q g e with ⟨_,_,rfl⟩|h
   ·have W:=o.cU T.MK
    have F:g=aX x (dA w):=by rw[v,aV f W W.inv,fC W,bZ f]
    rw[F];exact (bX.of d (.inr rfl)).app d ((o.mono λu c=>Or.inl c).inv d)
   ·exact bX.of d (.inl (fV.2 ⟨j,q,B,s,A,h⟩))
structure Oo (n:Nat)(L:List Nat->Prop)(t:rL):Prop where
 tab:oK n t
 gen: ∀g,g∈fR n t 0->bX n L g
variable {L:List Nat->Prop}
theorem Oo.ins (a:Oo n L t)(c: ∀g,L g->bE n g)(d:bX n L x):Oo n L (jJ t n x)/\Sub t (jJ t n x)/\Go.Pm.ins (jJ t n x) n 0 x=none:=by
 obtain⟨k,h,j,i⟩:=aaG a.tab (d.cU c);refine⟨⟨k,λg f=>(i g f).le (bX.dN c) λu b=>?_⟩,h,j⟩;rcases b with b|rfl
 ·exact a.gen u b
 ·exact d
theorem Oo.group (a:Oo n L t)(d: ∀g,L g->bE n g)(f:0<n)(c:Jh n t)(hi: ∀g,L g->Go.Pm.ins t n 0 g=none)(x:List Nat):S n (kX n t) 0 x↔bX n L x:=by
 rw[DJ a.tab c f];constructor
 ·exact λh=>h.le (bX.dN d) a.gen
 ·exact λh=>h.le (bX.dN a.tab.MK) λg b=>xS a.tab n 0 g oq (d g b) (λk i=>oq) (hi g b)
structure SK (n:Nat)(L:List Nat->Prop)(τ:pM):Prop where
 tw:pI n 0 τ
 group: ∀x,S n τ 0 x↔bX n L x
theorem SK.start (a:0<n):SK n (λ_=>False) (PX n):=by
 refine⟨PI n,λx=>?_⟩;rw[(PI n).gen a];have:(λg=>g∈(PX n 0).gens)=λ_=>False:=funext λg=>propext ⟨λh=>(by cases h),λh=>h.elim⟩
 rw[this]
theorem SK.add {τ d:pM}(a:SK n L τ)(k:0<n)(i: ∀g,L g->bE n g)(X:bE n x)(b:Iw n 0 x τ d):SK n (λg=>L g∨g=x) d:=by
 refine⟨b.tw,λz=>?_⟩
 have f: ∀g,(L g∨g=x)->bE n g:=λg c=>by
  rcases c with c|rfl
  ·exact i g c
  ·exact X
 rw[b.group a.tw k X z];constructor
 ·intro h
  refine h.le (bX.dN f) λg c=>?_
  rcases c with c|rfl
  ·exact ((a.group g).1 c).mono λu j=> .inl j
  ·exact bX.of f (.inr rfl)
 ·intro h
  refine h.mono λg c=>?_
  rcases c with c|rfl
  ·exact .inl ((a.group g).2 (bX.of i c))
  ·exact .inr rfl
theorem SK.congr {M:List Nat->Prop}{τ:pM}(a:SK n L τ)(h: ∀g,L g↔M g):SK n M τ:=by
 have:L=M:=funext λg=>propext (h g)
 exact this▸a
end
def BV (n:Nat)(R:PZ):List Nat->Prop:=bX n λg=>g∈R.flatten
def Valid (n:Nat)(O:zI)(R:PZ):Prop:=(∀g∈R.flatten,bE n g)/\bC n (BV n R) O R
theorem Valid.iff {n:Nat}{O b:zI}{R a:PZ}(d: ∀g∈R.flatten,bE n g)(c:bC n (BV n R) b a):Valid n O R↔O=b/\R=a:=by
 constructor
 ·rintro⟨_,h⟩;exact h.uniq c
 ·rintro⟨rfl,rfl⟩;exact⟨d,c⟩
theorem Valid.dN {n:Nat}{O:zI}{R:PZ}(v:Valid n O R):iX n (BV n R):=bX.dN v.1
end
end Go.Pm
namespace Go.Proofs.YtcdbmkidaecdiaaGreat
open Go Go.Ay Go.Pm
set_option maxRecDepth 100000
def Kx (c:Nat):V:=if c<130 then .aE else aC 0
def lv0:Lv:=⟨[], [],λ_=>none,λ_=>0⟩
theorem XF: [V.aE,V.aE,V.aE,V.aE,V.aE,V.aE,V.aE,V.aE,V.aE,V.aE,V.aE,V.aE,V.aE,V.aE,V.aE,V.aE,V.aE,V.aE,V.aE,V.aE,V.aE,V.aE,V.aE,V.aE,V.aE,V.aE,V.aE,V.aE,V.aE,V.aE,V.aE,V.aE,V.aE,V.aE,V.aE,V.aE,V.aE,V.aE,V.aE,V.aE,V.aE,V.aE,V.aE,V.aE,V.aE,V.aE,V.aE,V.aE,V.aE,V.aE,V.aE,V.aE,V.aE,V.aE,V.aE,V.aE,V.aE,V.aE,V.aE,V.aE,V.aE,V.aE,V.aE,V.aE,V.aE,V.aE,V.aE,V.aE,V.aE,V.aE,V.aE,V.aE,V.aE,V.aE,V.aE,V.aE,V.aE,V.aE,V.aE,V.aE,V.aE,V.aE,V.aE,V.aE,V.aE,V.aE,V.aE,V.aE,V.aE,V.aE,V.aE,V.aE,V.aE,V.aE,V.aE,V.aE,V.aE,V.aE,V.aE,V.aE,V.aE,V.aE,V.aE,V.aE,V.aE,V.aE,V.aE,V.aE,V.aE,V.aE,V.aE,V.aE,V.aE,V.aE,V.aE,V.aE,V.aE,V.aE,V.aE,V.aE,V.aE,V.aE,V.aE,V.aE,V.aE,V.aE,V.aE,V.aE,V.aE,V.aE,(aC 0),(aC 0),(aC 0),(aC 0),(aC 0),(aC 0),(aC 0),(aC 0),(aC 0),(aC 0),(aC 0),(aC 0),(aC 0),(aC 0),(aC 0),(aC 0),(aC 0),(aC 0),(aC 0),(aC 0),(aC 0),(aC 0),(aC 0),(aC 0),(aC 0),(aC 0),(aC 0),(aC 0),(aC 0),(aC 0),(aC 0),(aC 0),(aC 0),(aC 0),(aC 0),(aC 0),(aC 0),(aC 0),(aC 0),(aC 0),(aC 0),(aC 0),(aC 0),(aC 0),(aC 0),(aC 0),(aC 0),(aC 0),(aC 0),(aC 0),(aC 0),(aC 0),(aC 0),(aC 0),(aC 0),(aC 0),(aC 0),(aC 0),(aC 0),(aC 0),(aC 0),(aC 0),(aC 0),(aC 0)]=rc 194 Kx:=rfl
theorem KT (n:Nat):cX (rc 194 Kx) (n*194)=rc (n*194) λc=>Kx (c%194):=by
 refine List.ext_getElem (by simp [cX,Df]) λi b a=>?_
 simp [cX,rc];rw[List.getElem?_range (Nat.mod_lt _ om)];rfl
def OD (n i:Nat):pM:=λj=>if j<i then PX n j else lv0
theorem rX.congr {h:H}{n f L:Nat}{F:Nat->V}{τ d:pM}(R:rX h n f L F τ)(e: ∀j,j<n->τ j=d j):rX h n f L F d:=
 ⟨R.t,R.l,R.tn,R.ln,R.tw,λj p a b=>by rw[←e j a];exact R.to j p a b,λj p a b=>by rw[←e j a];exact R.iv j p a b,λj p a b=>by rw[←e j a];exact R.tr j p a b,
  λj c=>by rw[←e j c];exact R.gens j c,λj c=>by rw[←e j c];exact R.orb j c,R.IQ,R.ap⟩
theorem Yr (n:Nat)(h:H)(h0:0<n)(hn:n<=7):
  Ev T 192 [aC n] h (λv h'=> ∃tid L F,v= .ptr tid 0/\rX h' n tid L F (PX n)/\Fr h h'/\ ∀id,WT n L F id->h.next<=id):=by
 refine cV wT rfl ?_
 have hm:Jo h 194 3632 (rc 194 Kx) (aC n) (aC n)=some (.sl h.next 0 n (.kn n),h.new (.cells false (rc (n*194) λc=>Kx (c%194)))):=by
  rw[tU om (Int.le_refl _) om om,NK,KT]
 obtain⟨w,K⟩: ∃w:Nat->V,w=λc=>Kx (c%194):=⟨_,rfl⟩
 obtain⟨L,U⟩:=exI h.next
 rw[U,←K] at hm
 simp(disch:=omega)only[go_sem,wT,aD,XF,hm,PW (z1:= aC 0) (z2:= .aE) (v:= aC n) (u:= .sl L 0 n (.kn n)) rfl rfl rfl rfl,wW _ (v:= aC n) (u:= .sl L 0 n (.kn n)) rfl rfl,U]
 obtain⟨d,m⟩: ∃d,d=(h.new (.cells false (rc (n*194) w))).new (.cells false [aC n,.sl L 0 n (.kn n)]):=⟨_,rfl⟩
 rw[←m]
 have g1:d.get L=some (.cells false (rc (n*194) w)):=by rw[m,H.bG _ (by rw[H.aU];omega),←U,H.aL]
 have g2:d.get (L+1)=some (.cells false [aC n,.sl L 0 n (.kn n)]):=by
  rw[m];have:=H.aL (h.new (.cells false (rc (n*194) w))) (.cells false [aC n,.sl L 0 n (.kn n)]);rwa [H.aU,U] at this
 have n2:d.next=L+2:=by rw[m,H.aU,H.aU,U]
 have f2:Fr h d:=by rw[m];exact ((Fr.refl h).new _).new _
 clear m hm
 have s0: ∀s,s<2*n->uA w s= .aE:=λs _=>by
  unfold uA Kx at*;rw[K];simp only;rw[bF om]
 have w0: ∀id,WT n L w id->id=L:=λid A=>by
  rcases A with e|⟨s,hs,a4,len,c,e⟩
  ·exact e
  ·rw[s0 s hs] at e;cases e
 have Z: ∀j c,c<194->w (j*194+c)=Kx c:=λj c hc=>by
  rw[K];simp only;rw[Nat.mul_comm,Nat.mul_add_mod,Nat.mod_eq_of_lt hc]
 have z1: ∀j b c,b+c<194->w (j*194+b+c)=Kx (b+c):=λj b c hc=>by rw[Nat.add_assoc];exact Z j (b+c) hc
 have R:rX d n (L+1) L w (OD n 0):=by
  refine⟨g2,g1,om,om,λA=>by have:=w0 _ A;omega,λj p a d=>?_,λj p a d=>?_,λj p a d=>?_,λj hj=>⟨[],?_,trivial⟩,λj hj=>?_,λs s' a d _=>?_,λs a=>?_⟩
  ·rw[z1 j 2 p om];unfold Kx;rw[bF om];rfl
  ·rw[z1 j 66 p om];unfold Kx;rw[bF om];rfl
  ·rw[z1 j 130 p om];unfold Kx;rw[bI om];rfl
  ·have:=Z j 0 om
   rw[Nat.add_zero] at this;rw[this];exact cY.aE ..
  ·rw[Z j 1 om];exact cY.aE ..
  ·rw[s0 s a];intro i o n c e;cases e
  ·rw[s0 s a];exact dL.aE _
 have a0:d.cell (L+1) 1=some (.sl L 0 n (.kn n)):=by rw[H.aF g2];rfl
 simp(disch:=omega)only[go_sem,a0]
 refine aH (λk' J hh=> ∃(i:Nat) (F:Nat->V),(∃g:Nat->V,J= [aC n,g 1,.ptr (L+1) 0,g 3,g 4,aC n,aC i,g 7])/\i<=n/\rX hh n (L+1) L F (OD n i)/\Fr h hh/\(∀id,WT n L F id->h.next<=id)/\k'=n-i) n
  ⟨0,w,aB rfl,iJ _,R,f2,λid A=>by rw[w0 id A];omega,rfl⟩ ?_
 clear R g1 g2 n2 f2 s0 w0 Z z1
 rintro k' J h3 ⟨i,F,⟨g,rfl⟩,hi,R,f,A,rfl⟩
 simp(disch:=omega)only[go_sem]
 by_cases O:(i:Int)<(n:Int)
 ·rw[oQ O]
  have P:i<n:=om
  have cl:h3.cell (L+1) 1=some (.sl L 0 n (.kn n)):=by rw[H.aF R.t];rfl
  have ln:=R.ln
  have hN:i*194+194<=n*194:=om
  have e0:OD n i i=lv0:=by unfold OD;rw[bI om]
  simp(disch:=omega)only[go_sem,cl,cT h3 (z:= aC 0) (v:= aC i) rfl rfl,R.l,Jr]
  obtain⟨B,x⟩: ∃B,B=(h3.new (.cells false [aC i])).set L (some (.cells false (rc (n*194) (F1 F (i*194+1) (.sl h3.next 0 1 (.kn 1)))))):=⟨_,rfl⟩
  rw[←x]
  have p4:uL h3 (F (i*194+1)) 0 1 1 [] [aC i] (h3.new (.cells false [aC i])):=⟨H.aL ..,H.aU ..,λk hk _=>H.bG h3 hk _⟩
  obtain⟨Q,f4,w4⟩:=R.UW P (q:=i) (v:= .sl h3.next 0 1 (.kn 1)) (by rw[e0];exact p4) (.inr rfl) (by rw[e0];rfl) x
  obtain⟨G,a3⟩: ∃G,G=F1 F (i*194+1) (.sl h3.next 0 1 (.kn 1)):=⟨_,rfl⟩
  rw[←a3] at Q w4
  have n4:B.next=h3.next+1:=by rw[x,H.bY,H.aU]
  have Y: ∀id,WT n L G id->h.next<=id:=λid a=>by
   by_cases d:id<h3.next
   ·exact A id (w4 id d a)
   ·have:=f.next;omega
  have a2:Fr h B:=⟨mT f.next f4.next,λid a=>(f4.get id (iW a f.next) λd=>by have:=A id d;omega).trans (f.get id a)⟩
  clear x
  generalize N:vI (OD n i) i {OD n i i with orb:=(OD n i i).orb++ [i]}=y at Q
  have e4:y i={lv0 with orb:= [i]}:=by rw[←N,bU,e0];rfl
  refine (Vn uY.ok n (H.mk B.tr (h3.next+1+16)) om).mono ?_
  rintro va h5 na
  simp(disch:=omega)only[go_sem]
  refine (Vn uY.ok n h5 om).mono ?_
  rintro vb h6 nb
  have f5:Fr B h5:=((Fr.refl B).bA om:Fr B (H.mk B.tr (h3.next+1+16))).trans na.fr
  have R6:=Q.mono (f5.trans nb.fr)
  have pa:=(na.pv (W:=WT n L G) (λa=>by have:=Q.Nw a;simp at this;omega)).mono nb.fr
  have pb:=nb.pv (W:=WT n L G) (λa=>by have:=Q.Nw a;have:=f5.next;omega)
  have a1:PV (WT n L G) h6 vb (dA (bL n)):=by rw[oJ];exact pb
  simp(disch:=omega)only[go_sem,R6.l,Fw pa.fG.1 pa.fG.2,Fw pb.fG.1 pb.fG.2,Jr]
  obtain⟨R7,f7,w7⟩:=R6.way P (q:=i) om pa a1 (h3:=(h6.set L (some (Ob.cells false (rc (n*194) (F1 G (i*194+2+i) va))))).set L (some (Ob.cells false (rc (n*194) (F1 (F1 G (i*194+2+i) va) (i*194+66+i) vb))))) (fM _) (λid a _=>by rw[H.aG _ a,H.aG _ a]) (by rw[H.aS])
  have eT:vI y i {y i with to:=λr=>if r=i then some (bL n) else (y i).to r}=OD n (i+1):=by
   funext j
   by_cases e:j=i
   ·subst e
    rw[bU,e4];unfold OD;rw[bF om]
    rfl
   ·rw[dZ _ _ e,←N,dZ _ _ e]
    unfold OD
    by_cases e2:j<i
    ·rw[bF e2,bF om]
    ·rw[bI e2,bI om]
  rw[eT] at R7
  have f6:=a2.trans (f5.trans nb.fr)
  rw[eJ i]
  refine⟨n-(i+1),om,i+1,_,aB rfl,om,R7,⟨mT f6.next f7.next,λid a=>(f7.get id (iW a f6.next) λd=>by have:=Y id d;omega).trans (f6.get id a)⟩,λid a=>Y id ((w7 id).1 a),rfl⟩
 rw[bH O]
 obtain rfl:i=n:=om
 simp(disch:=omega)only[go_sem]
 have eT:rX h3 i (L+1) L F (PX i):=R.congr λj hj=>by unfold OD;rw[bF hj]
 exact⟨L+1,L,F,rfl,eT,f,λid a=>by have:=A id a;omega⟩
abbrev SP (h:H)(v:V)(l:LN):Prop:=SR h v (l.map zi)
theorem Ml {h:H}{ws:List V}{l:LN}(a:aM (SI h) ws (l.map zi)){i:Nat}(hi:i<l.length):SI h (ws.getD i .undef) (zi (l.getD i [])):=by
 have:=akD a (i:=i) (by simpa using hi);rwa [show (l.map zi).getD i []=zi (l.getD i []) by simp [List.getD,hi]] at this
theorem GL {W:Nat->Prop}{h:H}{b:Nat}{v:V}{l:List Int}(s:SI h v l)(d:h.next<=b)(c: ∀id,W id->b<=id):Mq W v:=by
 cases v with
 |sl id off len cap=>exact λa=>by have:=s.in _ _ _ _ rfl;have:=c id a;omega
 |_=>trivial
theorem LC {l:LN}{i:Nat}(hi:i<l.length)(g:List Nat):g∈l.take (i+1)↔g∈l.take i∨g=l.getD i []:=by
 rw[List.take_add_one,dD hi,pH];simp [List.getD,hi]
theorem Xh (n:Nat)(q:V)(l:LN)(h:H)(r:0<n)(G:n<=7)(hl:l.length<1000000)(O:SP h q l)(z: ∀g∈l,bE n g):
  Ev T 141 [aC n,q] h (λv h'=> ∃tid L F τ,v= .ptr tid 0/\rX h' n tid L F τ/\SK n (· ∈l) τ/\Fr h h'/\ ∀id,WT n L F id->h.next<=id):=by
 refine cV Dr rfl ?_
 simp(disch:=omega)only[go_sem,Dr,aD]
 refine (Yr n h r G).mono ?_
 rintro _ m ⟨tid,L,F,rfl,R,f,c⟩
 have y:=O.lens
 rw[jV] at y
 obtain⟨id,x,K,A,j,s,J,o⟩:=O.open
 rw[jV] at A j s J
 simp(disch:=omega)only[go_sem,y]
 refine aH (λQ b B=> ∃(i:Nat) (F:Nat->V) (τ:pM),(∃g:Nat->V,b= [aC n,q,g 2,.ptr tid 0,g 4,q,aC (l.length:Int),aC i,g 8])/\i<=l.length/\rX B n tid L F τ/\SK n (· ∈l.take i) τ/\Fr h B/\(∀id,WT n L F id->h.next<=id)/\Q=l.length-i) l.length
  ⟨0,F,PX n,aB rfl,iJ _,R,(SK.start r).congr (by simp),f,c,rfl⟩ ?_
 clear R f c F
 rintro Q b p ⟨i,F,τ,⟨g,rfl⟩,hi,R,t,f,c,rfl⟩
 simp(disch:=omega)only[go_sem]
 by_cases d:(i:Int)<(l.length:Int)
 ·rw[oQ d]
  have a:i<l.length:=om
  have ci:p.cell id (x+i)=some (K.getD i .undef):=by rw[f.cell (j om),J i a]
  have P:=Ml o a
  have pv:PV (WT n L F) p (K.getD i .undef) (l.getD i []):=⟨P.mono f,GL P (fM _) c⟩
  have X:bE n (l.getD i []):=z _ (by simp [List.getD,a])
  simp(disch:=omega)only[go_sem,A.ixa,ci]
  refine (adY n G r p tid L F τ _ _ R pv X (λk hk=>om) t.tw).mono ?_
  rintro vv h3 ⟨Y,u,W,a3,N,U⟩
  have Z:=(t.add r (λg hg=>z g (List.mem_of_mem_take hg)) X a3).congr λg=>(LC a g).symm
  simp(disch:=omega)only[go_sem]
  rw[eJ i]
  refine⟨l.length-(i+1),om,i+1,Y,u,aB rfl,om,W,Z,⟨mT f.next N.next,λid m=>(N.get id (iW m f.next) λw=>by have:=c id w;omega).trans (f.get id m)⟩,λid m=>?_,rfl⟩
  by_cases w:id<p.next
  ·exact c id (U id w m)
  ·have:=f.next;omega
 rw[bH d]
 obtain rfl:i=l.length:=om
 simp(disch:=omega)only[go_sem]
 exact⟨tid,L,F,τ,rfl,R,t.congr λg=>by rw[List.take_length],f,c⟩
theorem ajU (x:List Nat)(l:List Nat){i:Nat}(hi:i<l.length)(b:Nat):oI x b (l.drop i)=oI x (if x.getD (l.getD i 0) 0<x.getD b 0 then l.getD i 0 else b) (l.drop (i+1)):=by
 rw[AR hi,cJ hi];rfl
theorem RI (h:H)(n i L:Nat)(F:Nat->V)(τ:pM)(vx:V)(x:List Nat)(l:Nat)(hn:n<=7)(R:rX h n i L F τ)(hx:PV (WT n L F) h vx x)(X:bE n x)(a9:l<n)(t:pI n (l+1) τ):
  Ev T 196 [.ptr i 0,vx,aC l] h (λv h'=>PV (WT n L F) h' v (Kb τ (n-(l+1)) (l+1) x)/\bE n (Kb τ (n-(l+1)) (l+1) x)/\Fr h h'):=by
 refine cV sD rfl ?_
 simp(disch:=omega)only[go_sem,sD,aD]
 rw[eJ l]
 refine aH (λk' c hh=> ∃(k:Nat) (y:List Nat) (P:V),(∃g:Nat->V,c= [.ptr i 0,P,g 2,g 3,aC k,g 5,g 6,g 7,g 8,g 9,g 10,g 11,g 12,g 13])/\l<k/\k<=n/\Kb τ (n-k) k y=Kb τ (n-(l+1)) (l+1) x/\
   PV (WT n L F) hh P y/\bE n y/\Fr h hh/\k'=n-k) (n-(l+1))
  ⟨l+1,x,vx,aB rfl,om,om,rfl,hx,X,Fr.refl h,rfl⟩ ?_
 rintro k' c G ⟨k,y,P,⟨g,rfl⟩,b2,b1,p,hy,Y,f,rfl⟩
 have R2:=R.mono f
 have ct:G.cell i 0=some (aC n):=by rw[H.aF R2.t];rfl
 have cl:G.cell i 1=some (.sl L 0 n (.kn n)):=by rw[H.aF R2.t];rfl
 simp(disch:=omega)only[go_sem,ct,cl]
 by_cases W:(k:Int)<(n:Int)
 case neg=>
  rw[bH W];obtain rfl:k=n:=om
  rw[Nat.sub_self] at p;simp(disch:=omega)only[go_sem];rw[←p];exact⟨hy,Y,f⟩
 have d:k<n:=om
 rw[oQ W]
 have co:G.cell L (k*194+1)=some (F (k*194+1)):=R2.cell d om
 have oo:=R2.orb k d
 have lo:=cY.lens oo (by rw[fT,aQ])
 have jX:=(t k om d).1
 have b0:=YY jX d
 simp(disch:=omega)only[go_sem,cl,co,lo]
 obtain⟨id,a5,sh,a2,hc⟩:=(show SI G (F (k*194+1)) (zi (τ k).orb) from oo.sv).open
 rw[aQ] at sh a2 hc
 obtain⟨a1,A,a3,r,J⟩:=hy.si.open
 rw[aQ,Y.len] at a3 r J
 refine aH (λm' c hh=> ∃(m b:Nat),(∃g:Nat->V,c= [.ptr i 0,P,g 2,g 3,aC k,aC b,g 6,g 7,F (k*194+1),aC ((τ k).orb.length:Int),aC m,g 11,g 12,g 13])/\m<=(τ k).orb.length/\b<n/\b∈k::(τ k).orb/\
   oI y b ((τ k).orb.drop m)=oI y k (τ k).orb/\Fr G hh/\m'=(τ k).orb.length-m) (τ k).orb.length
  ⟨0,k,aB rfl,iJ _,d,Ab ..,rfl,Fr.refl G,rfl⟩ ?_
 rintro m' c w ⟨m,b,⟨g3,rfl⟩,hm,hb,a0,a,B,rfl⟩
 simp(disch:=omega)only[go_sem]
 by_cases z:(m:Int)<((τ k).orb.length:Int)
 ·rw[oQ z]
  have o:m<(τ k).orb.length:=om
  rw[ajU _ _ o] at a
  have cq:w.cell id (a5+m)=some (aC ((τ k).orb.getD m 0:Nat)):=by rw[B.cell (a2 om),hc m o];congr 2;simp [zi,o]
  have N:(τ k).orb.getD m 0∈(τ k).orb:=by rw[cJ o];exact zG o
  have s:=jX.lt d N
  generalize (τ k).orb.getD m 0=q at cq N s a
  have c1:w.cell a1 (A+q)=some (aC (y.getD q 0:Nat)):=by rw[B.cell (r om),J q s];congr 2;simp [zi,Y.len,s]
  have c2:w.cell a1 (A+b)=some (aC (y.getD b 0:Nat)):=by rw[B.cell (r om),J b hb];congr 2;simp [zi,Y.len,hb]
  simp(disch:=omega)only[go_sem,sh.ixa,cq,a3.ixa,c1,c2]
  have fb:Fr G (H.mk w.tr (w.next+9)):=B.bA om
  by_cases Q:((y.getD q 0:Nat):Int)<((y.getD b 0:Nat):Int)
  ·rw[oQ Q]
   rw[bF om] at a
   simp(disch:=omega)only[go_sem]
   rw[eJ m]
   exact⟨(τ k).orb.length-(m+1),om,m+1,q,aB rfl,om,s,Cu _ N,a,fb,rfl⟩
  ·rw[bH Q]
   rw[bI om] at a
   simp(disch:=omega)only[go_sem]
   rw[eJ m]
   exact⟨(τ k).orb.length-(m+1),om,m+1,b,aB rfl,om,hb,a0,a,fb,rfl⟩
 rw[bH z]
 have em:m=(τ k).orb.length:=om
 rw[em,List.drop_length] at a
 have a:b=oI y k (τ k).orb:=a
 have O:n-k=(n-(k+1))+1:=om
 rw[O] at p
 have p:Kb τ (n-(k+1)) (k+1) (if oI y k (τ k).orb=k then y else aX (((τ k).to (oI y k (τ k).orb)).getD []) y)=Kb τ (n-(l+1)) (l+1) x:=p
 rw[←a] at p
 have R3:=R2.mono B
 have Z:=hy.mono B
 simp(disch:=omega)only[go_sem]
 by_cases K:b=k
 ·rw[bF K] at p
  have e0:decide ((b:Int)≠(k:Int))=false:=bH om
  simp(disch:=omega)only[go_sem,e0]
  rw[eJ k]
  exact⟨n-(k+1),om,k+1,y,P,aB rfl,om,om,p,Z,Y,f.trans B,rfl⟩
 rw[bI K] at p
 have e0:decide ((b:Int)≠(k:Int))=true:=oQ om
 have a4:w.cell i 1=some (.sl L 0 n (.kn n)):=by rw[H.aF R3.t];rfl
 have a6:b∈(τ k).orb:=by
  rcases zH.1 a0 with e|e
  ·exact absurd e K
  ·exact e
 obtain⟨u,hu⟩:=jX.to a6
 have U:=jX.cU _ _ hu
 have a8:w.cell L (k*194+2+b)=some (F (k*194+2+b)):=R3.Sh d om
 have a7:PV (WT n L F) w (F (k*194+2+b)) u:=by
  have:=R3.to k b d om;rw[hu] at this;exact this
 rw[hu] at p
 simp(disch:=omega)only[go_sem,e0,a4,a8]
 refine (mY oF.ok _ P u y w (by rw[U.len];omega) a7.si Z.si (λj hj=>by rw[Y.len];exact U.iN (by rw[←U.len];exact hj))).mono ?_
 rintro v h4 nw
 simp(disch:=omega)only[go_sem]
 rw[eJ k]
 exact⟨n-(k+1),om,k+1,_,v,aB rfl,om,om,p,nw.pv (λhw=>by have:=R3.Nw hw;omega),U.mul Y,(f.trans B).trans nw.fr,rfl⟩
end Go.Proofs.YtcdbmkidaecdiaaGreat
namespace Go.Proofs.YtcdbmkidaecdiaaGreat
open Go Go.Ay Go.Sort
set_option maxRecDepth 100000
section
variable {h:H} {S N i j a:Nat} {d:Array Int} {lt:Int->Int->Bool}
structure fD (h:H)(S N:Nat)(d:Array Int):Prop where
 get:h.get S=aZ (ints d.toList)
 size:d.size=N
 lt:S<h.next
theorem fD.rd (A:fD h S N d)(hi:i<N):h.cell S i=some (aC d[i]!):=by
 have b:i<d.size:=by rw[A.size];exact hi
 rw[H.aF A.get];simp [ints,b]
theorem fD.fr {h':H}(A:fD h S N d)(f:Fr h h'):fD h' S N d:=⟨by rw[f.get _ A.lt];exact A.get,A.size,iW A.lt f.next⟩
theorem bB (hi:i<d.size)(b:H)(S:Nat)(x:Int):dX (aZ (ints d.toList)) b S i [aC x]=some (b.set S (aZ (ints (d.setIfInBounds i x).toList))):=by
 rw[ajZ (by simpa using hi),Array.toList_setIfInBounds]
theorem aY {y:Int}(hi:i<d.size)(b:H)(S:Nat)(x:Int):dX (aZ (ints (d.setIfInBounds j y).toList)) b S i [aC x]=some (b.set S (aZ (ints ((d.setIfInBounds j y).setIfInBounds i x).toList))):=
 bB (by simpa using hi) b S x
theorem fD.swap {h2:H}(A:fD h S N d){nx:Nat}(b:h.next<=nx)(e:h2=((H.mk h.tr nx).set S (aZ (ints (d.setIfInBounds i d[j]!).toList))).set S (aZ (ints ((d.setIfInBounds i d[j]!).setIfInBounds j d[i]!).toList))):fD h2 S N (swp d i j)/\Fx (· =S) h h2:=by
 subst e;refine⟨⟨?_,?_,iW A.lt b⟩,⟨b,λid _ c=>?_⟩⟩
 ·rw[H.aS];rfl
 ·have:=A.size;simp [swp,this]
 ·rw[H.aG _ c,H.aG _ c];rfl
theorem Cj (a:Int)(h:H):Ev T 198 [aC a] h (λv h'=>v= .bool false/\h'=h):=by
 refine cV mZ rfl ?_;have e:decide (a≠a)=false:=bH om;simp(disch:=omega)only[go_sem,mZ,aD,e]
theorem Aw (a b:Int)(h:H):Ev T 144 [aC a,aC b] h (λv h'=>v= .bool (ltInt a b)/\Fr h h'):=by
 refine cV Ai rfl ?_;simp(disch:=omega)only[go_sem,Ai,aD];refine (Cj a h).mono ?_;rintro _ c ⟨rfl,rfl⟩;simp(disch:=omega)only[go_sem];exact⟨rfl,Fr.refl _⟩
theorem dC {a b c:H}(x:Fx (· =S) a b)(y:Fx (· =S) b c):Fx (· =S) a c:=x.trans y λ_ _ h=>h
theorem Vb (b:a<j+1)(h2:lt d[j+1]! d[j]! =true):insInner lt a (j+1) d=insInner lt a j (swp d (j+1) j):=by
 rw[insInner,bF (by simp [b,h2])]
theorem Ud (h2:lt d[j+1]! d[j]! =false):insInner lt a (j+1) d=d:=by
 rw[insInner,bI (by simp [h2])]
theorem Uf (h:j<=a):insInner lt a j d=d:=by
 cases j with
 |zero=>rfl
 |succ j=>rw[insInner,bI (by simp;omega)]
theorem oW (h:H)(S N a b:Nat)(d:Array Int)(v:Kh)(Y:N<1000000)(A:fD h S N d)(hb:b<=N)(G:a<=b):
  Ev T 234 [.sl S 0 N v,aC a,aC b] h (λ_ h'=>fD h' S N (insertionSort ltInt d a b)/\Fx (· =S) h h'):=by
 refine cV iZ rfl ?_
 simp(disch:=omega)only[go_sem,iZ,aD]
 rw[eJ a]
 refine aH (λt c r=> ∃(i:Nat) (e:Array Int),(∃g:Nat->V,c= [.sl S 0 N v,aC a,aC b,aC i,g 4,g 5,g 6])/\a<i/\i<=b+1/\fD r S N e/\insOuter ltInt a b i e=insertionSort ltInt d a b/\Fx (· =S) h r/\t=b+1-i) (b+1-(a+1))
  ⟨a+1,d,aB rfl,om,om,A,rfl,Fx.refl _ h,rfl⟩ ?_
 clear A
 rintro t c Z ⟨i,e,⟨g,rfl⟩,O,L,A,l,F,rfl⟩
 simp(disch:=omega)only[go_sem]
 by_cases q:(i:Int)<(b:Int)
 case neg=>
  rw[bH q];simp(disch:=omega)only[go_sem];rw[insOuter,bI om] at l;rw[←l];exact⟨A,F⟩
 rw[oQ q]
 rw[insOuter,bF om] at l
 simp(disch:=omega)only[go_sem]
 refine aH (λt c r=> ∃(j:Nat) (f:Array Int),(∃g:Nat->V,c= [.sl S 0 N v,aC a,aC b,aC i,aC j,g 5,g 6])/\a<=j/\j<=i/\fD r S N f/\insInner ltInt a j f=insInner ltInt a i e/\Fx (· =S) h r/\t=j) i
  ⟨i,e,aB rfl,om,om,A,rfl,F,rfl⟩ ?_
 clear A F
 rintro t c n ⟨j,f,⟨g2,rfl⟩,Q,J,A,o,F,U⟩
 have sz:=A.size
 by_cases s:(a:Int)<(j:Int)
 ·obtain⟨m,rfl⟩: ∃m,j=m+1:=⟨j- 1,om⟩
  have P:=A.rd (i:=m+1) om
  have B:=A.rd (i:=m) om
  have u:=oQ s
  have z:((m+1:Nat):Int)- 1=(m:Int):=om
  simp(disch:=omega)only[go_sem,u,z,P,B]
  refine (Aw _ _ _).mono ?_
  rintro _ x ⟨rfl,w⟩
  have k:Fr n x:=Fr.trans ((Fr.refl n).bA om) w
  have p:=A.fr k
  have K:=p.rd (i:=m+1) om
  have R:=p.rd (i:=m) om
  cases hl:ltInt f[m+1]! f[m]! with
  |false=>
   rw[Ud hl] at o;simp(disch:=omega)only[go_sem,hl];rw[eJ i];rw[←o] at l;exact⟨b+1-(i+1),om,i+1,f,aB rfl,om,om,p,l,dC F (Fx.of k),rfl⟩
  |true=>
   rw[Vb om hl] at o;simp(disch:=omega)only[go_sem,hl,z,K,R,p.get,bB,aY];have W:=p.swap (i:=m+1) (j:=m) (nx:=x.next+18) om rfl;exact⟨m,om,m,_,aB rfl,om,om,W.1,o,dC (dC F (Fx.of k)) W.2,rfl⟩
 ·have u:=bH s
  rw[Uf om] at o
  simp(disch:=omega)only[go_sem,u]
  rw[eJ i]
  rw[←o] at l
  have y:Fr n (H.mk n.tr (n.next+15)):=(Fr.refl n).bA om
  exact⟨b+1-(i+1),om,i+1,f,aB rfl,om,om,A.fr y,l,dC F (Fx.of y),rfl⟩
end
def Wm (lt:Int->Int->Bool)(hi first root:Nat)(d:Array Int):Nat:=if 2*root+1+1<hi/\lt d[first+(2*root+1)]! d[first+(2*root+1)+1]! =true then 2*root+2 else 2*root+1
theorem xP {lt:Int->Int->Bool}(hi first a:Nat)(d:Array Int):siftDown lt hi first a d=if 2*a+1≥hi then d else
  if lt d[first+a]! d[first+Wm lt hi first a d]! =true then siftDown lt hi first (Wm lt hi first a d) (swp d (first+a) (first+Wm lt hi first a d)) else d:=by
 rw[siftDown]
 unfold Wm
 by_cases c:2*a+1≥hi
 ·rw[dif_pos c,bF c]
 ·rw[dif_neg c,bI c]
  by_cases b:2*a+1+1<hi/\lt d[first+(2*a+1)]! d[first+(2*a+1)+1]! =true
  ·rw[bF (by simpa using b),bF b]
   cases h3:lt d[first+a]! d[first+(2*a+2)]!
   ·simp
   ·simp [show 2*a+2<hi by omega]
  ·rw[bI (by simpa using b),bI b]
   cases h3:lt d[first+a]! d[first+(2*a+1)]! <;>simp
theorem kA  (h:H)(S N u hi first:Nat)(d:Array Int)(U:Kh)(hN:N<1000000)(A:fD h S N d)(hb:first+hi<=N)(P:u<=hi):
  Ev T 257 [.sl S 0 N U,aC u,aC hi,aC first] h (λ_ h'=>fD h' S N (siftDown ltInt hi first u d)/\Fx (· =S) h h'):=by
 refine cV kO rfl ?_
 simp(disch:=omega)only[go_sem,kO,aD]
 refine aH (λZ q Y=> ∃(r:Nat) (e:Array Int),(∃g:Nat->V,q= [.sl S 0 N U,aC u,aC hi,aC first,aC r,g 5,g 6,g 7,g 8])/\r<=hi/\fD Y S N e/\siftDown ltInt hi first r e=siftDown ltInt hi first u d/\Fx (· =S) h Y/\Z=hi-r) (hi-u)
  ⟨u,d,aB rfl,P,A,rfl,Fx.refl _ h,rfl⟩ ?_
 clear A
 rintro Z q s ⟨r,e,⟨g,rfl⟩,hr,A,a,F,rfl⟩
 have O:2*(r:Int)+1=((2*r+1:Nat):Int):=om
 by_cases G:(hi:Int)<=((2*r+1:Nat):Int)
 ·have J:=oQ G
  simp(disch:=omega)only[go_sem,O,J]
  rw[xP,bF om] at a
  rw[←a]
  exact⟨A,F⟩
 have J:=bH G
 rw[xP,bI om] at a
 have L:((2*r+1:Nat):Int)+1=((2*r+2:Nat):Int):=om
 have c:(first:Int)+(r:Int)=((first+r:Nat):Int):=om
 have l:(first:Int)+((2*r+1:Nat):Int)=((first+(2*r+1):Nat):Int):=om
 have B:(first:Int)+((2*r+2:Nat):Int)=((first+(2*r+2):Nat):Int):=om
 have Q:((first+(2*r+1):Nat):Int)+1=((first+(2*r+1)+1:Nat):Int):=om
 have sz:=A.size
 by_cases y:((2*r+2:Nat):Int)<(hi:Int)
 ·have K:=oQ y
  have n:=A.rd (i:=first+(2*r+1)) om
  have x:=A.rd (i:=first+(2*r+1)+1) om
  simp(disch:=omega)only[go_sem,O,J,L,K,l,Q,n,x]
  refine (Aw _ _ _).mono ?_
  rintro _ w ⟨rfl,R⟩
  have z:Fr s w:=Fr.trans ((Fr.refl s).bA om) R
  have v:=A.fr z
  have m:=v.rd (i:=first+r) om
  have n:=v.rd (i:=first+(2*r+1)) om
  have x:=v.rd (i:=first+(2*r+2)) om
  cases hl:ltInt e[first+(2*r+1)]! e[first+(2*r+1)+1]! with
  |false=>
   have f:Wm ltInt hi first r e=2*r+1:=bI (by rw[hl];simp)
   rw[f] at a;simp(disch:=omega)only[go_sem,hl,c,l,m,n];refine (Aw _ _ _).mono ?_;rintro _ o ⟨rfl,k⟩;have t:Fr w o:=Fr.trans ((Fr.refl w).bA om) k;have b:=v.fr t;have m:=b.rd (i:=first+r) om;have n:=b.rd (i:=first+(2*r+1)) om;have p:=dC (dC F (Fx.of z)) (Fx.of t)
   cases hl2:ltInt e[first+r]! e[first+(2*r+1)]! with
   |false=>
    rw[bI (by rw[hl2];simp)] at a;simp(disch:=omega)only[go_sem,hl2];rw[←a];exact⟨b,p⟩
   |true=>
    rw[bF hl2] at a;simp(disch:=omega)only[go_sem,hl2,c,l,m,n,b.get,bB,aY];have W:=b.swap (i:=first+r) (j:=first+(2*r+1)) (nx:=o.next+24) om rfl;exact⟨hi-(2*r+1),om,2*r+1,_,aB rfl,om,W.1,a,dC p W.2,rfl⟩
  |true=>
   have f:Wm ltInt hi first r e=2*r+2:=bF ⟨om,hl⟩
   rw[f] at a;simp(disch:=omega)only[go_sem,hl,L,c,B,m,x];refine (Aw _ _ _).mono ?_;rintro _ o ⟨rfl,k⟩;have t:Fr w o:=Fr.trans ((Fr.refl w).bA om) k;have b:=v.fr t;have m:=b.rd (i:=first+r) om;have x:=b.rd (i:=first+(2*r+2)) om;have p:=dC (dC F (Fx.of z)) (Fx.of t)
   cases hl2:ltInt e[first+r]! e[first+(2*r+2)]! with
   |false=>
    rw[bI (by rw[hl2];simp)] at a;simp(disch:=omega)only[go_sem,hl2];rw[←a];exact⟨b,p⟩
   |true=>
    rw[bF hl2] at a;simp(disch:=omega)only[go_sem,hl2,c,B,m,x,b.get,bB,aY];have W:=b.swap (i:=first+r) (j:=first+(2*r+2)) (nx:=o.next+24) om rfl;exact⟨hi-(2*r+2),om,2*r+2,_,aB rfl,om,W.1,a,dC p W.2,rfl⟩
 ·have K:=bH y
  have f:Wm ltInt hi first r e=2*r+1:=bI om
  rw[f] at a
  have z:Fr s (H.mk s.tr (s.next+20)):=(Fr.refl s).bA om
  have v:=A.fr z
  have m:=A.rd (i:=first+r) om
  have n:=A.rd (i:=first+(2*r+1)) om
  simp(disch:=omega)only[go_sem,O,J,L,K,c,l,m,n]
  refine (Aw _ _ _).mono ?_
  rintro _ o ⟨rfl,k⟩
  have t:Fr s o:=Fr.trans ((Fr.refl s).bA om) k
  have b:=A.fr t
  have m:=b.rd (i:=first+r) om
  have n:=b.rd (i:=first+(2*r+1)) om
  have p:=dC F (Fx.of t)
  cases hl2:ltInt e[first+r]! e[first+(2*r+1)]! with
  |false=>
   rw[bI (by rw[hl2];simp)] at a;simp(disch:=omega)only[go_sem,hl2];rw[←a];exact⟨b,p⟩
  |true=>
   rw[bF hl2] at a;simp(disch:=omega)only[go_sem,hl2,c,l,m,n,b.get,bB,aY];have W:=b.swap (i:=first+r) (j:=first+(2*r+1)) (nx:=o.next+24) om rfl;exact⟨hi-(2*r+1),om,2*r+1,_,aB rfl,om,W.1,a,dC p W.2,rfl⟩
theorem qZ  (h:H)(S N a b:Nat)(d:Array Int)(q:Kh)(z:N<1000000)(A:fD h S N d)(hb:b<=N)(J:a<=b):
  Ev T 235 [.sl S 0 N q,aC a,aC b] h (λ_ h'=>fD h' S N (heapSort ltInt d a b)/\Fx (· =S) h h'):=by
 refine cV kQ rfl ?_
 obtain⟨n,O⟩:=exI (b-a)
 have en:(b:Int)-(a:Int)=(n:Int):=om
 have K:((n:Int)- 1).tdiv 2=(((n- 1)/2+1:Nat):Int)- 1:=by
  by_cases R:n=0
  ·subst R;decide
  ·rw[Int.tdiv_eq_ediv_of_nonneg om];omega
 simp(disch:=omega)only[go_sem,kQ,aD,en,K]
 refine aH (λl c r=> ∃(k:Nat) (e:Array Int),(∃g:Nat->V,c= [.sl S 0 N q,aC a,aC b,aC a,aC 0,aC n,aC ((k:Int)- 1),g 7,g 8,g 9])/\k<=n+1/\(k=1∨k<=n)/\fD r S N e/\heapBuild ltInt n a k e=heapBuild ltInt n a ((n- 1)/2+1) d/\Fx (· =S) h r/\l=k) ((n- 1)/2+1)
  ⟨(n- 1)/2+1,d,aB rfl,om,om,A,rfl,Fx.refl _ h,rfl⟩ ?_
 clear A
 rintro l c Q ⟨k,e,⟨g,rfl⟩,t,x,A,v,F,w⟩
 subst w
 by_cases f:(0:Int)<=(l:Int)- 1
 ·have o:=oQ f
  obtain⟨m,rfl⟩: ∃m,l=m+1:=⟨l- 1,om⟩
  have s:((m+1:Nat):Int)- 1=(m:Int):=om
  rw[s] at o
  rw[s]
  simp(disch:=omega)only[go_sem,o]
  refine (kA Q S N m n a e q z A om om).mono ?_
  rintro _ y ⟨U,F2⟩
  simp(disch:=omega)only[go_sem]
  exact⟨m,om,m,_,aB rfl,om,om,U,v,dC F F2,rfl⟩
 have o:=bH f
 obtain rfl:l=0:=om
 have v:e=heapBuild ltInt n a ((n- 1)/2+1) d:=v
 simp(disch:=omega)only[go_sem,o]
 refine aH (λl c r=> ∃(k:Nat) (p:Array Int),(∃g:Nat->V,c= [.sl S 0 N q,aC a,aC b,aC a,aC 0,aC n,g 6,aC ((k:Int)- 1),g 8,g 9])/\k<=n/\fD r S N p/\heapPop ltInt a k p=heapPop ltInt a n e/\Fx (· =S) h r/\l=k) n
  ⟨n,e,aB rfl,om,A,rfl,F,rfl⟩ ?_
 clear A F f o t x
 rintro l c y ⟨k,p,⟨g,rfl⟩,t,A,u,F,w⟩
 subst w
 have sz:=A.size
 by_cases f:(0:Int)<=(l:Int)- 1
 ·have o:=oQ f
  obtain⟨m,rfl⟩: ∃m,l=m+1:=⟨l- 1,om⟩
  have s:((m+1:Nat):Int)- 1=(m:Int):=om
  rw[s] at o
  rw[s]
  have P:(a:Int)+(m:Int)=((a+m:Nat):Int):=om
  have Z:=A.rd (i:=a+m) om
  have B:=A.rd (i:=a) om
  simp(disch:=omega)only[go_sem,o,P,Z,B,A.get,bB,aY]
  have W:=A.swap (i:=a) (j:=a+m) (nx:=y.next+20) om rfl
  have Y:=kA _ S N 0 m a _ q z W.1 om om
  refine Y.mono ?_
  rintro _ h3 ⟨G,L⟩
  simp(disch:=omega)only[go_sem]
  exact⟨m,om,m,_,aB rfl,om,G,u,dC (dC F W.2) L,rfl⟩
 have o:=bH f
 obtain rfl:l=0:=om
 simp(disch:=omega)only[go_sem,o]
 have u:p=heapPop ltInt a n e:=u
 have:heapSort ltInt d a b=p:=by unfold heapSort;rw[O,u,v]
 rw[this]
 exact⟨A,F⟩
def ZH (op:BinOp)(k:IntKind)(x y:V):Option V:=match x,y with
 | .int j a,.int _ b=>if j=k then GS op k a b else none
 |_,_=>none
theorem Gs (ρ:X->V)(h:H)(op:BinOp)(k:IntKind)(x y:X):cI ρ h (.shf op k x y)=(ZH op k (ρ x) (ρ y)).map (·,h):=by
 simp only[cI,ZH];cases ρ x<;>cases ρ y<;>try rfl
 simp only;split<;>rfl
theorem zY (op:BinOp)(k j:IntKind)(a b:Int):ZH op k (.int k a) (.int j b)=GS op k a b:=by simp [ZH]
theorem Yz (n:Int):0<=IntKind.u64.wrap n/\IntKind.u64.wrap n<18446744073709551616:=by
 unfold IntKind.wrap;simp only[IntKind.bits,IntKind.signed];have:=Int.emod_nonneg n (show (18446744073709551616:Int)≠0 by omega);have:=Int.emod_lt_of_pos n (show (0:Int)<18446744073709551616 by omega);simp;omega
theorem dK {n:Int}(a:0<=n)(h2:n<18446744073709551616):IntKind.u64.wrap n=n:=by
 unfold IntKind.wrap;simp only[IntKind.bits,IntKind.signed];have:n%18446744073709551616=n:=Int.emod_eq_of_lt a h2;simp;exact this
theorem yH {n:Int}(a:0<=n)(h2:n<256):IntKind.u8.wrap n=n:=by
 unfold IntKind.wrap;simp only[IntKind.bits,IntKind.signed];have:n%256=n:=Int.emod_eq_of_lt a h2;simp;exact this
theorem HM (a b:Int)(c:0<=b): ∃y,GS .shl .u64 a b=some (.int .u64 y)/\0<=y/\y<18446744073709551616:=by
 unfold GS;rw[bI om];exact⟨_,rfl,Yz _⟩
theorem ZI (a b:Int)(c:0<=b): ∃y,GS .shr .u64 a b=some (.int .u64 y):=by
 unfold GS;rw[bI om];exact⟨_,rfl⟩
theorem JL {x:Nat}:GS .shr .u64 (x:Int) 8=some (.int .u64 ((x/256:Nat):Int)):=by
 unfold GS;rw[bI om];simp only;congr 2;show Int.fdiv (x:Int) 256=_;rw[Int.fdiv_eq_ediv_of_nonneg _ om];rfl
theorem Ub (a b:Int): ∃y,arith .xor .u64 a b=some (.int .u64 y)/\0<=y/\y<18446744073709551616:=⟨_,rfl,Yz _⟩
theorem Uo (a:Int)(b:Nat)(c:b<18446744073709551616): ∃y:Nat,arith .and .u64 a (b:Int)=some (.int .u64 (y:Int))/\y<=b:=by
 refine⟨(BitVec.ofInt 64 a&&&BitVec.ofInt 64 (b:Int)).toNat,?_,?_⟩
 ·rw[MW]
  congr 2;show IntKind.u64.wrap (((BitVec.ofInt 64 a&&&BitVec.ofInt 64 (b:Int)).toNat:Nat):Int)=_;have:=(BitVec.ofInt 64 a&&&BitVec.ofInt 64 (b:Int)).isLt;generalize (BitVec.ofInt 64 a&&&BitVec.ofInt 64 (b:Int)).toNat=w at*;exact dK om om
 ·rw[BitVec.toNat_and]
  have:(BitVec.ofInt 64 (b:Int)).toNat=b:=by
   simp [BitVec.toNat_ofInt];omega
  rw[this];exact Nat.and_le_right
theorem PN: ∀z,z<256->([0,1,2,2,3,3,3,3,4,4,4,4,4,4,4,4,5,5,5,5,5,5,5,5,5,5,5,5,5,5,5,5,6,6,6,6,6,6,6,6,6,6,6,6,6,6,6,6,6,6,6,6,6,6,6,6,6,6,6,6,6,6,6,6,7,7,7,7,7,7,7,7,7,7,7,7,7,7,7,7,7,7,7,7,7,7,7,7,7,7,7,7,7,7,7,7,7,7,7,7,7,7,7,7,7,7,7,7,7,7,7,7,7,7,7,7,7,7,7,7,7,7,7,7,7,7,7,7,8,8,8,8,8,8,8,8,8,8,8,8,8,8,8,8,8,8,8,8,8,8,8,8,8,8,8,8,8,8,8,8,8,8,8,8,8,8,8,8,8,8,8,8,8,8,8,8,8,8,8,8,8,8,8,8,8,8,8,8,8,8,8,8,8,8,8,8,8,8,8,8,8,8,8,8,8,8,8,8,8,8,8,8,8,8,8,8,8,8,8,8,8,8,8,8,8,8,8,8,8,8,8,8,8,8,8,8,8,8,8,8,8,8,8,8,8,8,8,8,8,8,8,8,8,8,8,8][z]? :Option Nat)=some (bitsLen z):=by decide+kernel
theorem FB {z:Nat}(b:z<256):ZR (.str [0,1,2,2,3,3,3,3,4,4,4,4,4,4,4,4,5,5,5,5,5,5,5,5,5,5,5,5,5,5,5,5,6,6,6,6,6,6,6,6,6,6,6,6,6,6,6,6,6,6,6,6,6,6,6,6,6,6,6,6,6,6,6,6,7,7,7,7,7,7,7,7,7,7,7,7,7,7,7,7,7,7,7,7,7,7,7,7,7,7,7,7,7,7,7,7,7,7,7,7,7,7,7,7,7,7,7,7,7,7,7,7,7,7,7,7,7,7,7,7,7,7,7,7,7,7,7,7,8,8,8,8,8,8,8,8,8,8,8,8,8,8,8,8,8,8,8,8,8,8,8,8,8,8,8,8,8,8,8,8,8,8,8,8,8,8,8,8,8,8,8,8,8,8,8,8,8,8,8,8,8,8,8,8,8,8,8,8,8,8,8,8,8,8,8,8,8,8,8,8,8,8,8,8,8,8,8,8,8,8,8,8,8,8,8,8,8,8,8,8,8,8,8,8,8,8,8,8,8,8,8,8,8,8,8,8,8,8,8,8,8,8,8,8,8,8,8,8,8,8,8,8,8,8,8,8]) (.int .u8 (z:Int))=some (.int .u8 ((bitsLen z:Nat):Int)):=by
 have c:bitsLen z<=8:=(bitsLen_le_iff z 8).2 om;have a:=PN z b;generalize ([0,1,2,2,3,3,3,3,4,4,4,4,4,4,4,4,5,5,5,5,5,5,5,5,5,5,5,5,5,5,5,5,6,6,6,6,6,6,6,6,6,6,6,6,6,6,6,6,6,6,6,6,6,6,6,6,6,6,6,6,6,6,6,6,7,7,7,7,7,7,7,7,7,7,7,7,7,7,7,7,7,7,7,7,7,7,7,7,7,7,7,7,7,7,7,7,7,7,7,7,7,7,7,7,7,7,7,7,7,7,7,7,7,7,7,7,7,7,7,7,7,7,7,7,7,7,7,7,8,8,8,8,8,8,8,8,8,8,8,8,8,8,8,8,8,8,8,8,8,8,8,8,8,8,8,8,8,8,8,8,8,8,8,8,8,8,8,8,8,8,8,8,8,8,8,8,8,8,8,8,8,8,8,8,8,8,8,8,8,8,8,8,8,8,8,8,8,8,8,8,8,8,8,8,8,8,8,8,8,8,8,8,8,8,8,8,8,8,8,8,8,8,8,8,8,8,8,8,8,8,8,8,8,8,8,8,8,8,8,8,8,8,8,8,8,8,8,8,8,8,8,8,8,8,8,8]:List Nat)=l at*;unfold ZR;simp only;rw[bF om,NK,a];simp only[Option.map_some];rw[Nat.mod_eq_of_lt om]
theorem OO {x:Nat}(h:256<=x):bitsLen x=8+bitsLen (x/256):=by
 apply Nat.le_antisymm
 ·rw[bitsLen_le_iff,Nat.pow_add]
  have:=lt_two_pow_bitsLen (x/256);omega
 ·have c:=lt_two_pow_bitsLen x
  have d: ¬bitsLen x<=8:=λa=>by rw[bitsLen_le_iff] at a;omega
  obtain⟨k,b⟩: ∃k,bitsLen x=8+k:=⟨bitsLen x- 8,om⟩
  rw[b,Nat.pow_add] at c;have:bitsLen (x/256)<=k:=(bitsLen_le_iff _ _).2 om;omega
theorem RM (x:Nat)(h:H)(i:x<65536):Ev T 177 [.int .u64 (x:Int)] h (λv h'=>v= aC (bitsLen x:Nat)/\h'=h):=by
 refine cV oN rfl ?_;have b:decide ((4294967296:Int)<=(x:Int))=false:=bH om;have c:decide ((65536:Int)<=(x:Int))=false:=bH om
 by_cases d:256<=x
 ·have a:decide ((256:Int)<=(x:Int))=true:=oQ om
  have j:=OO d;have f:bitsLen (x/256)<=8:=(bitsLen_le_iff _ 8).2 om;simp(disch:=omega)only[go_sem,oN,aD,b,c,a,Gs,zY,JL,GZ,FB,yH];exact⟨by congr 1;omega,trivial⟩
 ·have a:decide ((256:Int)<=(x:Int))=false:=bH om
  have f:bitsLen x<=8:=(bitsLen_le_iff _ 8).2 om;simp(disch:=omega)only[go_sem,oN,aD,b,c,a,GZ,FB,yH];exact⟨by congr 1;omega,trivial⟩
theorem Tx (x:Nat)(h:H)(a:x<65536):Ev T 128 [.int .u64 (x:Int)] h (λv h'=>v= aC (bitsLen x:Nat)/\h'=h):=by
 refine cV yV rfl ?_;simp(disch:=omega)only[go_sem,yV,aD];refine (RM x h a).mono ?_;rintro _ _ ⟨rfl,rfl⟩;simp(disch:=omega)only[go_sem]
theorem Wg (n:Nat)(h:H)(b:n<65536):Ev T 212 [aC n] h (λv h'=>v= .int .u64 ((2^bitsLen n:Nat):Int)/\h'=h):=by
 refine cV nU rfl ?_;have d:bitsLen n<=16:=(bitsLen_le_iff _ 16).2 om;have c:2^bitsLen n<=2^16:=Nat.pow_le_pow_right om d;obtain⟨m,a⟩:=exI (2^bitsLen n);rw[a] at c ⊢
 have f:GS .shl .u64 1 ((bitsLen n:Nat):Int)=some (.int .u64 (m:Int)):=by
  unfold GS;rw[bI om];simp only[NK,IntKind.bits];rw[Nat.min_eq_left om];have e:(1:Int)*2^bitsLen n=(m:Int):=by rw[Int.one_mul,←a];push_cast;rfl
  rw[e,dK om om]
 simp(disch:=omega)only[go_sem,nU,aD,dK (n:=(n:Int)) om om];refine (Tx n h b).mono ?_;rintro _ _ ⟨rfl,rfl⟩;simp(disch:=omega)only[go_sem,Gs,zY,f]
theorem Wd (R:Nat)(x:Int)(h:H)(n:h.get R=some (.cells false [.int .u64 x]))(z:R<h.next):
  Ev T 213 [.ptr R 0] h (λv h'=> ∃y,v= .int .u64 y/\h'.get R=some (.cells false [.int .u64 y])/\Fx (· =R) h h'):=by
 refine cV pF rfl ?_
 have o:h.cell R 0=some (.int .u64 x):=by rw[H.aF n];rfl
 obtain⟨q,k,_⟩:=HM x 13 om
 obtain⟨l,c,_⟩:=Ub x q
 obtain⟨t,i⟩:=ZI l 7 om
 obtain⟨m,f,_⟩:=Ub l t
 obtain⟨p,d,_⟩:=HM m 17 om
 obtain⟨r,j,_⟩:=Ub m p
 have s: ∀(u w:Int) (a:H),dX (some (.cells false [.int .u64 u])) a R 0 [.int .u64 w]=some (a.set R (some (.cells false [.int .u64 w]))):=λu w a=>bN (by simp) a R _
 simp(disch:=omega)only[go_sem,pF,aD,o,Gs,zY,k,c,i,f,d,j,n,s]
 exact⟨r,rfl,rfl,⟨by simp only[H.bY];omega,λid _ b=>by
  rw[H.aG _ b,H.pY,H.aG _ b,H.pY,H.aG _ b,H.pY]⟩⟩
theorem fD.Uc  {h h':H}{S N R:Nat}{d:Array Int}(A:fD h S N d)(f:Fx (· =R) h h')(a:R≠S):fD h' S N d:=⟨by rw[f.get S A.lt (λe=>a e.symm)];exact A.get,A.size,iW A.lt f.next⟩
theorem tZ  (h:H)(S N a b:Nat)(d:Array Int)(n:Kh)(x:N<1000000)(A:fD h S N d)(v:b<=N)(t:a<b):
  Ev T 238 [.sl S 0 N n,aC a,aC b] h (λ_ h'=>fD h' S N (reverseRange d a b)/\Fx (· =S) h h'):=by
 refine cV jC rfl ?_
 have p:(b:Int)- 1=((b- 1:Nat):Int):=om
 simp(disch:=omega)only[go_sem,jC,aD,p]
 refine aH (λc f o=> ∃(i j:Nat) (e:Array Int),(∃g:Nat->V,f= [.sl S 0 N n,aC a,aC b,aC i,aC j,g 5])/\j<b/\i<=b/\fD o S N e/\reverseLoop i j e=reverseLoop a (b- 1) d/\Fx (· =S) h o/\c=j) (b- 1)
  ⟨a,b- 1,d,aB rfl,om,om,A,rfl,Fx.refl _ h,rfl⟩ ?_
 clear A
 rintro c f u ⟨i,j,e,⟨g,rfl⟩,w,hi,A,l,F,r⟩
 subst r
 have sz:=A.size
 rw[reverseLoop] at l
 by_cases k:(i:Int)<(c:Int)
 ·have m:=oQ k
  rw[bF om] at l
  have s:=A.rd (i:=i) om
  have q:=A.rd (i:=c) om
  simp(disch:=omega)only[go_sem,m,s,q,A.get,bB,aY]
  have W:=A.swap (i:=i) (j:=c) (nx:=u.next+16) om rfl
  rw[show (i:Int)+1=((i+1:Nat):Int) from om,show (c:Int)- 1=((c- 1:Nat):Int) from om]
  exact⟨c- 1,om,i+1,c- 1,_,aB rfl,om,om,W.1,l,dC F W.2,rfl⟩
 have m:=bH k
 rw[bI om] at l
 simp(disch:=omega)only[go_sem,m]
 unfold reverseRange
 rw[←l]
 exact⟨A,F⟩
theorem Dh (n:Nat){k:Int}{m:Nat}(a:k=(m:Int)):(n:Int).tdiv k=((n/m:Nat):Int):=by
 rw[a,Int.tdiv_eq_ediv_of_nonneg om];rfl
theorem Ba  (h:H)(S N a b:Nat)(d:Array Int)(cp:Kh)(hN:N<60000)(A:fD h S N d)(hb:b<=N)(a2:a<=b):
  Ev T 236 [.sl S 0 N cp,aC a,aC b] h (λ_ h'=> ∃e,fD h' S N e/\PermIn a b d e/\Fx (· =S) h h'):=by
 refine cV fH rfl ?_
 obtain⟨n,hn⟩:=exI (b-a)
 have en:(b:Int)-(a:Int)=(n:Int):=om
 by_cases h8:(8:Int)<=(n:Int)
 case neg=>
  have U:=bH h8;simp(disch:=omega)only[go_sem,fH,aD,en,U];exact⟨d,A,permIn_refl d a b,Fx.refl _ h⟩
 have U:=oQ h8
 have J:=Dh n (k:=4) (m:=4) rfl
 obtain⟨q,hq⟩:=exI (n/4)
 rw[hq] at J
 have ei:(a:Int)+(q:Int)*2- 1=((a+q*2- 1:Nat):Int):=om
 have ej:(a:Int)+(q:Int)*2+1=((a+q*2+1:Nat):Int):=om
 have hp:=two_pow_bitsLen_le (show 0<n by omega)
 have a1:=lt_two_pow_bitsLen n
 obtain⟨m,hm⟩:=exI (2^bitsLen n)
 rw[hm] at hp a1
 obtain⟨R,hR⟩:=exI h.next
 have L:R≠S:=by have:=A.lt;omega
 have a0: ∀c:H,dX (aZ [.int .u64 0]) c R 0 [.int .u64 (n:Int)]=some (c.set R (aZ [.int .u64 (n:Int)])):=λc=>bN (by simp) c R _
 have B:(h.new (.cells false [.int .u64 0])).get R=aZ [.int .u64 0]:=by rw[←hR,H.aL]
 simp(disch:=omega)only[go_sem,fH,aD,en,U,hR,dK (n:=(n:Int)) om om,B,a0]
 obtain⟨l,f⟩: ∃l,l=(h.new (.cells false [.int .u64 0])).set R (aZ [.int .u64 (n:Int)]):=⟨_,rfl⟩
 rw[←f]
 have g1:l.get R=aZ [.int .u64 (n:Int)]:=by rw[f,H.aS]
 have n1:l.next=R+1:=by rw[f,H.bY,H.aU,hR]
 have Y:Fr h l:=by rw[f];exact ((Fr.refl h).new _).set om _
 clear f
 refine (Wg n l om).mono ?_
 rintro _ a5 ⟨rfl,c⟩
 rw[c,hm]
 simp(disch:=omega)only[go_sem,J,ei]
 refine aH (λk' p c=> ∃(i:Nat) (e:Array Int) (x:Int),(∃g:Nat->V,p= [.sl S 0 N cp,aC a,aC b,aC n,.ptr R 0,.int .u64 (m:Int),aC i,g 7,g 8,g 9,g 10])/\a<=i/\i<=a+q*2+2/\fD c S N e/\PermIn a b d e/\c.get R=aZ [.int .u64 x]/\R<c.next/\Fx (· =S) h c/\k'=a+q*2+2-i) (a+q*2+2-(a+q*2- 1))
  ⟨a+q*2- 1,d,_,aB rfl,om,om,A.fr Y,permIn_refl d a b,g1,om,Fx.of Y,rfl⟩ ?_
 clear A g1 n1 Y c l
 rintro k' p l ⟨i,e,x,⟨g,rfl⟩,z,a4,A,K,gR,nR,F,rfl⟩
 by_cases r:(i:Int)<=((a+q*2+1:Nat):Int)
 case neg=>
  have Q:=bH r;simp(disch:=omega)only[go_sem,J,ej,Q];exact⟨e,A,K,F⟩
 have Q:=oQ r
 simp(disch:=omega)only[go_sem,J,ej,Q]
 refine (Wd R x l gR nR).mono ?_
 rintro _ G ⟨y,rfl,s,F2⟩
 have o:=A.Uc F2 L
 obtain⟨w,hw,a3⟩:=Uo y (m- 1) om
 have em:(m:Int)- 1=((m- 1:Nat):Int):=om
 have sz:=o.size
 have v:Fx (· =S) h G:=⟨mT F.next F2.next,λid h3 h4=>(F2.get id (iW h3 F.next) (λe=>by have:id=R:=e;omega)).trans (F.get id h3 h4)⟩
 have u:R<G.next:=iW nR F2.next
 by_cases t:(n:Int)<=(w:Int)
 ·have e2:=oQ t
  have e3:(w:Int)-(n:Int)=((w-n:Nat):Int):=om
  have P:(a:Int)+((w-n:Nat):Int)=((a+(w-n):Nat):Int):=om
  have Z:=o.rd (i:=i) om
  have O:=o.rd (i:=a+(w-n)) om
  simp(disch:=omega)only[go_sem,em,dK (n:=((m- 1:Nat):Int)) om om,hw,e2,e3,P,Z,O,o.get,bB,aY]
  have W:=o.swap (i:=i) (j:=a+(w-n)) (nx:=G.next+20) om rfl
  rw[eJ i]
  refine⟨a+q*2+2-(i+1),om,i+1,_,y,aB rfl,om,om,W.1,permIn_trans _ _ _ a b K (swp_permIn e a b i (a+(w-n)) z om om om om),?_,iW u W.2.next,dC v W.2,rfl⟩
  exact s
 ·have e2:=bH t
  have P:(a:Int)+(w:Int)=((a+w:Nat):Int):=om
  have Z:=o.rd (i:=i) om
  have O:=o.rd (i:=a+w) om
  simp(disch:=omega)only[go_sem,em,dK (n:=((m- 1:Nat):Int)) om om,hw,e2,P,Z,O,o.get,bB,aY]
  have W:=o.swap (i:=i) (j:=a+w) (nx:=G.next+20) om rfl
  rw[eJ i]
  refine⟨a+q*2+2-(i+1),om,i+1,_,y,aB rfl,om,om,W.1,permIn_trans _ _ _ a b K (swp_permIn e a b i (a+w) z om om om om),?_,iW u W.2.next,dC v W.2,rfl⟩
  exact s
structure Wn (h h':H)(R:Nat):Prop where
 get: ∃s,h'.get R=aZ [aC s]
 fx:Fx (· =R) h h'
theorem Wn.trans {a b c:H}{R:Nat}(x:Wn a b R)(y:Wn b c R):Wn a c R:=⟨y.get,x.fx.trans y.fx λ_ _ h=>h⟩
theorem jU  (h:H)(S N a b R:Nat)(d:Array Int)(q:Kh)(y:N<1000000)(A:fD h S N d)(u:a<N)(t:b<N)(x:R≠S)(l:R<h.next)(s:Int)(n:h.get R=aZ [aC s]):
  Ev T 263 [.sl S 0 N q,aC a,aC b,.ptr R 0] h (λv h'=>(v= .tup [aC a,aC b]∨v= .tup [aC b,aC a])/\Wn h h' R):=by
 refine cV mE rfl ?_
 have p:=A.rd (i:=a) om
 have o:=A.rd (i:=b) om
 simp(disch:=omega)only[go_sem,mE,aD,p,o]
 refine (Aw _ _ _).mono ?_
 rintro _ f ⟨rfl,m⟩
 have k:Fr h f:=Fr.trans ((Fr.refl h).bA om) m
 have c:f.get R=aZ [aC s]:=by rw[k.get R l];exact n
 cases hl:ltInt d[b]! d[a]! with
 |false=>
  simp(disch:=omega)only[go_sem,hl];exact⟨.inl trivial,⟨s,c⟩,Fx.of k⟩
 |true=>
  have cR:f.cell R 0=some (aC s):=by rw[H.aF c];rfl
  have r: ∀(w:Int) (j:H),dX (aZ [aC s]) j R 0 [aC w]=some (j.set R (aZ [aC w])):=λw j=>bN (by simp) j R _
  simp(disch:=omega)only[go_sem,hl,cR,c,r];exact⟨.inr trivial,⟨_,by rw[H.aS]⟩,(Fx.of (W:=(· =R)) k).trans (Fx.set f (W:=(· =R)) rfl _) (λ_ _ h=>h)⟩
theorem oD  (h:H)(S N a b c R:Nat)(d:Array Int)(n:Kh)(t:N<1000000)(A:fD h S N d)(q:a<N)(w:b<N)(K:c<N)(j:R≠S)(f:R<h.next)(s:Int)(gR:h.get R=aZ [aC s]):
  Ev T 259 [.sl S 0 N n,aC a,aC b,aC c,.ptr R 0] h (λv h'=>(∃m,v= aC (m:Nat)/\(m=a∨m=b∨m=c))/\Wn h h' R):=by
 refine cV lI rfl ?_
 simp(disch:=omega)only[go_sem,lI,aD]
 refine (jU h S N a b R d n t A q w j f s gR).mono ?_
 rintro v1 h1 ⟨r,l⟩
 obtain⟨F,k,rfl,p,i,J⟩: ∃x y,v1= .tup [aC (x:Nat),aC (y:Nat)]/\x<N/\y<N/\((x=a∨x=b)/\(y=a∨y=b)):=by
  rcases r with rfl|rfl
  ·exact⟨a,b,rfl,q,w,.inl rfl,.inr rfl⟩
  ·exact⟨b,a,rfl,w,q,.inr rfl,.inl rfl⟩
 have O:=A.Uc l.fx j
 obtain⟨s1,Z⟩:=l.get
 have G:=iW f l.fx.next
 simp(disch:=omega)only[go_sem]
 refine (jU h1 S N k c R d n t O i K j G s1 Z).mono ?_
 rintro U Q ⟨u,o⟩
 obtain⟨L,y2,rfl,z,P⟩: ∃x y,U= .tup [aC (x:Nat),aC (y:Nat)]/\x<N/\(x=k∨x=c):=by
  rcases u with rfl|rfl
  ·exact⟨k,c,rfl,i,.inl rfl⟩
  ·exact⟨c,k,rfl,K,.inr rfl⟩
 have A2:=O.Uc o.fx j
 obtain⟨Y,g2⟩:=o.get
 have W:=iW G o.fx.next
 simp(disch:=omega)only[go_sem]
 refine (jU Q S N F L R d n t A2 p z j W Y g2).mono ?_
 rintro v3 h3 ⟨B,C3⟩
 have C:=(l.trans o).trans C3
 rcases B with rfl|rfl
 ·simp(disch:=omega)only[go_sem]
  exact⟨⟨L,rfl,om⟩,C⟩
 ·simp(disch:=omega)only[go_sem]
  exact⟨⟨F,rfl,om⟩,C⟩
theorem iT  (h:H)(S N a R:Nat)(d:Array Int)(c:Kh)(n:N<1000000)(A:fD h S N d)(q:0<a)(p:a+1<N)(k:R≠S)(b:R<h.next)(s:Int)(f:h.get R=aZ [aC s]):
  Ev T 258 [.sl S 0 N c,aC a,.ptr R 0] h (λv h'=>(∃m,v= aC (m:Nat)/\(m=a- 1∨m=a∨m=a+1))/\Wn h h' R):=by
 refine cV iR rfl ?_
 have j:(a:Int)- 1=((a- 1:Nat):Int):=om
 have i:(a:Int)+1=((a+1:Nat):Int):=om
 simp(disch:=omega)only[go_sem,iR,aD,j,i]
 refine (oD h S N (a- 1) a (a+1) R d c n A om om om k b s f).mono ?_
 rintro _ o ⟨⟨m,rfl,l⟩,C⟩
 simp(disch:=omega)only[go_sem]
 exact⟨⟨m,rfl,l⟩,C⟩
theorem Ar  (h:H)(S N a b:Nat)(d:Array Int)(F:Kh)(U:N<1000000)(A:fD h S N d)(hb:b<=N)(a1:a<b):
  Ev T 237 [.sl S 0 N F,aC a,aC b] h (λv h'=> ∃(p:Nat) (t:Int),v= .tup [aC p,aC t]/\a<=p/\p<b/\Fr h h'):=by
 refine cV dS rfl ?_
 obtain⟨n,hn⟩:=exI (b-a)
 have en:(b:Int)-(a:Int)=(n:Int):=om
 have P:=Dh n (k:=4) (m:=4) rfl
 obtain⟨q,hq⟩:=exI (n/4)
 rw[hq] at P
 have Y:(a:Int)+(q:Int)*1=((a+q:Nat):Int):=om
 have ej:(a:Int)+(q:Int)*2=((a+q*2:Nat):Int):=om
 have Z:(a:Int)+(q:Int)*3=((a+q*3:Nat):Int):=om
 obtain⟨R,O⟩:=exI h.next
 have c:R≠S:=by have:=A.lt;omega
 obtain⟨o,l⟩: ∃o,o=h.new (.cells false [aC 0]):=⟨_,rfl⟩
 have g1:o.get R=aZ [aC 0]:=by rw[l,←O,H.aL]
 have n1:o.next=R+1:=by rw[l,H.aU,O]
 have f1:Fr h o:=by rw[l];exact (Fr.refl h).new _
 have A1:=A.fr f1
 have L: ∀(p:Nat) (f:H),a<=p->p<b->Fx (· =R) o f->a<=p/\p<b/\Fr h f:=λp f x1 x2 x3=>⟨x1,x2,mT f1.next x3.next,λid a0=>(x3.get id om (λe=>by have:id=R:=e;omega)).trans (f1.get id a0)⟩
 by_cases h8:(8:Int)<=(n:Int)
 case neg=>
  have Q:=bH h8;simp(disch:=omega)only[go_sem,dS,aD,en,P,Y,ej,Z,Q];rw[←l];have cR:o.cell R 0=some (aC 0):=by rw[H.aF g1];rfl
  simp(disch:=omega)only[go_sem,O,cR];refine aW (λ_=>?_) (λhc=>(hc (by trivial)).elim);simp(disch:=omega)only[go_sem];exact⟨a+q*2,1,rfl,L _ _ om om (Fx.refl _ _)⟩
 have Q:=oQ h8
 have s: ∀(i j k:Nat) (f:H) (J:Int),a<=i->i<b->a<=j->j<b->a<=k->k<b->fD f S N d->f.get R=aZ [aC J]->R<f.next->Fx (· =R) o f->
   Ev T 259 [.sl S 0 N F,aC i,aC j,aC k,.ptr R 0] f (λv h'=> ∃p r,v= aC (p:Nat)/\a<=p/\p<b/\h'.get R=aZ [aC r]/\Fr h h'):=by
  intro i j k f J i1 i2 j1 j2 k1 k2 W g2 n2 F2
  refine (oD f S N i j k R d F U W om om om c n2 J g2).mono ?_
  rintro _ B ⟨⟨p,rfl,hp⟩,⟨r,z⟩,K⟩
  exact⟨p,r,rfl,om,om,z,(L p B om om (F2.trans K λ_ _ h=>h)).2.2⟩
 by_cases G:(50:Int)<=(n:Int)
 case neg=>
  have x:=bH G;simp(disch:=omega)only[go_sem,dS,aD,en,P,Y,ej,Z,Q,x];rw[←l];simp(disch:=omega)only[go_sem,O];refine (s (a+q) (a+q*2) (a+q*3) o 0 om om om om om om A1 g1 om (Fx.refl _ _)).mono ?_;rintro _ B ⟨p,r,rfl,u,y,z,w⟩;have cR:B.cell R 0=some (aC r):=by rw[H.aF z];rfl
  simp(disch:=omega)only[go_sem,cR];refine aW (λ_=>?_) (λ_=>?_)
  ·simp(disch:=omega)only[go_sem]
   exact⟨p,1,rfl,u,y,w⟩
  ·simp(disch:=omega)only[go_sem]
   refine aW (λ_=>?_) (λ_=>?_)
   ·simp(disch:=omega)only[go_sem]
    exact⟨p,2,rfl,u,y,w⟩
   ·simp(disch:=omega)only[go_sem]
    exact⟨p,0,rfl,u,y,w⟩
 have x:=oQ G
 simp(disch:=omega)only[go_sem,dS,aD,en,P,Y,ej,Z,Q,x]
 rw[←l]
 simp(disch:=omega)only[go_sem,O]
 refine (iT o S N (a+q) R d F U A1 om om c om 0 g1).mono ?_
 rintro _ f ⟨⟨i,rfl,hi⟩,⟨J,g2⟩,F2⟩
 have W:=A1.Uc F2 c
 have n2:=F2.next
 simp(disch:=omega)only[go_sem]
 refine (iT f S N (a+q*2) R d F U W om om c om J g2).mono ?_
 rintro _ B ⟨⟨j,rfl,hj⟩,⟨r,z⟩,K⟩
 have A3:=W.Uc K c
 have n3:=K.next
 simp(disch:=omega)only[go_sem]
 refine (iT B S N (a+q*3) R d F U A3 om om c om r z).mono ?_
 rintro _ h4 ⟨⟨k,rfl,hk⟩,⟨s4,g4⟩,F4⟩
 have A4:=A3.Uc F4 c
 have n4:=F4.next
 simp(disch:=omega)only[go_sem]
 refine (s i j k h4 s4 om om om om om om A4 g4 om ((F2.trans K λ_ _ h=>h).trans F4 λ_ _ h=>h)).mono ?_
 rintro _ B ⟨p,r,rfl,u,y,z,w⟩
 have cR:B.cell R 0=some (aC r):=by rw[H.aF z];rfl
 simp(disch:=omega)only[go_sem,cR]
 refine aW (λ_=>?_) (λ_=>?_)
 ·simp(disch:=omega)only[go_sem]
  exact⟨p,1,rfl,u,y,w⟩
 ·simp(disch:=omega)only[go_sem]
  refine aW (λ_=>?_) (λ_=>?_)
  ·simp(disch:=omega)only[go_sem]
   exact⟨p,2,rfl,u,y,w⟩
  ·simp(disch:=omega)only[go_sem]
   exact⟨p,0,rfl,u,y,w⟩
section
variable {lt:Int->Int->Bool} {j b:Nat} {d:Array Int}
theorem GU (h:lt d[j+1]! d[j]! =true):shiftDown lt (j+1) d=shiftDown lt j (swp d (j+1) j):=by rw[shiftDown,bI (by simp [h])]
theorem aoK (h:lt d[j+1]! d[j]! =false):shiftDown lt (j+1) d=d:=by rw[shiftDown,bF (by simp [h])]
theorem EY (a:j<b)(h:lt d[j]! d[j- 1]! =true):shiftUp lt b j d=shiftUp lt b (j+1) (swp d j (j- 1)):=by rw[shiftUp,bF a,bI (by simp [h])]
theorem FZ (a:j<b)(h:lt d[j]! d[j- 1]! =false):shiftUp lt b j d=d:=by rw[shiftUp,bF a,bF (by simp [h])]
theorem aoH {i:Nat}(hi:i<b)(h:lt d[i]! d[i- 1]! =false):scanSorted lt d b i=scanSorted lt d b (i+1):=by rw[scanSorted,bF (by simp [h,hi])]
theorem Nn {i:Nat}(h: ¬(i<b/\lt d[i]! d[i- 1]! =false)):scanSorted lt d b i=i:=by rw[scanSorted,bI (by simpa using h)]
theorem Lq (lt:Int->Int->Bool)(a b s i:Nat)(d:Array Int):partialIns lt a b (s+1) i d=if scanSorted lt d b i=b then (d,true) else if b-a<50 then (d,false) else
  partialIns lt a b s (scanSorted lt d b i) (if b-scanSorted lt d b i≥2 then shiftUp lt b (scanSorted lt d b i+1) (if scanSorted lt d b i-a≥2 then shiftDown lt (scanSorted lt d b i- 1) (swp d (scanSorted lt d b i) (scanSorted lt d b i- 1)) else swp d (scanSorted lt d b i) (scanSorted lt d b i- 1)) else
   (if scanSorted lt d b i-a≥2 then shiftDown lt (scanSorted lt d b i- 1) (swp d (scanSorted lt d b i) (scanSorted lt d b i- 1)) else swp d (scanSorted lt d b i) (scanSorted lt d b i- 1))):=by rw[partialIns]
theorem tB (h:H)(S N a b:Nat)(d:Array Int)(Q:Kh)(hN:N<1000000)(A:fD h S N d)(hb:b<=N)(b4:a<b):
  Ev T 239 [.sl S 0 N Q,aC a,aC b] h (λv h'=>v= .bool (partialInsertionSort ltInt d a b).2/\fD h' S N (partialInsertionSort ltInt d a b).1/\Fx (· =S) h h'):=by
 refine cV fX rfl ?_
 simp(disch:=omega)only[go_sem,fX,aD]
 rw[eJ a]
 refine aH (λf c p=> ∃(s i:Nat) (e:Array Int),(∃g:Nat->V,c= [.sl S 0 N Q,aC a,aC b,g 3,aC i,aC (5-(s:Int)),g 6,g 7,g 8,g 9,g 10,g 11,g 12,g 13,g 14,g 15,g 16,g 17])/\s<=5/\a<i/\i<=b/\fD p S N e/\partialIns ltInt a b s i e=partialInsertionSort ltInt d a b/\Fx (· =S) h p/\f=s) 5
  ⟨5,a+1,d,aB rfl,om,om,om,A,rfl,Fx.refl _ h,rfl⟩ ?_
 clear A
 rintro f c Y ⟨s,i,e,⟨g,rfl⟩,hs,b3,b2,A,k,F,hk⟩
 subst hk
 by_cases w:(5:Int)-(f:Int)<5
 case neg=>
  have l:=bH w;obtain rfl:f=0:=om
  simp(disch:=omega)only[go_sem,l];have k:(e,false)=partialInsertionSort ltInt d a b:=k;rw[←k];exact⟨rfl,A,F⟩
 have l:=oQ w
 obtain⟨s,rfl⟩: ∃s,f=s+1:=⟨f- 1,om⟩
 simp(disch:=omega)only[go_sem,l]
 rw[Lq] at k
 refine aH (λf c p=> ∃(m:Nat),(∃g:Nat->V,c= [.sl S 0 N Q,aC a,aC b,g 3,aC m,aC (5-((s+1:Nat):Int)),g 6,g 7,g 8,g 9,g 10,g 11,g 12,g 13,g 14,g 15,g 16,g 17])/\a<m/\m<=b/\fD p S N e/\scanSorted ltInt e b m=scanSorted ltInt e b i/\Fx (· =S) h p/\f=b-m) (b-i)
  ⟨i,aB rfl,b3,b2,A,rfl,F,rfl⟩ ?_
 clear A F w l
 rintro f c r ⟨m,⟨g,rfl⟩,b5,b6,A,R,F,rfl⟩
 have sz:=A.size
 have y:(m:Int)- 1=((m- 1:Nat):Int):=om
 have a5:(m:Int)+1=((m+1:Nat):Int):=om
 by_cases a8:(m:Int)<(b:Int)
 case neg=>
  have l:=bH a8;have em:m=b:=om
  rw[Nn om] at R;rw[←R,bF em] at k;have e2:decide ((m:Int)=(b:Int))=true:=oQ om;simp(disch:=omega)only[go_sem,l,e2];rw[←k];exact⟨rfl,A.fr ((Fr.refl r).bA om),dC F (Fx.of ((Fr.refl r).bA om))⟩
 have l:=oQ a8
 have o:=A.rd (i:=m) om
 have n:=A.rd (i:=m- 1) om
 simp(disch:=omega)only[go_sem,l,y,o,n]
 refine (Aw _ _ _).mono ?_
 rintro _ h3 ⟨rfl,a6⟩
 have J:Fr r h3:=Fr.trans ((Fr.refl r).bA om) a6
 have G:=A.fr J
 have F3:=dC F (Fx.of J)
 cases hl:ltInt e[m]! e[m- 1]! with
 |false=>
  rw[aoH om hl] at R;simp(disch:=omega)only[go_sem,hl,a5];exact⟨b-(m+1),om,m+1,aB rfl,om,om,G,R,F3,rfl⟩
 |true=>
  rw[Nn (by rw[hl];simp)] at R;rw[←R,bI om] at k;have e2:decide ((m:Int)=(b:Int))=false:=bH om
  by_cases a4:(b:Int)-(a:Int)<50
  ·have z:=oQ a4
   rw[bF om] at k;simp(disch:=omega)only[go_sem,hl,e2,z];rw[←k];exact⟨rfl,G,F3⟩
  have z:=bH a4;rw[bI om] at k;have o:=G.rd (i:=m) om;have n:=G.rd (i:=m- 1) om;simp(disch:=omega)only[go_sem,hl,e2,z,y,o,n,G.get,bB,aY];have W:=G.swap (i:=m) (j:=m- 1) (nx:=h3.next+18) om rfl
  obtain⟨h4,a0⟩: ∃h4,h4=((H.mk h3.tr (h3.next+18)).set S (aZ (ints (e.setIfInBounds m e[m- 1]!).toList))).set S (aZ (ints ((e.setIfInBounds m e[m- 1]!).setIfInBounds (m- 1) e[m]!).toList)):=⟨_,rfl⟩
  rw[←a0] at W ⊢;obtain⟨A4,F4⟩:=W;have u:=dC F3 F4;clear a0 F4 G F3 J a6 o n;obtain⟨L,a1⟩:=exI (swp e m (m- 1));rw[a1] at A4 k;refine jT (λvs U=> ∃O,(∃g:Nat->V,vs= [.sl S 0 N Q,aC a,aC b,g 3,aC m,aC (5-((s+1:Nat):Int)),g 6,g 7,g 8,g 9,g 10,g 11,g 12,g 13,g 14,g 15,g 16,g 17])/\fD U S N O/\O=(if m-a≥2 then shiftDown ltInt (m- 1) L else L)/\Fx (· =S) h U) ?_ ?_
  ·refine aW (λr=>?_) (λr=>?_)
   ·simp(disch:=omega)only[go_sem,y]
    refine aH (λf c p=> ∃(j:Nat) (x:Array Int),(∃g:Nat->V,c= [.sl S 0 N Q,aC a,aC b,g 3,aC m,aC (5-((s+1:Nat):Int)),aC j,g 7,g 8,g 9,g 10,g 11,g 12,g 13,g 14,g 15,g 16,g 17])/\j<b/\fD p S N x/\shiftDown ltInt j x=shiftDown ltInt (m- 1) L/\Fx (· =S) h p/\f=j) (m- 1)
     ⟨m- 1,L,aB rfl,om,A4,rfl,u,rfl⟩ ?_
    rintro f c U ⟨j,x,⟨g,rfl⟩,hj,t,B,F5,hk⟩;subst hk;have b7:=t.size
    by_cases Y:(1:Int)<=(f:Int)
    ·have l:=oQ Y
     obtain⟨q,rfl⟩: ∃q,f=q+1:=⟨f- 1,om⟩
     have a7:((q+1:Nat):Int)- 1=(q:Int):=om
     have o:=t.rd (i:=q+1) om;have n:=t.rd (i:=q) om;simp(disch:=omega)only[go_sem,l,a7,o,n];refine (Aw _ _ _).mono ?_;rintro _ Z ⟨rfl,a9⟩;have f6:Fr U Z:=Fr.trans ((Fr.refl U).bA om) a9;have A6:=t.fr f6;have F6:=dC F5 (Fx.of f6)
     cases hl:ltInt x[q+1]! x[q]! with
     |false=>
      rw[aoK hl] at B;simp(disch:=omega)only[go_sem,hl];exact .inl ⟨x,aB rfl,A6,by rw[bF om,←B],F6⟩
     |true=>
      rw[GU hl] at B;have o:=A6.rd (i:=q+1) om;have n:=A6.rd (i:=q) om;simp(disch:=omega)only[go_sem,hl,a7,o,n,A6.get,bB,aY];have W:=A6.swap (i:=q+1) (j:=q) (nx:=Z.next+18) om rfl;exact⟨q,om,q,_,aB rfl,om,W.1,B,dC F6 W.2,rfl⟩
    ·have l:=bH Y
     obtain rfl:f=0:=om
     simp(disch:=omega)only[go_sem,l];have B:x=shiftDown ltInt (m- 1) L:=B;exact .inl ⟨x,aB rfl,t,by rw[bF om,←B],F5⟩
   ·simp(disch:=omega)only[go_sem]
    exact .inl ⟨L,aB rfl,A4,by rw[bI om],u⟩
  ·rintro c U ⟨O,⟨g,rfl⟩,t,a2,F5⟩
   rw[←a2] at k;clear A4 u a2 a1;simp(disch:=omega)only[go_sem];have K:(5:Int)-((s+1:Nat):Int)+1=5-(s:Int):=om
   refine aW (λr=>?_) (λr=>?_)
   ·rw[bF om] at k
    simp(disch:=omega)only[go_sem,a5];refine aH (λf c p=> ∃(j:Nat) (x:Array Int),(∃g:Nat->V,c= [.sl S 0 N Q,aC a,aC b,g 3,aC m,aC (5-((s+1:Nat):Int)),g 6,aC j,g 8,g 9,g 10,g 11,g 12,g 13,g 14,g 15,g 16,g 17])/\0<j/\j<=b/\fD p S N x/\shiftUp ltInt b j x=shiftUp ltInt b (m+1) O/\Fx (· =S) h p/\f=b-j) (b-(m+1))
     ⟨m+1,O,aB rfl,om,om,t,rfl,F5,rfl⟩ ?_
    rintro f c Z ⟨j,x,⟨g,rfl⟩,b8,hj,A6,P,F6,rfl⟩;have b9:=A6.size
    by_cases Y:(j:Int)<(b:Int)
    ·have l:=oQ Y
     have a3:(j:Int)- 1=((j- 1:Nat):Int):=om
     have b1:(j:Int)+1=((j+1:Nat):Int):=om
     have o:=A6.rd (i:=j) om;have n:=A6.rd (i:=j- 1) om;simp(disch:=omega)only[go_sem,l,a3,o,n];refine (Aw _ _ _).mono ?_;rintro _ h7 ⟨rfl,b0⟩;have f7:Fr Z h7:=Fr.trans ((Fr.refl Z).bA om) b0;have A7:=A6.fr f7;have F7:=dC F6 (Fx.of f7)
     cases hl:ltInt x[j]! x[j- 1]! with
     |false=>
      rw[FZ om hl] at P;rw[←P] at k;simp(disch:=omega)only[go_sem,hl,K];exact⟨s,om,s,m,x,aB rfl,om,om,om,A7,k,F7,rfl⟩
     |true=>
      rw[EY om hl] at P;have o:=A7.rd (i:=j) om;have n:=A7.rd (i:=j- 1) om;simp(disch:=omega)only[go_sem,hl,a3,b1,o,n,A7.get,bB,aY];have W:=A7.swap (i:=j) (j:=j- 1) (nx:=h7.next+18) om rfl;exact⟨b-(j+1),om,j+1,_,aB rfl,om,om,W.1,P,dC F7 W.2,rfl⟩
    ·have l:=bH Y
     rw[shiftUp,bI om] at P;rw[←P] at k;simp(disch:=omega)only[go_sem,l,K];exact⟨s,om,s,m,x,aB rfl,om,om,om,A6,k,F6,rfl⟩
   ·rw[bI om] at k
    simp(disch:=omega)only[go_sem,K];exact⟨s,om,s,m,O,aB rfl,om,om,om,t,k,F5,rfl⟩
end
section
variable {p:Int->Bool} {d:Array Int} {j i:Nat}
theorem yY (a:i<=j)(h2:p d[i]! =true):scanUp p d j i=scanUp p d j (i+1):=by rw[scanUp,bF (by simp [a,h2])]
theorem qA (h: ¬(i<=j/\p d[i]! =true)):scanUp p d j i=i:=by rw[scanUp,bI (by simpa using h)]
theorem Dc (a:i<=j+1)(h2:p d[j+1]! =true):scanDown p d i (j+1)=scanDown p d i j:=by rw[scanDown,bF (by simp [a,h2])]
theorem oP (h: ¬(i<=j/\p d[j]! =true)):scanDown p d i j=j:=by
 cases j with
 |zero=>rfl
 |succ j=>rw[scanDown,bI (by simpa using h)]
theorem kW (p:Int->Bool)(d:Array Int)(j i:Nat):scanUp p d j i<=max i (j+1):=by
 obtain⟨n,a⟩:=exI (j+1-i)
 induction n generalizing i with
 |zero=>rw[qA (λh=>by have:=h.1;omega)];omega
 |succ n ih=>
  by_cases h:i<=j/\p d[i]! =true
  ·rw[yY h.1 h.2]
   have:=ih (i+1) om;omega
  ·rw[qA h];omega
theorem pG (h:H)(S N a b pv:Nat)(d:Array Int)(U:Kh)(hN:N<1000000)(A:fD h S N d)(hb:b<=N)(b9:a<=pv)(c3:pv<b):
  Ev T 241 [.sl S 0 N U,aC a,aC b,aC pv] h (λv h'=>v= .tup [aC ((partition ltInt d a b pv).1:Nat),.bool (partition ltInt d a b pv).2.1]/\fD h' S N (partition ltInt d a b pv).2.2/\Fx (· =S) h h'):=by
 refine cV jY rfl ?_
 have sz:=A.size
 have K:=A.rd (i:=a) om
 have J:=A.rd (i:=pv) om
 simp(disch:=omega)only[go_sem,jY,aD,K,J,A.get,bB,aY]
 have W:=A.swap (i:=a) (j:=pv) (nx:=h.next+16) om rfl
 obtain⟨h1,b3⟩: ∃h1,h1=((H.mk h.tr (h.next+16)).set S (aZ (ints (d.setIfInBounds a d[pv]!).toList))).set S (aZ (ints ((d.setIfInBounds a d[pv]!).setIfInBounds pv d[a]!).toList)):=⟨_,rfl⟩
 rw[←b3] at W ⊢
 obtain⟨A1,F1⟩:=W
 obtain⟨e,he⟩:=exI (swp d a pv)
 rw[he] at A1
 clear b3 K J A
 have eb:(b:Int)- 1=((b- 1:Nat):Int):=om
 have ea:(a:Int)+1=((a+1:Nat):Int):=om
 have hP:partition ltInt d a b pv=if scanUp (λx=>ltInt x e[a]!) e (b- 1) (a+1)>scanDown (λx=>!ltInt x e[a]!) e (scanUp (λx=>ltInt x e[a]!) e (b- 1) (a+1)) (b- 1) then
   (scanDown (λx=>!ltInt x e[a]!) e (scanUp (λx=>ltInt x e[a]!) e (b- 1) (a+1)) (b- 1),true,swp e (scanDown (λx=>!ltInt x e[a]!) e (scanUp (λx=>ltInt x e[a]!) e (b- 1) (a+1)) (b- 1)) a) else
   ((partLoop ltInt a (scanUp (λx=>ltInt x e[a]!) e (b- 1) (a+1)+1) (scanDown (λx=>!ltInt x e[a]!) e (scanUp (λx=>ltInt x e[a]!) e (b- 1) (a+1)) (b- 1)- 1) (swp e (scanUp (λx=>ltInt x e[a]!) e (b- 1) (a+1)) (scanDown (λx=>!ltInt x e[a]!) e (scanUp (λx=>ltInt x e[a]!) e (b- 1) (a+1)) (b- 1)))).1,false,
    swp (partLoop ltInt a (scanUp (λx=>ltInt x e[a]!) e (b- 1) (a+1)+1) (scanDown (λx=>!ltInt x e[a]!) e (scanUp (λx=>ltInt x e[a]!) e (b- 1) (a+1)) (b- 1)- 1) (swp e (scanUp (λx=>ltInt x e[a]!) e (b- 1) (a+1)) (scanDown (λx=>!ltInt x e[a]!) e (scanUp (λx=>ltInt x e[a]!) e (b- 1) (a+1)) (b- 1)))).2 (partLoop ltInt a (scanUp (λx=>ltInt x e[a]!) e (b- 1) (a+1)+1) (scanDown (λx=>!ltInt x e[a]!) e (scanUp (λx=>ltInt x e[a]!) e (b- 1) (a+1)) (b- 1)- 1) (swp e (scanUp (λx=>ltInt x e[a]!) e (b- 1) (a+1)) (scanDown (λx=>!ltInt x e[a]!) e (scanUp (λx=>ltInt x e[a]!) e (b- 1) (a+1)) (b- 1)))).1 a):=by
  rw[←he];rfl
 obtain⟨R,a8⟩:=exI (partition ltInt d a b pv)
 rw[a8] at hP
 rw[a8]
 simp(disch:=omega)only[go_sem,ea,eb]
 refine bJ (λO c=>(∃g:Nat->V,O= [.sl S 0 N U,aC a,aC b,aC pv,g 4,g 5,aC (scanUp (λx=>ltInt x e[a]!) e (b- 1) (a+1):Nat),aC ((b- 1):Nat),g 8,g 9,g 10,g 11,g 12,g 13])/\fD c S N e/\Fx (· =S) h c) ?_ ?_
 ·refine aH (λG O c=> ∃(k:Nat),(∃g:Nat->V,O= [.sl S 0 N U,aC a,aC b,aC pv,g 4,g 5,aC (k:Nat),aC ((b- 1):Nat),g 8,g 9,g 10,g 11,g 12,g 13])/\(a+1)<=k/\k<=N+2/\fD c S N e/\scanUp (λx=>ltInt x e[a]!) e (b- 1) k=scanUp (λx=>ltInt x e[a]!) e (b- 1) (a+1)/\Fx (· =S) h c/\G=(b- 1)+1-k) ((b- 1)+1-(a+1))
   ⟨(a+1),aB rfl,om,om,A1,rfl,F1,rfl⟩ ?_
  rintro G l L ⟨k,⟨g,rfl⟩,a7,b5,z,n,Z,rfl⟩
  by_cases f:(k:Int)<=(((b- 1):Nat):Int)
  ·have q:decide ((k:Int)<=(((b- 1):Nat):Int))=true:=oQ f
   have eK:(k:Int)+1=((k+1:Nat):Int):=om
   have a6:=z.size
   have K:=z.rd (i:=k) om
   have J:=z.rd (i:=a) om
   simp(disch:=omega)only[go_sem,q,K,J]
   refine (Aw _ _ _).mono ?_
   rintro _ P ⟨rfl,s⟩
   have B:Fr L P:=Fr.trans ((Fr.refl L).bA om) s
   have t:=z.fr B
   have y:=dC Z (Fx.of B)
   cases hl:ltInt e[k]! e[a]! with
   |false=>
    rw[qA (λc=>by have:=c.2;simp [hl] at this)] at n;simp(disch:=omega)only[go_sem,hl];exact⟨by rw[←n];exact aB rfl,t,y⟩
   |true=>
    rw[yY om (by simp [hl])] at n;simp(disch:=omega)only[go_sem,hl,eK];exact⟨(b- 1)+1-(k+1),om,k+1,aB rfl,om,om,t,n,y,rfl⟩
  ·have q:decide ((k:Int)<=(((b- 1):Nat):Int))=false:=bH f
   rw[qA (λc=>f (by have:=c.1;omega))] at n
   simp(disch:=omega)only[go_sem,q]
   exact⟨by rw[←n];exact aB rfl,z.fr ((Fr.refl L).bA om),dC Z (Fx.of ((Fr.refl L).bA om))⟩
 ·rintro l h9 ⟨⟨g,rfl⟩,A9,F9⟩
  have a4:=scanUp_ge (λx=>ltInt x e[a]!) e (b- 1) (a+1)
  have a2:=kW (λx=>ltInt x e[a]!) e (b- 1) (a+1)
  obtain⟨o,a0⟩: ∃x,scanUp (λx=>ltInt x e[a]!) e (b- 1) (a+1)=x:=⟨_,rfl⟩
  rw[a0] at a4 a2
  rw[a0]
  simp(disch:=omega)only[go_sem]
  refine bJ (λO c=>(∃g:Nat->V,O= [.sl S 0 N U,aC a,aC b,aC pv,g 4,g 5,aC (o:Nat),aC (scanDown (λx=>!ltInt x e[a]!) e o (b- 1):Nat),g 8,g 9,g 10,g 11,g 12,g 13])/\fD c S N e/\Fx (· =S) h c) ?_ ?_
  ·refine aH (λG O c=> ∃(k:Nat),(∃g:Nat->V,O= [.sl S 0 N U,aC a,aC b,aC pv,g 4,g 5,aC (o:Nat),aC (k:Nat),g 8,g 9,g 10,g 11,g 12,g 13])/\k<=(b- 1)/\fD c S N e/\scanDown (λx=>!ltInt x e[a]!) e o k=scanDown (λx=>!ltInt x e[a]!) e o (b- 1)/\Fx (· =S) h c/\G=k) (b- 1)
    ⟨(b- 1),aB rfl,om,A9,rfl,F9,rfl⟩ ?_
   rintro G l L ⟨k,⟨g,rfl⟩,a7,z,n,Z,a5⟩
   subst a5
   by_cases f:((o:Nat):Int)<=(G:Int)
   ·have q:=oQ f
    obtain⟨k,rfl⟩: ∃k,G=k+1:=⟨G- 1,om⟩
    have eK:((k+1:Nat):Int)- 1=(k:Int):=om
    have a6:=z.size
    have K:=z.rd (i:=k+1) om
    have J:=z.rd (i:=a) om
    simp(disch:=omega)only[go_sem,q,K,J]
    refine (Aw _ _ _).mono ?_
    rintro _ P ⟨rfl,s⟩
    have B:Fr L P:=Fr.trans ((Fr.refl L).bA om) s
    have t:=z.fr B
    have y:=dC Z (Fx.of B)
    cases hl:ltInt e[k+1]! e[a]! with
    |true=>
     rw[oP (λc=>by have:=c.2;simp [hl] at this)] at n;simp(disch:=omega)only[go_sem,hl];exact⟨by rw[←n];exact aB rfl,t,y⟩
    |false=>
     rw[Dc om (by simp [hl])] at n;simp(disch:=omega)only[go_sem,hl,eK];exact⟨k,om,k,aB rfl,om,t,n,y,rfl⟩
   ·have q:=bH f
    rw[oP (λc=>f (by have:=c.1;omega))] at n
    simp(disch:=omega)only[go_sem,q]
    exact⟨by rw[←n];exact aB rfl,z.fr ((Fr.refl L).bA om),dC Z (Fx.of ((Fr.refl L).bA om))⟩
  ·rintro l h2 ⟨⟨g,rfl⟩,A2,F2⟩
   have a3:=scanDown_le (λx=>!ltInt x e[a]!) e o (b- 1)
   obtain⟨F,a1⟩: ∃x,scanDown (λx=>!ltInt x e[a]!) e o (b- 1)=x:=⟨_,rfl⟩
   rw[a1] at a3
   rw[a1]
   rw[a0,a1] at hP
   have b6:=A2.size
   by_cases Q:(F:Int)<(o:Int)
   ·have q:=oQ Q
    rw[bF om] at hP
    have K:=A2.rd (i:=F) om
    have J:=A2.rd (i:=a) om
    simp(disch:=omega)only[go_sem,q,K,J,A2.get,bB,aY]
    have W:=A2.swap (i:=F) (j:=a) (nx:=h2.next+16) om rfl
    rw[hP]
    exact⟨rfl,W.1,dC F2 W.2⟩
   have q:=bH Q
   rw[bI om] at hP
   have K:=A2.rd (i:=o) om
   have J:=A2.rd (i:=F) om
   simp(disch:=omega)only[go_sem,q,K,J,A2.get,bB,aY]
   have W:=A2.swap (i:=o) (j:=F) (nx:=h2.next+16) om rfl
   obtain⟨h3,a9⟩: ∃h3,h3=((H.mk h2.tr (h2.next+16)).set S (aZ (ints (e.setIfInBounds o e[F]!).toList))).set S (aZ (ints ((e.setIfInBounds o e[F]!).setIfInBounds F e[o]!).toList)):=⟨_,rfl⟩
   rw[←a9] at W ⊢
   obtain⟨A3,b0⟩:=W
   have F3:=dC F2 b0
   have b2:o<=F:=om
   obtain⟨e0,b1⟩:=exI (swp e o F)
   rw[b1] at A3 hP
   clear a9 K J A2 A9 F9 A1 F1 he Q q
   have ei:(o:Int)+1=((o+1:Nat):Int):=om
   have ej:(F:Int)- 1=((F- 1:Nat):Int):=om
   simp(disch:=omega)only[go_sem,ei,ej]
   refine bJ (λO c=>(∃g:Nat->V,O= [.sl S 0 N U,aC a,aC b,aC pv,g 4,g 5,g 6,aC (((partLoop ltInt a (o+1) (F- 1) e0).1:Nat):Int),g 8,g 9,g 10,g 11,g 12,g 13])/\fD c S N (partLoop ltInt a (o+1) (F- 1) e0).2/\(partLoop ltInt a (o+1) (F- 1) e0).1<b/\Fx (· =S) h c) ?_ ?_
   ·refine aH (λG O c=> ∃(i j:Nat) (e:Array Int),(∃g:Nat->V,O= [.sl S 0 N U,aC a,aC b,aC pv,g 4,g 5,aC i,aC j,g 8,g 9,g 10,g 11,g 12,g 13])/\a<i/\i<=b+1/\j<b/\fD c S N e/\partLoop ltInt a i j e=partLoop ltInt a (o+1) (F- 1) e0/\Fx (· =S) h c/\G=j) (F- 1)
     ⟨o+1,F- 1,e0,aB rfl,om,om,om,A3,rfl,F3,rfl⟩ ?_
    obtain⟨R2,b4⟩:=exI (partLoop ltInt a (o+1) (F- 1) e0)
    rw[b4]
    clear hP b4 a0 a1 b1 ei ej a3 a4 a2 F3 b0 A3 b6 h3 b2
    clear o F
    rintro G l h3 ⟨i,j,e,⟨g,rfl⟩,c0,a0,hj,A3,hL,F3,a5⟩
    rw[partLoop_eq] at hL
    simp(disch:=omega)only[go_sem]
    refine bJ (λO c=>(∃g:Nat->V,O= [.sl S 0 N U,aC a,aC b,aC pv,g 4,g 5,aC (scanUp (λx=>ltInt x e[a]!) e j i:Nat),aC (j:Nat),g 8,g 9,g 10,g 11,g 12,g 13])/\fD c S N e/\Fx (· =S) h c) ?_ ?_
    ·refine aH (λG O c=> ∃(k:Nat),(∃g:Nat->V,O= [.sl S 0 N U,aC a,aC b,aC pv,g 4,g 5,aC (k:Nat),aC (j:Nat),g 8,g 9,g 10,g 11,g 12,g 13])/\i<=k/\k<=N+2/\fD c S N e/\scanUp (λx=>ltInt x e[a]!) e j k=scanUp (λx=>ltInt x e[a]!) e j i/\Fx (· =S) h c/\G=j+1-k) (j+1-i)
      ⟨i,aB rfl,om,om,A3,rfl,F3,rfl⟩ ?_
     rintro G l L ⟨k,⟨g,rfl⟩,a7,b5,z,n,Z,rfl⟩
     by_cases f:(k:Int)<=((j:Nat):Int)
     ·have q:=oQ f
      have eK:(k:Int)+1=((k+1:Nat):Int):=om
      have a6:=z.size
      have K:=z.rd (i:=k) om
      have J:=z.rd (i:=a) om
      simp(disch:=omega)only[go_sem,q,K,J]
      refine (Aw _ _ _).mono ?_
      rintro _ P ⟨rfl,s⟩
      have B:Fr L P:=Fr.trans ((Fr.refl L).bA om) s
      have t:=z.fr B
      have y:=dC Z (Fx.of B)
      cases hl:ltInt e[k]! e[a]! with
      |false=>
       rw[qA (λc=>by have:=c.2;simp [hl] at this)] at n;simp(disch:=omega)only[go_sem,hl];exact⟨by rw[←n];exact aB rfl,t,y⟩
      |true=>
       rw[yY om (by simp [hl])] at n;simp(disch:=omega)only[go_sem,hl,eK];exact⟨j+1-(k+1),om,k+1,aB rfl,om,om,t,n,y,rfl⟩
     ·have q:=bH f
      rw[qA (λc=>f (by have:=c.1;omega))] at n
      simp(disch:=omega)only[go_sem,q]
      exact⟨by rw[←n];exact aB rfl,z.fr ((Fr.refl L).bA om),dC Z (Fx.of ((Fr.refl L).bA om))⟩
    ·rintro l h9 ⟨⟨g,rfl⟩,A9,F9⟩
     have a4:=scanUp_ge (λx=>ltInt x e[a]!) e j i
     have a2:=kW (λx=>ltInt x e[a]!) e j i
     obtain⟨u,hu⟩: ∃x,scanUp (λx=>ltInt x e[a]!) e j i=x:=⟨_,rfl⟩
     rw[hu] at a4 a2
     rw[hu]
     simp(disch:=omega)only[go_sem]
     refine bJ (λO c=>(∃g:Nat->V,O= [.sl S 0 N U,aC a,aC b,aC pv,g 4,g 5,aC (u:Nat),aC (scanDown (λx=>!ltInt x e[a]!) e u j:Nat),g 8,g 9,g 10,g 11,g 12,g 13])/\fD c S N e/\Fx (· =S) h c) ?_ ?_
     ·refine aH (λG O c=> ∃(k:Nat),(∃g:Nat->V,O= [.sl S 0 N U,aC a,aC b,aC pv,g 4,g 5,aC (u:Nat),aC (k:Nat),g 8,g 9,g 10,g 11,g 12,g 13])/\k<=j/\fD c S N e/\scanDown (λx=>!ltInt x e[a]!) e u k=scanDown (λx=>!ltInt x e[a]!) e u j/\Fx (· =S) h c/\G=k) j
       ⟨j,aB rfl,om,A9,rfl,F9,rfl⟩ ?_
      rintro G l L ⟨k,⟨g,rfl⟩,a7,z,n,Z,a5⟩
      subst a5
      by_cases f:((u:Nat):Int)<=(G:Int)
      ·have q:=oQ f
       obtain⟨k,rfl⟩: ∃k,G=k+1:=⟨G- 1,om⟩
       have eK:((k+1:Nat):Int)- 1=(k:Int):=om
       have a6:=z.size
       have K:=z.rd (i:=k+1) om
       have J:=z.rd (i:=a) om
       simp(disch:=omega)only[go_sem,q,K,J]
       refine (Aw _ _ _).mono ?_
       rintro _ P ⟨rfl,s⟩
       have B:Fr L P:=Fr.trans ((Fr.refl L).bA om) s
       have t:=z.fr B
       have y:=dC Z (Fx.of B)
       cases hl:ltInt e[k+1]! e[a]! with
       |true=>
        rw[oP (λc=>by have:=c.2;simp [hl] at this)] at n;simp(disch:=omega)only[go_sem,hl];exact⟨by rw[←n];exact aB rfl,t,y⟩
       |false=>
        rw[Dc om (by simp [hl])] at n;simp(disch:=omega)only[go_sem,hl,eK];exact⟨k,om,k,aB rfl,om,t,n,y,rfl⟩
      ·have q:=bH f
       rw[oP (λc=>f (by have:=c.1;omega))] at n
       simp(disch:=omega)only[go_sem,q]
       exact⟨by rw[←n];exact aB rfl,z.fr ((Fr.refl L).bA om),dC Z (Fx.of ((Fr.refl L).bA om))⟩
     ·rintro l h4 ⟨⟨g,rfl⟩,A4,F4⟩
      have a3:=scanDown_le (λx=>!ltInt x e[a]!) e u j
      obtain⟨w,hw⟩: ∃x,scanDown (λx=>!ltInt x e[a]!) e u j=x:=⟨_,rfl⟩
      rw[hw] at a3
      rw[hw]
      rw[hu,hw] at hL
      have b7:=A4.size
      by_cases Q:(w:Int)<(u:Int)
      ·have q:=oQ Q
       rw[bF om] at hL
       simp(disch:=omega)only[go_sem,q]
       rw[←hL]
       exact⟨aB rfl,A4,om,F4⟩
      have q:=bH Q
      rw[bI om] at hL
      have K:=A4.rd (i:=u) om
      have J:=A4.rd (i:=w) om
      have ei:(u:Int)+1=((u+1:Nat):Int):=om
      have ej:(w:Int)- 1=((w- 1:Nat):Int):=om
      simp(disch:=omega)only[go_sem,q,K,J,A4.get,bB,aY,ei,ej]
      have W:=A4.swap (i:=u) (j:=w) (nx:=h4.next+16) om rfl
      exact⟨w- 1,om,u+1,w- 1,_,aB rfl,om,om,om,W.1,hL,dC F4 W.2,rfl⟩
   ·rintro l h5 ⟨⟨g,rfl⟩,A5,Y,F5⟩
    generalize partLoop ltInt a (o+1) (F- 1) e0=r at hP A5 Y
    obtain⟨m,e5⟩:=r
    have Y:m<b:=Y
    have A5:fD h5 S N e5:=A5
    have b8:=A5.size
    have K:=A5.rd (i:=m) om
    have J:=A5.rd (i:=a) om
    simp(disch:=omega)only[go_sem,K,J,A5.get,bB,aY]
    have W:=A5.swap (i:=m) (j:=a) (nx:=h5.next+16) om rfl
    rw[hP]
    exact⟨rfl,W.1,dC F5 W.2⟩
theorem xB (h:H)(S N a b pv:Nat)(d:Array Int)(J:Kh)(hN:N<1000000)(A:fD h S N d)(hb:b<=N)(a7:a<=pv)(b0:pv<b):
  Ev T 240 [.sl S 0 N J,aC a,aC b,aC pv] h (λv h'=>v= aC ((partitionEqual ltInt d a b pv).1:Nat)/\fD h' S N (partitionEqual ltInt d a b pv).2/\Fx (· =S) h h'):=by
 refine cV iQ rfl ?_
 have sz:=A.size
 have G:=A.rd (i:=a) om
 have F:=A.rd (i:=pv) om
 simp(disch:=omega)only[go_sem,iQ,aD,G,F,A.get,bB,aY]
 have W:=A.swap (i:=a) (j:=pv) (nx:=h.next+16) om rfl
 obtain⟨h1,Q⟩: ∃h1,h1=((H.mk h.tr (h.next+16)).set S (aZ (ints (d.setIfInBounds a d[pv]!).toList))).set S (aZ (ints ((d.setIfInBounds a d[pv]!).setIfInBounds pv d[a]!).toList)):=⟨_,rfl⟩
 rw[←Q] at W ⊢
 obtain⟨A1,F1⟩:=W
 have eb:(b:Int)- 1=((b- 1:Nat):Int):=om
 have ea:(a:Int)+1=((a+1:Nat):Int):=om
 unfold partitionEqual
 obtain⟨L,he⟩: ∃e,swp d a pv=e:=⟨_,rfl⟩
 rw[he] at A1 ⊢
 clear Q G F A
 simp(disch:=omega)only[go_sem,ea,eb]
 refine bJ (λy c=>(∃g:Nat->V,y= [.sl S 0 N J,aC a,aC b,aC pv,g 4,aC (((partEqLoop ltInt a (a+1) (b- 1) L).1:Nat):Int),g 6,g 7,g 8,g 9])/\fD c S N (partEqLoop ltInt a (a+1) (b- 1) L).2/\Fx (· =S) h c) ?_ ?_
 ·refine aH (λs y c=> ∃(i j:Nat) (e:Array Int),(∃g:Nat->V,y= [.sl S 0 N J,aC a,aC b,aC pv,g 4,aC i,aC j,g 7,g 8,g 9])/\a<i/\i<=b+1/\j<b/\fD c S N e/\partEqLoop ltInt a i j e=partEqLoop ltInt a (a+1) (b- 1) L/\Fx (· =S) h c/\s=j) (b- 1)
   ⟨a+1,b- 1,L,aB rfl,om,om,om,A1,rfl,F1,rfl⟩ ?_
  obtain⟨R2,R⟩:=exI (partEqLoop ltInt a (a+1) (b- 1) L)
  rw[R]
  clear R F1 A1 h1 he L
  rintro s f h3 ⟨i,j,e,⟨g,rfl⟩,a9,a8,hj,A3,O,F3,U⟩
  rw[partEqLoop_eq] at O
  simp(disch:=omega)only[go_sem]
  refine bJ (λy c=>(∃g:Nat->V,y= [.sl S 0 N J,aC a,aC b,aC pv,g 4,aC (scanUp (λx=>!ltInt e[a]! x) e j i:Nat),aC (j:Nat),g 7,g 8,g 9])/\fD c S N e/\Fx (· =S) h c) ?_ ?_
  ·refine aH (λs y c=> ∃(k:Nat),(∃g:Nat->V,y= [.sl S 0 N J,aC a,aC b,aC pv,g 4,aC (k:Nat),aC (j:Nat),g 7,g 8,g 9])/\i<=k/\k<=N+2/\fD c S N e/\scanUp (λx=>!ltInt e[a]! x) e j k=scanUp (λx=>!ltInt e[a]! x) e j i/\Fx (· =S) h c/\s=j+1-k) (j+1-i)
    ⟨i,aB rfl,om,om,A3,rfl,F3,rfl⟩ ?_
   rintro s f B ⟨k,⟨g,rfl⟩,a4,a5,t,m,P,rfl⟩
   by_cases l:(k:Int)<=((j:Nat):Int)
   ·have o:=oQ l
    have Z:(k:Int)+1=((k+1:Nat):Int):=om
    have a2:=t.size
    have G:=t.rd (i:=k) om
    have F:=t.rd (i:=a) om
    simp(disch:=omega)only[go_sem,o,G,F]
    refine (Aw _ _ _).mono ?_
    rintro _ K ⟨rfl,n⟩
    have z:Fr B K:=Fr.trans ((Fr.refl B).bA om) n
    have q:=t.fr z
    have r:=dC P (Fx.of z)
    cases hl:ltInt e[a]! e[k]! with
    |true=>
     rw[qA (λc=>by have:=c.2;simp [hl] at this)] at m;simp(disch:=omega)only[go_sem,hl];exact⟨by rw[←m];exact aB rfl,q,r⟩
    |false=>
     rw[yY om (by simp [hl])] at m;simp(disch:=omega)only[go_sem,hl,Z];exact⟨j+1-(k+1),om,k+1,aB rfl,om,om,q,m,r,rfl⟩
   ·have o:=bH l
    rw[qA (λc=>l (by have:=c.1;omega))] at m
    simp(disch:=omega)only[go_sem,o]
    exact⟨by rw[←m];exact aB rfl,t.fr ((Fr.refl B).bA om),dC P (Fx.of ((Fr.refl B).bA om))⟩
  ·rintro f h9 ⟨⟨g,rfl⟩,A9,F9⟩
   have a3:=scanUp_ge (λx=>!ltInt e[a]! x) e j i
   have a0:=kW (λx=>!ltInt e[a]! x) e j i
   obtain⟨u,hu⟩: ∃x,scanUp (λx=>!ltInt e[a]! x) e j i=x:=⟨_,rfl⟩
   rw[hu] at a3 a0
   rw[hu]
   simp(disch:=omega)only[go_sem]
   refine bJ (λy c=>(∃g:Nat->V,y= [.sl S 0 N J,aC a,aC b,aC pv,g 4,aC (u:Nat),aC (scanDown (λx=>ltInt e[a]! x) e u j:Nat),g 7,g 8,g 9])/\fD c S N e/\Fx (· =S) h c) ?_ ?_
   ·refine aH (λs y c=> ∃(k:Nat),(∃g:Nat->V,y= [.sl S 0 N J,aC a,aC b,aC pv,g 4,aC (u:Nat),aC (k:Nat),g 7,g 8,g 9])/\k<=j/\fD c S N e/\scanDown (λx=>ltInt e[a]! x) e u k=scanDown (λx=>ltInt e[a]! x) e u j/\Fx (· =S) h c/\s=k) j
     ⟨j,aB rfl,om,A9,rfl,F9,rfl⟩ ?_
    rintro s f B ⟨k,⟨g,rfl⟩,a4,t,m,P,U⟩
    subst U
    by_cases l:((u:Nat):Int)<=(s:Int)
    ·have o:=oQ l
     obtain⟨k,rfl⟩: ∃k,s=k+1:=⟨s- 1,om⟩
     have Z:((k+1:Nat):Int)- 1=(k:Int):=om
     have a2:=t.size
     have G:=t.rd (i:=k+1) om
     have F:=t.rd (i:=a) om
     simp(disch:=omega)only[go_sem,o,G,F]
     refine (Aw _ _ _).mono ?_
     rintro _ K ⟨rfl,n⟩
     have z:Fr B K:=Fr.trans ((Fr.refl B).bA om) n
     have q:=t.fr z
     have r:=dC P (Fx.of z)
     cases hl:ltInt e[a]! e[k+1]! with
     |false=>
      rw[oP (λc=>by have:=c.2;simp [hl] at this)] at m;simp(disch:=omega)only[go_sem,hl];exact⟨by rw[←m];exact aB rfl,q,r⟩
     |true=>
      rw[Dc om (by simp [hl])] at m;simp(disch:=omega)only[go_sem,hl,Z];exact⟨k,om,k,aB rfl,om,q,m,r,rfl⟩
    ·have o:=bH l
     rw[oP (λc=>l (by have:=c.1;omega))] at m
     simp(disch:=omega)only[go_sem,o]
     exact⟨by rw[←m];exact aB rfl,t.fr ((Fr.refl B).bA om),dC P (Fx.of ((Fr.refl B).bA om))⟩
   ·rintro f h4 ⟨⟨g,rfl⟩,A4,F4⟩
    have a1:=scanDown_le (λx=>ltInt e[a]! x) e u j
    obtain⟨w,hw⟩: ∃x,scanDown (λx=>ltInt e[a]! x) e u j=x:=⟨_,rfl⟩
    rw[hw] at a1
    rw[hw]
    rw[hu,hw] at O
    have a6:=A4.size
    by_cases Y:(w:Int)<(u:Int)
    ·have o:=oQ Y
     rw[bF om] at O
     simp(disch:=omega)only[go_sem,o]
     rw[←O]
     exact⟨aB rfl,A4,F4⟩
    have o:=bH Y
    rw[bI om] at O
    have G:=A4.rd (i:=u) om
    have F:=A4.rd (i:=w) om
    have ei:(u:Int)+1=((u+1:Nat):Int):=om
    have ej:(w:Int)- 1=((w- 1:Nat):Int):=om
    simp(disch:=omega)only[go_sem,o,G,F,A4.get,bB,aY,ei,ej]
    have W:=A4.swap (i:=u) (j:=w) (nx:=h4.next+16) om rfl
    exact⟨w- 1,om,u+1,w- 1,_,aB rfl,om,om,om,W.1,O,dC F4 W.2,rfl⟩
 ·rintro f h5 ⟨⟨g,rfl⟩,A5,F5⟩
  simp(disch:=omega)only[go_sem]
  exact⟨A5,F5⟩
end
def My  (n:Nat):Prop:= ∀(h:H) (S N a b:Nat) (lim:Int) (d:Array Int) (cp:Kh),N<60000->fD h S N d->a<=b->b<=N->b-a<=n->0<=lim->lim<1000000->Below ltInt a b d->
 Ev T 197 [.sl S 0 N cp,aC a,aC b,aC lim] h (λ_ h'=> ∃e,fD h' S N e/\PermIn a b d e/\SortedIn ltInt a b e/\Fx (· =S) h h')
theorem Pg  (n:Nat)(ih: ∀m,m<n->My m):My n:=by
 intro h S N a b a7 d o hN A a5 a8 hn s q hB;refine cV kZ rfl ?_;simp(disch:=omega)only[go_sem,kZ,aD]
 refine aH (λk' u P=> ∃(c f:Nat) (l':Int) (G wp:Bool) (e:Array Int),(∃g:Nat->V,u= [.sl S 0 N o,aC (c:Int),aC (f:Int),aC l',.bool G,.bool wp,g 6,g 7,g 8,g 9,g 10,g 11,g 12,g 13,g 14,g 15,g 16,g 17,g 18,g 19,g 20,g 21,g 22])/\c<=f/\f<=N/\a<=c/\f<=b/\0<=l'/\l'<1000000/\Below ltInt c f e/\fD P S N e/\Fx (· =S) h P/\
   (∀R,PermIn c f e R->SortedIn ltInt c f R->PermIn a b d R/\SortedIn ltInt a b R)/\k'=f-c) (b-a)
  ⟨a,b,a7,true,true,d,aB rfl,a5,a8,fM _,fM _,s,q,hB,A,Fx.refl _ h,λR h1 h2=>⟨h1,h2⟩,rfl⟩ ?_
 clear A hB s q;rintro k' u h1 ⟨c,f,l',G,wp,e,⟨g,rfl⟩,w,j,b0,a3,s,q,hB,A,F,K,rfl⟩;obtain⟨m,hm⟩:=exI (f-c);have em:(f:Int)-(c:Int)=(m:Int):=om
 have ez: ∀{x:Array Int} {hx:H},fD hx S N x->f<=x.size:=λA=>by rw[A.size];exact j
 by_cases a4:(m:Int)<=12
 ·have Q:=oQ a4
  simp(disch:=omega)only[go_sem,em,Q];refine (oW h1 S N c f e o om A j w).mono ?_;rintro _ h2 ⟨A2,F2⟩;obtain⟨p1,Z⟩:=insertionSort_holds swo_ltInt e c f w (ez A);obtain⟨Y,q2⟩:=K _ p1 Z;simp(disch:=omega)only[go_sem];exact⟨_,A2,Y,q2,dC F F2⟩
 have Q:=bH a4
 by_cases hl:l'=0
 ·have z:=oQ hl
  simp(disch:=omega)only[go_sem,em,Q,z];refine (qZ h1 S N c f e o om A j w).mono ?_;rintro _ h2 ⟨A2,F2⟩;obtain⟨p1,Z⟩:=heapSort_holds swo_ltInt e c f w (ez A);obtain⟨Y,q2⟩:=K _ p1 Z;simp(disch:=omega)only[go_sem];exact⟨_,A2,Y,q2,dC F F2⟩
 have z:=bH hl;simp(disch:=omega)only[go_sem,em,Q,z];refine jT (λU P=> ∃(z:Array Int) (y:Int) (g:Nat->V),U= [.sl S 0 N o,aC (c:Int),aC (f:Int),aC y,.bool G,.bool wp,aC m,g 7,g 8,g 9,g 10,g 11,g 12,g 13,g 14,g 15,g 16,g 17,g 18,g 19,g 20,g 21,g 22]/\0<=y/\y<1000000/\fD P S N z/\PermIn c f e z/\Fx (· =S) h P) ?_ ?_
 ·cases G with
  |true=>
   simp(disch:=omega)only[go_sem];exact .inl ⟨e,l',_,(aB rfl: ∃g:Nat->V,_= [.sl S 0 N o,aC (c:Int),aC (f:Int),aC l',.bool true,.bool wp,aC m,g 7,g 8,g 9,g 10,g 11,g 12,g 13,g 14,g 15,g 16,g 17,g 18,g 19,g 20,g 21,g 22]).choose_spec,s,q,A,permIn_refl e c f,F⟩
  |false=>
   simp(disch:=omega)only[go_sem];refine (Ba h1 S N c f e o hN A j w).mono ?_;rintro _ h2 ⟨z,A2,Z,F2⟩;simp(disch:=omega)only[go_sem];exact .inl ⟨z,l'- 1,_,(aB rfl: ∃g:Nat->V,_= [.sl S 0 N o,aC (c:Int),aC (f:Int),aC (l'- 1),.bool false,.bool wp,aC m,g 7,g 8,g 9,g 10,g 11,g 12,g 13,g 14,g 15,g 16,g 17,g 18,g 19,g 20,g 21,g 22]).choose_spec,om,om,A2,Z,dC F F2⟩
 clear A F s q hl z g;rintro u h2 ⟨z,y,g,rfl,s,q,A,P2,F⟩;have B2:=hB.perm (by rw[←P2.1];exact ez A) P2;simp(disch:=omega)only[go_sem];refine (Ar h2 S N c f z o om A j om).mono ?_;rintro _ h3 ⟨p,t,rfl,J,O,f3⟩;have A3:=A.fr f3;have F3:=dC F (Fx.of f3);clear A F;simp(disch:=omega)only[go_sem];refine jT (λU P=> ∃(e3:Array Int) (Z:Nat) (t2:Int) (g:Nat->V),U= [.sl S 0 N o,aC (c:Int),aC (f:Int),aC y,.bool G,.bool wp,aC m,aC Z,aC t2,g 9,g 10,g 11,g 12,g 13,g 14,g 15,g 16,g 17,g 18,g 19,g 20,g 21,g 22]/\c<=Z/\Z<f/\fD P S N e3/\PermIn c f z e3/\Fx (· =S) h P) ?_ ?_
 ·refine aW (λht=>?_) (λht=>?_)
  ·simp(disch:=omega)only[go_sem]
   refine (tZ h3 S N c f z o om A3 j om).mono ?_;rintro _ h4 ⟨A4,F4⟩;have W:(f:Int)- 1-((p:Int)-(c:Int))=(((f- 1)-(p-c):Nat):Int):=om
   simp(disch:=omega)only[go_sem,W];exact .inl ⟨_,(f- 1)-(p-c),1,_,(aB rfl: ∃g:Nat->V,_= [.sl S 0 N o,aC (c:Int),aC (f:Int),aC y,.bool G,.bool wp,aC m,aC ((f- 1)-(p-c):Nat),aC 1,g 9,g 10,g 11,g 12,g 13,g 14,g 15,g 16,g 17,g 18,g 19,g 20,g 21,g 22]).choose_spec,om,om,A4,reverseRange_holds z c f w (ez A3),dC F3 F4⟩
  ·simp(disch:=omega)only[go_sem]
   exact .inl ⟨z,p,t,_,(aB rfl: ∃g:Nat->V,_= [.sl S 0 N o,aC (c:Int),aC (f:Int),aC y,.bool G,.bool wp,aC m,aC p,aC t,g 9,g 10,g 11,g 12,g 13,g 14,g 15,g 16,g 17,g 18,g 19,g 20,g 21,g 22]).choose_spec,J,O,A3,permIn_refl z c f,F3⟩
 have a0:=ez A3;clear A3 F3 J O f3 p t g;rintro u h4 ⟨e3,p,t,g,rfl,J,O,A,P3,F⟩;have B3:=B2.perm a0 P3;have a1:=permIn_trans _ _ _ c f P2 P3;have a9:f<=z.size:=a0;clear a0 B2 hB;refine xW (λU P=> ∃(B:Array Int) (g:Nat->V),U= [.sl S 0 N o,aC (c:Int),aC (f:Int),aC y,.bool G,.bool wp,aC m,aC p,g 8,g 9,g 10,g 11,g 12,g 13,g 14,g 15,g 16,g 17,g 18,g 19,g 20,g 21,g 22]/\fD P S N B/\PermIn c f e B/\Below ltInt c f B/\Fx (· =S) h P) ?_ ?_
 ·have skip: ∀(U:List V),(∃g:Nat->V,U= [.sl S 0 N o,aC (c:Int),aC (f:Int),aC y,.bool G,.bool wp,aC m,aC p,g 8,g 9,g 10,g 11,g 12,g 13,g 14,g 15,g 16,g 17,g 18,g 19,g 20,g 21,g 22])-> ∃(B:Array Int) (g:Nat->V),U= [.sl S 0 N o,aC (c:Int),aC (f:Int),aC y,.bool G,.bool wp,aC m,aC p,g 8,g 9,g 10,g 11,g 12,g 13,g 14,g 15,g 16,g 17,g 18,g 19,g 20,g 21,g 22]/\fD h4 S N B/\PermIn c f e B/\Below ltInt c f B/\Fx (· =S) h h4:=λU ⟨g,hv⟩=>⟨e3,g,hv,A,a1,B3,F⟩
  have run: ∀g:Nat->V,Ev T 239 [.sl S 0 N o,aC (c:Int),aC (f:Int)] h4 (λv h'=> ∃r:Array Int×Bool,v= .bool r.2/\fD h' S N r.1/\Fx (· =S) h4 h'/\PermIn c f e3 r.1/\(r.2=true->SortedIn ltInt c f r.1)):=λ_=>by
   refine (tB h4 S N c f e3 o om A j om).mono ?_;rintro v h5 ⟨hv,A5,F5⟩;obtain⟨Y,q2⟩:=partialInsertionSort_holds swo_ltInt e3 c f om (ez A) B3;exact⟨_,hv,A5,F5,Y,q2⟩
  cases G with
  |false=>
   simp(disch:=omega)only[go_sem];exact .inl (skip _ (aB rfl))
  |true=>cases wp with
   |false=>
    simp(disch:=omega)only[go_sem]
    exact .inl (skip _ (aB rfl))
   |true=>
    simp(disch:=omega)only[go_sem]
    refine aW (λht=>?_) (λht=>?_)
    ·simp(disch:=omega)only[go_sem]
     refine (run g).mono ?_
     rintro v h5 ⟨⟨W,r5⟩,rfl,A5,F5,Y,q2⟩
     have A5:fD h5 S N W:=A5
     have Y:PermIn c f e3 W:=Y
     have P5:=permIn_trans _ _ _ c f a1 Y
     cases r5 with
     |false=>
      simp(disch:=omega)only[go_sem];exact .inl ⟨W,_,(aB rfl: ∃g:Nat->V,_= [.sl S 0 N o,aC (c:Int),aC (f:Int),aC y,.bool true,.bool true,aC m,aC p,g 8,g 9,g 10,g 11,g 12,g 13,g 14,g 15,g 16,g 17,g 18,g 19,g 20,g 21,g 22]).choose_spec,A5,P5,B3.perm (ez A) Y,dC F F5⟩
     |true=>
      obtain⟨w1,w2⟩:=K _ P5 (q2 rfl);simp(disch:=omega)only[go_sem];exact .inr ⟨by simp,W,A5,w1,w2,dC F F5⟩
    ·simp(disch:=omega)only[go_sem]
     exact .inl (skip _ (aB rfl))
 clear A P3 a1 B3 F P2 a9 e3 z;rintro u h5 ⟨B,g,rfl,A,P4,B4,F⟩;have a2:=ez A;refine xW (λU P=> ∃(g:Nat->V),U= [.sl S 0 N o,aC (c:Int),aC (f:Int),aC y,.bool G,.bool wp,aC m,aC p,g 8,g 9,g 10,g 11,g 12,g 13,g 14,g 15,g 16,g 17,g 18,g 19,g 20,g 21,g 22]/\fD P S N B/\Fx (· =S) h P) ?_ ?_
 ·by_cases h0:(0:Int)<(c:Int)
  case neg=>
   have Q:=bH h0;simp(disch:=omega)only[go_sem,Q];exact .inl ⟨_,(aB rfl: ∃g:Nat->V,_= [.sl S 0 N o,aC (c:Int),aC (f:Int),aC y,.bool G,.bool wp,aC m,aC p,g 8,g 9,g 10,g 11,g 12,g 13,g 14,g 15,g 16,g 17,g 18,g 19,g 20,g 21,g 22]).choose_spec,A.fr ((Fr.refl h5).bA om),dC F (Fx.of ((Fr.refl h5).bA om))⟩
  have Q:=oQ h0;have ea:(c:Int)- 1=((c- 1:Nat):Int):=om
  have c1:=A.rd (i:=c- 1) om;have c2:=A.rd (i:=p) om;simp(disch:=omega)only[go_sem,Q,ea,c1,c2];refine (Aw _ _ _).mono ?_;rintro _ h6 ⟨rfl,a6⟩;have f6:Fr h5 h6:=Fr.trans ((Fr.refl h5).bA om) a6;have A6:=A.fr f6;have F6:=dC F (Fx.of f6)
  cases hl:ltInt B[c- 1]! B[p]! with
  |true=>
   simp(disch:=omega)only[go_sem,hl];exact .inl ⟨_,(aB rfl: ∃g:Nat->V,_= [.sl S 0 N o,aC (c:Int),aC (f:Int),aC y,.bool G,.bool wp,aC m,aC p,g 8,g 9,g 10,g 11,g 12,g 13,g 14,g 15,g 16,g 17,g 18,g 19,g 20,g 21,g 22]).choose_spec,A6,F6⟩
  |false=>
   obtain⟨w1,w2,w3,w4,w5⟩:=round_eq swo_ltInt (partitionEqual_holds ltInt) om J O a2 B4 hl (Prod.eta (partitionEqual ltInt B c f p)).symm;simp(disch:=omega)only[go_sem,hl];refine (xB h6 S N c f p B o om A6 j J O).mono ?_;rintro _ h7 ⟨rfl,A7,F7⟩;simp(disch:=omega)only[go_sem];refine .inr ⟨by simp,f-(partitionEqual ltInt B c f p).1,om,(partitionEqual ltInt B c f p).1,f,y,G,wp,_,aB rfl,w2,j,om,a3,s,q,w4,A7,dC F6 F7,λR r1 r2=>?_,rfl⟩;obtain⟨t1,t2⟩:=w5 R r1 r2;exact K R (permIn_trans _ _ _ c f P4 t1) t2
 clear A F;rintro u h6 ⟨g,rfl,A,F⟩;have e8:=Dh m (k:=8) (m:=8) rfl;simp(disch:=omega)only[go_sem];refine (pG h6 S N c f p B o om A j J O).mono ?_;obtain⟨r,hr⟩:=exI (partition ltInt B c f p);rw[hr];obtain⟨l,ap,W⟩:=r;obtain⟨w1,w2,w3,w4,w5,w6,w7⟩:=round_part swo_ltInt (partition_holds ltInt) J O a2 B4 hr;rintro _ h7 ⟨rfl,A7,F7⟩;have A7:fD h7 S N W:=A7;have F7:=dC F F7;have el:(l:Int)-(c:Int)=((l-c:Nat):Int):=om
 have er:(f:Int)-(l:Int)=((f-l:Nat):Int):=om
 have Q:(l:Int)+1=((l+1:Nat):Int):=om
 simp(disch:=omega)only[go_sem,el,er,e8];refine aW (λht=>?_) (λht=>?_)
 ·simp(disch:=omega)only[go_sem]
  refine (ih (l-c) om h7 S N c l y W o hN A7 w1 om (fM _) s q w4).mono ?_;rintro _ h8 ⟨L,A8,p8,s8,F8⟩;obtain⟨u1,u2⟩:=w6 L p8 s8;simp(disch:=omega)only[go_sem,Q];refine⟨f-(l+1),om,l+1,f,y,_,ap,L,aB rfl,om,j,om,a3,s,q,u1,A8,dC F7 F8,λR r1 r2=>?_,rfl⟩;obtain⟨t1,t2⟩:=u2 R r1 r2;exact K R (permIn_trans _ _ _ c f P4 t1) t2
 ·simp(disch:=omega)only[go_sem,Q]
  refine (ih (f-(l+1)) om h7 S N (l+1) f y W o hN A7 om j (fM _) s q w5).mono ?_;rintro _ h8 ⟨L,A8,p8,s8,F8⟩;obtain⟨u1,u2⟩:=w7 L p8 s8;simp(disch:=omega)only[go_sem];refine⟨l-c,om,c,l,y,_,ap,L,aB rfl,om,om,b0,om,s,q,u1,A8,dC F7 F8,λR r1 r2=>?_,rfl⟩;obtain⟨t1,t2⟩:=u2 R r1 r2;exact K R (permIn_trans _ _ _ c f P4 t1) t2
theorem Ha  (n:Nat):My n:=by
 induction n using Nat.strongRecOn with
 |_ n ih=>exact Pg n  ih
theorem CP (h:H)(S N:Nat)(d:Array Int)(a:Kh)(c:N<60000)(A:fD h S N d):
  Ev T 143 [.sl S 0 N a] h (λ_ h'=> ∃e,fD h' S N e/\PermIn 0 N d e/\SortedIn ltInt 0 N e/\Fx (· =S) h h'):=by
 refine cV pV rfl ?_
 have k:bitsLen N<=16:=(bitsLen_le_iff _ 16).2 om
 simp(disch:=omega)only[go_sem,pV,aD,dK (n:=(N:Int)) om om]
 refine (Tx N h om).mono ?_
 rintro _ i ⟨rfl,f⟩
 subst f
 simp(disch:=omega)only[go_sem]
 refine (Ha N i S N 0 N _ d a c A om om om om om (.inl rfl)).mono ?_
 rintro _ j ⟨e,b,p,s,F⟩
 simp(disch:=omega)only[go_sem]
 exact⟨e,b,p,s,F⟩
theorem Pa {l:List Int}{N:Nat}(f:l.length=N){e:Array Int}(o:PermIn 0 N l.toArray e)(m:SortedIn ltInt 0 N e):e.toList.Perm l/\e.toList.Pairwise (· <= ·):=by
 obtain⟨q,s,n⟩:=o;have a:e.size=N:=by rw[q];simpa using f
 refine⟨?_,?_⟩
 ·have p:(e.extract 0 N).toList=e.toList:=by rw[←a];simp
  have r:(l.toArray.extract 0 N).toList=l:=by rw[←f];simp
  rwa [p,r] at n
 ·rw[JX]
  intro i j hi b c;have d:j<N:=by simpa [a] using b
  have:=m i j (iJ _) c d;unfold ltInt at this;have k:e[i]! =e.toList[i]:=by simp at hi;simp [hi]
  have h:e[j]! =e.toList[j]:=by simp at b;simp [b]
  rw[k,h] at this;simpa using this
theorem Lm (h:H)(S:Nat)(l:List Int)(a:Kh)(f:l.length<60000)(b:h.get S=aZ (ints l))(d:S<h.next):
  Ev T 143 [.sl S 0 l.length a] h (λ_ h'=> ∃l',h'.get S=aZ (ints l')/\l'.Perm l/\l'.Pairwise (· <= ·)/\Fx (· =S) h h'):=by
 refine (CP h S l.length l.toArray a f ⟨b,by simp,d⟩).mono ?_
 rintro _ h' ⟨e,A,p,s,F⟩
 obtain⟨i,c⟩:=Pa rfl p s
 exact⟨e.toList,A.get,i,c,F⟩
theorem AN {a b:List Int}(h:a.Perm b)(d:a.Pairwise (· <= ·))(f:b.Pairwise (· <= ·)):a=b:=
 h.eq_of_pairwise (λ_ _ _ _ i c=>Int.le_antisymm i c) d f
end Go.Proofs.YtcdbmkidaecdiaaGreat
namespace Go.Proofs.YtcdbmkidaecdiaaGreat
open Go Go.Ay Go.Pm
set_option maxRecDepth 100000
theorem CX (id b:Nat)(d:V)(l:List Int)(h:H)(K:l.length<1000000)(J:Nat->H->Prop)(D:H->Prop)(o:J 0 h)
  (n: ∀i hh,J i hh->hh.get b=aZ [d]/\SI hh d l)
  (w: ∀i hh,i<l.length->J i hh->Ey T id [aC (l.getD i 0)] hh (λv h'=>v= .bool true/\J (i+1) h'∨v= .bool false/\D h')):
  Ev T 232 [.yl id,.ptr b 0] h (λ_ h'=>J l.length h'∨D h'):=by
 refine cV mM rfl ?_
 obtain⟨r,t⟩:=n 0 h o
 have z:h.cell b 0=some d:=by rw[H.aF r];rfl
 have q:=t.lens
 simp(disch:=omega)only[go_sem,mM,aD,z,q]
 refine aH (λp a hh=> ∃(i:Nat),(∃g:Nat->V,a= [.yl id,.ptr b 0,g 2,d,aC (l.length:Int),aC i,g 6,g 7])/\i<=l.length/\J i hh/\p=l.length-i) l.length
  ⟨0,aB rfl,iJ _,o,rfl⟩ ?_
 rintro p a m ⟨i,⟨g,rfl⟩,hi,j,rfl⟩
 by_cases c:(i:Int)<(l.length:Int)
 ·have k:=oQ c
  obtain⟨F,y⟩:=n i m j
  obtain⟨u,x,s,A,B⟩:=y.open
  have ci:=B i om
  simp(disch:=omega)only[go_sem,k,s.ixa,ci]
  refine (w i m om j).mono ?_
  rintro v G (⟨rfl,f⟩|⟨rfl,f⟩)
  ·simp(disch:=omega)only[go_sem]
   rw[eJ i]
   exact⟨l.length-(i+1),om,i+1,aB rfl,om,f,rfl⟩
  ·simp(disch:=omega)only[go_sem]
   exact .inr f
 have k:=bH c
 obtain rfl:i=l.length:=om
 simp(disch:=omega)only[go_sem,k]
 exact .inl j
theorem BZ (b:Nat)(vl:V)(l:List Int)(h:H)(hn:l.length<100000)(hb:h.get b=aZ [vl])(N:b<h.next)(hv:SI h vl l):
  Ev T 231 [.fn 232 [] [.ptr b 0]] h (λv h'=>cY h' v 1 (ints l) h.next/\(v= .aE∨ ∃id cap,v= .sl id 0 l.length cap/\h.next<=id/\id<h'.next/\h'.get id=aZ (ints l))/\Fr h h'):=by
 refine cV qW rfl ?_
 simp(disch:=omega)only[go_sem,qW,aD]
 refine Ev.mono (Q:=λv h'=>cY h' v 1 (ints l) h.next/\(v= .aE∨ ∃id cap,v= .sl id 0 l.length cap/\h.next<=id/\id<h'.next/\h'.get id=aZ (ints l))/\Fr h h') ?_ (λv h' hv=>by simp(disch:=omega)only[go_sem];exact hv)
 refine cV lT rfl ?_
 simp(disch:=omega)only[go_sem,lT,aD,mF (x:= .aE) rfl rfl]
 obtain⟨B,K⟩:=exI h.next
 obtain⟨w,s⟩: ∃w,w=h.new (.cells false [.aE]):=⟨_,rfl⟩
 have g1:w.get B=aZ [.aE]:=by rw[s,←K,H.aL]
 have n1:w.next=B+1:=by rw[s,H.aU,K]
 have f1:Fr h w:=by rw[s];exact (Fr.refl h).new _
 rw[←s,K]
 refine⟨rfl,?_⟩
 refine uJ λr q=>?_
 refine (CX (B+1) b vl l _ om (λi d=>d.get (B+1)=some (.loop r)/\B+1<d.next/\Fr h d/\ ∃j,d.get B=aZ [j]/\cY d j 1 (ints (l.take i)) (B+2)/\(j= .aE∨ ∃id cap,j= .sl id 0 i cap/\B+2<=id/\id<d.next/\d.get id=aZ (ints (l.take i)))) (λ_=>False) ?_ ?_ ?_).mono ?_
 ·have e:=H.aL w (.loop r)
  rw[n1] at e
  refine⟨e,by rw[H.aU];omega,f1.new _,.aE,by rw[H.bG w om];exact g1,cY.aE _ _ _,.inl rfl⟩
 ·rintro i d ⟨_,_,f,_⟩
  exact⟨by rw[f.get b N];exact hb,hv.mono f⟩
 ·rintro i d hi ⟨P,nr,f,j,J,F,W⟩
  have iP:r.st= .ready:=by rw[q]
  have R:r.pend=none:=by rw[q]
  refine sZ P (by rw[q];rfl) iP λt g2 L o2=>?_
  rw[congrArg eH.assign q,congrArg eH.vars q,congrArg eH.pars q]
  simp(disch:=omega)only[go_sem,List.zip_cons_cons,List.zip_nil_left]
  rw[congrArg eH.body q]
  have Z:t.cell B 0=some j:=by unfold H.cell;rw[o2 B om,J];rfl
  simp(disch:=omega)only[go_sem,Z,cT t (z:= aC 0) (v:= aC (l.getD i 0)) rfl rfl,L]
  obtain⟨a,p⟩: ∃a,a=t.new (.cells false [aC (l.getD i 0)]):=⟨_,rfl⟩
  have g3:a.get d.next=aZ [aC (l.getD i 0)]:=by rw[p,←L,H.aL]
  have n3:a.next=d.next+1:=by rw[p,H.aU,L]
  have O: ∀k,k<d.next->k≠B+1->a.get k=d.get k:=λk o y=>by rw[p,H.bG t om,o2 k y]
  have r3:a.get (B+1)=some (.loop (pW r)):=by rw[p,H.bG t om,g2]
  rw[←p]
  have U:cY a j 1 (ints (l.take i)) (B+2):=F.mono om λid A n c e o y=>O id y om
  have Y:(l.take i).length=i:=by rw[Fj];omega
  obtain⟨o,a4,G⟩:=U.push (bytes:=8) (SV.one om g3 (.kn 1)) (n:=i) (m:=1) (by rw[fT,Y,uW]) rfl om om om
  have ap: ∀k,k<B+2->dL j k:=λk hk id A n c e e2=>by
   have:=(F.in _ _ _ _ e).2.1;omega
  have g4:o.get B=aZ [j]:=by rw[G.old B om (ap B om),O B om om];exact J
  have r4:o.get (B+1)=some (.loop (pW r)):=by rw[G.old (B+1) om (ap (B+1) om)];exact r3
  have pt:dX (aZ [j]) o B 0 [.sl a.next 0 (i+1) (.un 1)]=some (o.set B (aZ [.sl a.next 0 (i+1) (.un 1)])):=bN (by simp) o B _
  simp(disch:=omega)only[go_sem,a4,g4,pt]
  refine oX iP R (by rw[H.aG o om];exact r4) (.inl ⟨rfl,?_⟩)
  have et:ints (l.take (i+1))=ints (l.take i)++ [aC (l.getD i 0)]:=by
   rw[←List.take_append_getElem hi,uT];simp [ints,List.getD,hi]
  have n4:=G.next
  have g5:((o.set B (aZ [.sl a.next 0 (i+1) (.un 1)])).set (B+1) (some (.loop r))).get a.next=aZ (ints (l.take (i+1))):=by
   rw[H.aG _ om,H.aG _ om,G.get,et]
  refine⟨by rw[H.aS],by simp only[H.bY];omega,⟨by simp only[H.bY];have:=f.next;omega,λid u=>?_⟩,_,by rw[H.aG _ om,H.aS],?_,.inr ⟨a.next,_,rfl,om,by simp only[H.bY];omega,g5⟩⟩
  ·rw[H.aG _ om,H.aG _ om,G.old id (by have:=f.next;omega) (ap id om),O id (by have:=f.next;omega) om]
   exact f.get id u
  ·exact .inr ⟨a.next,i+1,_, [],rfl,by rw[fT,Fj];omega,.inl rfl,om,by simp only[H.bY];omega,by rw[vF];exact g5⟩
 ·rintro _ t (⟨P,nr,f,j,J,F,W⟩|h)
  case inr=>exact h.elim
  refine⟨r,P,by rw[q];simp,?_⟩
  have Z:(t.set (B+1) (some (.loop {r with st:= .out}))).cell B 0=some j:=by unfold H.cell;rw[H.aG _ om,J];rfl
  have en:r.pend.getD .norm= .norm:=by rw[q];rfl
  rw[en]
  simp(disch:=omega)only[go_sem,Z]
  rw[List.take_length] at F W
  refine⟨?_,?_,⟨by simp only[H.bY];have:=f.next;omega,λid u=>by rw[H.aG _ om];exact f.get id u⟩⟩
  ·refine (F.mono (by simp only[H.bY];omega) λid A n c e o y=>H.aG _ om _).le om
  ·rcases W with rfl|⟨id,cap,rfl,a,o,y⟩
   ·exact .inl rfl
   ·exact .inr ⟨id,cap,rfl,om,o,by rw[H.aG _ om];exact y⟩
theorem MG (b:Nat)(f:V)(l:List Int)(h:H)(x:0<l.length)(z:l.length<50000)(p:h.get b=aZ [f])(d:b<h.next)(o:SI h f l):
  Ev T 194 [.fn 232 [] [.ptr b 0]] h (λv h'=> ∃id cap l',v= .sl id 0 l.length cap/\h.next<=id/\id<h'.next/\h'.get id=aZ (ints l')/\l'.Perm l/\l'.Pairwise (· <= ·)/\Fr h h'):=by
 refine cV rY rfl ?_
 simp(disch:=omega)only[go_sem,rY,aD]
 refine (BZ b f l h om p d o).mono ?_
 rintro v w ⟨r,q,c⟩
 rcases q with rfl|⟨id,cap,rfl,m,j,n⟩
 ·exfalso
  rcases r with ⟨_,e⟩|⟨_,_,_,_,e,_⟩
  ·have:=congrArg List.length e
   rw[fT,List.length_nil] at this
   omega
  ·cases e
 simp(disch:=omega)only[go_sem]
 refine (Lm w id l cap om n j).mono ?_
 rintro _ y ⟨l',t,s,u,a⟩
 simp(disch:=omega)only[go_sem]
 exact⟨id,cap,l',rfl,m,iW j a.next,t,s,u,mT c.next a.next,λk i=>(a.get k (iW i c.next) (λe=>by have:k=id:=e;omega)).trans (c.get k i)⟩
section
variable {v vO vR:V} {b C D n:Nat} {r O:LN} {wsO wsR:List V}
structure zD (h h':H)(v:V)(l:List Int):Prop where
 ex: ∃id cap,v= .sl id 0 l.length cap/\h.next<=id/\id<h'.next/\h'.get id=aZ (ints l)/\(cap= .un 1∨cap= .kn l.length)
 fr:Fr h h'
theorem zD.pv {h h':H}{l:List Nat}(f:zD h h' v (zi l)){W:Nat->Prop}(c: ∀id,W id->id<h.next):PV W h' v l:=by
 obtain⟨id,j,rfl,k,a,d,_⟩:=f.ex;exact⟨SV.all (by rw[fT,uW]) a d _,λi=>by have:=c id i;omega⟩
theorem zD.si {h h':H}{l:List Int}(f:zD h h' v l):SI h' v l:=by
 obtain⟨id,d,rfl,i,a,c,_⟩:=f.ex;exact SV.all (by rw[fT,uW]) a c _
theorem zD.own {h h':H}{l:List Int}(f:zD h h' v l):cY h' v 1 (ints l) h.next:=by
 obtain⟨id,a,rfl,j,c,i,d⟩:=f.ex;exact .inr ⟨id,l.length,a, [],rfl,by rw[fT,uW],by rcases d with e|e;exact .inl e;exact .inr ⟨e,rfl⟩,j,c,by rw[vF];exact i⟩
theorem Mz (u:V)(l:List Int)(h:H)(t:0<l.length)(G:l.length<1000000)(o:SI h u l):
  Ev T 138 [u] h (λv h'=>zD h h' v l):=by
 refine cV lD rfl ?_
 have x:Hg false u=some (.bool false):=by
  rcases o with ⟨_,e⟩|⟨id,d,len,y,B,F,rfl,_⟩
  ·have:=congrArg List.length e
   rw[fT,List.length_nil] at this;omega
  ·rfl
 simp(disch:=omega)only[go_sem,lD,aD,x]
 have j:Fr h (h.new (.cells false [])):=(Fr.refl h).new _
 have s:cY (h.new (.cells false [])) (.sl h.next 0 0 (.kn 0)) 1 [] 0:=cY.new h 1 0 0 [] rfl (iJ _)
 obtain⟨z,p,a⟩:=s.push (bytes:=8) (o.mono j) (n:=0) (m:=l.length) rfl (by rw[fT,uW]) om t om
 have k:(h.new (.cells false [])).next=h.next+1:=H.aU ..
 rw[k] at p
 have w:=a.next
 have i:=a.get
 rw[k] at w i
 simp(disch:=omega)only[go_sem,p]
 refine⟨⟨h.next+1,_,rfl,om,om,i,.inl rfl⟩,om,λid f=>?_⟩
 rw[a.old id om (λq d n c e A=>by cases e;omega)]
 exact j.get id f
def HK (v:V):Prop:= ∀id off len cap,v= .sl id off len cap->cap= .un 1∨ ∃c,cap= .kn c/\len<=c
theorem cY.NN {h:H}{ws:List V}(o:cY h v 1 ws b):HK v:=by
 rintro id c len d rfl;rcases o with ⟨e,_⟩|⟨_,_,_,_,e,_,a,_⟩
 ·cases e
 ·cases e
  rcases a with e|⟨e,_⟩
  ·exact .inl e
  ·exact .inr ⟨_,e,fM _⟩
def SRR (h:H)(v:V)(R:List (List (List Int))):Prop:= ∃ws,SV h v 1 ws/\aM (SR h) ws R/\ ∀w∈ws,HK w
theorem SRR.mono {h h':H}{R:List (List (List Int))}(s:SRR h v R)(f:Fr h h'):SRR h' v R:=by
 obtain⟨c,s,a,k⟩:=s;exact⟨c,s.mono f,a.mono λ_ _ x=>x.mono f,k⟩
def WI (h:H)(v:V)(d:Int)(O:List (List Int))(R:List (List (List Int))):Prop:= ∃vO vR,v= .agg [aC d,vO,vR]/\SR h vO O/\SRR h vR R
theorem WI.mono {h h':H}{d:Int}{O:List (List Int)}{R:List (List (List Int))}(s:WI h v d O R)(f:Fr h h'):WI h' v d O R:=by
 obtain⟨vO,vR,e,a,c⟩:=s;exact⟨vO,vR,e,a.mono f,c.mono f⟩
def PL (W:Nat->Prop)(h:H)(v:V)(r:LN):Prop:= ∃ws,SV h v 1 ws/\Mq W v/\fW W h ws r/\HK v
section
variable {W W':Nat->Prop} {h h' hh:H}
theorem PL.go (p:PL W h v r)(f:Fx W h h')(c: ∀id,id<h.next->W' id->W id):PL W' h' v r:=by
 obtain⟨d,s,o,a,k⟩:=p;exact⟨d,s.fx o f,o.Fo s c,fW.go a f c,k⟩
theorem PL.sp (p:PL W h v r):SP h v r:=by
 obtain⟨c,s,o,a,_⟩:=p;refine⟨c,s,?_⟩;have d:=aM.length a
 exact aM.mQ (by simpa using d) λi hi f=>by
  have:=(aM.get a i hi om).si;simpa using this
def Hq (W:Nat->Prop)(v:V):Prop:= ∀id off n c,v= .sl id off n c->W id
structure Ae (h hh:H)(C D:Nat)(W:Nat->Prop)(n:Nat)(O:LN)(R:jI)(vO vR:V)(wsO wsR:List V):Prop where
 get:hh.get C=aZ [aC n,vO,vR]
 oO:cY hh vO 1 wsO h.next
 oR:cY hh vR 1 wsR h.next
 aO:fW W hh wsO O
 aR:aM (PL W hh) wsR R
 bO:Hq W vO
 bR:Hq W vR
 pO:dL vO C
 pR:dL vR C
 qO:dL vO D
 qR:dL vR D
 d:W D
 cd:C≠D
 IQ:Dis vO vR
 wb: ∀id,W id->id<hh.next
 low: ∀id,id<h.next->W id
 hC:h.next<=C
 hD:h.next<=D
 c:W C
 fr:Fr h hh
theorem Ae.start (k:h.next<=C)(d:C<hh.next)(j:h.next<=D)(a:D<hh.next)(c:C≠D)(f:Fr h hh)(i:hh.get C=aZ [aC n,.aE,.aE]):Ae h hh C D (λid=>id=C∨id=D∨id<h.next) n [] [] .aE .aE [] []:=
 ⟨i,cY.aE _ _ _,cY.aE _ _ _,trivial,trivial,λ_ _ _ _ e=>(by cases e),λ_ _ _ _ e=>(by cases e),dL.aE _,dL.aE _,dL.aE _,dL.aE _,.inr (.inl rfl),c,λ_ _ _ _ e=>(by cases e),λid e=>by rcases e with rfl|rfl|e;exact d;exact a;exact iW e f.next,λid e=> .inr (.inr e),k,j,.inl rfl,f⟩
theorem Ae.mono {R:jI}(A:Ae h hh C D W n O R vO vR wsO wsR){h2:H}(f:Fr hh h2):Ae h h2 C D W n O R vO vR wsO wsR:=
 ⟨by rw[f.get C (A.wb C A.c)];exact A.get,A.oO.fr f,A.oR.fr f,fW.go A.aO (Fx.of f) (λ_ _ h=>h),A.aR.mono λ_ _ x=>x.go (Fx.of f) (λ_ _ h=>h),A.bO,A.bR,A.pO,A.pR,A.qO,A.qR,A.d,A.cd,A.IQ,λid h=>iW (A.wb id h) f.next,A.low,A.hC,A.hD,A.c,A.fr.trans f⟩
theorem Ae.step {R:jI}(A:Ae h hh C D W n O R vO vR wsO wsR){v4 v5:V}{o:List Nat}(K:PV W hh v4 o)(F:PL W hh v5 r)
  {h6:H} {a k1 k2:Nat} (U:hh.next<=a) (hb:hh.next<=b) (u:a≠b) (y:a<h6.next) (z:b<h6.next) (J:wsO.length+1=k1) (L:wsR.length+1=k2)
  (G:h6.get C=aZ [aC n,.sl a 0 k1 (.un 1),.sl b 0 k2 (.un 1)]) (P:h6.get a=aZ (wsO++ [v4])) (N:h6.get b=aZ (wsR++ [v5]))
  (p: ∀k,k<hh.next->k≠C->dL vO k->dL vR k->h6.get k=hh.get k):
  Ae h h6 C D (λid=>W id∨id=a∨id=b) n (O++ [o]) (R++ [r]) (.sl a 0 k1 (.un 1)) (.sl b 0 k2 (.un 1)) (wsO++ [v4]) (wsR++ [v5]):=by
 have t:Fx W hh h6:=⟨om,λid j l=>p id j (λe=>l (e▸A.c)) (λm f n c e q=>l (q▸A.bO _ _ _ _ e)) (λm f n c e q=>l (q▸A.bR _ _ _ _ e))⟩
 have s: ∀id,id<hh.next->(W id∨id=a∨id=b)->W id:=λid j l=>by
  rcases l with l|l|l
  ·exact l
  ·omega
  ·omega
 have cn:=A.wb C A.c
 have Q:=A.wb D A.d
 have Z:=A.fr.next
 refine⟨G,.inr ⟨a,k1,_, [],rfl,by rw[jZ];simp;omega,.inl rfl,om,y,by rw[vF];exact P⟩,.inr ⟨b,k2,_, [],rfl,by rw[jZ];simp;omega,.inl rfl,om,z,by rw[vF];exact N⟩,
  (fW.go A.aO t s).append (fW.one (PV.go K t s)),(A.aR.mono λ_ _ x=>x.go t s).append ⟨F.go t s,trivial⟩,λid f n c e=>by cases e;exact .inr (.inl rfl),λid f n c e=>by cases e;exact .inr (.inr rfl),
  dL.sl om,dL.sl om,dL.sl om,dL.sl om,.inl A.d,A.cd,λi o n c e Y o' n' c' B=>by cases e;cases B;exact u,λid j=>?_,λid j=> .inl (A.low id j),A.hC,A.hD,.inl A.c,⟨om,λid w=>?_⟩⟩
 ·rcases j with j|j|j
  ·have:=A.wb id j;omega
  ·omega
  ·omega
 ·have hC:=A.hC
  rw[p id om om (λm f n c e q=>by have:=(A.oO.in _ _ _ _ e).2.1;omega) (λm f n c e q=>by have:=(A.oR.in _ _ _ _ e).2.1;omega)]
  exact A.fr.get id w
theorem Ae.box {R:jI}(A:Ae h hh C D W n O R vO vR wsO wsR){h3:H}{o:Option Ob}(e:h3=hh.set D o):Ae h h3 C D W n O R vO vR wsO wsR:=by
 subst e;have f:Fx W hh (hh.set D o):=Fx.set hh A.d o;have j:=A.wb D A.d
 refine⟨by rw[H.aG hh A.cd];exact A.get,A.oO.mono (fM _) λid i m c e _ _=>H.aG hh (λa=>A.qO _ _ _ _ e a.symm) o,A.oR.mono (fM _) λid i m c e _ _=>H.aG hh (λa=>A.qR _ _ _ _ e a.symm) o,
  fW.go A.aO f (λ_ _ h=>h),A.aR.mono λ_ _ x=>x.go f (λ_ _ h=>h),A.bO,A.bR,A.pO,A.pR,A.qO,A.qR,A.d,A.cd,A.IQ,A.wb,A.low,A.hC,A.hD,A.c,?_⟩
 exact A.fr.set A.hD o
end
def NL (W:Nat->Prop)(h:H)(v:V)(n:Nat)(O:LN)(R:jI):Prop:= ∃vO vR wsO wsR,v= .agg [aC n,vO,vR]/\SV h vO 1 wsO/\Mq W vO/\fW W h wsO O/\SV h vR 1 wsR/\Mq W vR/\aM (PL W h) wsR R
section
variable {W W':Nat->Prop} {h h' hh:H}
theorem NL.go {R:jI}(c:NL W h v n O R)(f:Fx W h h')(a: ∀id,id<h.next->W' id->W id):NL W' h' v n O R:=by
 obtain⟨vO,vR,wsO,wsR,e,j,d,m,k,i,l⟩:=c;exact⟨vO,vR,wsO,wsR,e,j.fx d f,d.Fo j a,fW.go m f a,k.fx i f,i.Fo k a,l.mono λ_ _ x=>x.go f a⟩
theorem NL.mono {R:jI}(c:NL W h v n O R)(f:Fr h h'):NL W h' v n O R:=c.go (Fx.of f) λ_ _ h=>h
theorem NL.ch {R:jI}(c:NL W h v n O R):WI h v (n:Int) (O.map zi) (R.map (List.map zi)):=by
 obtain⟨vO,vR,wsO,wsR,e,m,p,f,o,q,a⟩:=c;refine⟨vO,vR,e,⟨wsO,m,?_⟩,⟨wsR,o,?_,λw j=>?_⟩⟩
 ·have d:=aM.length f
  exact aM.mQ (by simpa using d) λi hi l=>by
   have:=(aM.get f i hi om).si;simpa using this
 ·have d:=aM.length a
  exact aM.mQ (by simpa using d) λi hi l=>by
   have:=(aM.get a i hi om).sp;simpa using this
 ·obtain⟨i,hi,rfl⟩:=zF.1 j
  have d:=aM.length a;obtain⟨_,_,_,_,k⟩:=aM.get a i hi om;exact k
theorem DO {sz:Nat}{ws:List V}(o:cY h v sz ws b):Mq (λid=>id<b) v:=by
 cases v with
 |sl id off m c=>exact λe=>by have:=(o.in _ _ _ _ rfl).2.1;omega
 |_=>trivial
theorem Ae.chw {R:jI}(A:Ae h hh C D W n O R vO vR wsO wsR):NL (λid=>id<h.next) hh (.agg [aC n,vO,vR]) n O R:=
 ⟨vO,vR,wsO,wsR,rfl,A.oO.sv,DO A.oO,fW.Fo A.aO λid _ h=>A.low id h,A.oR.sv,DO A.oR,A.aR.mono λ_ _ x=>x.go (Fx.refl _ _) λid _ h=>A.low id h⟩
end
theorem oNs {h:H}{O:List (List Int)}(s:SR h v O):v.one=true:=by
 obtain⟨_,t,_⟩:=s;exact t.cK.2.1
theorem oNt {h:H}{O:List (List (List Int))}(s:SRR h v O):v.one=true:=by
 obtain⟨_,t,_⟩:=s;exact t.cK.2.1
end
def ChL (τ:pM)(n j:Nat)(o:List Nat)(r:LN):Prop:=o.Pairwise (· < ·)/\(∀p,p∈o↔p∈(τ j).orb)/\r.length=o.length/\ ∀k,k<o.length-> ∀y,(τ j).to (o.getD k 0)=some y->r.getD k []=Kb τ (n-(j+1)) (j+1) y
theorem aaX {l:List Int}{a:List Nat}(h:l.Perm (zi a)): ∃q,l=zi q/\q.Perm a:=by
 refine⟨l.map Int.toNat,?_,?_⟩
 ·unfold zi
  rw[List.map_map];refine (List.map_id l).symm.trans (Vy λx b=>?_);have:=h.mem_iff.1 b;obtain⟨k,_,rfl⟩:=uF.1 this;simp
 ·have:=h.map Int.toNat
  have e:(zi a).map Int.toNat=a:=by
   unfold zi;rw[List.map_map];exact (Vy λx _=>by simp).trans (List.map_id a)
  rwa [e] at this
theorem aeL {q:List Nat}(h:(zi q).Pairwise (· <= ·))(nd:q.Nodup):q.Pairwise (· < ·):=by
 unfold zi at h;rw[List.pairwise_map] at h;rw[nPN] at nd;exact (h.and nd).imp λ⟨a,h2⟩=>om
theorem LO (u:V)(b:u.cells= [u])(a:u.one=true)(h:H):Ev T 195 [u] h (λv h'=>v= .fn 232 [] [.ptr h.next 0]/\h'.get h.next=aZ [u]/\h'.next=h.next+1/\Fr h h'):=by
 refine cV oE rfl ?_;simp(disch:=omega)only[go_sem,oE,aD,mF b a];exact (Fr.refl h).new _
theorem mI {α:Type}{a:List α}{x:α}{j:Nat}{d:α}(h:j<a.length):(a++ [x]).getD j d=a.getD j d:=by
 rw[List.getD,List.getD,Dv h]
theorem kG {α:Type}{a:List α}{x d:α}:(a++ [x]).getD a.length d=x:=by
 rw[List.getD,Sj (fM _),Nat.sub_self];rfl
theorem Qt (h:H)(n s L:Nat)(F:Nat->V)(τ:pM)(hn:n<=7)(R:rX h n s L F τ)(t:pI n 0 τ):
  Ev T 142 [.ptr s 0] h (λv h'=> ∃O R',NL (λid=>id<h.next) h' v n O R'/\bC n (S n τ 0) O R'/\Fr h h'):=by
 refine cV rW rfl ?_
 obtain⟨B,hB⟩:=exI h.next
 have tn:=R.tn
 have ln:=R.ln
 have ct:h.cell s 0=some (aC n):=by rw[H.aF R.t];rfl
 have bl:rO [aC 0,.aE,.aE] [(0,1,aC n)]=some (.agg [aC n,.aE,.aE]):=by
  have e1:putAt [aC 0,.aE,.aE] 0 [aC n]=some [aC n,.aE,.aE]:=by simp [putAt]
  simp [rO,iS,e1,V.cells,V.one]
 obtain⟨h1,a3⟩: ∃h1,h1=(h.new (.cells false [aC 0,.aE,.aE])).new (.cells false [aC 0,.aE,.aE]):=⟨_,rfl⟩
 have n1:h1.next=B+2:=by rw[a3,H.aU,H.aU,hB]
 have g1:h1.get (B+1)=aZ [aC 0,.aE,.aE]:=by
  rw[a3];have:=H.aL (h.new (.cells false [aC 0,.aE,.aE])) (.cells false [aC 0,.aE,.aE]);rwa [H.aU,hB] at this
 have g0:h1.get B=aZ [aC 0,.aE,.aE]:=by rw[a3,H.bG _ (by rw[H.aU,hB];omega),←hB,H.aL]
 have f1:Fr h h1:=by rw[a3];exact ((Fr.refl h).new _).new _
 have e9:h1.cell s 0=some (aC n):=by rw[f1.cell tn];exact ct
 simp(disch:=omega)only[go_sem,rW,aD,hB,ct,bl]
 rw[←a3]
 simp(disch:=omega)only[go_sem,bW h1 (B+1) 0 (v:= aC n) (u:= .aE) (w:= .aE) rfl rfl rfl,g1,cF]
 obtain⟨l,a2⟩: ∃l,l=h1.set (B+1) (aZ [aC n,.aE,.aE]):=⟨_,rfl⟩
 have n2:l.next=B+2:=by rw[a2];exact n1
 have f2:Fr h l:=by rw[a2];exact f1.set om _
 have g2:l.get (B+1)=aZ [aC n,.aE,.aE]:=by rw[a2,H.aS]
 have c3:l.get B=aZ [aC 0,.aE,.aE]:=by rw[a2,H.aG _ om];exact g0
 have d8:h1.cell s 1=some (.sl L 0 n (.kn n)):=by rw[H.aF (R.mono f1).t];rfl
 rw[←a2]
 simp(disch:=omega)only[go_sem,d8]
 clear a3 a2 f1 g0 g1 e9 d8 n1 h1
 refine aH (λk' a0 J=> ∃(i:Nat) (W:Nat->Prop) (O:LN) (R':jI) (vO N:V) (d7 b7:List V),(∃g:Nat->V,a0= [.ptr s 0,.ptr B 0,.ptr (B+1) 0,g 3,g 4,g 5,g 6,aC n,aC i,g 9,g 10,g 11,g 12,g 13])/\i<=n/\Ae h J (B+1) B W n O R' vO N d7 b7/\
   J.get B=aZ [aC 0,.aE,.aE]/\O.length=i/\R'.length=i/\(∀j,j<i->ChL τ n j (O.getD j []) (R'.getD j []))/\k'=n-i) n
  ⟨0,_, [], [],_,_,_,_,aB rfl,iJ _,Ae.start om om om om om f2 g2,c3,rfl,rfl,λj hj=>om,rfl⟩ ?_
 clear f2 g2 c3 n2 l
 rintro k' a0 l ⟨i,W,O,R',vO,N,d7,b7,⟨g,rfl⟩,hi,A,gB,lO,lR,hC,rfl⟩
 by_cases c2:(i:Int)<(n:Int)
 case neg=>
  have e1:=bH c2;obtain rfl:i=n:=om
  have hr:=aI A.get;have nB:=A.fr.next;simp(disch:=omega)only[go_sem,e1,hr,bW l B 0 (v:= aC i) (u:=vO) (w:=N) rfl (SV.cK A.oO.sv).2.1 (SV.cK A.oR.sv).2.1,gB,cF];have g7:=aI (h:=l.set B (aZ [aC i,vO,N])) (H.aS ..);have fB:Fx (· =B) l (l.set B (aZ [aC i,vO,N])):=Fx.set l (W:=(· =B)) rfl _;simp(disch:=omega)only[go_sem,g7]
  obtain⟨h3,c4⟩: ∃h3,h3=l.set B (aZ [aC i,vO,N]):=⟨_,rfl⟩
  rw[←c4] at fB ⊢;have A3:=A.box c4;refine⟨O,R',by rw[←hB];exact A3.chw,?_,A3.fr⟩;have X:=t.chain (O:=O) (R:=R') lO lR (λj hj=>(hC j hj).1) (λj hj=>(hC j hj).2.1) (λj hj=>(hC j hj).2.2.1) (λj hj=>(hC j hj).2.2.2);exact X
 have e1:=oQ c2
 have Q:i<n:=om
 have R2:=R.mono A.fr
 have cl:l.cell s 1=some (.sl L 0 n (.kn n)):=by rw[H.aF R2.t];rfl
 have co:l.cell L (i*194+1)=some (F (i*194+1)):=R2.cell Q om
 have oo:=R2.orb i Q
 obtain⟨jX,_⟩:=t i (iJ _) Q
 have j2:=YY jX Q
 have d6:0<(τ i).orb.length:=HJ jX.base
 simp(disch:=omega)only[go_sem,e1,cl,co]
 refine (LO (F (i*194+1)) (SV.cK oo.sv).1 (SV.cK oo.sv).2.1 l).mono ?_
 rintro _ h3 ⟨rfl,g3,n3,f3⟩
 simp(disch:=omega)only[go_sem]
 have c7:SI h3 (F (i*194+1)) (zi (τ i).orb):=(show SI l _ _ from oo.sv).mono f3
 refine (MG l.next _ (zi (τ i).orb) h3 (by rw[aQ];exact d6) (by rw[aQ];omega) g3 om c7).mono ?_
 rintro _ h4 ⟨P,cp,l',rfl,j1,c6,gP,pm,d1,f4⟩
 obtain⟨q,rfl,b5⟩:=aaX pm
 have d3:=aeL d1 (b5.nodup_iff.2 jX.nd)
 have lq:q.length=(τ i).orb.length:=b5.length_eq
 have b3: ∀p,p∈q↔p∈(τ i).orb:=λp=>b5.mem_iff
 rw[aQ,←lq]
 have A4:=A.mono (f3.trans f4)
 have pq:PV W h4 (.sl P 0 q.length cp) q:=⟨SV.all (by rw[fT,aQ,uW]) c6 gP _,λhw=>by have:=A.wb P hw;omega⟩
 have d9:h4.get B=aZ [aC 0,.aE,.aE]:=by rw[(f3.trans f4).get B (A.wb B A.d)];exact gB
 clear A gB g3 c7 oo co cl R2 pm d1
 simp(disch:=omega)only[go_sem]
 refine bJ (λvs J=> ∃(U:V) (r:LN),(∃g:Nat->V,vs= [.ptr s 0,.ptr B 0,.ptr (B+1) 0,aC i,.sl P 0 q.length cp,U,g 6,aC n,aC i,g 9,g 10,g 11,g 12,g 13])/\PL W J U r/\ChL τ n i q r/\Fr h4 J) ?_ ?_
 ·refine aH (λk' vs J=> ∃(k:Nat) (U:V) (ws:List V) (r:LN) (W':Nat->Prop),(∃g:Nat->V,vs= [.ptr s 0,.ptr B 0,.ptr (B+1) 0,aC i,.sl P 0 q.length cp,U,g 6,aC n,aC i,g 9,.sl P 0 q.length cp,aC (q.length:Int),aC k,g 13])/\k<=q.length/\cY J U 1 ws h4.next/\fW W' J ws r/\Hq W' U/\(∀id,W id->W' id)/\(∀id,W' id->id<J.next/\(W id∨h4.next<=id))/\r.length=k/\
    (∀j,j<k-> ∀y,(τ i).to (q.getD j 0)=some y->r.getD j []=Kb τ (n-(i+1)) (i+1) y)/\Fr h4 J/\k'=q.length-k) q.length
   ⟨0,.aE, [], [],W,aB rfl,iJ _,cY.aE _ _ _,trivial,λ_ _ _ _ e=>(by cases e),λ_ h=>h,λid h=>⟨A4.wb id h,.inl h⟩,rfl,λj hj=>om,Fr.refl _,rfl⟩ ?_
  rintro k' a0 f ⟨k,U,ws,r,W',⟨g,rfl⟩,hk,ow,b6,e8,c1,d4,lr,hr,f5,rfl⟩
  by_cases b4:(k:Int)<(q.length:Int)
  case neg=>
   have e2:=bH b4;obtain rfl:k=q.length:=om
   simp(disch:=omega)only[go_sem,e2];refine⟨U,r,aB rfl,⟨ws,ow.sv,?_,b6.Fo (λid _ h=>c1 id h),cY.NN ow⟩,⟨d3,b3,lr,hr⟩,f5⟩
   cases U with
   |sl id a8 m c=>exact λh=>by have:=(ow.in _ _ _ _ rfl).2.1;have:=A4.wb id h;omega
   |_=>trivial
  have e2:=oQ b4
  have c0:k<q.length:=om
  obtain⟨p,hp⟩:=exI (q.getD k 0)
  have d5:=pq.mono f5
  have ck:f.cell P k=some (aC p):=by
   rw[H.aF (by rw[f5.get P c6];exact gP),Ip c0,hp]
  have c9:p∈(τ i).orb:=(b3 p).1 (by rw[←hp,cJ c0];exact zG c0)
  have j4:=jX.lt Q c9
  obtain⟨y,hy⟩:=jX.to c9
  have Y:=jX.cU _ _ hy
  have R5:=R.mono (A4.fr.trans f5)
  have cl:f.cell s 1=some (.sl L 0 n (.kn n)):=by rw[H.aF R5.t];rfl
  have i5:f.cell L (i*194+2+p)=some (F (i*194+2+p)):=R5.Sh Q om
  have e4:PV (WT n L F) f (F (i*194+2+p)) y:=by
   have:=R5.to i p Q om;rw[hy] at this;exact this
  simp(disch:=omega)only[go_sem,e2,ck,cl,i5]
  refine (RI f n s L F τ _ y i hn R5 e4 Y Q (t.mono om)).mono ?_
  rintro v6 h6 ⟨p6,Q6,f6⟩
  simp(disch:=omega)only[go_sem]
  refine (Mz v6 _ h6 (by rw[aQ,Q6.len];omega) (by rw[aQ,Q6.len];omega) p6.si).mono ?_
  rintro v7 h7 d0
  have f7:=d0.fr
  have p7:PV W' h7 v7 (Kb τ (n-(i+1)) (i+1) y):=d0.pv λid h=>iW (d4 id h).1 f6.next
  simp(disch:=omega)only[go_sem,cT h7 (z:= .aE) p7.fG.1 p7.fG.2]
  obtain⟨Z,K⟩: ∃Z,Z=h7.new (.cells false [v7]):=⟨_,rfl⟩
  have g8:Z.get h7.next=aZ [v7]:=by rw[K,H.aL]
  have n8:Z.next=h7.next+1:=by rw[K,H.aU]
  have f8:Fr h7 Z:=by rw[K];exact (Fr.refl h7).new _
  rw[←K]
  have b1:=(f6.trans f7).trans f8
  have g5:=ow.fr b1
  have i7:=aM.length b6
  obtain⟨h9,a9,p9⟩:=g5.push (bytes:=24) (SV.one om g8 (.kn 1)) (n:=k) (m:=1) om rfl om om om
  simp(disch:=omega)only[go_sem,a9]
  rw[eJ k]
  have n9:=p9.next
  have f9:Fx W' Z h9:=p9.fx e8
  have e5:=b1.next
  have c5: ∀id,id<Z.next->(W' id∨id=Z.next)->W' id:=λid h1 l=>by
   rcases l with l|l
   ·exact l
   ·omega
  refine⟨q.length-(k+1),om,k+1,_,_,r++ [Kb τ (n-(i+1)) (i+1) y],λid=>W' id∨id=Z.next,aB rfl,om,p9.own om rfl (by have:=f5.next;omega),?_,λid a8 m c e=>by cases e;exact .inr rfl,λid h=> .inl (c1 id h),λid h=>?_,by rw[jZ,lr];rfl,λj hj z hz=>?_,?_,rfl⟩
  ·exact (fW.go (fW.go b6 (Fx.of b1) (λ_ _ h=>h)) f9 c5).append (fW.one (PV.go (p7.mono f8) f9 c5))
  ·rcases h with h|h
   ·have:=d4 id h;exact⟨om,this.2⟩
   ·have:=f5.next;exact⟨om,.inr om⟩
  ·by_cases e:j=k
   ·subst e
    rw[hp,hy] at hz
    cases hz
    rw[←lr,kG]
   ·rw[mI om]
    exact hr j om z hz
  ·refine⟨by have:=f5.next;omega,λid b0=>?_⟩
   rw[p9.old id (by have:=f5.next;omega) (λi1 a8 m c e e2=>by have:=(ow.in _ _ _ _ e).2.1;omega),b1.get id (by have:=f5.next;omega)]
   exact f5.get id b0
 rintro a0 f ⟨U,r,⟨g,rfl⟩,pl,f0,f5⟩
 have G:=A4.mono f5
 have d5:=pq.mono f5
 have e3:f.get B=aZ [aC 0,.aE,.aE]:=by rw[f5.get B (A4.wb B A4.d)];exact d9
 have cO:f.cell (B+1) 1=some vO:=by rw[H.aF G.get];rfl
 have cR:f.cell (B+1) 2=some N:=by rw[H.aF G.get];rfl
 obtain⟨ws,b9,e6,g4,e0⟩:=pl
 have pl:PL W f U r:=⟨ws,b9,e6,g4,e0⟩
 have i8:=G.fr.next
 have c8:=G.wb _ G.c
 simp(disch:=omega)only[go_sem,cO,cR,cT _ (z:= .aE) (v:= .sl P 0 q.length cp) rfl rfl]
 obtain⟨h6,b2⟩: ∃h6:H,h6=H.mk ((H.mk f.tr (f.next+3)).new (Ob.cells false [.sl P 0 q.length cp])).tr (f.next+14):=⟨_,rfl⟩
 rw[←b2]
 have g6:h6.get (f.next+3)=aZ [.sl P 0 q.length cp]:=by rw[b2];exact H.aL (H.mk f.tr (f.next+3)) _
 have n6:h6.next=f.next+14:=by rw[b2]
 have o6: ∀k,k≠f.next+3->h6.get k=f.get k:=λk hk=>by rw[b2];exact H.bG (H.mk f.tr (f.next+3)) (by simpa using hk) _
 have f6:Fr f h6:=⟨om,λid b0=>o6 id om⟩
 have i9:=aM.length G.aO
 have j0:=aM.length G.aR
 obtain⟨h7,a7,p7⟩:=(G.oO.fr f6).push (bytes:=24) (SV.one om g6 (.kn 1)) (n:=i) (m:=1) om rfl om om om
 have n7:=p7.next
 have a5: ∀k,k<f.next->dL vO k->h7.get k=f.get k:=λk h1 l=>by rw[p7.old k om l,o6 k om]
 have i4:h7.cell (B+1) 2=some N:=by unfold H.cell;rw[a5 (B+1) c8 G.pO,G.get];rfl
 have eR:dE N N=true:=G.oR.sv.dE
 have d2:U.cells= [U]/\U.one=true:=⟨(SV.cK b9).1,(SV.cK b9).2.1⟩
 simp(disch:=omega)only[go_sem,a7,i4,eR,cT _ (z:= .aE) d2.1 d2.2]
 obtain⟨Z,K⟩: ∃Z:H,Z=H.mk ((H.mk h7.tr (f.next+8)).new (Ob.cells false [U])).tr h7.next:=⟨_,rfl⟩
 rw[←K]
 have g8:Z.get (f.next+8)=aZ [U]:=by rw[K];exact H.aL (H.mk h7.tr (f.next+8)) _
 have n8:Z.next=h7.next:=by rw[K]
 have o8: ∀k,k≠f.next+8->Z.get k=h7.get k:=λk hk=>by rw[K];exact H.bG (H.mk h7.tr (f.next+8)) (by simpa using hk) _
 have e7:cY Z N 1 b7 h.next:=G.oR.mono om λid a8 m c e _ b0=>by
  rw[o8 id om,a5 id b0 (λi1 i6 n' c' e' e2=>G.IQ _ _ _ _ e' _ _ _ _ e e2.symm)]
 obtain⟨h9,a9,p9⟩:=e7.push (bytes:=24) (SV.one om g8 (.kn 1)) (n:=i) (m:=1) om rfl om om om
 have n9:=p9.next
 have g9: ∀k,f.next<=k->dL N k:=λk hk id a8 m c e e2=>by have:=(G.oR.in _ _ _ _ e).1;omega
 have a6: ∀k,k<f.next->dL vO k->dL N k->h9.get k=f.get k:=λk h1 l h3=>by rw[p9.old k om h3,o8 k om,a5 k h1 l]
 have i0:h9.get (B+1)=aZ [aC n,vO,N]:=by rw[a6 _ c8 G.pO G.pR];exact G.get
 have i2: ∀(J:H) (x:V),dX (aZ [aC n,vO,N]) J (B+1) 1 [x]=some (J.set (B+1) (aZ [aC n,x,N])):=λJ x=>bN (by simp) J _ x
 have i3: ∀(J:H) (x y:V),dX (aZ [aC n,x,N]) J (B+1) 2 [y]=some (J.set (B+1) (aZ [aC n,x,y])):=λJ x y=>bN (by simp) J _ y
 simp(disch:=omega)only[go_sem,a9,i0,i2,i3]
 rw[eJ i]
 obtain⟨ha,hb⟩:h6.next=f.next+14/\Z.next=f.next+15:=⟨n6,om⟩
 rw[ha,hb]
 obtain⟨a4,a1⟩: ∃a4,a4=(h9.set (B+1) (aZ [aC n,.sl (f.next+14) 0 (i+1) (.un 1),N])).set (B+1) (aZ [aC n,.sl (f.next+14) 0 (i+1) (.un 1),.sl (f.next+15) 0 (i+1) (.un 1)]):=⟨_,rfl⟩
 rw[←a1]
 have b8: ∀k,k≠B+1->a4.get k=h9.get k:=λk hk=>by rw[a1,H.aG _ hk,H.aG _ hk]
 have j3:a4.next=f.next+16:=by rw[a1];show h9.next=_;omega
 have h0:=G.step (v4:= .sl P 0 q.length cp) (v5:=U) (o:=q) (r:=r) (h6:=a4) (a:=f.next+14) (b:=f.next+15) (k1:=i+1) (k2:=i+1) d5 pl om om om om om om om (by rw[a1,H.aS])
  (by rw[b8 _ om,p9.old _ om (g9 _ om),o8 _ om,←ha];exact p7.get) (by rw[b8 _ om,←hb];exact p9.get) (λk h1 l h3 h4=>by rw[b8 k l];exact a6 k h1 h3 h4)
 refine⟨n-(i+1),om,i+1,_,_,_,_,_,_,_,aB rfl,om,h0,?_,by rw[jZ,lO];rfl,by rw[jZ,lR];rfl,λj hj=>?_,rfl⟩
 ·rw[a6 B (G.wb B G.d) G.qO G.qR];exact e3
 ·by_cases e:j=i
  ·subst e
   have e1:(O++ [q]).getD j []=q:=by rw[←lO];exact kG
   have e2:(R'++ [r]).getD j []=r:=by rw[←lR];exact kG
   rw[e1,e2]
   exact f0
  ·rw[mI om,mI om]
   exact hC j om
end Go.Proofs.YtcdbmkidaecdiaaGreat
namespace Go.Ay
set_option maxRecDepth 100000
def sm:Nat->(Nat->Int)->Int
 |0,_=>0
 |n+1,f=>sm n f+f n
def ab (x:Int):Int:=if x<0 then -x else x
end Go.Ay
namespace Go.Proofs.YtcdbmkidaecdiaaGreat
open Go Go.Ay
set_option maxRecDepth 100000
section
variable {h h' a:H} {l:List Int} {n:Int} {u:V} {b x:Nat}
def SL (h:H)(l:List Int)(v:V)(h':H):Prop:=cY h' v 1 (ints l) h.next/\Fr h h'/\(0<l.length-> ∃id,v= .sl id 0 l.length (.un 1)/\h.next<=id/\id<h'.next/\h'.get id=aZ (ints l))
theorem ZJ {v:V}(j:SI h v l)(o:l.length<1000000): ∃v' h',xQ (h.new (.cells false [])) 1 8 (.sl h.next 0 0 (.kn 0)) v=some (v',h')/\SL h l v' h':=by
 obtain⟨v',h',e,a⟩:=(cY.new h 1 0 h.next [] rfl (fM _)).app (bytes:=8) (n:=0) (by rw[H.aU];omega) (SV.mono j ((Fr.refl h).new _)) (m:=l.length) rfl (by rw[fT,uW]) om om;refine⟨v',h',e,a.own,a.fr h ((Fr.refl h).new _) (fM _),λk=>?_⟩;rcases a.cK with ⟨c,_⟩|⟨id,c,d,i,f⟩
 ·omega
 ·exact⟨id,by rw[c,Nat.zero_add],d,i,f⟩
theorem afK (v:V)(l:List Int)(h:H)(f:SI h v l)(d:l.length<1000000):Ev T 150 [v] h (SL h l):=by
 refine cV Dq rfl ?_;simp only[Dq,aD,go_sem];obtain⟨i,h',e,c⟩:=ZJ f d;simp only[e,go_sem];exact c
theorem TZ (n d:Nat):(n:Int).tmod (d:Int)=((n%d:Nat):Int):=rfl
theorem alE (a:Int)(c:0<n): -n<a.tmod n/\a.tmod n<n:=by
 have f:=Int.tmod_lt_of_pos a c;refine⟨?_,f⟩;rcases Int.le_total 0 a with h|h
 ·have:=Int.tmod_nonneg n h;omega
 ·have d:=Int.tmod_lt_of_pos (-a) c
  rw[Int.neg_tmod] at d;omega
theorem amJ (a:Int)(d:0<n):(if a.tmod n<0 then a.tmod n+n else a.tmod n)=a%n:=by
 have m:=alE a d;have f:a.tmod n=a-n*(a.tdiv n):=by have:=Int.mul_tdiv_add_tmod a n;omega
 have i:a%n=a-n*(a/n):=Int.emod_def a n;have k:=Int.emod_nonneg a (show n≠0 by omega);have j:=Int.emod_lt_of_pos a d
 have c:(a.tmod n)%n=a%n:=by
  rw[f,Int.sub_emod,Int.mul_emod_right,Int.sub_zero,Int.emod_emod]
 split
 ·rw[←c,←Int.emod_eq_of_lt (a:=a.tmod n+n) (b:=n) om om,Int.add_emod_right]
 ·rw[←c,Int.emod_eq_of_lt om om]
theorem akK (a n:Int)(h:H)(i:0<n)(j:n<1000000000):Ev T 38 [aC a,aC n] h (λv h'=>v= aC (a%n)/\h'=h):=by
 refine cV ajC rfl ?_;have k:=alE a i;have c:=amJ a i;simp (disch:=first|omega|(simp only[Qn];(try omega);done)|fail) only[go_sem,ajC,aD];refine aW (λd=>?_) (λf=>?_)
 ·rw[bF d] at c
  simp (disch:=first|omega|(simp only[Qn];(try omega);done)|fail) only[go_sem];exact⟨by rw[c],trivial⟩
 ·rw[bI f] at c
  simp (disch:=first|omega|(simp only[Qn];(try omega);done)|fail) only[go_sem];exact⟨by rw[c],trivial⟩
theorem Nb {a b:List Int}(d:a.length=b.length)(h: ∀j,j<a.length->a.getD j 0=b.getD j 0):a=b:=by
 apply List.ext_getElem d;intro i c f;have:=h i c;rw[WN,dD c,WN,dD f] at this;exact this
theorem Qs {g:Nat}(F:T g=some kE.fn)(s w:V)(a b:List Int)(h:H)(y:SI h s a)(N:SI h w b)(Q:a.length<1000000)(a1:b.length<1000000):Ev T g [s,w] h (λv h'=>v= .bool (decide (a=b))/\Fr h h'):=by
 refine Ko F rfl ?_;obtain⟨id,a0,t,z,Z⟩:=y.open;obtain⟨R,J,o,p,A⟩:=N.open;simp (disch:=first|omega|(simp only[Qn];(try omega);done)|fail) only[go_sem,kE,aD,y.lens,N.lens];refine aW (λm=>?_) (λq=>?_)
 ·simp (disch:=first|omega|(simp only[Qn];(try omega);done)|fail) only[go_sem]
  have:a≠b:=λe=>m (by rw[e])
  exact⟨by rw[bH this],Fr.refl h⟩
 have q:a.length=b.length:=om
 simp (disch:=first|omega|(simp only[Qn];(try omega);done)|fail) only[go_sem,y.lens];refine aH (λk d G=> ∃(i:Nat) (K L P:V),d= [s,w,.bool false,K,.bool (decide ((a.length:Int)≠(b.length:Int))),aC (a.length:Int),aC i,L,P]/\i<=a.length/\(∀j,j<i->a.getD j 0=b.getD j 0)/\Fr h G/\k=a.length-i) a.length
  ⟨0,_,_,_,rfl,iJ _,λj O=>om,Fr.refl h,rfl⟩ ?_
 rintro k d G ⟨i,K,L,P,rfl,hi,f,c,rfl⟩;simp (disch:=first|omega|(simp only[Qn];(try omega);done)|fail) only[go_sem];refine aW (λW=>?_) (λa2=>?_)
 ·have B:=Fe c z Z
  have r:=Fe c p A;simp (disch:=first|omega|(simp only[Qn];(try omega);done)|fail) only[go_sem,t.ixa,o.ixa,B,r,NK];refine aW (λm=>?_) (λY=>?_)
  ·simp (disch:=first|omega|(simp only[Qn];(try omega);done)|fail) only[go_sem]
   have:a≠b:=λe=>m (by rw[e])
   exact⟨by rw[bH this],c.bA om⟩
  ·simp (disch:=first|omega|(simp only[Qn];(try omega);done)|fail) only[go_sem]
   rw[eJ i];refine⟨a.length-(i+1),om,i+1,_,_,_,rfl,om,λj O=>?_,c.bA om,rfl⟩
   by_cases U:j=i
   ·rw[U];exact Decidable.byContradiction Y
   ·exact f j om
 ·simp (disch:=first|omega|(simp only[Qn];(try omega);done)|fail) only[go_sem]
  have:a=b:=Nb q λj O=>f j om
  exact⟨by rw[oQ this],c⟩
theorem Wr (i f:V)(a b:List Int)(h:H)(j:SI h i a)(k:SI h f b)(c:a.length<1000000)(d:b.length<1000000):Ev T 105 [i,f] h (λv h'=>v= .bool (decide (a=b))/\Fr h h'):=Qs kE.ok i f a b h j k c d
theorem GV (t y:V)(a b:List Int)(h:H)(s:SI h t a)(J:SI h y b)(L:a.length<1000000)(a0:b.length<1000000):Ev T 97 [t,y] h (λv h'=>v= .bool (decide (a=b))/\Fr h h'):=by
 refine cV Ac rfl ?_;obtain⟨id,Z,w,z,W⟩:=s.open;obtain⟨N,G,o,p,A⟩:=J.open;simp (disch:=first|omega|(simp only[Qn];(try omega);done)|fail) only[go_sem,Ac,aD,s.lens,J.lens];refine aW (λm=>?_) (λq=>?_)
 ·simp (disch:=first|omega|(simp only[Qn];(try omega);done)|fail) only[go_sem]
  have:a≠b:=λe=>m (by rw[e])
  exact⟨by rw[bH this],Fr.refl h⟩
 have q:a.length=b.length:=om
 simp (disch:=first|omega|(simp only[Qn];(try omega);done)|fail) only[go_sem,s.lens];refine aH (λk d F=> ∃(i:Nat) (Y Q U:V),d= [t,y,.bool false,aC i,Y,Q,U]/\i<=a.length/\(∀j,j<i->a.getD j 0=b.getD j 0)/\Fr h F/\k=a.length-i) a.length
  ⟨0,_,_,_,rfl,iJ _,λj K=>om,Fr.refl h,rfl⟩ ?_
 rintro k d F ⟨i,x3,x7,x8,rfl,hi,f,c,rfl⟩;simp (disch:=first|omega|(simp only[Qn];(try omega);done)|fail) only[go_sem,s.lens];refine aW (λP=>?_) (λa1=>?_)
 ·have B:=Fe c z W
  have r:=Fe c p A;simp (disch:=first|omega|(simp only[Qn];(try omega);done)|fail) only[go_sem,w.ixa,o.ixa,B,r,NK];refine aW (λm=>?_) (λR=>?_)
  ·simp (disch:=first|omega|(simp only[Qn];(try omega);done)|fail) only[go_sem]
   have:a≠b:=λe=>m (by rw[e])
   exact⟨by rw[bH this],c.bA om⟩
  ·simp (disch:=first|omega|(simp only[Qn];(try omega);done)|fail) only[go_sem]
   rw[eJ i];refine⟨a.length-(i+1),om,i+1,_,_,_,rfl,om,λj K=>?_,c.bA om,rfl⟩
   by_cases O:j=i
   ·rw[O];exact Decidable.byContradiction R
   ·exact f j om
 ·simp (disch:=first|omega|(simp only[Qn];(try omega);done)|fail) only[go_sem]
  have:a=b:=Nb q λj K=>f j om
  exact⟨by rw[oQ this],c⟩
def Frs (u:V)(b:Nat):Prop:= ∀id off n c,u= .sl id off n c->b<=id
theorem Frs.ne {id off n:Nat}{c:Kh}(f:Frs u b)(h:id<b):u≠ .sl id off n c:=λe=>by have:=f _ _ _ _ e;omega
theorem Frs.le {i:Nat}(f:Frs u b)(h:i<=b):Frs u i:=λid d n c e=>mT h (f id d n c e)
theorem Frs.own {v:V}{sz:Nat}{ws:List V}(o:cY h v sz ws b):Frs v b:=λid j n c e=>by
 rcases o with ⟨d,_⟩|⟨i,_,_,_,d,_,_,f,_⟩
 ·rw[d] at e;cases e
 ·rw[d] at e;cases e;exact f
structure AU (x:Nat)(h h':H):Prop where
 next:h.next<=h'.next
 get: ∀id,id<h.next->id≠x->h'.get id=h.get id
theorem AU.refl (x:Nat)(h:H):AU x h h:=⟨fM _,λ_ _ _=>rfl⟩
theorem AU.of (f:Fr h h'):AU x h h':=⟨f.next,λid c _=>f.get id c⟩
theorem AU.trans {b c:H}(f:AU x a b)(g:AU x b c):AU x a c:=⟨mT f.next g.next,λid d i=>(g.get id (iW d f.next) i).trans (f.get id d i)⟩
theorem AU.set {b:H}(f:AU x a b)(o:Option Ob):AU x a (b.set x o):=⟨f.next,λid c d=>(H.aG b d o).trans (f.get id c d)⟩
theorem AU.fr {b c:H}(f:Fr a b)(i:a.next<=x)(g:AU x b c):Fr a c:=⟨mT f.next g.next,λid d=>(g.get id (iW d f.next) om).trans (f.get id d)⟩
theorem SI.fx {j:Nat}(s:SI h u l)(k:Frs u j)(w:x<j)(f:AU x h h'):SI h' u l:=by
 rcases s with s|⟨id,c,len,d,r,q,rfl,m,i,o,p,v⟩
 ·exact .inl s
 ·have t:=k _ _ _ _ rfl
  exact .inr ⟨id,c,len,d,r,q,rfl,m,iW i f.next,by rw[f.get id i om];exact o,p,v⟩
def Tk (h:H)(x:Nat)(l:List Int):Prop:= ∃vl,∃a:Nat,h.get x=aZ [vl,aC a]/\SI h vl l/\(∀id off len c,vl= .sl id off len c->id<x)/\a<=l.length/\x<h.next
theorem Tk.mono (t:Tk h x l)(f:Fr h h'):Tk h' x l:=by
 obtain⟨k,a,m,d,j,i,c⟩:=t;exact⟨k,a,(f.get x c).trans m,d.mono f,j,i,iW c f.next⟩
theorem Tk.low (t:Tk h x l)(j:h.next<=h'.next)(f: ∀id,id<=x->h'.get id=h.get id):Tk h' x l:=by
 obtain⟨A,a,B,k,i,m,r⟩:=t;refine⟨A,a,(f x (fM _)).trans B,?_,i,m,iW r j⟩;rcases k with p|⟨id,c,len,d,v,z,e,y,w,s,q,o⟩
 ·exact .inl p
 ·have:=i _ _ _ _ e
  exact .inr ⟨id,c,len,d,v,z,e,y,iW w j,(f id om).trans s,q,o⟩
theorem Tk.set {y:Nat}(t:Tk h x l)(c:h.next<=y)(o:Option Ob):Tk (h.set y o) x l:=t.mono ((Fr.refl h).set c o)
theorem akU (a:Int)(c:0<n):0<=a%n/\a%n<n:=⟨Int.emod_nonneg a om,Int.emod_lt_of_pos a c⟩
def agU (n:Nat):Nat->Nat->Nat
 |0,_=>n
 |f+1,d=>if d*d<=n then (if n%d=0 then d else agU n f (d+1)) else n
def aiG (n:Nat):Nat:=agU n 1000 2
def cU (n:Int):Bool:=decide (1<n)&&(decide (n<1000000)&&decide (aiG n.toNat=n.toNat))
end
end Go.Proofs.YtcdbmkidaecdiaaGreat
namespace Go.Proofs.YtcdbmkidaecdiaaGreat
open Go Go.Ay Go.Pm
set_option maxRecDepth 100000
theorem vC {g:Nat}(z:T g=some eV.fn)(f:Nat)(m r:V)(a b:List V)(e:Nat->Bool)(h:H)(G:SV h m 1 a)(K:SV h r 1 b)(N:a.length<1000000)(Z:b.length<1000000)
  (hf:a.length=b.length-> ∀i,i<a.length-> ∀hh,Fr h hh->Ev T f [a.getD i .undef,b.getD i .undef] hh (λv h'=>v= .bool (e i)/\Fr hh h')):
  Ev T g [m,r,.fn f [] []] h (λv h'=>v= .bool (decide (a.length=b.length/\ ∀i,i<a.length->e i=true))/\Fr h h'):=by
 refine Ko z rfl ?_
 have B:bT m=some (aC (a.length:Int)):=by unfold bT;rw[G.len (n:=a.length) om om];rfl
 have P:bT r=some (aC (b.length:Int)):=by unfold bT;rw[K.len (n:=b.length) om om];rfl
 obtain⟨id,y,Q,u,R⟩:=G.shape a.length om om
 obtain⟨s,o,A,l,x⟩:=K.shape b.length om om
 simp(disch:=omega)only[go_sem,eV,aD,B,P]
 refine aW (λw=>?_) (λk=>?_)
 ·simp(disch:=omega)only[go_sem]
  exact⟨by rw[bH (λh=>w om)],Fr.refl h⟩
 have k:a.length=b.length:=om
 simp(disch:=omega)only[go_sem,B]
 refine aH (λL d hh=> ∃(i:Nat),(∃g:Nat->V,d= [m,r,.fn f [] [],g 3,g 4,g 5,g 6,g 7,m,aC (a.length:Int),aC i,g 11,g 12])/\i<=a.length/\(∀j,j<i->e j=true)/\Fr h hh/\L=a.length-i) a.length
  ⟨0,aB rfl,iJ _,λj W=>om,Fr.refl h,rfl⟩ ?_
 rintro L d hh ⟨i,⟨g,rfl⟩,hi,q,F,rfl⟩
 by_cases p:(i:Int)<(a.length:Int)
 ·have t:=oQ p
  have c:i<a.length:=om
  have Y:hh.cell id (y+i)=some (a.getD i .undef):=by rw[F.cell (u om),R i c,List.getD,dD c];rfl
  have O:hh.cell s (o+i)=some (b.getD i .undef):=by rw[F.cell (l om),x i om,List.getD,dD om];rfl
  simp(disch:=omega)only[go_sem,t,Q.ixa,A.ixa,Y,O]
  refine (hf k i c hh F).mono ?_
  rintro _ h2 ⟨rfl,J⟩
  cases he:e i with
  |true=>
   simp(disch:=omega)only[go_sem];rw[eJ i];refine⟨a.length-(i+1),om,i+1,aB rfl,om,λj W=>?_,F.trans J,rfl⟩
   by_cases U:j=i
   ·rw[U];exact he
   ·exact q j om
  |false=>
   simp(disch:=omega)only[go_sem];exact⟨by rw[bH (λh=>by have:=h.2 i c;rw[he] at this;cases this)],F.trans J⟩
 have t:=bH p
 obtain rfl:i=a.length:=om
 simp(disch:=omega)only[go_sem,t]
 exact⟨by rw[oQ ⟨k,q⟩],F⟩
theorem iG {α β:Type}{R:α->β->Prop}{c:List α}{b:List β}(a:aM R c b){i:Nat}(hi:i<b.length)(d:α)(e:β):R (c.getD i d) (b.getD i e):=by
 have f:=a.length;rw[List.getD,dD om,List.getD,dD hi];exact a.get i om hi
theorem vE {α:Type}[DecidableEq α]{a b:List α}(d:α):decide (a=b)=decide (a.length=b.length/\ ∀i,i<a.length->decide (a.getD i d=b.getD i d)=true):=by
 congr 1;rw[eq_iff_iff];constructor
 ·rintro rfl;exact⟨rfl,λi _=>by simp⟩
 ·rintro⟨h1,h2⟩
  exact Ff (d:=d) h1 λi hi=>by simpa using h2 i hi
def Mf (R:List (List (List Int))):Prop:=R.length<1000000/\ ∀i,i<R.length->(R.getD i []).length<1000000
def Oi (R:List (List (List Int))):Prop:=R.length<1000000/\ ∀i,i<R.length->(R.getD i []).length<1000000/\ ∀k,k<(R.getD i []).length->((R.getD i []).getD k []).length<1000000
def zV (O:List (List Int)):Prop:=O.length<1000000/\ ∀i,i<O.length->(O.getD i []).length<1000000
theorem VI (va vb:V)(d p:Int)(O s:List (List Int))(R y:List (List (List Int)))(h:H)(ha:WI h va d O R)(hb:WI h vb p s y)(so:zV O)(r:zV s)(sr:Oi R)(o:Oi y):
  Ev T 178 [va,vb] h (λv h'=>v= .bool (decide (d=p/\O=s/\R=y))/\Fr h h'):=by
 obtain⟨K,A,rfl,sO,sR⟩:=ha
 obtain⟨j,c,rfl,W,a2⟩:=hb
 refine cV Hc rfl ?_
 obtain⟨wO,tO,aO⟩:=sO
 obtain⟨a3,t,J⟩:=W
 obtain⟨wR,tR,aR,_⟩:=sR
 obtain⟨Y,B,G,_⟩:=a2
 have lO:=aO.length
 have x:=J.length
 have lR:=aR.length
 have q:=G.length
 simp(disch:=omega)only[go_sem,Hc,aD,bM h (v:= aC d) (u:=K) (w:=A) rfl tO.cK.2.1 tR.cK.2.1]
 obtain⟨b,m⟩: ∃b,b=h.new (.cells false [aC d,K,A]):=⟨_,rfl⟩
 have g1:b.get h.next=some (.cells false [aC d,K,A]):=by rw[m,H.aL]
 have n1:b.next=h.next+1:=by rw[m,H.aU]
 have f1:Fr h b:=by rw[m];exact (Fr.refl h).new _
 rw[←m]
 simp(disch:=omega)only[go_sem,bM b (v:= aC p) (u:=j) (w:=c) rfl t.cK.2.1 B.cK.2.1]
 obtain⟨a,n⟩: ∃a,a=b.new (.cells false [aC p,j,c]):=⟨_,rfl⟩
 have g2:a.get b.next=some (.cells false [aC p,j,c]):=by rw[n,H.aL]
 have n2:a.next=b.next+1:=by rw[n,H.aU]
 have f2:Fr b a:=by rw[n];exact (Fr.refl b).new _
 rw[←n]
 have Z: ∀l,Fr a l-> ∀i,l.cell h.next i= [aC d,K,A][i]? :=λl f i=>by rw[H.aF (by rw[f.get _ om,f2.get _ om];exact g1)]
 have gb: ∀l,Fr a l-> ∀i,l.cell b.next i= [aC p,j,c][i]? :=λl f i=>by rw[H.aF (by rw[f.get _ om];exact g2)]
 have F2:=f1.trans f2
 by_cases Q:d=p
 case neg=>
  have U:=bH Q;simp(disch:=omega)only[go_sem,H.aF g1,Z a (Fr.refl _),gb a (Fr.refl _),U];exact⟨by rw[bH (λh=>Q h.1)],F2⟩
 have U:=oQ Q
 simp(disch:=omega)only[go_sem,H.aF g1,Z a (Fr.refl _),gb a (Fr.refl _),U]
 refine (vC eV.ok 105 K j wO a3 (λi=>decide (O.getD i []=s.getD i [])) a (tO.mono F2) (t.mono F2) (by rw[lO];exact so.1) (by rw[x];exact r.1) (λhl i hi l f=>?_)).mono ?_
 ·exact Wr _ _ _ _ l ((iG aO om _ _).mono (F2.trans f)) ((iG J om _ _).mono (F2.trans f)) (so.2 i om) (r.2 i om)
 rw[lO,x,←vE]
 rintro _ h3 ⟨rfl,P⟩
 by_cases N:O=s
 case neg=>
  rw[bH N];simp(disch:=omega)only[go_sem];exact⟨by rw[bH (λh=>N h.2.1)],F2.trans P⟩
 rw[oQ N]
 simp(disch:=omega)only[go_sem,Z h3 P,gb h3 P]
 have F:=F2.trans P
 refine (vC iC.ok 218 A c wR Y (λi=>decide (R.getD i []=y.getD i [])) h3 (tR.mono F) (B.mono F) (by rw[lR];exact sr.1) (by rw[q];exact o.1) (λhl i hi l f=>?_)).mono ?_
 ·refine cV Bd rfl ?_
  simp(disch:=omega)only[go_sem,Bd,aD]
  obtain⟨ws,s1,s2⟩:=(iG aR (i:=i) om .undef []).mono (F.trans f)
  obtain⟨a1,a0,z⟩:=(iG G (i:=i) om .undef []).mono (F.trans f)
  have k1:=s2.length
  have k2:=z.length
  refine (vC fY.ok 220 _ _ ws a1 (λk=>decide ((R.getD i []).getD k []=(y.getD i []).getD k [])) l s1 a0 (by rw[k1];exact (sr.2 i om).1) (by rw[k2];exact (o.2 i om).1) (λa4 k hk h4 L=>?_)).mono ?_
  ·refine cV wE rfl ?_
   simp(disch:=omega)only[go_sem,wE,aD]
   refine (Qs agO.ok _ _ _ _ h4 ((iG s2 om _ _).mono L) ((iG z om _ _).mono L) ((sr.2 i om).2 k om) ((o.2 i om).2 k om)).mono ?_
   rintro _ h5 ⟨rfl,f5⟩
   simp(disch:=omega)only[go_sem]
   exact f5
  rw[k1,k2,←vE]
  rintro _ h5 ⟨rfl,f5⟩
  simp(disch:=omega)only[go_sem]
  exact f5
 rw[lR,q,←vE]
 rintro _ h4 ⟨rfl,L⟩
 simp(disch:=omega)only[go_sem]
 refine⟨?_,F.trans L⟩
 congr 2
 rw[eq_iff_iff]
 exact⟨λh=>⟨Q,N,h⟩,λh=>h.2.2⟩
section
variable {i:Nat} {a:List Int}
def mV (a:List Int):Bool:=decide a.Nodup&&a.all λx=>decide (0<=x)&&decide (x<(a.length:Int))
def AT (a:List Int):Int:=if a.length<1∨64<a.length then 2 else if mV a=true then 0 else 3
structure WC (a:List Int)(i:Nat):Prop where
 nd:(a.take i).Nodup
 rg: ∀x∈a.take i,0<=x/\x<(a.length:Int)
theorem Xb {l:List Int}(hi:i<l.length):l.take (i+1)=l.take i++ [l.getD i 0]:=by
 rw[List.take_add_one,dD hi];simp [List.getD,hi]
theorem WC.zero (a:List Int):WC a 0:=⟨by simp,λx b=>by simp at b⟩
theorem WC.succ (p:WC a i)(hi:i<a.length)(f:0<=a.getD i 0)(h:a.getD i 0<(a.length:Int))(h2:a.getD i 0∉a.take i):WC a (i+1):=by
 refine⟨?_,λx b=>?_⟩
 ·rw[Xb hi,List.nodup_append]
  exact⟨p.nd,by simp,λx b y d=>by
   have e:y=a.getD i 0:=by simpa using d
   intro c;rw[c,e] at b
   exact h2 b⟩
 ·rw[Xb hi] at b
  rcases pH.1 b with b|b
  ·exact p.rg x b
  ·simp at b;subst b;exact⟨f,h⟩
theorem WC.all (p:WC a a.length):mV a=true:=by
 have e:a.take a.length=a:=List.take_length;unfold mV;simp only[vN,decide_eq_true_eq,Kv];exact⟨e▸p.nd,λx b=>p.rg x (by rw[e];exact b)⟩
theorem Bz (hi:i<a.length)(h:a.getD i 0<0∨(a.length:Int)<=a.getD i 0∨a.getD i 0∈a.take i):mV a=false:=by
 cases e:mV a with
 |false=>rfl
 |true=>
  exfalso;unfold mV at e;simp only[vN,decide_eq_true_eq,Kv] at e;obtain⟨d,f⟩:=e
  have c:a.getD i 0∈a:=by
   have:a.getD i 0=a[i]:=by simp [List.getD,hi]
   rw[this];exact zG hi
  have:=f _ c;rcases h with h|h|h
  ·omega
  ·omega
  ·have b:(a.take (i+1)).Nodup:=d.sublist (List.take_sublist _ _)
   rw[Xb hi,List.nodup_append] at b;exact b.2.2 _ h _ (by simp) rfl
theorem ES: [V.bool false,.bool false,.bool false,.bool false,.bool false,.bool false,.bool false,.bool false,.bool false,.bool false,.bool false,.bool false,.bool false,.bool false,.bool false,.bool false,
 .bool false,.bool false,.bool false,.bool false,.bool false,.bool false,.bool false,.bool false,.bool false,.bool false,.bool false,.bool false,.bool false,.bool false,.bool false,.bool false,
 .bool false,.bool false,.bool false,.bool false,.bool false,.bool false,.bool false,.bool false,.bool false,.bool false,.bool false,.bool false,.bool false,.bool false,.bool false,.bool false,
 .bool false,.bool false,.bool false,.bool false,.bool false,.bool false,.bool false,.bool false,.bool false,.bool false,.bool false,.bool false,.bool false,.bool false,.bool false,.bool false]=rc 64 (λ_=> .bool false):=rfl
theorem aiM (u:V)(a:List Int)(h:H)(Z:a.length<1000000)(L:SI h u a):
  Ev T 140 [u] h (λv h'=>v= aC (AT a)/\Fr h h'):=by
 refine cV agN rfl ?_
 have m:=L.lens
 obtain⟨id,off,t,B,Y⟩:=L.open
 by_cases P:a.length<1
 ·have y:decide ((a.length:Int)<1)=true:=oQ om
  simp(disch:=omega)only[go_sem,agN,aD,m,y]
  exact⟨by unfold AT;rw[bF (.inl P)],Fr.refl h⟩
 have y:decide ((a.length:Int)<1)=false:=bH om
 by_cases W:64<a.length
 ·have G:decide ((64:Int)<(a.length:Int))=true:=oQ om
  simp(disch:=omega)only[go_sem,agN,aD,m,y,G]
  exact⟨by unfold AT;rw[bF (.inr W)],Fr.refl h⟩
 have G:decide ((64:Int)<(a.length:Int))=false:=bH om
 have z:AT a=if mV a=true then 0 else 3:=by unfold AT;rw[bI om]
 simp(disch:=omega)only[go_sem,agN,aD,m,y,G,ES]
 have o:Fr h (h.new (.cells false (rc 64 λ_=>V.bool false))):=(Fr.refl h).new _
 have l:(h.new (.cells false (rc 64 λ_=>V.bool false))).get h.next=some (.cells false (rc 64 λ_=>V.bool false)):=H.aL ..
 have r:(h.new (.cells false (rc 64 λ_=>V.bool false))).next=h.next+1:=H.aU ..
 generalize h.new (.cells false (rc 64 λ_=>V.bool false))=P at*
 obtain⟨S,Q⟩:=exI h.next
 rw[Q] at l r
 rw[Q]
 refine aH (λR c O=> ∃(i:Nat),(∃j:Nat->V,c= [u,aC 0,.ptr S 0,j 3,j 4,u,aC (a.length:Int),aC i,j 8,j 9])/\i<=a.length/\WC a i/\
   O.get S=some (.cells false (rc 64 λj=> .bool ((a.take i).contains (j:Int))))/\Fr h O/\R=a.length-i) a.length
  ⟨0,aB rfl,iJ _,WC.zero a,by rw[l];rfl,o,rfl⟩ ?_
 clear l o r
 rintro R c K ⟨i,⟨jk,rfl⟩,hi,p,U,F,rfl⟩
 simp(disch:=omega)only[go_sem]
 by_cases n:(i:Int)<(a.length:Int)
 ·rw[oQ n]
  have b:i<a.length:=om
  have ci:K.cell id (off+i)=some (aC (a.getD i 0)):=by rw[F.cell (B om),Y i b]
  generalize f:a.getD i 0=x at ci
  by_cases d:x<0
  ·have q:=oQ d
   simp(disch:=omega)only[go_sem,t.ixa,ci,q]
   refine⟨?_,F⟩
   rw[z,Bz b (.inl (by rw[f];exact d))];rfl
  have q:=bH d
  by_cases A:(a.length:Int)<=x
  ·have w:decide ((a.length:Int)<=x)=true:=oQ om
   simp(disch:=omega)only[go_sem,t.ixa,ci,q,w,m]
   refine⟨?_,F⟩
   rw[z,Bz b (.inr (.inl (by rw[f];exact A)))];rfl
  have w:decide ((a.length:Int)<=x)=false:=bH om
  obtain⟨k,rfl⟩: ∃k:Nat,x=(k:Int):=⟨x.toNat,om⟩
  have J:k<64:=om
  have s:=Bw U J
  cases hm:(a.take i).contains (k:Int) with
  |true=>
   rw[hm] at s;simp(disch:=omega)only[go_sem,t.ixa,ci,q,w,m,s];refine⟨?_,F⟩;rw[z,Bz b (.inr (.inr (by rw[f];simpa using hm)))];rfl
  |false=>
   rw[hm] at s;have N:=bN (vs:=rc 64 λj=> .bool ((a.take i).contains (j:Int))) (off:=k) (by rw[Df];exact J) K S (.bool true);rw[mS] at N;simp(disch:=omega)only[go_sem,t.ixa,ci,q,w,m,s,U,N];rw[eJ i];refine⟨a.length-(i+1),om,i+1,aB rfl,om,p.succ b (by rw[f];omega) (by rw[f];omega) (by rw[f];simpa using hm),?_,F.set om _,rfl⟩;congr 2;refine dB λj hj=>?_
   rw[Xb b,f]
   by_cases e:j=k
   ·subst e;rw[bF rfl];simp
   ·rw[bI e]
    congr 1;rw[Py];simp only[List.contains_iff_mem,pH,List.mem_singleton];constructor
    ·exact .inl
    ·rintro (h|h)
     ·exact h
     ·omega
 rw[bH n]
 obtain rfl:i=a.length:=om
 simp(disch:=omega)only[go_sem]
 refine⟨?_,F⟩
 rw[z,p.all];rfl
end
theorem Sd (a:H)(c:Nat)(b:c<=100000):Jo a 1 1 [.bool false] (aC c) (aC c)=some (.sl a.next 0 c (.kn c),a.new (.cells false (rc c λ_=> .bool false))):=by
 rw[tU om (Int.le_refl _) om om,NK,uW];congr 4;refine List.ext_getElem (by simp [cX,rc]) λi _ _=>?_
 simp [cX,Nat.mod_one,rc]
theorem YD (u:V)(a:List Int)(h:H)(Q:a.length<=1000)(G:SI h u a):
  Ev T 129 [u,aC (a.length:Int)] h (λv h'=>v= .bool (mV a)/\Fr h h'):=by
 refine cV Mn rfl ?_
 have w:=G.lens
 obtain⟨id,off,s,z,P⟩:=G.open
 simp(disch:=omega)only[go_sem,Mn,aD,w]
 rw[bH (show ¬((a.length:Int)≠(a.length:Int)) by omega)]
 simp(disch:=omega)only[go_sem,Sd _ a.length om]
 have n:Fr h (h.new (.cells false (rc a.length λ_=>V.bool false))):=(Fr.refl h).new _
 have l:(h.new (.cells false (rc a.length λ_=>V.bool false))).get h.next=some (.cells false (rc a.length λ_=>V.bool false)):=H.aL ..
 have q:(h.new (.cells false (rc a.length λ_=>V.bool false))).next=h.next+1:=H.aU ..
 generalize h.new (.cells false (rc a.length λ_=>V.bool false))=R at*
 obtain⟨S,L⟩:=exI h.next
 rw[L] at l q
 rw[L]
 refine aH (λN c K=> ∃(i:Nat),(∃j:Nat->V,c= [u,aC (a.length:Int),j 2,.sl S 0 a.length (.kn a.length),aC i,j 5,j 6,j 7])/\i<=a.length/\WC a i/\
   K.get S=some (.cells false (rc a.length λj=> .bool ((a.take i).contains (j:Int))))/\Fr h K/\N=a.length-i) a.length
  ⟨0,aB rfl,iJ _,WC.zero a,by rw[l];rfl,n,rfl⟩ ?_
 clear l n q
 rintro N c B ⟨i,⟨W,rfl⟩,hi,o,O,F,rfl⟩
 simp(disch:=omega)only[go_sem]
 by_cases m:(i:Int)<(a.length:Int)
 ·rw[oQ m]
  have b:i<a.length:=om
  have ci:B.cell id (off+i)=some (aC (a.getD i 0)):=by rw[F.cell (z om),P i b]
  generalize f:a.getD i 0=x at ci
  by_cases d:x<0
  ·have p:=oQ d
   simp(disch:=omega)only[go_sem,s.ixa,ci,p]
   refine⟨?_,F⟩
   rw[Bz b (.inl (by rw[f];exact d))]
  have p:=bH d
  by_cases y:(a.length:Int)<=x
  ·have t:decide ((a.length:Int)<=x)=true:=oQ om
   simp(disch:=omega)only[go_sem,s.ixa,ci,p,t,w]
   refine⟨?_,F⟩
   rw[Bz b (.inr (.inl (by rw[f];exact y)))]
  have t:decide ((a.length:Int)<=x)=false:=bH om
  obtain⟨k,rfl⟩: ∃k:Nat,x=(k:Int):=⟨x.toNat,om⟩
  have A:k<a.length:=om
  have r:=Bw O A
  cases hm:(a.take i).contains (k:Int) with
  |true=>
   rw[hm] at r;simp(disch:=omega)only[go_sem,s.ixa,ci,p,t,w,r];refine⟨?_,F⟩;rw[Bz b (.inr (.inr (by rw[f];simpa using hm)))]
  |false=>
   rw[hm] at r;have J:=bN (vs:=rc a.length λj=> .bool ((a.take i).contains (j:Int))) (off:=k) (by rw[Df];exact A) B S (.bool true);rw[mS] at J;simp(disch:=omega)only[go_sem,s.ixa,ci,p,t,w,r,O,J];rw[eJ i];refine⟨a.length-(i+1),om,i+1,aB rfl,om,o.succ b (by rw[f];omega) (by rw[f];omega) (by rw[f];simpa using hm),?_,F.set om _,rfl⟩;congr 2;refine dB λj U=>?_
   rw[Xb b,f]
   by_cases e:j=k
   ·subst e;rw[bF rfl];simp
   ·rw[bI e]
    congr 1;rw[Py];simp only[List.contains_iff_mem,pH,List.mem_singleton];constructor
    ·exact .inl
    ·rintro (h|h)
     ·exact h
     ·omega
 rw[bH m]
 obtain rfl:i=a.length:=om
 simp(disch:=omega)only[go_sem]
 refine⟨?_,F⟩
 rw[o.all]
theorem Vs (u:V)(a:List Int)(h:H)(l:a.length<1000000)(i:SI h u a):
  Ev T 85 [u] h (λv h'=>v= aC (AT a)/\Fr h h'):=by
 refine cV qQ rfl ?_
 have d:=i.lens
 by_cases k:a.length<1
 ·have b:decide ((a.length:Int)<1)=true:=oQ om
  simp(disch:=omega)only[go_sem,qQ,aD,d,b]
  exact⟨by unfold AT;rw[bF (.inl k)],Fr.refl h⟩
 have b:decide ((a.length:Int)<1)=false:=bH om
 by_cases f:64<a.length
 ·have c:decide ((64:Int)<(a.length:Int))=true:=oQ om
  simp(disch:=omega)only[go_sem,qQ,aD,d,b,c]
  exact⟨by unfold AT;rw[bF (.inr f)],Fr.refl h⟩
 have c:decide ((64:Int)<(a.length:Int))=false:=bH om
 have j:AT a=if mV a=true then 0 else 3:=by unfold AT;rw[bI om]
 simp(disch:=omega)only[go_sem,qQ,aD,d,b,c]
 refine (YD u a h om i).mono ?_
 rintro _ f ⟨rfl,F⟩
 cases e:mV a with
 |true=>
  simp(disch:=omega)only[go_sem];exact⟨by rw[j,e];rfl,F⟩
 |false=>
  simp(disch:=omega)only[go_sem];exact⟨by rw[j,e];rfl,F⟩
theorem Iz {a:List Int}(h:mV a=true):a=zi (a.map Int.toNat)/\bE a.length (a.map Int.toNat):=by
 unfold mV at h;simp only[vN,decide_eq_true_eq,Kv] at h;obtain⟨f,c⟩:=h
 have e:a=zi (a.map Int.toNat):=by
  unfold zi;rw[List.map_map];refine (List.map_id a).symm.trans (Vy λx b=>?_);have:=(c x b).1
  show x=((x.toNat:Nat):Int)
  omega
 refine⟨e,by simp,?_,λx b=>?_⟩
 ·rw[nPN,List.pairwise_map]
  rw[nPN] at f;refine f.imp_of_mem λ{x y} b d i j=>?_
  have:=(c x b).1;have:=(c y d).1;omega
 ·obtain⟨y,d,rfl⟩:=uF.1 b
  have:=c y d;omega
theorem Yd {n:Nat}{l:List Nat}(L:bE n l):mV (zi l)=true:=by
 unfold mV;simp only[vN,decide_eq_true_eq,Kv];refine⟨?_,λx c=>?_⟩
 ·unfold zi
  have:=L.nd;rw[nPN] at this ⊢;rw[List.pairwise_map];exact this.imp λa e=>a om
 ·obtain⟨k,b,rfl⟩:=uF.1 c
  have:=L.lt k b;rw[aQ,L.len];omega
def yU:List Nat->List Nat->Bool
 |x::a,y::b=>if x=y then yU a b else decide (x<y)
 |a,b=>decide (a.length<b.length)
theorem Zf: ∀{a b:List Nat} {i:Nat},(∀j,j<i->a.getD j 0=b.getD j 0)->i<a.length->i<b.length->a.getD i 0≠b.getD i 0->yU a b=decide (a.getD i 0<b.getD i 0)
 | [],_,i,_,h,_,_=>by simp at h
 |_::_, [],i,_,_,h,_=>by simp at h
 |x::a,y::b,0,_,_,_,hne=>by
  have:x≠y:=by simpa using hne
  simp [yU,this]
 |x::a,y::b,i+1,h,h1,h2,hne=>by
  have e:x=y:=by simpa using h 0 om
  unfold yU;rw[bF e,Zf (a:=a) (b:=b) (i:=i) (λj c=>by simpa using h (j+1) om) (by simpa using h1) (by simpa using h2) (by simpa using hne)];simp
theorem aiP: ∀a:List Nat,yU a a=false
 | []=>by simp [yU]
 |x::a=>by unfold yU;rw[bF rfl];exact aiP a
theorem Cb {a b:List Nat}(p:a.length=b.length):yU a b=true↔Lt a b:=by
 by_cases h: ∃i,i<a.length/\a.getD i 0≠b.getD i 0
 ·have n: ∃i,(i<a.length/\a.getD i 0≠b.getD i 0)/\ ∀j,j<i-> ¬(j<a.length/\a.getD j 0≠b.getD j 0):=by
   obtain⟨i,hi⟩:=h
   induction i using Nat.strongRecOn with
   |_ i ih=>
    by_cases l: ∃j,j<i/\j<a.length/\a.getD j 0≠b.getD j 0
    ·obtain⟨j,f,d⟩:=l;exact ih j f d
    ·exact⟨i,hi,λj f d=>l ⟨j,f,d⟩⟩
  obtain⟨i,⟨f,d⟩,o⟩:=n;have c: ∀j,j<i->a.getD j 0=b.getD j 0:=λj l=>Jg λm=>o j l ⟨om,m⟩
  rw[Zf c f om d,decide_eq_true_eq];constructor
  ·intro h;exact⟨i,f,c,h⟩
  ·rintro⟨k,h4,h5,h6⟩
   rcases Nat.lt_trichotomy i k with h|h|h
   ·exact absurd (h5 i h) d
   ·subst h;exact h6
   ·have:=c k h;omega
 ·have e:a=b:=yC p λi hi=>Jg λm=>h ⟨i,hi,m⟩
  subst e;rw[aiP];constructor
  ·intro h;cases h
  ·exact λh=>(h.asymm h).elim
section
variable {n:Nat} {O:List (List Int)}
theorem HD (d:Int)(b a:V)(f:b.one=true)(c:a.one=true)(h:H):Ev T 146 [.agg [aC d,b,a]] h (λv h'=>v= .fn 199 [] [.ptr h.next 0]/\h'.get h.next=aZ [aC d,b,a]/\h'.next=h.next+1/\Fr h h'):=by
 refine cV Ge rfl ?_;simp(disch:=omega)only[go_sem,Ge,aD,bM h (v:= aC d) (u:=b) (w:=a) rfl f c];exact (Fr.refl h).new _
theorem Zb (id b:Nat)(d:Int)(F c:V)(ws:List V)(h:H)(N:ws.length<1000000)(J:Nat->H->Prop)(D:H->Prop)(r:J 0 h)
  (q: ∀i hh,J i hh->hh.get b=aZ [aC d,F,c]/\SV hh c 1 ws)
  (y: ∀i hh,i<ws.length->J i hh->Ey T id [aC i,ws.getD i .undef] hh (λv h'=>v= .bool true/\J (i+1) h'∨v= .bool false/\D h')):
  Ev T 199 [.yl id,.ptr b 0] h (λ_ h'=>J ws.length h'∨D h'):=by
 refine cV zM rfl ?_
 obtain⟨u,x⟩:=q 0 h r
 have A:h.cell b 2=some c:=by rw[H.aF u];rfl
 have t:bT c=some (aC (ws.length:Int)):=by unfold bT;rw[x.len (n:=ws.length) om om];rfl
 simp(disch:=omega)only[go_sem,zM,aD,A,t]
 refine aH (λs a hh=> ∃(i:Nat),(∃g:Nat->V,a= [.yl id,.ptr b 0,g 2,g 3,c,aC (ws.length:Int),aC i,g 7,g 8])/\i<=ws.length/\J i hh/\s=ws.length-i) ws.length
  ⟨0,aB rfl,iJ _,r,rfl⟩ ?_
 rintro s a j ⟨i,⟨g,rfl⟩,hi,l,rfl⟩
 by_cases f:(i:Int)<(ws.length:Int)
 ·have p:=oQ f
  obtain⟨K,z⟩:=q i j l
  obtain⟨m,o,w,B,G⟩:=z.shape ws.length om om
  have ci:j.cell m (o+i)=some (ws.getD i .undef):=by rw[G i om,List.getD,dD om];rfl
  simp(disch:=omega)only[go_sem,p,w.ixa,ci]
  refine (y i j om l).mono ?_
  rintro v L (⟨rfl,k⟩|⟨rfl,k⟩)
  ·simp(disch:=omega)only[go_sem]
   rw[eJ i]
   exact⟨ws.length-(i+1),om,i+1,aB rfl,om,k,rfl⟩
  ·simp(disch:=omega)only[go_sem]
   exact .inr k
 have p:=bH f
 obtain rfl:i=ws.length:=om
 simp(disch:=omega)only[go_sem,p]
 exact .inl l
structure ON (n:Nat)(O:List (List Int))(R:List (List (List Int))):Prop where
 lo:O.length=n
 lr:R.length=n
 row: ∀i,i<n->(R.getD i []).length=(O.getD i []).length/\(R.getD i []).length<=n-i
 perm: ∀i,i<n-> ∀x∈R.getD i [],x.length=n/\mV x=true
def IX (d:Int)(O:List (List Int))(R:List (List (List Int))):Prop:= ∃(n:Nat) (O':LN) (R':jI),d=(n:Int)/\1<=n/\n<=64/\O=O'.map zi/\R=R'.map (List.map zi)/\Valid n O' R'
open Classical in
noncomputable def Um (d:Int)(O:List (List Int))(R:List (List (List Int))):Int:=if d<1∨64<d then 2 else if IX d O R then 0 else 3
theorem Vl {a b:List Nat}(h:zi a=zi b):a=b:=by
 have:=congrArg (List.map Int.toNat) h
 have e: ∀a:List Nat,(zi a).map Int.toNat=a:=λa=>by
  unfold zi;rw[List.map_map];exact (Vy λx _=>by simp).trans (List.map_id a)
 rwa [e,e] at this
theorem map_inj {α β:Type}{f:α->β}(c: ∀x y,f x=f y->x=y): ∀{a b:List α},a.map f=b.map f->a=b
 | [], [],_=>rfl
 | [],_::_,h=>by cases h
 |_::_, [],h=>by cases h
 |x::a,y::b,h=>by
  simp only[List.map_cons,List.cons.injEq] at h;rw[c x y h.1,map_inj c h.2]
theorem uQ {i:Nat}{G:List Nat->Prop}(b: ∀x,G x->bE n x){o:List Nat}(hi:i<n)(a:o.Pairwise (· < ·))(mem: ∀p,p∈o↔ ∃x,G x/\Fix i x/\x.getD i 0=p):o.length<=n-i:=by
 have nd:o.Nodup:=by rw[nPN];exact a.imp λh e=>om
 have:=List.Nodup.length_le_of_subset nd (l₂:=(List.range (n-i)).map (· +i)) λp d=>by
  obtain⟨x,c,f,rfl⟩:=(mem p).1 d;have X:=b x c;have m:=X.iN hi
  have k:i<=x.getD i 0:=Jg λl=>by
   have:=X.inj hi (j:=x.getD i 0) om (by rw[f (x.getD i 0) om]);omega
  exact uF.2 ⟨x.getD i 0-i,Gu.2 om,om⟩
 simpa using this
theorem IX.frm {R:List (List (List Int))}(c:IX (n:Int) O R):ON n O R:=by
 obtain⟨m,f,b,e,s,p,rfl,rfl,h,v⟩:=c;obtain rfl:n=m:=om
 have j: ∀i,i<n->(b.map (List.map zi)).getD i []=(b.getD i []).map zi/\(f.map zi).getD i []=zi (f.getD i [])/\ ∀x∈b.getD i [],x∈b.flatten:=λi hi=>by
  have r:=v.lr;have q:=v.lo;refine⟨by simp [List.getD,show i<b.length by omega],by simp [List.getD,show i<f.length by omega],λx a=>?_⟩;rw[List.getD,dD om] at a;exact List.mem_flatten.2 ⟨_,zG om,a⟩
 refine⟨by rw[jV];exact v.lo,by rw[jV];exact v.lr,λi hi=>?_,λi hi x a=>?_⟩
 ·obtain⟨d,k,_⟩:=j i hi
  rw[d,k,jV,aQ,v.rl i hi];exact⟨rfl,uQ (λx a=>bX.cU h a) hi (v.asc i hi) (v.mem i hi)⟩
 ·obtain⟨d,_,o⟩:=j i hi
  rw[d] at a;obtain⟨y,l,rfl⟩:=uF.1 a;have Y:=h y (o y l);exact⟨by rw[aQ];exact Y.len,Yd Y⟩
theorem ON.nat {R:List (List (List Int))}(f:ON n O R): ∃R':jI,R=R'.map (List.map zi)/\ ∀g∈R'.flatten,bE n g:=by
 have b: ∀x,(∃i,i<n/\x∈R.getD i [])->x=zi (x.map Int.toNat)/\bE n (x.map Int.toNat):=λx ⟨i,hi,a⟩=>by
  obtain⟨m,k⟩:=f.perm i hi x a;obtain⟨l,j⟩:=Iz k;rw[m] at j;exact⟨l,j⟩
 have mem: ∀r∈R,∀x∈r,∃i,i<n/\x∈R.getD i []:=λr c x a=>by
  obtain⟨i,hi,rfl⟩:=zF.1 c;have:=f.lr;exact⟨i,om,by rw[List.getD,dD hi];exact a⟩
 refine⟨R.map (List.map (List.map Int.toNat)),?_,λg d=>?_⟩
 ·rw[List.map_map]
  refine (List.map_id R).symm.trans (Vy λr c=>?_);show r=(r.map (List.map Int.toNat)).map zi;rw[List.map_map];refine (List.map_id r).symm.trans (Vy λx a=>(b x (mem r c x a)).1)
 ·obtain⟨o,h,d⟩:=List.mem_flatten.1 d
  obtain⟨r,c,rfl⟩:=uF.1 h;obtain⟨x,a,rfl⟩:=uF.1 d;exact (b x (mem r c x a)).2
theorem IX.iff {d:jI}(o:1<=n)(h2:n<=64)(i: ∀g∈d.flatten,bE n g){f:LN}{j:jI}(c:bC n (BV n d) f j):
  IX (n:Int) O (d.map (List.map zi))↔O=f.map zi/\d.map (List.map zi)=j.map (List.map zi):=by
 have inj: ∀a b:LN,a.map zi=b.map zi->a=b:=λa b h=>map_inj (λ_ _=>Vl) h
 constructor
 ·rintro⟨m,O3,R3,e,_,_,rfl,e3,v⟩
  obtain rfl:n=m:=om
  have:=map_inj inj e3
  subst this
  obtain⟨k,l⟩:=(Valid.iff i c).1 v
  subst k l
  exact⟨rfl,rfl⟩
 ·rintro⟨rfl,e⟩
  have:=map_inj inj e
  subst this
  exact⟨n,f,d,rfl,o,h2,rfl,rfl,(Valid.iff i c).2 ⟨rfl,rfl⟩⟩
end
section
variable {n i:Nat} {O:List (List Int)} {R:List (List (List Int))}
def VG (n:Nat)(O:List (List Int))(R:List (List (List Int)))(j:Nat):Prop:=((R.getD j []).length=(O.getD j []).length/\(R.getD j []).length<=n-j)/\ ∀x∈R.getD j [],x.length=n/\mV x=true
theorem ON.of (a:O.length=n)(h2:R.length=n)(h: ∀j,j<n->VG n O R j):ON n O R:=⟨a,h2,λi hi=>(h i hi).1,λi hi=>(h i hi).2⟩
theorem Pq (a:1<=n)(h2:n<=64)(h: ¬ON n O R):Um (n:Int) O R=3:=by
 unfold Um;rw[bI om,bI (λc=>h c.frm)]
theorem bD {α:Type}{l:List α}{k:Nat}{d:α}(h:k<l.length):l.getD k d∈l:=by
 rw[List.getD,dD h];exact zG h
theorem cE {α:Type}{l:List α}{k:Nat}(d:α)(h:k<l.length):l.take (k+1)=l.take k++ [l.getD k d]:=by
 rw[←List.take_append_getElem h,List.getD,dD h];rfl
theorem tY {R:List (List (List Int))}{m:Nat}: ∀{i:Nat},i<=R.length->(∀j,j<i->(R.getD j []).length<=m)->((R.take i).flatten).length<=i*m
 |0,_,_=>by simp
 |i+1,h,hr=>by
  rw[←List.take_append_getElem (show i<R.length by omega),List.flatten_append,jZ];have b:=tY (i:=i) om (λj c=>hr j om);have a:=hr i om;rw[List.getD,dD om] at a;have a:R[i].length<=m:=a;simp only[List.flatten_cons,List.flatten_nil,vF];rw[Nat.succ_mul];omega
theorem Jv {G:List Nat->Prop}(b: ∀x,G x->bE n x){O:LN}{R:jI}(f:n<=64)(c:bC n G O R):zV (O.map zi)/\Oi (R.map (List.map zi)):=by
 have a: ∀i,i<n->(O.getD i []).length<=n:=λi hi=>mT (uQ b hi (c.asc i hi) (c.mem i hi)) om
 refine⟨⟨by rw[jV,c.lo];omega,λi hi=>?_⟩,⟨by rw[jV,c.lr];omega,λi hi=>?_⟩⟩
 ·rw[jV,c.lo] at hi
  have:(O.map zi).getD i []=zi (O.getD i []):=by simp [List.getD,show i<O.length by rw[c.lo];exact hi]
  rw[this,aQ];have:=a i hi;omega
 ·rw[jV,c.lr] at hi
  have e:(R.map (List.map zi)).getD i []=(R.getD i []).map zi:=by simp [List.getD,show i<R.length by rw[c.lr];exact hi]
  rw[e,jV,c.rl i hi];refine⟨by have:=a i hi;omega,λk d=>?_⟩
  have:((R.getD i []).map zi).getD k []=zi ((R.getD i []).getD k []):=by
   have:=c.rl i hi;simp [List.getD,show k<(R[i]?.getD []).length by simp [List.getD] at this d;omega]
  rw[this,aQ,(b _ (c.rep i hi k d).mem).len];omega
theorem Oi.out (s:Oi R):Mf R:=⟨s.1,λi hi=>(s.2 i hi).1⟩
theorem Mf.inn (s:Mf R)(f: ∀i,i<R.length-> ∀x∈R.getD i [],x.length=n)(b:n<=64):Oi R:=⟨s.1,λi hi=>⟨s.2 i hi,λk a=>by rw[f i hi _ (bD a)];omega⟩⟩
theorem LV {α:Type}{R:List (List α)}(hi:i<R.length):(R.take (i+1)).flatten=(R.take i).flatten++R.getD i []:=by
 rw[←List.take_append_getElem hi,List.flatten_append];simp [List.getD,hi]
structure JR (h hh:H)(B id b:Nat)(r:eH)(n:Nat)(vO vR:V)(O:List (List Int))(R:List (List (List Int)))(i:Nat)(acc:List (List Int)):Prop where
 gB:hh.get B=some (.cells false [aC n,vO,vR])
 gR:hh.get (B+1)=some (.cells false [aC 0])
 gN:hh.get (B+1+1)=some (.cells false [aC n])
 gA: ∃va ws,hh.get (B+1+1+1)=some (.cells false [va])/\cY hh va 1 ws (id+1)/\aM (SI h) ws acc
 gr:hh.get id=some (.loop r)
 gb:hh.get b=some (.cells false [aC n,vO,vR])
 nx:id<hh.next
 fr:Fr h hh
 rows: ∀j,j<i->VG n O R j
structure CkD (h hh:H)(B id:Nat)(r:eH)(n:Nat)(O:List (List Int))(R:List (List (List Int))):Prop where
 gR:hh.get (B+1)=some (.cells false [aC 3])
 gr:hh.get id=some (.loop (tX r .ret))
 nx:id<hh.next
 fr:Fr h hh
 bad: ¬ON n O R
theorem JR.mono {h j h2:H}{B id b:Nat}{r:eH}{k d:V}{c:List (List Int)}(J:JR h j B id b r n k d O R i c)(p:B+1+1+1<id)(q:b<id)(f:Fr j h2):JR h h2 B id b r n k d O R i c:=by
 obtain⟨m,l,g,o,a⟩:=J.gA;have:=J.nx;exact⟨by rw[f.get _ om];exact J.gB,by rw[f.get _ om];exact J.gR,by rw[f.get _ om];exact J.gN,⟨m,l,by rw[f.get _ om];exact g,o.fr f,a⟩,by rw[f.get _ om];exact J.gr,by rw[f.get _ om];exact J.gb,iW J.nx f.next,J.fr.trans f,J.rows⟩
theorem JR.loop {h d h2:H}{B id b:Nat}{r r2:eH}{l f:V}{c:List (List Int)}(J:JR h d B id b r n l f O R i c)(u:B+1+1+1<id)(w:b<id)(v:h.next<=B)(g:h2.get id=some (.loop r2))(j:h2.next=d.next)(o: ∀k,k≠id->h2.get k=d.get k):JR h h2 B id b r2 n l f O R i c:=by
 obtain⟨t,m,p,s,a⟩:=J.gA;refine⟨by rw[o _ om];exact J.gB,by rw[o _ om];exact J.gR,by rw[o _ om];exact J.gN,⟨t,m,by rw[o _ om];exact p,s.mono om λk _ _ _ _ x _=>o k om,a⟩,g,by rw[o _ om];exact J.gb,by rw[j];exact J.nx,⟨by rw[j];exact J.fr.next,λk q=>by rw[o k om];exact J.fr.get k q⟩,J.rows⟩
theorem VW (vc:V)(d:Int)(O:List (List Int))(R:List (List (List Int)))(h:H)(hc:WI h vc d O R)(hd:d<=7∨64<d)(so:zV O)(sr:Mf R):
  Ev T 135 [vc] h (λv h'=>v= aC (Um d O R)/\Fr h h'):=by
 obtain⟨p,q,rfl,sO,sR⟩:=hc
 refine cV kT rfl ?_
 obtain⟨wO,tO,aO⟩:=sO
 obtain⟨wR,tR,aR,kR⟩:=sR
 have lO:=aO.length
 have lR:=aR.length
 have c2:bT p=some (aC (O.length:Int)):=by unfold bT;rw[tO.len (n:=O.length) om om];rfl
 have e8:bT q=some (aC (R.length:Int)):=by unfold bT;rw[tR.len (n:=R.length) om om];rfl
 have a9:=tO.cK.2.1
 have a8:=tR.cK.2.1
 obtain⟨B,hB⟩:=exI h.next
 obtain⟨h1,e1,n1,g1,o1,f1⟩:=dF hB [aC d,p,q]
 obtain⟨h2,e2,n2,g2,o2,f2⟩:=dF n1 [aC 0]
 obtain⟨h3,e3,n3,g3,o3,f3⟩:=dF n2 [aC 0]
 obtain⟨h4,e4,n4,g4,o4⟩:=pJ h3 (B+1+1) [aC d]
 have Q:h2.get B=some (.cells false [aC d,p,q]):=by rw[o2 _ om];exact g1
 have a0:h4.get B=some (.cells false [aC d,p,q]):=by rw[o4 _ om,o3 _ om];exact Q
 have A:h4.get (B+1)=some (.cells false [aC 0]):=by rw[o4 _ om,o3 _ om];exact g2
 have F4:Fr h h4:=by
  refine⟨om,λid b5=>?_⟩;rw[o4 _ om,o3 _ om,o2 _ om,o1 _ om]
 have Z: ∀(l:H) (id:Nat) (x y:Int),dX (some (.cells false [aC x])) l id 0 [aC y]=some (l.set id (some (.cells false [aC y]))):=λl id x y=>bN (by simp) l _ _
 have bx:=bM h (v:= aC d) (u:=p) (w:=q) rfl a9 a8
 have j4:=H.aF A
 have a2: ∀z:Int,(h4.set (B+1) (some (.cells false [aC z]))).cell (B+1) 0=some (aC z)/\Fr h (h4.set (B+1) (some (.cells false [aC z]))):=λz=>⟨by rw[H.Dl];rfl,F4.set om _⟩
 by_cases b7:d<1
 ·have s:=oQ b7
  simp(disch:=omega)only[go_sem,kT,aD,bx,hB,e1,n1,e2,n2,e3,H.aF Q,g3,Z,e4,H.aF g4,s,A]
  exact⟨by unfold Um;rw[bF (.inl b7)],(a2 2).2⟩
 have s:=bH b7
 by_cases c0:64<d
 ·have d2:=oQ c0
  simp(disch:=omega)only[go_sem,kT,aD,bx,hB,e1,n1,e2,n2,e3,H.aF Q,g3,Z,e4,H.aF g4,s,d2,A]
  exact⟨by unfold Um;rw[bF (.inr c0)],(a2 2).2⟩
 have d2:=bH c0
 obtain⟨n,rfl⟩: ∃n:Nat,d=(n:Int):=⟨d.toNat,om⟩
 have Y:1<=n:=om
 have e6:n<=7:=om
 by_cases b8:(O.length:Int)≠(n:Int)
 ·have dl:=oQ b8
  simp(disch:=omega)only[go_sem,kT,aD,bx,hB,e1,n1,e2,n2,e3,H.aF Q,g3,Z,e4,H.aF g4,s,d2,A,H.aF a0,c2,dl]
  exact⟨by rw[Pq Y om (λf=>b8 (by have:=f.lo;omega))],(a2 3).2⟩
 have dl:=bH b8
 by_cases c1:(R.length:Int)≠(n:Int)
 ·have b4:=oQ c1
  simp(disch:=omega)only[go_sem,kT,aD,bx,hB,e1,n1,e2,n2,e3,H.aF Q,g3,Z,e4,H.aF g4,s,d2,A,H.aF a0,c2,dl,e8,b4]
  exact⟨by rw[Pq Y om (λf=>c1 (by have:=f.lr;omega))],(a2 3).2⟩
 have b4:=bH c1
 have d6:h4.next=B+1+1+1:=by rw[n4];exact n3
 obtain⟨h5,e5,n5,g5,o5,f5⟩:=dF d6 [.aE]
 have c8:h5.get B=some (.cells false [aC n,p,q]):=by rw[o5 _ om];exact a0
 have rB:=aI c8
 simp(disch:=omega)only[go_sem,kT,aD,bx,hB,e1,n1,e2,n2,e3,H.aF Q,g3,Z,e4,H.aF g4,s,d2,A,H.aF a0,c2,dl,e8,b4,d6,e5,rB]
 refine (HD (n:Int) p q a9 a8 h5).mono ?_
 rintro _ P ⟨rfl,g6,n6,f6⟩
 simp(disch:=omega)only[go_sem]
 have F6:Fr h P:=(F4.trans f5).trans f6
 have j2:P.get B=some (.cells false [aC n,p,q]):=by rw[f6.get _ om];exact c8
 have g0:P.get (B+1)=some (.cells false [aC 0]):=by rw[f6.get _ om,f5.get _ om];exact A
 have i6:P.get (B+1+1)=some (.cells false [aC n]):=by rw[f6.get _ om,f5.get _ om];exact g4
 have Aa:P.get (B+1+1+1)=some (.cells false [.aE]):=by rw[f6.get _ om];exact g5
 refine⟨rfl,uJ λr hr=>?_⟩
 obtain⟨id,b5⟩:=exI P.next
 obtain⟨b,hb⟩:=exI h5.next
 rw[hb] at g6 n6
 rw[b5,hb]
 have iP:r.st= .ready:=by rw[hr]
 have b2:r.pend=none:=by rw[hr]
 have f4:R.length=n:=om
 have i1:O.length=n:=om
 have f7:Fr P (P.new (.loop r)):=(Fr.refl P).new _
 have o7: ∀k,k<id->(P.new (.loop r)).get k=P.get k:=λk hk=>H.bG P om _
 have J0:JR h (P.new (.loop r)) B id b r n p q O R 0 []:=
  ⟨by rw[o7 _ om];exact j2,by rw[o7 _ om];exact g0,by rw[o7 _ om];exact i6,⟨.aE, [],by rw[o7 _ om];exact Aa,cY.aE _ _ _,trivial⟩,by rw[←b5,H.aL],by rw[o7 _ om];exact g6,by rw[H.aU];omega,F6.trans f7,λj hj=>om⟩
 refine (Zb id b (n:Int) p q wR _ (by rw[lR];exact sr.1) (λi l=>JR h l B id b r n p q O R i (R.take i).flatten) (λl=>CkD h l B id r n O R) J0 (λi l J=>⟨J.gb,tR.mono J.fr⟩) ?_).mono ?_
 ·rintro i l hi J
  have a4:i<n:=om
  refine sZ J.gr (by rw[hr];rfl) iP λK g7 n7 o7=>?_
  rw[congrArg eH.assign hr,congrArg eH.vars hr,congrArg eH.pars hr]
  simp(disch:=omega)only[go_sem,List.zip_cons_cons,List.zip_nil_left]
  rw[congrArg eH.body hr]
  have J7:JR h K B id b (pW r) n p q O R i (R.take i).flatten:=J.loop om om om g7 n7 o7
  have c7:=iG aO (i:=i) om .undef []
  have c3:=iG aR (i:=i) om .undef []
  obtain⟨wr,tr,ar⟩:=c3
  have lr:=ar.length
  have b6:bT (wR.getD i .undef)=some (aC ((R.getD i []).length:Int)):=by unfold bT;rw[tr.len (n:=(R.getD i []).length) om om];rfl
  have b1:=c7.lens
  obtain⟨i2,e0,a1,e7,d9⟩:=(tO.mono J7.fr).shape O.length om om
  have co:K.cell i2 (e0+i)=some (wO.getD i .undef):=by rw[d9 i om,List.getD,dD om];rfl
  have cB:=H.aF J7.gB
  have cN:=H.aF J7.gN
  have c9: ∀l G,JR h l B id b (pW r) n p q O R i G-> ¬ON n O R->CkD h ((l.set (B+1) (some (.cells false [aC 3]))).set id (some (.loop (tX r .ret)))) B id r n O R:=λl G J hb=>by
   have:=J.nx;refine⟨by rw[H.aG _ om,H.aS],by rw[H.aS],J.nx,(J.fr.set om _).set om _,hb⟩
  have yq: ∀l o G,JR h l B id b (pW r) n p q O R i G-> ¬ON n O R->Jc id (λv h'=>v= .bool true/\JR h h' B id b r n p q O R (i+1) (R.take (i+1)).flatten∨v= .bool false/\CkD h h' B id r n O R) .ret o (l.set (B+1) (some (.cells false [aC 3]))):=λl o G J hb=>
   Ta (by rw[H.aG _ om];exact J.gr) (.inr ⟨rfl,c9 l G J hb⟩)
  by_cases t:((R.getD i []).length:Int)≠((O.getD i []).length:Int)
  ·have s:=oQ t
   simp(disch:=omega)only[go_sem,b6,cB,a1.ixa,co,b1,s,J7.gR,Z]
   exact yq _ _ _ J7 λf=>t (by have:=(f.row i a4).1;omega)
  have s:=bH t
  by_cases d7:(n:Int)-(i:Int)<((R.getD i []).length:Int)
  ·have d2:=oQ d7
   simp(disch:=omega)only[go_sem,b6,cB,cN,a1.ixa,co,b1,s,d2,J7.gR,Z]
   exact yq _ _ _ J7 λf=>by have:=(f.row i a4).2;omega
  have d2:=bH d7
  simp(disch:=omega)only[go_sem,b6,cB,cN,a1.ixa,co,b1,s,d2]
  refine aH (λk' o l=> ∃(k:Nat),(∃g:Nat->V,o= [g 0,.ptr B 0,.ptr (B+1) 0,.ptr (B+1+1) 0,.ptr (B+1+1+1) 0,g 5,g 6,g 7,g 8,g 9,g 10,g 11,g 12,g 13,wR.getD i .undef,aC ((R.getD i []).length:Int),aC k,g 17,g 18,g 19])/\k<=(R.getD i []).length/\JR h l B id b (pW r) n p q O R i ((R.take i).flatten++(R.getD i []).take k)/\
    (∀x∈(R.getD i []).take k,x.length=n/\mV x=true)/\k'=(R.getD i []).length-k) (R.getD i []).length
   ⟨0,aB rfl,iJ _,by rw[List.take_zero,vF];exact J7,λx hx=>by simp at hx,rfl⟩ ?_
  clear co cB cN e7 d9 J7 s d2 a1 g7 n7 o7 K
  rintro k' o h8 ⟨k,⟨g,rfl⟩,hk,W,b0,rfl⟩
  by_cases c6:(k:Int)<((R.getD i []).length:Int)
  case neg=>
   have e1:=bH c6;obtain rfl:k=(R.getD i []).length:=om
   rw[List.take_length] at W b0;rw[←LV om] at W;simp(disch:=omega)only[go_sem,e1];refine oX iP b2 W.gr (.inl ⟨rfl,?_⟩);have a:=W.loop (h2:=h8.set id (some (.loop r))) om om om (by rw[H.aS]) rfl (λk hk=>H.aG _ hk _)
   have b3: ∀j,j<i+1->VG n O R j:=λj hj=>by
    by_cases e:j=i
    ·subst e;exact⟨⟨om,om⟩,b0⟩
    ·exact a.rows j om
   exact⟨a.gB,a.gR,a.gN,a.gA,a.gr,a.gb,a.nx,a.fr,b3⟩
  have e1:=oQ c6
  have a5:k<(R.getD i []).length:=om
  obtain⟨x,hx⟩:=exI ((R.getD i []).getD k [])
  have sx:=iG ar a5 .undef []
  rw[hx] at sx
  have d0:x∈R.getD i []:=by rw[←hx];exact bD a5
  obtain⟨j0,c5,d4,j6,j3⟩:=(tr.mono W.fr).shape (R.getD i []).length om om
  have ck:h8.cell j0 (c5+k)=some (wr.getD k .undef):=by rw[j3 k om,List.getD,dD om];rfl
  have cN:=H.aF W.gN
  generalize wr.getD k .undef=vx at sx ck
  have d8:=sx.lens
  by_cases t:(x.length:Int)≠(n:Int)
  ·have s:=oQ t
   simp(disch:=omega)only[go_sem,e1,d4.ixa,ck,d8,cN,s,W.gR,Z]
   exact yq _ _ _ W λf=>t (by have:=(f.perm i a4 x d0).1;omega)
  have s:=bH t
  simp(disch:=omega)only[go_sem,e1,d4.ixa,ck,d8,cN,s]
  refine (aiM vx x h8 om (sx.mono W.fr)).mono ?_
  rintro _ h9 ⟨rfl,f9⟩
  have a:=W.mono om om f9
  cases hpk:mV x with
  |false=>
   have e3:decide (AT x≠0)=true:=oQ (by unfold AT;rw[bI om,hpk];simp);simp(disch:=omega)only[go_sem,e3,a.gR,Z];exact yq _ _ _ a λf=>by have:=(f.perm i a4 x d0).2;rw[hpk] at this;cases this
  |true=>
   have e3:decide (AT x≠0)=false:=bH (by unfold AT;rw[bI om,hpk];simp);obtain⟨va,ws,gA,ow,al⟩:=a.gA
   have one:vx.cells= [vx]/\vx.one=true:=⟨sx.cK.1,sx.cK.2.1⟩
   have k3:=a.nx;obtain⟨b9,i7,k2,i9,k0,N⟩:=dF (h:=h9) rfl [vx];have cA:=H.aF gA;have j7:b9.cell (B+1+1+1) 0=some va:=by rw[H.aF (by rw[N.get _ om];exact gA)];rfl
   have j8:=al.length
   have j5:((R.take i).flatten++(R.getD i []).take k).length<=400:=by
    have h1:=tY (m:=7) (R:=R) (i:=i) om (λj hj=>by have:=(a.rows j hj).1.2;omega);have h2:i*7<=7*7:=Nat.mul_le_mul_right 7 om;rw[jZ,Fj];omega
   obtain⟨d3,i8,a6⟩:=(ow.fr N).push (bytes:=24) (SV.one om i9 (.kn 1)) (n:=ws.length) (m:=1) om rfl om om om;have ap: ∀k,k<=id->dL va k:=λk hk k1 g9 m c e e2=>by have:=(ow.in _ _ _ _ e).2.1;omega
   have c4:d3.get (B+1+1+1)=some (.cells false [va]):=by rw[a6.old _ om (ap _ om),N.get _ om];exact gA
   have j9:=a6.next;have i3: ∀(l:H) (y:V),dX (some (.cells false [va])) l (B+1+1+1) 0 [y]=some (l.set (B+1+1+1) (some (.cells false [y]))):=λl y=>bN (by simp) l _ _
   simp(disch:=omega)only[go_sem,e3,cA,cT h9 (z:= .aE) one.1 one.2,i7,i8,c4,i3];rw[eJ k]
   have U: ∀k,k<=id->k≠B+1+1+1->(d3.set (B+1+1+1) (some (.cells false [.sl b9.next 0 (ws.length+1) (.un 1)]))).get k=h9.get k:=λk h1 h2=>by
    rw[H.aG _ h2,a6.old _ om (ap _ h1),N.get _ om]
   have tk:(R.take i).flatten++(R.getD i []).take (k+1)=((R.take i).flatten++(R.getD i []).take k)++ [x]:=by
    rw[Ll,cE [] a5,hx]
   refine⟨(R.getD i []).length-(k+1),om,k+1,aB rfl,om,⟨by rw[U _ om om];exact a.gB,by rw[U _ om om];exact a.gR,by rw[U _ om om];exact a.gN,⟨_,ws++ [vx],by rw[H.aS],?_,?_⟩,by rw[U _ om om];exact a.gr,by rw[U _ om om];exact a.gb,by simp only[H.bY];omega,?_,a.rows⟩,λy hy=>?_,rfl⟩
   ·refine (a6.own (b:=id+1) om rfl om).mono (fM _) λk g9 m c e h1 h2=>H.aG _ om _
   ·rw[tk];exact al.append ⟨sx,trivial⟩
   ·refine⟨by simp only[H.bY];have:=a.fr.next;omega,λk hk=>?_⟩
    rw[U k om om];exact a.fr.get k hk
   ·rw[cE [] a5,hx] at hy
    rcases pH.1 hy with hy|hy
    ·exact b0 y hy
    ·rw[List.mem_singleton.1 hy]
     exact⟨om,hpk⟩
 ·rintro _ l (J|D)
  ·refine⟨r,J.gr,by rw[iP];simp,?_⟩
   have en:r.pend.getD .norm= .norm:=by rw[b2];rfl
   rw[en]
   rw[lR,List.take_length] at J
   have J:=J.loop (r2:={r with st:= .out}) (h2:=l.set id (some (.loop {r with st:= .out}))) om om om (by rw[H.aS]) rfl (λk hk=>H.aG _ hk _)
   generalize l.set id (some (.loop {r with st:= .out}))=K at J
   clear J0 f7 o7 b2 iP hr
   have frm:ON n O R:=ON.of i1 f4 λj hj=>J.rows j om
   obtain⟨R',eR,hP⟩:=frm.nat
   obtain⟨va,ws,gA,ow,al⟩:=J.gA
   have eF:R.flatten=R'.flatten.map zi:=by rw[eR,List.map_flatten]
   rw[eF] at al
   have nx:=J.nx
   have rB:=aI J.gB
   have cN:=H.aF J.gN
   have cA:=H.aF gA
   have fb:Fr K (H.mk K.tr (K.next+7)):=(Fr.refl K).bA om
   have g8:SP (H.mk K.tr (K.next+7)) va R'.flatten:=⟨ws,(ow.fr fb).sv,al.mono λ_ _ x=>x.mono (J.fr.trans fb)⟩
   have h0:R'.flatten.length<1000000:=by
    have h1:=tY (m:=7) (R:=R) (i:=n) om (λj hj=>by have:=(J.rows j om).1.2;omega);have h2:n*7<=7*7:=Nat.mul_le_mul_right 7 om;rw[Tn om,eF,jV] at h1;omega
   simp(disch:=omega)only[go_sem,aI (h:=H.mk K.tr (K.next+7)) J.gB,cN,cA]
   refine (Xh n va R'.flatten _ Y e6 h0 g8 hP).mono ?_
   rintro _ h8 ⟨e9,L,F,τ,rfl,RR,tl,f8,_⟩
   have F8:Fr K h8:=fb.trans f8
   have W:=J.mono om om F8
   have eO:=tO.dE
   have d5:=tR.dE
   simp(disch:=omega)only[go_sem,aI W.gB,eO,d5]
   refine (Qt h8 n e9 L F τ e6 RR tl.tw).mono ?_
   rintro i5 h9 ⟨O2,R2,f0,j1,f9⟩
   have a:=W.mono om om f9
   have a7:bC n (BV n R') O2 R2:=j1.congr tl.group
   obtain⟨i0,i4⟩:=Jv (λx hx=>bX.cU hP hx) om a7
   simp(disch:=omega)only[go_sem,aI a.gB,eO,d5]
   refine (VI _ i5 (n:Int) (n:Int) O (O2.map zi) R (R2.map (List.map zi)) h9 ⟨p,q,rfl,⟨wO,tO.mono a.fr,aO.mono λ_ _ x=>x.mono a.fr⟩,⟨wR,tR.mono a.fr,aR.mono (λ_ _ x=>x.mono a.fr),kR⟩⟩ f0.ch so i0 (sr.inn (λj hj x hx=>(frm.perm j om x hx).1) om) i4).mono ?_
   rintro _ b9 ⟨rfl,N⟩
   have a3:=a.mono om om N
   have iff:=IX.iff (O:=O) Y om hP a7
   rw[←eR] at iff
   by_cases hq:(n:Int)=(n:Int)/\O=O2.map zi/\R=R2.map (List.map zi)
   ·have ed:=oQ hq
    rw[ed]
    simp(disch:=omega)only[go_sem,a3.gR,Z]
    refine⟨?_,a3.fr.set om _⟩
    unfold Um
    rw[bI om,bF (iff.2 hq.2)]
   ·have ed:=bH hq
    rw[ed]
    simp(disch:=omega)only[go_sem,a3.gR,Z]
    refine⟨?_,a3.fr.set om _⟩
    unfold Um
    rw[bI om,bI (λc=>hq ⟨rfl,iff.1 c⟩)]
  ·refine⟨_,D.gr,by simp [tX],?_⟩
   have en:(tX r .ret).pend.getD .norm= .ret:=rfl
   rw[en]
   have nx:=D.nx
   have gR:(l.set id (some (.loop {tX r .ret with st:= .out}))).cell (B+1) 0=some (aC 3):=by rw[H.Kl _ om,H.aF D.gR];rfl
   simp(disch:=omega)only[go_sem,gR]
   exact⟨by rw[Pq Y om D.bad],D.fr.set (by have:=D.fr.next;omega) _⟩
end
theorem FC {x:Nat}:GS .shr .u64 (x:Int) 1=some (.int .u64 ((x/2:Nat):Int)):=by
 unfold GS;rw[bI om];simp only;congr 2;show Int.fdiv (x:Int) 2=_;rw[Int.fdiv_eq_ediv_of_nonneg _ om];rfl
theorem Es (u:V)(a:List Nat)(p:Nat)(h:H)(hn:a.length<1000000)(J:a.Pairwise (· < ·))(P:SI h u (zi a)):
  Ev T 103 [u,aC p] h (λv h'=> ∃k f,v= .tup [aC (k:Nat),.bool f]/\(f=true↔p∈a)/\(f=true->k<a.length/\a.getD k 0=p)/\Fr h h'):=by
 refine cV kB rfl ?_
 have O:=P.lens
 rw[aQ] at O
 simp(disch:=omega)only[go_sem,kB,aD,O]
 have mono: ∀i j,i<j->j<a.length->a.getD i 0<a.getD j 0:=λi j z o=>by
  rw[cJ om,cJ o];exact JX.1 J i j om o z
 refine aH (λW d B=> ∃(i j:Nat),(∃g:Nat->V,d= [u,aC p,g 2,g 3,aC (a.length:Int),aC i,aC j,g 7,g 8,g 9])/\i<=j/\j<=a.length/\(∀m,m<i->a.getD m 0<p)/\(∀m,j<=m->m<a.length->p<=a.getD m 0)/\Fr h B/\W=j-i) a.length
  ⟨0,a.length,aB rfl,om,om,λm b=>om,λm z o=>om,Fr.refl h,rfl⟩ ?_
 rintro W d B ⟨i,j,⟨g,rfl⟩,a0,hj,l,y,F,rfl⟩
 obtain⟨id,N,A,L,U⟩:=(P.mono F).open
 rw[aQ] at A L U
 have cell: ∀m,m<a.length->B.cell id (N+m)=some (aC (a.getD m 0:Nat)):=λm b=>by rw[U m b];congr 2;simp [zi,b]
 by_cases s:(i:Int)<(j:Int)
 ·have t:=oQ s
  have Y:(i:Int)+(j:Int)=((i+j:Nat):Int):=om
  obtain⟨m,b⟩:=exI ((i+j)/2)
  have sr:=FC (x:=i+j)
  rw[b] at sr
  have cm:=cell m om
  simp(disch:=omega)only[go_sem,t,Y,Gs,zY,dK (n:=((i+j:Nat):Int)) om om,sr,A.ixa,cm]
  refine (Aw _ _ _).mono ?_
  rintro _ Z ⟨rfl,G⟩
  by_cases R:((a.getD m 0:Nat):Int)<(p:Int)
  ·have c:Go.Sort.ltInt ((a.getD m 0:Nat):Int) (p:Int)=true:=by unfold Go.Sort.ltInt;exact oQ R
   rw[c]
   simp(disch:=omega)only[go_sem]
   rw[eJ m]
   refine⟨j-(m+1),om,m+1,j,aB rfl,om,hj,λq hq=>?_,y,F.trans G,rfl⟩
   by_cases e:q=m
   ·rw[e];omega
   ·have:=mono q m om om;omega
  ·have c:Go.Sort.ltInt ((a.getD m 0:Nat):Int) (p:Int)=false:=by unfold Go.Sort.ltInt;exact bH R
   rw[c]
   simp(disch:=omega)only[go_sem]
   refine⟨m-i,om,i,m,aB rfl,om,om,l,λq z o=>?_,F.trans G,rfl⟩
   by_cases e:q=m
   ·rw[e];omega
   ·have:=mono m q om o;omega
 have t:=bH s
 obtain rfl:i=j:=om
 by_cases r:(i:Int)<(a.length:Int)
 ·have c:=oQ r
  have ci:=cell i om
  by_cases w:((a.getD i 0:Nat):Int)=(p:Int)
  ·have K:=oQ w
   simp(disch:=omega)only[go_sem,t,c,A.ixa,ci,K,Ag]
   exact⟨i,true,rfl,⟨λ_=>by rw[show p=a.getD i 0 by omega];exact bD om,λ_=>rfl⟩,λ_=>⟨om,om⟩,F⟩
  ·have K:=bH w
   simp(disch:=omega)only[go_sem,t,c,A.ixa,ci,K,Ag]
   refine Ev.mono (Q:=λv h'=>v= .bool false/\Fr B h') ?_ ?_
   ·refine cV tC rfl ?_
    have e: ∀x:Int,decide (x≠x)=false:=λx=>bH om
    simp(disch:=omega)only[go_sem,tC,aD,e]
    exact Fr.refl _
   rintro _ Z ⟨rfl,G⟩
   simp(disch:=omega)only[go_sem]
   refine⟨i,false,rfl,⟨λh=>(by cases h),λh=>?_⟩,λh=>(by cases h),F.trans G⟩
   exfalso
   obtain⟨m,b,e⟩:=zF.1 h
   rw[←cJ (a:=a) b] at e
   by_cases z:m<i
   ·have:=l m z;omega
   ·have o:m≠i:=λc=>by subst c;omega
    have:=mono i m om b
    have:=y i om om
    omega
 ·have c:=bH r
  simp(disch:=omega)only[go_sem,t,c,Ag]
  refine⟨i,false,rfl,⟨λh=>(by cases h),λh=>?_⟩,λh=>(by cases h),F⟩
  exfalso
  obtain⟨m,b,e⟩:=zF.1 h
  rw[←cJ (a:=a) b] at e
  have:=l m om
  omega
theorem nP {α β:Type}(f:α->β){l:List α}{i:Nat}{d:α}{e:β}(h:i<l.length):(l.map f).getD i e=f (l.getD i d):=by
 simp [List.getD,h]
theorem zD.mono {h h' h2:H}{v:V}{l:List Int}(f:zD h h' v l)(g:Fr h' h2):zD h h2 v l:=by
 obtain⟨id,a,e,i,b,c,d⟩:=f.ex;exact⟨⟨id,a,e,i,iW b g.next,by rw[g.get _ b];exact c,d⟩,f.fr.trans g⟩
theorem Td {h h':H}{v:V}{l:List Nat}(n:AM h h' v l):zD h h' v (zi l):=by
 obtain⟨e,g,nx,f⟩:=n;exact⟨⟨h.next,_,by rw[e,aQ],fM _,om,g,.inr (by rw[aQ])⟩,f⟩
theorem zD.le {b h h':H}{v:V}{l:List Int}(f:zD h h' v l)(g:Fr b h):zD b h' v l:=by
 obtain⟨id,a,e,j,i,c,d⟩:=f.ex;exact⟨⟨id,a,e,mT g.next j,i,c,d⟩,g.trans f.fr⟩
section
variable {W:Nat->Prop} {h:H} {vc:V} {n:Nat} {O:LN} {G:List Nat->Prop}
structure GC (W:Nat->Prop)(h:H)(vc:V)(n:Nat)(O:LN)(R:jI)(G:List Nat->Prop):Prop where
 cw:NL W h vc n O R
 isc:bC n G O R
 dN:iX n G
 n0:1<=n
 n7:n<=7
theorem GC.go {W':Nat->Prop}{h':H}{R:jI}(g:GC W h vc n O R G)(f:Fx W h h')(a: ∀id,id<h.next->W' id->W id):GC W' h' vc n O R G:=⟨g.cw.go f a,g.isc,g.dN,g.n0,g.n7⟩
theorem GC.ch {R:jI}(g:GC W h vc n O R G):WI h vc (n:Int) (O.map zi) (R.map (List.map zi)):=g.cw.ch
theorem GC.mono {h':H}{R:jI}(g:GC W h vc n O R G)(f:Fr h h'):GC W h' vc n O R G:=⟨g.cw.mono f,g.isc,g.dN,g.n0,g.n7⟩
theorem Rx {n:Nat}{G:List Nat->Prop}(b:iX n G){O:LN}{R:jI}(c:bC n G O R): ∀d i x,i+d=n->G x->Fix i x->BV n R x
 |0,i,x,h,hx,fx=>by
  have X:=b.cU hx;obtain rfl:i=n:=om
  rw[fx.all X];exact .one
 |d+1,i,x,h,hx,fx=>by
  have hi:i<n:=om
  have X:=b.cU hx;have o:=(c.mem i hi (x.getD i 0)).2 ⟨x,hx,fx,rfl⟩;obtain⟨k,f,e⟩:=zF.1 o;have a:=c.rep i hi k f;rw[cJ f,e] at a;obtain⟨z,l⟩:=exI ((R.getD i []).getD k []);rw[l] at a;have Z:=b.cU a.mem
  have j:z∈R.flatten:=by
   have m:k<(R.getD i []).length:=by rw[c.rl i hi];exact f
   exact List.mem_flatten.2 ⟨R.getD i [],bD (by rw[c.lr];exact hi),by rw[←l];exact bD m⟩
  have p:=Rx b c d (i+1) (aX x (dA z)) om (b.mul hx (b.inv a.mem)) ((Fix.mul X om fx (Fix.inv Z om a.fix)).succ (by
   rw[cM (by rw[X.len];exact hi)];have:=afU Z hi
   rwa [a.maps] at this))
  have:=bX.mul p j;rwa [aV X Z.inv Z,iE Z,bZ X] at this
theorem Ji {R:jI}(c:bC n G O R): ∀g∈R.flatten,G g:=λg b=>by
 obtain⟨r,j,b⟩:=List.mem_flatten.1 b;obtain⟨i,hi,rfl⟩:=zF.1 j;obtain⟨k,f,rfl⟩:=zF.1 b;have a:i<n:=by have:=c.lr;omega
 have e:R.getD i []=R[i]:=by rw[List.getD,dD hi];rfl
 have d:k<(O.getD i []).length:=by rw[←c.rl i a,e];exact f
 have:=(c.rep i a k d).mem;rw[e,List.getD,dD f] at this;exact this
theorem Ti (a:iX n G){R:jI}(c:bC n G O R)(x:List Nat):BV n R x↔G x:=
 ⟨λh=>h.le a (Ji c),λh=>Rx a c n 0 x om h (λk b=>om)⟩
theorem GC.chk {R:jI}(g:GC W h vc n O R G):Um (n:Int) (O.map zi) (R.map (List.map zi))=0:=by
 unfold Um;have:=g.n0;have:=g.n7;rw[bI om,bF ⟨n,O,R,rfl,g.n0,om,rfl,rfl,λx a=>g.dN.cU (Ji g.isc x a),g.isc.congr λx=>(Ti g.dN g.isc x).symm⟩]
theorem GC.small {R:jI}(g:GC W h vc n O R G):zV (O.map zi)/\Oi (R.map (List.map zi)):=Jv (λx a=>g.dN.cU a) (by have:=g.n7;omega) g.isc
theorem GC.check {R:jI}(g:GC W h vc n O R G):Ev T 135 [vc] h (λv h'=>v= aC 0/\Fr h h'):=by
 have:=VW vc _ _ _ h g.ch (.inl (by have:=g.n7;omega)) g.small.1 g.small.2.out;rwa [g.chk] at this
theorem EE {x:List Nat}(X:bE n x)(a:1<=n)(h2:n<=64):AT (zi x)=0:=by
 unfold AT;rw[bI (by rw[aQ,X.len];omega),Yd X];rfl
end
theorem Lo (d:V)(n:Nat)(l:LN)(h:H)(J:1<=n)(P:n<=7)(hl:l.length<=4096)(Z:SP h d l)(t: ∀g∈l,bE n g):
  Ev T 101 [aC n,d] h (λv h'=> ∃vc O R,v= .tup [vc,aC 0]/\GC (λid=>id<h.next) h' vc n O R (bX n (· ∈l))/\Fr h h'):=by
 refine cV ajF rfl ?_
 obtain⟨B,hB⟩:=exI h.next
 obtain⟨Y,e1,n1,g1,o1,f1⟩:=dF hB [aC 0,.aE,.aE]
 have d1:decide ((n:Int)<1)=false:=bH om
 have d2:decide ((64:Int)<(n:Int))=false:=bH om
 have lv:=Z.lens
 rw[jV] at lv
 have d3:decide ((4096:Int)<(l.length:Int))=false:=bH om
 obtain⟨id,A,ws,sh,a,N,j,o⟩:=Z.open
 rw[jV] at sh a N j
 simp(disch:=omega)only[go_sem,ajF,aD,hB,e1,d1,d2,lv,d3]
 refine bJ (λU W=>(∃g:Nat->V,U= [aC n,d,.ptr B 0,g 3,g 4,g 5,g 6,g 7,g 8,g 9,g 10,g 11,g 12,g 13])/\Fr Y W) ?_ ?_
 ·refine aH (λk' U W=> ∃(i:Nat),(∃g:Nat->V,U= [aC n,d,.ptr B 0,g 3,g 4,g 5,g 6,g 7,d,aC (l.length:Int),aC i,g 11,g 12,g 13])/\i<=l.length/\Fr Y W/\k'=l.length-i) l.length
   ⟨0,aB rfl,iJ _,Fr.refl Y,rfl⟩ ?_
  rintro k' m r ⟨i,⟨g,rfl⟩,hi,f,rfl⟩
  by_cases k:(i:Int)<(l.length:Int)
  ·have d4:=oQ k
   have b:i<l.length:=om
   have F2:=f1.trans f
   have ci:r.cell id (A+i)=some (ws.getD i .undef):=by rw[F2.cell (a om),j i b]
   have z:=Ml o b
   have X:bE n (l.getD i []):=t _ (bD b)
   generalize ws.getD i .undef=vx at ci z
   have lx:=z.lens
   rw[aQ,X.len] at lx
   simp(disch:=omega)only[go_sem,d4,sh.ixa,ci]
   refine (aiM vx _ r (by rw[aQ,X.len];omega) (z.mono F2)).mono ?_
   rw[EE X J om]
   rintro _ Q ⟨rfl,c⟩
   simp(disch:=omega)only[go_sem]
   refine aW (λj=>(j rfl).elim) (λ_=>?_)
   simp(disch:=omega)only[go_sem,lx]
   refine aW (λj=>(j rfl).elim) (λ_=>?_)
   simp(disch:=omega)only[go_sem]
   rw[eJ i]
   exact⟨l.length-(i+1),om,i+1,aB rfl,om,f.trans c,rfl⟩
  have d4:=bH k
  simp(disch:=omega)only[go_sem,d4]
  exact⟨aB rfl,f⟩
 rintro m r ⟨⟨g,rfl⟩,f⟩
 have F2:=f1.trans f
 simp(disch:=omega)only[go_sem]
 refine (Xh n d l r J P om (Z.mono F2) t).mono ?_
 rintro _ Q ⟨x,L,F,τ,rfl,R,tl,c,_⟩
 simp(disch:=omega)only[go_sem]
 refine (Qt Q n x L F τ P R tl.tw).mono ?_
 rintro vc s ⟨O,R',ch,K,y⟩
 have F4:=(F2.trans c).trans y
 have g4:s.get B=some (.cells false [aC 0,.aE,.aE]):=by rw[y.get _ (by have:=c.next;have:=f.next;omega),c.get _ (by have:=f.next;omega),f.get _ om];exact g1
 have G:=ch
 obtain⟨vO,vR,a1,a0,e,t1,_,_,t2,_,_⟩:=ch
 subst e
 have q:=t1.cK.2.1
 have p:=t2.cK.2.1
 obtain⟨h5,e5,n5,g5,o5⟩:=pJ s B [aC n,vO,vR]
 have r5:=aI g5
 simp(disch:=omega)only[go_sem,bW s B 0 (v:= aC n) (u:=vO) (w:=vR) rfl q p,g4,cF,e5,r5]
 have n3:=c.next
 have n2:=f.next
 have n4:=y.next
 have f5:Fx (λid=>id<Q.next) s h5:=⟨om,λid _ a=>o5 id om⟩
 refine⟨_,O,R',rfl,⟨G.go f5 (λid _ h=>om),K.congr tl.group,bX.dN t,J,P⟩,⟨by have:=F4.next;omega,λid a=>by rw[o5 id om];exact F4.get id a⟩⟩
section
variable {b A:Nat} {hh:H} {l:LN}
theorem EV {h:H}{v:V}{ws:List V}(s:SV h v 1 ws)(k:HK v)(p:1<=ws.length): ∃v',xT 1 v (some (aC 1)) none none=some v'/\SV h v' 1 (ws.drop 1):=by
 rcases s with ⟨_,e⟩|⟨id,a,len,r,j,d,rfl,i,f,m,t,o⟩
 ·rw[e] at p;simp at p
 have u:oG none len len=some len:=by simp [oG]
 have n:((d.drop a).take (len*1)).drop 1=(d.drop (a+1)).take (len- 1):=by
  rw[List.drop_take,List.drop_drop,uW]
 rcases k _ _ _ _ rfl with rfl|⟨c,rfl,w⟩
 ·by_cases q:1<len
  ·refine⟨.sl id (a+1) (len- 1) (.un 1),?_,.inr ⟨id,a+1,len- 1,_,j,d,rfl,by rw[AQ,i];omega,f,m,om,by rw[←o,n,uW]⟩⟩
   simp [xT,oG,q,show (1:Int)<=(len:Int) by omega]
  ·refine⟨.sl id a 0 (.un 1),?_,.inr ⟨id,a,0,_,j,d,rfl,by rw[AQ,i];omega,f,m,om,?_⟩⟩
   ·have:len=1:=om
    subst this;simp [xT,oG]
   ·have:ws.drop 1= []:=WJ (by rw[AQ];omega)
    rw[this];simp
 ·refine⟨.sl id (if c=1 then a else a+1) (len- 1) (.kn (c- 1)),?_,.inr ⟨id,_,len- 1,_,j,d,rfl,by rw[AQ,i];omega,f,m,by split<;>omega,?_⟩⟩
  ·have:1<=len:=om
   simp [xT,oG,show (1:Int)<=(len:Int) by omega,show 1<=c by omega]
  ·by_cases e:c=1
   ·have:ws.drop 1= []:=WJ (by rw[AQ];omega)
    rw[this];have:len- 1=0:=om
    rw[this];simp
   ·rw[bI e,←o,n,uW]
def Ku (b:Nat)(hh:H)(A:Nat)(l:LN):Prop:= ∃va ws W,hh.get A=aZ [va]/\cY hh va 1 ws b/\fW W hh ws l/\Hq W va/\(∀id,id<b->W id)/\ ∀id,W id->id<hh.next
theorem Ku.mono {h2:H}(a:Ku b hh A l)(i:A<hh.next)(f:Fr hh h2):Ku b h2 A l:=by
 obtain⟨m,c,W,g,o,p,k,j,d⟩:=a;exact⟨m,c,W,by rw[f.get _ i];exact g,o.fr f,p.fx (Fx.of f),k,j,λid h=>iW (d id h) f.next⟩
theorem Ku.other {h2:H}(a:Ku b hh A l){k:Nat}(m:k<b)(c:k≠A)(n:h2.next=hh.next)(o: ∀j,j≠k->h2.get j=hh.get j):Ku b h2 A l:=by
 obtain⟨t,i,W,g,r,p,q,d,s⟩:=a
 have f:Fx W hh h2:=⟨om,λid v u=>o id λe=>u (e▸d k m)⟩
 exact⟨t,i,W,by rw[o _ (Ne.symm c)];exact g,r.mono om λid _ _ _ _ v _=>o id om,fW.go p f (λ_ _ h=>h),q,d,λid h=>by rw[n];exact s id h⟩
theorem Ku.push {d:H}(a:Ku b hh A l)(J:A<b){x:List Nat}{s y:V}(bytes:Nat)(Y:bytes<=24)(hl:l.length<1000000)(f:Fr hh d)(L:b<=hh.next)(R:PV (λid=>id<hh.next) d s x)(U:SV d y 1 [s]):
  ∃va h6,hh.get A=aZ [va]/\xQ d 1 bytes va y=some (.sl d.next 0 (l.length+1) (.un 1),h6)/\h6.get A=aZ [va]/\h6.next=d.next+1/\(∀k,k<b->h6.get k=d.get k)/\
   (va.cells= [va]/\va.one=true)/\dE va va=true/\ ∀h7,h6.set A (aZ [.sl d.next 0 (l.length+1) (.un 1)])=h7->Ku b h7 A (l++ [x]):=by
 obtain⟨va,Q,W,g,j,p,K,B,z⟩:=a
 have P:=aM.length p
 have nx:=f.next
 obtain⟨h6,Z,r⟩:=(j.fr f).push (bytes:=bytes) U (n:=l.length) (m:=1) om rfl om om ⟨by have:=Nat.mul_le_mul_left (2*(l.length+1)+1000) Y;omega,om⟩
 have ap: ∀k,k<b->dL va k:=λk w id o m c e e2=>by have:=(j.in _ _ _ _ e).2.1;omega
 have N:=r.next
 have F: ∀k,k<b->h6.get k=d.get k:=λk w=>r.old k om (ap k w)
 refine⟨va,h6,g,Z,by rw[F A J,f.get A om];exact g,N,F,⟨j.sv.cK.1,j.sv.cK.2.1⟩,j.sv.dE,λh7 e=>?_⟩
 subst e
 have v:Fx W d h6:=r.fx K
 have t:Fx W h6 (h6.set A (aZ [.sl d.next 0 (l.length+1) (.un 1)])):=Fx.set h6 (B A J) _
 have i:=v.trans t (λ_ _ h=>h)
 have G: ∀id,id<d.next->(W id∨id=d.next)->W id:=λid O q=>by
  rcases q with q|q
  ·exact q
  ·omega
 have u:PV W d s x:=R.Fo λid _ h=>z id h
 refine⟨_,Q++ [s],λid=>W id∨id=d.next,by rw[H.aS],?_,(fW.go (p.fx (Fx.of f)) i G).append (fW.one (PV.go u i G)),λid o n c e=>by cases e;exact .inr rfl,λid h=> .inl (B id h),λid h=>?_⟩
 ·exact (r.own (b:=b) om rfl om).mono (fM _) λid o m c e O _=>H.aG h6 om _
 ·simp only[H.bY]
  rcases h with h|h
  ·have:=z id h;omega
  ·omega
end
def bQ (R:jI):LN:=R.flatMap (List.drop 1)
theorem Bf {R:jI}{i:Nat}(hi:i<R.length):bQ (R.take (i+1))=bQ (R.take i)++(R.getD i []).drop 1:=by
 unfold bQ;rw[cE [] hi,List.flatMap_append];simp
theorem sY {n:Nat}{R:jI}: ∀{i:Nat},i<=R.length->(∀j,j<i->(R.getD j []).length<=n)->(bQ (R.take i)).length<=i*n
 |0,_,_=>by simp [bQ]
 |i+1,h,hr=>by
  rw[Bf om,jZ,AQ,Nat.succ_mul];have b:=sY (i:=i) om (λj c=>hr j om);have a:=hr i om;omega
structure JW (h h':H)(v:V)(l:LN):Prop where
 ex: ∃ws W,cY h' v 1 ws h.next/\fW W h' ws l/\Hq W v/\(∀id,id<h.next->W id)
 fr:Fr h h'
theorem JW.sp {h h':H}{v:V}{l:LN}(n:JW h h' v l):SP h' v l:=by
 obtain⟨a,W,o,p,_⟩:=n.ex;have b:=aM.length p
 exact⟨a,o.sv,aM.mQ (by simpa using b) λi hi c=>by
  have:=(aM.get p i hi om).si
  simpa using this⟩
theorem JW.pl {h h':H}{v:V}{l:LN}(n:JW h h' v l):PL (λid=>id<h.next) h' v l:=by
 obtain⟨a,W,o,p,_,b⟩:=n.ex;exact⟨a,o.sv,DO o,p.Fo (λid _ h=>b id h),cY.NN o⟩
structure StJ (h hh:H)(id b B:Nat)(r:eH)(n:Nat)(vO vR:V)(R:jI)(i:Nat):Prop where
 acc:Ku (id+1) hh (B+1) (bQ (R.take i))
 gr:hh.get id=some (.loop r)
 gb:hh.get b=aZ [aC n,vO,vR]
 nx:id<hh.next
 fr:Fr h hh
theorem Qy {W:Nat->Prop}(vc:V)(n:Nat)(O:LN)(R:jI)(G:List Nat->Prop)(h:H)(gc:GC W h vc n O R G):
  Ev T 106 [vc] h (λv h'=> ∃vl,v= .tup [vl,aC 0]/\JW h h' vl (bQ R)):=by
 obtain⟨Z,vR,e,sO,sR⟩:=gc.ch
 subst e
 refine cV Bh rfl ?_
 obtain⟨wR,tR,aR,kR⟩:=sR
 have lR:=aR.length
 have c:=gc.isc
 rw[jV,c.lr] at lR
 have b1:Z.one=true:=oNs sO
 have b0:=tR.cK.2.1
 have n0:=gc.n0
 have n7:=gc.n7
 obtain⟨B,hB⟩:=exI h.next
 obtain⟨h1,e1,n1,g1,o1,f1⟩:=dF hB [aC n,Z,vR]
 have bx:=bM h (v:= aC n) (u:=Z) (w:=vR) rfl b1 b0
 have rB:=aI g1
 simp(disch:=omega)only[go_sem,Bh,aD,bx,hB,e1,rB]
 refine ((gc.mono f1).check).mono ?_
 rintro _ h2 ⟨rfl,f2⟩
 simp(disch:=omega)only[go_sem]
 refine aW (λhc=>(hc rfl).elim) (λ_=>?_)
 obtain⟨A,hA⟩:=exI h2.next
 have n2:=f2.next
 obtain⟨h3,e3,n3,g3,o3,f3⟩:=dF hA [.aE]
 have d8:h3.get B=aZ [aC n,Z,vR]:=by rw[f3.get _ om,f2.get _ om];exact g1
 have e7:=aI d8
 simp(disch:=omega)only[go_sem,hA,e3,e7]
 refine (HD (n:Int) Z vR b1 b0 h3).mono ?_
 rintro _ Y ⟨rfl,g4,n4,f4⟩
 simp(disch:=omega)only[go_sem]
 obtain⟨id,b4⟩:=exI Y.next
 obtain⟨b,hb⟩:=exI h3.next
 rw[hb] at g4 n4
 refine⟨rfl,uJ λr hr=>?_⟩
 rw[b4,hb]
 have iP:r.st= .ready:=by rw[hr]
 have c1:r.pend=none:=by rw[hr]
 have o5: ∀k,k<id->(Y.new (.loop r)).get k=Y.get k:=λk L=>H.bG Y om _
 have f5:Fr Y (Y.new (.loop r)):=(Fr.refl Y).new _
 have n5:(Y.new (.loop r)).next=id+1:=by rw[H.aU,b4]
 have F4:=((f1.trans f2).trans f3).trans f4
 have rl: ∀j,j<n->(R.getD j []).length<=n:=λj hj=>by
  rw[c.rl j hj];exact mT (uQ (λx hx=>gc.dN.cU hx) hj (c.asc j hj) (c.mem j hj)) om
 obtain⟨t,b2⟩: ∃t,A=t+1:=⟨A- 1,om⟩
 have J0:StJ h (Y.new (.loop r)) id b t r n Z vR R 0:=by
  refine⟨⟨.aE, [],λk=>k<id+1,?_,cY.aE _ _ _,trivial,λ_ _ _ _ e=>(by cases e),λ_ h=>h,λk L=>om⟩,by rw[←b4,H.aL],by rw[o5 _ om];exact g4,om,F4.trans f5⟩;rw[←b2,o5 _ om,f4.get _ om];exact g3
 refine (Zb id b (n:Int) Z vR wR _ om (λi o=>StJ h o id b t r n Z vR R i) (λo=>False) J0 (λi o J=>⟨J.gb,tR.mono J.fr⟩) ?_).mono ?_
 ·rintro i o hi J
  have f:i<n:=om
  refine sZ J.gr (by rw[hr];rfl) iP λh9 g9 n9 o9=>?_
  rw[congrArg eH.assign hr,congrArg eH.vars hr,congrArg eH.pars hr]
  simp(disch:=omega)only[go_sem,List.zip_cons_cons,List.zip_nil_left]
  rw[congrArg eH.body hr]
  have nx:=J.nx
  have ri:(R.map (List.map zi)).getD i []=(R.getD i []).map zi:=nP (List.map zi) (by rw[c.lr];exact f)
  have a6:=iG aR (i:=i) (by rw[jV,c.lr];exact f) .undef []
  rw[ri] at a6
  obtain⟨wr,tr,ar⟩:=a6
  have lr:=ar.length
  rw[jV] at lr
  have c7:1<=wr.length:=by
   rw[lr,c.rl i f];have:=(c.mem i f i).2 ⟨bL n,gc.dN.one,Fix.one n i om,fQ f⟩;exact HJ this
  have F9:Fr h h9:=⟨by rw[n9];exact J.fr.next,λk L=>by rw[o9 k om];exact J.fr.get k L⟩
  obtain⟨vt,d7,tt⟩:=EV tr (kR _ (bD om)) c7
  have lt:bT vt=some (aC (wr.length- 1:Nat)):=by unfold bT;rw[tt.len (n:=wr.length- 1) (by rw[AQ];omega) om];rfl
  have g2:wr.length<=7:=by have:=rl i f;omega
  simp(disch:=omega)only[go_sem,d7,lt]
  have A9:Ku (id+1) h9 (t+1) (bQ (R.take i)):=J.acc.other (k:=id) om om n9 o9
  refine aH (λk' a7 o=> ∃(k:Nat),(∃g:Nat->V,a7= [g 0,g 1,g 2,g 3,g 4,.ptr A 0,g 6,g 7,g 8,g 9,g 10,g 11,vt,aC (wr.length- 1:Nat),aC k,g 15])/\k<=wr.length- 1/\Ku (id+1) o (t+1) (bQ (R.take i)++((R.getD i []).drop 1).take k)/\
    o.get id=some (.loop (pW r))/\o.get b=aZ [aC n,Z,vR]/\id<o.next/\Fr h o/\k'=wr.length- 1-k) (wr.length- 1)
   ⟨0,aB rfl,iJ _,by rw[List.take_zero,vF];exact A9,g9,by rw[o9 _ om];exact J.gb,om,F9,rfl⟩ ?_
  rintro k' a7 a ⟨k,⟨g,rfl⟩,L,a5,a9,a8,d0,F,rfl⟩
  have f9:((R.getD i []).drop 1).length=wr.length- 1:=by rw[AQ];omega
  by_cases c0:(k:Int)<((wr.length- 1:Nat):Int)
  case neg=>
   have d1:=bH c0;have ek:k=wr.length- 1:=om
   rw[ek,Tn (l:=(R.getD i []).drop 1) om,←Bf (by rw[c.lr];exact f)] at a5;simp(disch:=omega)only[go_sem,d1];refine oX iP c1 a9 (.inl ⟨rfl,a5.other (k:=id) om om rfl (λj hj=>H.aG _ hj _),by rw[H.aS],by rw[H.aG _ om];exact a8,d0,F.set om _⟩)
  have d1:=oQ c0
  have g6:k<wr.length- 1:=om
  have b5:k+1<(R.getD i []).length:=om
  obtain⟨x,hx⟩:=exI ((R.getD i []).getD (k+1) [])
  have d4:((R.getD i []).drop 1).getD k []=x:=by
   rw[←hx];generalize R.getD i []=row;rw[List.getD,List.getD,List.getElem?_drop,Nat.add_comm 1 k]
  have X:bE n x:=by
   rw[←hx];exact gc.dN.cU (c.rep i f (k+1) (by rw[←c.rl i f];exact b5)).mem
  have sx:=iG ar (i:=k+1) (by rw[jV];exact b5) .undef []
  rw[nP zi (d:= []) b5,hx] at sx
  obtain⟨e5,b9,e0,f8,f7⟩:=(tt.mono F).shape (wr.length- 1) (by rw[AQ];omega) om
  have ck:a.cell e5 (b9+k)=some (wr.getD (k+1) .undef):=by
   rw[f7 k (by rw[AQ];omega),List.getElem?_drop,List.getD,Nat.add_comm 1 k,dD om];rfl
  generalize wr.getD (k+1) .undef=vx at sx ck
  obtain⟨N,gA,e6⟩: ∃N,a.get (t+1)=aZ [N]/\dE N N=true:=by
   obtain⟨N,_,_,gA,ow,_⟩:=a5;exact⟨N,gA,ow.sv.dE⟩
  have fb:Fr a (H.mk a.tr (a.next+6)):=(Fr.refl a).bA om
  rw[b2]
  simp(disch:=omega)only[go_sem,d1,e0.ixa,ck,H.aF gA]
  refine (Mz vx (zi x) (H.mk a.tr (a.next+6)) (by rw[aQ,X.len];omega) (by rw[aQ,X.len];omega) (sx.mono (F.trans fb))).mono ?_
  rintro Q p s
  have c8:=fb.trans s.fr
  have e2:=s.fr.next
  have b8:p.get (t+1)=aZ [N]:=by rw[c8.get _ om];exact gA
  have c9:PV (λid=>id<a.next) p Q x:=s.pv λid h=>by simp;omega
  simp(disch:=omega)only[go_sem,H.aF b8,e6,cT _ (z:= .aE) c9.fG.1 c9.fG.2]
  obtain⟨m,q⟩: ∃m:H,m=H.mk ((H.mk p.tr (a.next+3)).new (Ob.cells false [Q])).tr p.next:=⟨_,rfl⟩
  rw[←q]
  have f0:m.get (a.next+3)=aZ [Q]:=by rw[q];exact H.aL (H.mk p.tr (a.next+3)) _
  have g8:m.next=p.next:=by rw[q]
  have c4: ∀k,k≠a.next+3->m.get k=p.get k:=λk L=>by rw[q];exact H.bG (H.mk p.tr (a.next+3)) (by simpa using L) _
  simp only at e2
  have P:Fr a m:=⟨om,λk L=>by rw[c4 k om];exact c8.get k L⟩
  have e9:PV (λid=>id<a.next) m Q x:=by
   obtain⟨i5,c5,ev,a1,a2,a3,a4⟩:=s.ex;simp only at a1;rw[ev];exact⟨SV.all (by rw[fT,uW]) om (by rw[c4 _ om];exact a3) _,λo=>by have:i5<a.next:=o;omega⟩
  have e8:(bQ (R.take i)++((R.getD i []).drop 1).take k).length<1000000:=by
   have h1:=sY (n:=n) (R:=R) (i:=i) (by rw[c.lr];omega) (λj hj=>rl j om);have h2:i*n<=7*7:=Nat.mul_le_mul om n7;rw[jZ,Fj];omega
  obtain⟨c3,b6,c6,d5,e4,g5,b7,one,_,f6⟩:=a5.push om (bytes:=24) (fM _) e8 P om e9 (SV.one om f0 (.kn 1))
  have d3:c3=N:=by rw[gA] at c6;cases c6;rfl
  subst d3
  have d9: ∀(o:H) (y:V),dX (aZ [c3]) o (t+1) 0 [y]=some (o.set (t+1) (aZ [y])):=λo y=>bN (by simp) o _ _
  simp(disch:=omega)only[go_sem,d5,e4,d9]
  rw[eJ k]
  have b3:=f6 _ rfl
  have d2:bQ (R.take i)++((R.getD i []).drop 1).take k++ [x]=bQ (R.take i)++((R.getD i []).drop 1).take (k+1):=by
   rw[Ll,cE [] om,d4]
  rw[d2] at b3
  have g7:Fr a (b6.set (t+1) (aZ [.sl m.next 0 ((bQ (R.take i)++((R.getD i []).drop 1).take k).length+1) (.un 1)]))->True:=λ_=>trivial
  obtain⟨a0,K⟩: ∃a0,a0=b6.set (t+1) (aZ [.sl m.next 0 ((bQ (R.take i)++((R.getD i []).drop 1).take k).length+1) (.un 1)]):=⟨_,rfl⟩
  rw[←K] at b3 ⊢
  have d6: ∀k,k<=id->k≠t+1->a0.get k=a.get k:=λk h1 h2=>by rw[K,H.aG _ h2,b7 k om];exact P.get k om
  have g0:a0.next=b6.next:=by rw[K];rfl
  refine⟨wr.length- 1-(k+1),om,k+1,aB rfl,om,b3,by rw[b7 id om,P.get _ om];exact a9,by rw[b7 b om,P.get _ om];exact a8,om,⟨by have:=F.next;omega,λk L=>by rw[d6 k om om];exact F.get k L⟩,rfl⟩
 ·rintro _ o (J|hf)
  case inr=>exact hf.elim
  refine⟨r,J.gr,by rw[iP];simp,?_⟩
  have en:r.pend.getD .norm= .norm:=by rw[c1];rfl
  rw[en]
  have nx:=J.nx
  have c2:=J.acc
  rw[lR,Tn (by rw[c.lr];omega)] at c2
  obtain⟨h9,U⟩: ∃h9,h9=o.set id (some (.loop {r with st:= .out})):=⟨_,rfl⟩
  have A9:=c2.other (h2:=h9) (k:=id) om om (by rw[U];rfl) (λj hj=>by rw[U,H.aG _ hj])
  have F9:Fr h h9:=by rw[U];exact J.fr.set om _
  rw[←U,b2]
  obtain⟨N,ws,W',gA,ow,pv,bl,l1,l2⟩:=A9
  simp(disch:=omega)only[go_sem,H.aF gA]
  exact⟨N,rfl,⟨ws,W',ow.le om,pv,bl,λid h=>l1 id om⟩,F9⟩
end Go.Proofs.YtcdbmkidaecdiaaGreat
namespace Go.Pm
set_option maxRecDepth 100000
section
variable {x:List Nat} {i:Nat}
def jP (O:zI)(x:List Nat)(i:Nat):List Nat:=(O.getD i []).map λq=>x.getD q 0
def wC (l:List Nat):List Nat:=l.mergeSort λa b=>decide (a<=b)
theorem Kj (l:List Nat):(wC l).Perm l:=List.mergeSort_perm l _
theorem Ry (l:List Nat):(wC l).Pairwise (· <= ·):=by
 have:=List.pairwise_mergeSort (le:=λa b:Nat=>decide (a<=b)) (λa b c f d=>by simp at*;omega) (λa b=>by simp;omega) l;exact this.imp λh=>by simpa using h
def iY (O:zI)(R:PZ)(x:List Nat)(i im:Nat):List Nat:=aX ((R.getD i []).getD ((jP O x i).idxOf im) []) x
def cZ (O:zI)(R:PZ):Nat->Nat->List Nat->zI
 |0,_,x=> [x]
 |d+1,i,x=>(wC (jP O x i)).flatMap λim=>cZ O R d (i+1) (iY O R x i im)
structure dW (G:List Nat->Prop)(L:zI):Prop where
 asc:L.Pairwise Lt
 mem: ∀x,x∈L↔G x
theorem Lt.irrefl (h:Lt x x):False:=h.asymm h
theorem Lt.trans {y z:List Nat}(q:x.length=y.length)(a:Lt x y)(b:Lt y z):Lt x z:=by
 obtain⟨k,l,d,n⟩:=a;obtain⟨m,p,f,o⟩:=b;rcases Nat.lt_trichotomy k m with h|h|h
 ·exact⟨k,l,λj c=>(d j c).trans (f j oq),by rw[←f k h];exact n⟩
 ·subst h;exact⟨k,l,λj c=>(d j c).trans (f j c),oq⟩
 ·exact⟨m,oq,λj c=>(d j oq).trans (f j c),by rw[d m h];exact o⟩
theorem GX: ∀{a b:zI},a.Pairwise Lt->b.Pairwise Lt->(∀p,p∈a↔p∈b)->a=b
 | [], [],_,_,_=>rfl
 | [],y::b,_,_,h=>by have:=(h y).2 (by simp);simp at this
 |x::a, [],_,_,h=>by have:=(h x).1 (by simp);simp at this
 |x::a,y::b,ha,hb,h=>by
  obtain⟨l,n⟩:=List.pairwise_cons.1 ha;obtain⟨k,m⟩:=List.pairwise_cons.1 hb
  have e:x=y:=by
   have f:=(h x).1 (by simp);have c:=(h y).2 (by simp);rcases List.mem_cons.1 f with f|f
   ·exact f
   ·rcases List.mem_cons.1 c with c|c
    ·exact c.symm
    ·exact ((k x f).asymm (l y c)).elim
  subst e;congr 1
  refine GX n m λp=>⟨λd=>?_,λd=>?_⟩
  ·rcases List.mem_cons.1 ((h p).1 (List.mem_cons_of_mem _ d)) with e|j
   ·subst e;exact ((l p d).irrefl).elim
   ·exact j
  ·rcases List.mem_cons.1 ((h p).2 (List.mem_cons_of_mem _ d)) with e|j
   ·subst e;exact ((k p d).irrefl).elim
   ·exact j
theorem dW.uniq {G:List Nat->Prop}{L M:zI}(a:dW G L)(b:dW G M):L=M:=GX a.asc b.asc λp=>(a.mem p).trans (b.mem p).symm
theorem dW.nodup {G:List Nat->Prop}{L:zI}(a:dW G L):L.Nodup:=by
 rw[List.nodup_iff_pairwise_ne];exact a.asc.imp λh e=>by rw[e] at h;exact h.irrefl
def kI (O:zI):Nat->Nat->Nat
 |0,_=>1
 |d+1,i=>(O.getD i []).length*kI O d (i+1)
section
variable {n:Nat} {G:List Nat->Prop} {O:zI} {R:PZ}
theorem UD {im:Nat}:im∈jP O x i↔ ∃q∈O.getD i [],x.getD q 0=im:=by simp [jP]
theorem Im (d:iX n G)(c:bC n G O R)(hi:i<n){q:Nat}(b:q∈O.getD i []):q<n:=by
 obtain⟨g,a,_,rfl⟩:=(c.mem i hi q).1 b;exact (d.cU a).iN hi
theorem alB (d:iX n G)(c:bC n G O R)(X:bE n x)(hi:i<n):(jP O x i).Nodup:=by
 have nd:(O.getD i []).Pairwise (· < ·):=c.asc i hi;rw[List.nodup_iff_pairwise_ne];unfold jP;rw[List.pairwise_map];refine nd.imp_of_mem λ{a b} f j h e=>?_
 have:=X.inj (Im d c hi f) (Im d c hi j) e;omega
theorem wH (q:iX n G)(c:bC n G O R)(X:bE n x)(hi:i<n){im:Nat}(m:im∈jP O x i):
  ∃k,k<(O.getD i []).length/\(jP O x i).idxOf im=k/\x.getD ((O.getD i []).getD k 0) 0=im/\Xf n G i ((O.getD i []).getD k 0) ((R.getD i []).getD k [])/\iY O R x i im=aX ((R.getD i []).getD k []) x/\bE n (iY O R x i im)/\(iY O R x i im).getD i 0=im/\ ∀j,j<i->(iY O R x i im).getD j 0=x.getD j 0:=by
 have f:=List.idxOf_lt_length_iff.2 m
 have a:(jP O x i).idxOf im<(O.getD i []).length:=by simpa [jP] using f
 have p:(jP O x i).getD ((jP O x i).idxOf im) 0=im:=by rw[cJ f,List.getElem_idxOf]
 obtain⟨k,e⟩: ∃k,(jP O x i).idxOf im=k:=⟨_,rfl⟩
 rw[e] at a p f
 have o:x.getD ((O.getD i []).getD k 0) 0=im:=by
  rw[←p];unfold jP;rw[List.getD_eq_getElem?_getD (l:=List.map _ _),List.getElem?_map,List.getElem?_eq_getElem a,cJ a];rfl
 have b:=c.rep i hi k a
 have h:=q.cU b.mem
 have d:iY O R x i im=aX ((R.getD i []).getD k []) x:=by unfold iY;rw[e]
 refine⟨k,a,e,o,b,d,by rw[d];exact h.mul X,?_,λj r=>?_⟩
 ·rw[d,cM (by rw[h.len];exact hi),b.maps,o]
 ·rw[d,cM (by rw[h.len];omega),b.fix j r]
theorem Sf (m:iX n G)(c:bC n G O R): ∀(d i:Nat) (x:List Nat),i+d=n->bE n x->
  (∀z,z∈cZ O R d i x↔ ∃g,G g/\Fix i g/\z=aX g x)/\(cZ O R d i x).Pairwise Lt/\(cZ O R d i x).length=kI O d i
 |0,i,x,h,X=>by
  obtain rfl:i=n:=oq
  refine⟨λz=>?_,by simp [cZ],rfl⟩;simp only[cZ,List.mem_singleton];constructor
  ·rintro rfl;exact⟨bL i,m.one,Fix.one i i (Nat.le_refl _),(mN X).symm⟩
  ·rintro⟨g,q,s,rfl⟩;rw[s.all (m.cU q),mN X]
 |d+1,i,x,h,X=>by
  have hi:i<n:=oq
  have u:=λp (f:p∈jP O x i)=>Sf m c d (i+1) (iY O R x i p) oq (wH m c X hi f).choose_spec.2.2.2.2.2.1
  have A: ∀p,p∈wC (jP O x i)↔p∈jP O x i:=λp=>(Kj _).mem_iff
  have t: ∀p,p∈jP O x i-> ∀z,z∈cZ O R d (i+1) (iY O R x i p)->z.length=n/\z.getD i 0=p/\ ∀j,j<i->z.getD j 0=x.getD j 0:=λp f z y=>by
   obtain⟨g,q,s,rfl⟩:=((u p f).1 z).1 y;obtain⟨k,_,_,_,_,_,_,s1,W⟩:=wH m c X hi f;have r:=m.cU q;refine⟨by rw[eY,r.len],?_,λj B=>?_⟩
   ·rw[cM (by rw[r.len];exact hi),s i oq,s1]
   ·rw[cM (by rw[r.len];omega),s j oq,W j B]
  refine⟨λz=>?_,?_,?_⟩
  ·simp only[cZ,List.mem_flatMap,A]
   constructor
   ·rintro⟨p,f,y⟩
    obtain⟨g,q,s,rfl⟩:=((u p f).1 z).1 y;obtain⟨k,_,_,_,o,J,_⟩:=wH m c X hi f;refine⟨aX g ((R.getD i []).getD k []),m.mul q o.mem,Fix.mul (m.cU q) oq (s.mono oq) o.fix,?_⟩;rw[J,aV (m.cU q) (m.cU o.mem) X]
   ·rintro⟨g,q,s,rfl⟩
    have r:=m.cU q;have P:=(c.mem i hi (g.getD i 0)).2 ⟨g,q,s,rfl⟩;have f:x.getD (g.getD i 0) 0∈jP O x i:=UD.2 ⟨_,P,rfl⟩;refine⟨_,f,((u _ f).1 _).2 ?_⟩;obtain⟨k,N,_,hx,o,J,_⟩:=wH m c X hi f;have L:(O.getD i []).getD k 0=g.getD i 0:=X.inj (Im m c hi (by rw[cJ N];exact List.getElem_mem N)) (Im m c hi P) hx;rw[L] at o;have v:=m.cU o.mem;refine⟨aX g (dA ((R.getD i []).getD k [])),m.mul q (m.inv o.mem),(Fix.mul r oq s (Fix.inv v oq o.fix)).succ ?_,?_⟩
    ·rw[cM (by rw[r.len];exact hi)]
     have:=afU v hi;rwa [o.maps] at this
    ·rw[J,←aV (r.mul v.inv) v X,aV r v.inv v,iE v,bZ r]
  ·unfold cZ
   rw[List.pairwise_flatMap];refine⟨λp f=>(u p ((A p).1 f)).2.1,?_⟩;have F:=Ry (jP O x i);have nd:(wC (jP O x i)).Nodup:=(Kj _).nodup_iff.2 (alB m c X hi);rw[List.nodup_iff_pairwise_ne] at nd;refine (F.and nd).imp_of_mem λ{a b} K hb Y z y w hw=>?_
   obtain⟨l1,z1,z2⟩:=t a ((A a).1 K) z y;obtain⟨l2,U,Q⟩:=t b ((A b).1 hb) w hw;exact⟨i,oq,λj B=>by rw[z2 j B,Q j B],by rw[z1,U];omega⟩
  ·unfold cZ kI
   rw[List.length_flatMap];have:(wC (jP O x i)).map (λa=>(cZ O R d (i+1) (iY O R x i a)).length)=(wC (jP O x i)).map λ_=>kI O d (i+1):=List.map_congr_left λa K=>(u a ((A a).1 K)).2.2
   rw[this];have Z:(wC (jP O x i)).length=(O.getD i []).length:=by rw[(Kj _).length_eq];simp [jP]
   rw[←Z];generalize wC (jP O x i)=l
   induction l with
   |nil=>simp
   |cons a l u=>simp only[List.map_cons,List.sum_cons,u,List.length_cons,Nat.succ_mul];omega
theorem dM (a:iX n G)(c:bC n G O R):dW G (cZ O R n 0 (bL n))/\(cZ O R n 0 (bL n)).length=kI O n 0:=by
 obtain⟨h,d,f⟩:=Sf a c n 0 (bL n) oq (bE.one n);refine⟨⟨d,λx=>?_⟩,f⟩;rw[h];constructor
 ·rintro⟨g,hg,_,rfl⟩;rw[bZ (a.cU hg)];exact hg
 ·exact λb=>⟨x,b,λk j=>oq,(bZ (a.cU b)).symm⟩
end
end
end Go.Pm
namespace Go.Proofs.YtcdbmkidaecdiaaGreat
open Go Go.Ay Go.Pm
set_option maxRecDepth 100000
section
variable {O:LN} {W:Nat->Prop}
theorem TH {O:LN}{m:Nat}(a:1<=m): ∀d i,(∀j,i<=j->j<i+d->(O.getD j []).length<=m)->kI O d i<=m^d
 |0,_,_=>fM _
 |d+1,i,h=>by
  unfold kI;rw[Nat.pow_succ,Nat.mul_comm (m^d)];exact Nat.mul_le_mul (h i (fM _) om) (TH a d (i+1) λj c b=>h j om om)
theorem Ln {O:LN}: ∀d i,(∀j,i<=j->j<i+d->0<(O.getD j []).length)->0<kI O d i
 |0,_,_=>Nat.one_pos
 |d+1,i,h=>Nat.mul_pos (h i (fM _) om) (Ln d (i+1) λj b a=>h j om om)
theorem GC.row {h:H}{b:V}{n:Nat}{R:jI}{G:List Nat->Prop}(g:GC W h b n O R G){j:Nat}(a:j<n):0<(O.getD j []).length/\(O.getD j []).length<=n:=by
 refine⟨?_,mT (uQ (λx c=>g.dN.cU c) a (g.isc.asc j a) (g.isc.mem j a)) om⟩;exact HJ ((g.isc.mem j a j).2 ⟨bL n,g.dN.one,Fix.one n j om,fQ a⟩)
theorem UI (vc:V)(n:Nat)(O:LN)(R:jI)(G:List Nat->Prop)(h:H)(f:GC W h vc n O R G):
  Ev T 157 [vc] h (λv h'=> ∃S,v= .tup [.sl S 0 (n+1) (.kn (n+1)),.bool true]/\h'.cell S 0=some (aC (kI O n 0:Nat))/\Fr h h'):=by
 obtain⟨Q,r,e,sO,sR⟩:=f.ch
 subst e
 refine cV Gh rfl ?_
 have o:=f.isc
 have n0:=f.n0
 have n7:=f.n7
 obtain⟨wO,tO,aO⟩:=sO
 have lO:=aO.length
 rw[jV,o.lo] at lO
 have L:=tO.cK.2.1
 have K:r.one=true:=oNt sR
 obtain⟨B,hB⟩:=exI h.next
 obtain⟨h1,e1,n1,g1,o1,f1⟩:=dF hB [aC n,Q,r]
 have bx:=bM h (v:= aC n) (u:=Q) (w:=r) rfl L K
 have en:(n:Int)+1=((n+1:Nat):Int):=om
 have Y:=sT h1 (n+1) om
 rw[n1] at Y
 obtain⟨t,N,n2,g2,o2,f2⟩:=dF n1 (rc (n+1) λ_=> aC 0)
 rw[N] at Y
 have p:t.get B=some (.cells false [aC n,Q,r]):=by rw[o2 _ om];exact g1
 have pt: ∀(c:H) (S:Nat) (F:Nat->V) (k:Nat) (v:V),k<n+1->dX (some (.cells false (rc (n+1) F))) c S k [v]=some (c.set S (some (.cells false (rc (n+1) λj=>if j=k then v else F j)))):=λc S F k v U=>by rw[bN (by rw[Df];exact U),mS]
 obtain⟨h3,e3,n3,g3,o3⟩:=pJ t (B+1) (rc (n+1) λj=>if j=n then aC 1 else aC 0)
 have l:h3.get B=some (.cells false [aC n,Q,r]):=by rw[o3 _ om];exact p
 have a2:n<n+1:=om
 simp(disch:=omega)only[go_sem,Gh,aD,bx,hB,e1,H.aF g1,en,Y,H.aF p,g2,pt _ _ _ n _ a2,e3,H.aF l]
 have F3:Fr h h3:=⟨om,λk U=>by rw[o3 _ om,o2 _ om,o1 _ om]⟩
 have a1: ∀i,i<=n->0<kI O (n-i) i/\kI O (n-i) i<=823543:=λi hi=>by
  refine⟨Ln _ _ λj h1 t=>(f.row om).1,mT (TH (m:=7) om _ _ λj h1 t=>by have:=(f.row (j:=j) om).2;omega) ?_⟩;exact mT (Nat.pow_le_pow_right om (show n-i<=7 by omega)) (by decide)
 refine aH (λq b c=> ∃(i:Nat),(∃g:Nat->V,b= [g 0,.ptr B 0,g 2,g 3,.sl (B+1) 0 (n+1) (.kn (n+1)),aC ((i:Int)- 1),g 6,g 7,g 8])/\i<=n/\c.get B=some (.cells false [aC n,Q,r])/\
   c.get (B+1)=some (.cells false (rc (n+1) λj=>if i<=j then aC (kI O (n-j) j:Nat) else aC 0))/\B+1<c.next/\Fr h c/\q=i) n
  ⟨n,aB rfl,fM _,l,?_,om,F3,rfl⟩ ?_
 ·rw[g3]
  congr 2
  refine dB λj hj=>?_
  by_cases e:j=n
  ·subst e;rw[bF rfl,bF (fM _),Nat.sub_self];rfl
  ·rw[bI e,bI om]
 clear g3 l o3 n3 e3 h3 F3 p g2 o2 n2 N Y t f2
 rintro q b h4 ⟨i,⟨g,rfl⟩,hi,gB,gS,nx,F,U⟩
 subst U
 by_cases x:(0:Int)<=(q:Int)- 1
 case neg=>
  have Z:=bH x;obtain rfl:q=0:=om
  simp(disch:=omega)only[go_sem,Z];refine⟨B+1,rfl,?_,F⟩;rw[Bw gS om]
  rfl
 have Z:=oQ x
 obtain⟨i,rfl⟩: ∃i,q=i+1:=⟨q- 1,om⟩
 have ei:((i+1:Nat):Int)- 1=(i:Int):=om
 have eI:(i:Int)+1=((i+1:Nat):Int):=om
 rw[ei] at Z ⊢
 have a:=iG aO (i:=i) (by rw[jV,o.lo];omega) .undef []
 rw[nP zi (d:= []) (by rw[o.lo];omega)] at a
 obtain⟨a4,P,a5,a7,a3⟩:=(tO.mono F).shape n om om
 have co:h4.cell a4 (P+i)=some (wO.getD i .undef):=by rw[a3 i om,List.getD,dD om];rfl
 generalize wO.getD i .undef=vo at a co
 have lo:=a.lens
 rw[aQ] at lo
 obtain⟨m,hm⟩:=exI ((O.getD i []).length)
 rw[hm] at lo
 have y:=f.row (j:=i) om
 rw[hm] at y
 have cS:h4.cell (B+1) (i+1)=some (aC ((kI O (n-(i+1)) (i+1):Nat):Int)):=by rw[Bw gS om,bF (fM _)]
 obtain⟨s,hs⟩:=exI (kI O (n-(i+1)) (i+1))
 rw[hs] at cS
 have A:=a1 (i+1) om
 rw[hs] at A
 have J:(1000000000000000000:Int).tdiv (m:Int)=((1000000000000000000/m:Nat):Int):=by
  rw[show (1000000000000000000:Int)=((1000000000000000000:Nat):Int) from rfl,Int.tdiv_eq_ediv_of_nonneg om];rfl
 have hq:100000000000000000<=1000000000000000000/m:=by
  rw[Nat.le_div_iff_mul_le om];omega
 have a8:1000000000000000000/m<=1000000000000000000:=Nat.div_le_self _ _
 have d2:decide (((1000000000000000000/m:Nat):Int)<(s:Int))=false:=bH om
 have z:(m:Int)*(s:Int)=((m*s:Nat):Int):=rfl
 have a9:m*s<=7*823543:=Nat.mul_le_mul om A.2
 have a6:i<n+1:=om
 have a0:(m:Int)≠0:=om
 simp(disch:=omega)only[go_sem,Z,H.aF gB,a5.ixa,co,lo,eI,cS,J,a0,d2,z,gS,pt _ _ _ i _ a6]
 refine⟨i,om,i,aB rfl,om,gB,?_,om,?_,rfl⟩
 ·congr 2
  refine dB λj hj=>?_
  by_cases e:j=i
  ·subst e
   rw[bF rfl,bF (fM _),show n-j=(n-(j+1))+1 by omega]
   unfold kI
   rw[hm,hs]
  ·rw[bI e]
   by_cases N:i+1<=j
   ·rw[bF N,bF om]
   ·rw[bI N,bI om]
 ·exact (F.bA om).set om _
theorem XX (p:V)(n:Nat)(O:LN)(R:jI)(G:List Nat->Prop)(h:H)(i:GC W h p n O R G):
  Ev T 119 [p] h (λv h'=>v= .tup [aC (kI O n 0:Nat),aC 0]/\Fr h h'):=by
 obtain⟨k,f,e,t,z⟩:=i.ch
 subst e
 refine cV aiY rfl ?_
 have b:k.one=true:=oNs t
 have a:f.one=true:=oNt z
 obtain⟨B,m⟩:=exI h.next
 obtain⟨L,A,J,o,F,d⟩:=dF m [aC n,k,f]
 have q:=bM h (v:= aC n) (u:=k) (w:=f) rfl b a
 have y:=aI o
 simp(disch:=omega)only[go_sem,aiY,aD,q,m,A,y]
 refine ((i.mono d).check).mono ?_
 rintro _ l ⟨rfl,c⟩
 have j:=aI (h:=l) (id:=B) (by rw[c.get _ om];exact o)
 simp(disch:=omega)only[go_sem]
 refine aW (λx=>(x rfl).elim) (λ_=>?_)
 simp(disch:=omega)only[go_sem,j]
 refine (UI _ n O R G l ((i.mono d).mono c)).mono ?_
 rintro _ K ⟨S,rfl,r,s⟩
 simp(disch:=omega)only[go_sem,r]
 exact (d.trans c).trans s
end
end Go.Proofs.YtcdbmkidaecdiaaGreat
