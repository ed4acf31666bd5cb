/- Texts of the claim. -/
import Derived.Test.YtcdbmkidaecdiaaGreatDp1
import Derived.Test.YtcdbmkidaecdiaaGreatP5a
import Derived.Test.YtcdbmkidaecdiaaGreatAy39
import Derived.Test.YtcdbmkidaecdiaaGreatC16code
import Derived.Sort.AssemblyPlain
import Derived.Test.YtcdbmkidaecdiaaGreatAy26
set_option maxHeartbeats 64000000
namespace Go.Pm
set_option maxRecDepth 100000
section
variable {j p:Nat}
structure Lv where
 gens:Al
 orb:List Nat
 to:Nat->Option (List Nat)
 tr:Nat->Nat
abbrev qD:=Nat->Lv
def Fix (i:Nat)(x:List Nat):Prop:= ∀k,k<i->x.getD k 0=k
def InS (n:Nat)(τ:qD):Nat->Nat->List Nat->Prop
 |_,0,x=>x=aX n
 |i,d+1,x=> ∃p y h,(τ i).to p=some y/\InS n τ (i+1) d h/\x=aM h y
def S (n:Nat)(τ:qD)(i:Nat)(x:List Nat):Prop:=InS n τ i (n-i) x
section
variable {n:Nat} {τ τ':qD} {x y z:List Nat} {i:Nat}
theorem wC:S n τ n x↔x=aX n:=by unfold S;rw[Nat.sub_self];exact Iff.rfl
theorem qQ (hi:i<n):S n τ i x↔ ∃p y h,(τ i).to p=some y/\S n τ (i+1) h/\x=aM h y:=by
 unfold S;rw[show n-i=(n-(i+1))+1 from oq];exact Iff.rfl
theorem Ua: ∀(d i:Nat) (x:List Nat),(∀j,i<=j->j<i+d->τ j=τ' j)->(InS n τ i d x↔InS n τ' i d x)
 |0,_,_,_=>Iff.rfl
 |d+1,i,x,h=>by
  simp only[InS];rw[h i (Nat.le_refl _) oq];have a:=λg=>Ua d (i+1) g (λj b c=>h j oq oq)
  simp only[a]
theorem HH (h: ∀j,i<=j->j<n->τ j=τ' j):S n τ i x↔S n τ' i x:=
 Ua _ _ _ λj a b=>h j a oq
structure UY (n j:Nat)(l:Lv):Prop where
 nd:l.orb.Nodup
 base:j∈l.orb
 one:l.to j=some (aX n)
 iff: ∀p,p∈l.orb↔(l.to p).isSome
 bF: ∀p y,l.to p=some y->aY n y
 fix: ∀p y,l.to p=some y->Fix j y
 maps: ∀p y,l.to p=some y->y.getD j 0=p
 gen: ∀p y,l.to p=some y->bM n (· ∈l.gens) y
 gP: ∀s∈l.gens,aY n s
 gF: ∀s∈l.gens,Fix j s
 gN:l.gens.Nodup
 le: ∀q,l.tr q<=l.gens.length
 zero: ∀q,q∉l.orb->l.tr q=0
theorem UY.lt {l:Lv}(L:UY n j l)(c:j<n)(b:p∈l.orb):p<n:=by
 obtain⟨y,a⟩:=Option.isSome_iff_exists.1 ((L.iff p).1 b);rw[←L.maps p y a];exact (L.bF p y a).fX c
theorem UY.to {l:Lv}(L:UY n j l)(a:p∈l.orb): ∃y,l.to p=some y:=Option.isSome_iff_exists.1 ((L.iff p).1 a)
theorem UY.mem {l:Lv}(L:UY n j l){y:List Nat}(h:l.to p=some y):p∈l.orb:=(L.iff p).2 (by rw[h];rfl)
def Cl (n j:Nat)(τ:qD):Prop:= ∀q y,(τ j).to q=some y-> ∀k s,k<(τ j).tr q->(τ j).gens[k]? =some s->
 ∃u,(τ j).to ((aM y s).getD j 0)=some u/\S n τ (j+1) (aM (aM y s) (bZ u))
def Full (l:Lv):Prop:= ∀q∈l.orb,l.tr q=l.gens.length
def Dn (n j:Nat)(τ:qD):Prop:=j+1<n-> ∀s∈(τ (j+1)).gens,bM n (· ∈(τ j).gens) s
def pX (n i:Nat)(τ:qD):Prop:= ∀j,i<=j->j<n->UY n j (τ j)/\Cl n j τ/\Full (τ j)/\Dn n j τ
theorem pX.mono (t:pX n i τ){k:Nat}(h:i<=k):pX n k τ:=λj b a=>t j oq a
theorem pX.congr (t:pX n i τ)(h: ∀j,i<=j->j<n->τ j=τ' j):pX n i τ':=λj g l=>by
 obtain⟨a,b,c,d⟩:=t j g l;have e:=h j g l;refine⟨e▸a,λq y r k s m f=>?_,e▸c,λo s f=>?_⟩
 ·rw[←e] at r m f ⊢
  obtain⟨u,w,v⟩:=b q y r k s m f;exact⟨u,w,(HH λk B A=>h k oq A).1 v⟩
 ·rw[←h (j+1) oq o] at f
  rw[←e];exact d o s f
theorem Fix.one (n i:Nat)(hi:i<=n):Fix i (aX n):=λk a=>fM oq
theorem Fix.mul (X:aY n x)(hi:i<=n)(a:Fix i x)(b:Fix i y):Fix i (aM x y):=λk c=>by
 rw[dE (by rw[X.len];omega),a k c,b k c]
theorem Fix.inv (X:aY n x)(hi:i<=n)(a:Fix i x):Fix i (bZ x):=λk b=>by
 have:=wY X (show k<n by omega);rwa [a k b] at this
theorem Fix.mono (a:Fix j x)(h:i<=j):Fix i x:=λk b=>a k oq
theorem Fix.succ (a:Fix i x)(h:x.getD i 0=i):Fix (i+1) x:=λk b=>by
 by_cases e:k=i
 ·rw[e];exact h
 ·exact a k oq
theorem Fix.all (X:aY n x)(a:Fix n x):x=aX n:=by
 refine uZ (by rw[X.len,iH]) λk b=>?_
 rw[X.len] at b;rw[a k b,fM b]
theorem bM.fix {L:List Nat->Prop}(a: ∀g,L g->aY n g)(hi:i<=n)(b: ∀g,L g->Fix i g)(h:bM n L x):Fix i x:=by
 induction h with
 |one=>exact Fix.one n i hi
 |mul hx hg ih=>exact Fix.mul (hx.bF a) hi ih (b _ hg)
theorem pX.IN: ∀(d i:Nat),i+d=n->pX n i τ-> ∀x,(S n τ i x->aY n x/\Fix i x)/\(i<n->(S n τ i x↔bM n (· ∈(τ i).gens) x))
 |0,i,h,_,x=>by
  obtain rfl:i=n:=oq
  refine⟨λa=>?_,λh=>oq⟩;rw[wC] at a;subst a;exact⟨aY.one i,Fix.one i i (Nat.le_refl _)⟩
 |d+1,i,h,t,x=>by
  have hi:i<n:=oq
  have m:=pX.IN d (i+1) oq (t.mono oq);obtain⟨L,C,F,D⟩:=t i (Nat.le_refl _) hi;have r: ∀g,g∈(τ i).gens->aY n g:=L.gP
  have O: ∀z,S n τ (i+1) z->bM n (· ∈(τ i).gens) z:=by
   intro z f
   by_cases b:i+1<n
   ·exact ((m z).2 b|>.1 f).le (bM.cY r) (D b)
   ·obtain rfl:i+1=n:=oq
    rw[wC] at f;subst f;exact .one
  have v: ∀u z,S n τ (i+1) u->S n τ (i+1) z->S n τ (i+1) (aM u z):=by
   intro u z l f
   by_cases b:i+1<n
   ·obtain⟨N,_⟩:=t (i+1) oq b
    exact ((m _).2 b).2 ((((m u).2 b).1 l).app N.gP (((m z).2 b).1 f))
   ·obtain rfl:i+1=n:=oq
    rw[wC] at l f ⊢;subst l f;exact aZ (aY.one _)
  have w:S n τ (i+1) (aX n):=by
   by_cases b:i+1<n
   ·exact ((m _).2 b).2 .one
   ·obtain rfl:i+1=n:=oq
    exact wC.2 rfl
  have c:S n τ i x->bM n (· ∈(τ i).gens) x:=by
   intro a;obtain⟨p,y,g,o,A,rfl⟩:=(qQ hi).1 a;exact (O g A).app r (L.gen p y o)
  refine⟨λa=>⟨(c a).bF r,(c a).fix r oq L.gF⟩,λ_=>⟨c,λQ=>?_⟩⟩;clear c
  induction Q with
  |one=>exact (qQ hi).2 ⟨i,aX n,aX n,L.one,w,(aZ (aY.one n)).symm⟩
  |mul hx a hind=>
   rename_i R s;obtain⟨q,y,g,o,A,e⟩:=(qQ hi).1 hind;obtain⟨k,K,J⟩:=List.mem_iff_getElem.1 a;obtain⟨u,l,P⟩:=C q y o k s (by rw[F q (L.mem o)];exact K) (by rw[List.getElem?_eq_getElem K,J]);refine (qQ hi).2 ⟨_,u,aM g (aM (aM y s) (bZ u)),l,v _ _ A P,?_⟩;have G:=((m g).1 A).1;have Y:=L.bF q y o;have U:=L.bF _ u l;have B:=r s a;rw[e,aG G Y B,aG G ((Y.mul B).mul U.inv) U,aG (Y.mul B) U.inv U,dL U,aZ (Y.mul B)]
theorem pX.gen (t:pX n i τ)(hi:i<n):S n τ i x↔bM n (· ∈(τ i).gens) x:=(pX.IN (n-i) i oq t x).2 hi
theorem pX.bF (t:pX n i τ)(hi:i<=n)(h:S n τ i x):aY n x:=((pX.IN (n-i) i oq t x).1 h).1
theorem pX.fix (t:pX n i τ)(hi:i<=n)(h:S n τ i x):Fix i x:=((pX.IN (n-i) i oq t x).1 h).2
theorem pX.cY (t:pX n i τ)(hi:i<=n):dO n (S n τ i):=by
 by_cases h:i<n
 ·have g:=bM.cY (n:=n) (L:=(· ∈(τ i).gens)) (t i (Nat.le_refl _) h).1.gP
  exact⟨λa=>t.bF hi a,(t.gen h).2 g.one,λa b=>(t.gen h).2 (g.mul ((t.gen h).1 a) ((t.gen h).1 b)),λa=>(t.gen h).2 (g.inv ((t.gen h).1 a))⟩
 ·obtain rfl:i=n:=oq
  refine⟨λa=>t.bF hi a,wC.2 rfl,λa b=>?_,λa=>?_⟩
  ·rw[wC] at a b ⊢;subst a b;exact aZ (aY.one _)
  ·rw[wC] at a ⊢;subst a;exact oX _
theorem pX.sift (t:pX n i τ)(hi:i<n)(h:S n τ i x): ∃y,(τ i).to (x.getD i 0)=some y/\S n τ (i+1) (aM x (bZ y)):=by
 obtain⟨p,y,g,a,b,rfl⟩:=(qQ hi).1 h;have L:=(t i (Nat.le_refl _) hi).1;have c:=t.mono (Nat.le_succ i);have G:=c.bF hi b;have Y:=L.bF p y a
 have e:(aM g y).getD i 0=p:=by
  rw[dE (by rw[G.len];exact hi),c.fix hi b i oq,L.maps p y a]
 refine⟨y,by rw[e];exact a,?_⟩;rw[aG G Y Y.inv,cG Y,aZ G];exact b
theorem pX.back (t:pX n i τ)(hi:i<n){y:List Nat}(b:aY n x)(a:(τ i).to (x.getD i 0)=some y)(h2:S n τ (i+1) (aM x (bZ y))):S n τ i x:=by
 have Y:=(t i (Nat.le_refl _) hi).1.bF _ y a;refine (qQ hi).2 ⟨_,y,_,a,h2,?_⟩;rw[aG b Y.inv Y,dL Y,aZ b]
theorem pX.akA (t:pX n i τ)(hi:i<n):S n τ (i+1) x↔S n τ i x/\x.getD i 0=i:=by
 have L:=(t i (Nat.le_refl _) hi).1;have b:=t.mono (Nat.le_succ i);constructor
 ·intro h
  have e:=b.fix hi h i oq;have X:=b.bF hi h;refine⟨t.back hi X (y:=aX n) (by rw[e];exact L.one) ?_,e⟩;rw[oX,aZ X];exact h
 ·rintro⟨h,e⟩
  obtain⟨y,a,c⟩:=t.sift hi h;rw[e,L.one] at a;cases a;rwa [oX,aZ (t.bF oq h)] at c
theorem pX.Xc (t:pX n i τ): ∀{k:Nat},i<=k->k<=n->(S n τ k x↔S n τ i x/\Fix k x):=by
 intro k
 induction k with
 |zero=>
  intro h _;obtain rfl:i=0:=oq
  exact⟨λh=>⟨h,λ_ h=>oq⟩,λh=>h.1⟩
 |succ k ih=>
  intro g f
  by_cases e:i=k+1
  ·subst e
   exact⟨λh=>⟨h,t.fix f h⟩,λh=>h.1⟩
  ·have a:=ih oq oq
   rw[(t.mono oq).akA (i:=k) f,a];constructor
   ·rintro⟨⟨b,c⟩,d⟩;exact⟨b,c.succ d⟩
   ·rintro⟨b,c⟩;exact⟨⟨b,c.mono oq⟩,c k oq⟩
end
end
section
variable {j k q:Nat}
def wM (τ:qD)(i:Nat)(l:Lv):qD:=λj=>if j=i then l else τ j
theorem cM (τ:qD)(i:Nat)(l:Lv):wM τ i l i=l:=by simp [wM]
theorem eD (τ:qD){i:Nat}(l:Lv)(h:j≠i):wM τ i l j=τ j:=by simp [wM,h]
def Lv.tick (l:Lv)(q:Nat):Lv:={l with tr:=λr=>if r=q then l.tr q+1 else l.tr r}
def Lv.reach (l:Lv)(p:Nat)(y:List Nat):Lv:={l with orb:=l.orb++ [p],to:=λr=>if r=p then some y else l.to r}
def Lv.more (l:Lv)(r:List Nat):Lv:={l with gens:=l.gens++ [r]}
structure CI (n i:Nat)(τ:qD):Prop where
 nG:UY n i (τ i)
 cl:Cl n i τ
 dn:Dn n i τ
 up:pX n (i+1) τ
section
variable {n:Nat} {τ τ':qD} {x y z s u w:List Nat} {i:Nat}
theorem CI.full (c:CI n i τ)(a:Full (τ i)):pX n i τ:=λj d b=>by
 by_cases e:j=i
 ·subst e;exact⟨c.nG,c.cl,a,c.dn⟩
 ·exact c.up j oq b
theorem aeO {l:Lv}(h:i<k):S n (wM τ i l) k x↔S n τ k x:=HH λj a _=>eD τ l oq
theorem pX.ahL {l:Lv}(h:i<k)(t:pX n k τ):pX n k (wM τ i l):=t.congr λj a _=>(eD τ l oq).symm
theorem CI.Od (c:CI n i τ)(hi:i<n)(e:(τ i).to q=some y)(d:s∈(τ i).gens)(a:(τ i).to ((aM y s).getD i 0)=some u):
  aY n (aM (aM y s) (bZ u))/\Fix (i+1) (aM (aM y s) (bZ u))/\bM n (· ∈(τ i).gens) (aM (aM y s) (bZ u)):=by
 have L:=c.nG
 have Y:=L.bF q y e
 have U:=L.bF _ u a
 have g:=L.gP s d
 have f:=Y.mul g
 have b:bM n (· ∈(τ i).gens) (aM (aM y s) (bZ u)):=((L.gen q y e).mul d).app L.gP ((L.gen _ u a).inv L.gP)
 refine⟨f.mul U.inv,Fix.succ (b.fix L.gP oq L.gF) ?_,b⟩
 rw[dE (by rw[f.len];exact hi)]
 have:=wY U hi
 rwa [L.maps _ u a] at this
theorem CI.tick (c:CI n i τ)(B:(τ i).to q=some y)(F:(τ i).tr q=k)(m:(τ i).gens[k]? =some s)(N:(τ i).to ((aM y s).getD i 0)=some u)
  (O:S n τ (i+1) (aM (aM y s) (bZ u))):CI n i (wM τ i ((τ i).tick q)):=by
 have L:=c.nG
 have f:k<(τ i).gens.length:=(List.getElem?_eq_some_iff.1 m).1
 refine⟨?_,?_,?_,c.up.ahL oq⟩
 ·rw[cM]
  refine⟨L.nd,L.base,L.one,L.iff,L.bF,L.fix,L.maps,L.gen,L.gP,L.gF,L.gN,λr=>?_,λr A=>?_⟩
  ·show (if r=q then (τ i).tr q+1 else (τ i).tr r)<=_
   split
   ·rw[F];exact f
   ·exact L.le r
  ·show (if r=q then (τ i).tr q+1 else (τ i).tr r)=0
   have:r≠q:=λe=>A (by rw[e];exact L.mem B)
   rw[if_neg this];exact L.zero r A
 ·intro r v l j t o h
  rw[cM] at l o h ⊢
  simp only[aeO (Nat.lt_succ_self i)]
  have d:j<(if r=q then (τ i).tr q+1 else (τ i).tr r):=o
  by_cases e:r=q/\j=k
  ·obtain⟨rfl,rfl⟩:=e
   have b:(τ i).to r=some v:=l
   have a:(τ i).gens[j]? =some t:=h
   rw[B] at b;cases b
   rw[m] at a;cases a
   exact⟨u,N,O⟩
  ·refine c.cl r v l j t ?_ h
   split at d
   ·rename_i G;subst G
    have:j≠k:=λK=>e ⟨rfl,K⟩
    omega
   ·exact d
 ·intro J g p
  rw[eD τ _ oq] at p
  rw[cM]
  exact c.dn J g p
theorem CI.reach (c:CI n i τ)(hi:i<n){p:Nat}(B:(τ i).to p=none)(Y:aY n y)(F:Fix i y)(W:y.getD i 0=p)(P:bM n (· ∈(τ i).gens) y):CI n i (wM τ i ((τ i).reach p y)):=by
 have L:=c.nG;have l:p∉(τ i).orb:=λh=>by have:=(L.iff p).1 h;rw[B] at this;cases this
 have d: ∀r v,((τ i).reach p y).to r=some v->(r=p/\v=y)∨(r≠p/\(τ i).to r=some v):=by
  intro r v h;have o:(if r=p then some y else (τ i).to r)=some v:=h;split at o
  ·rename_i e;cases o;exact .inl ⟨e,rfl⟩
  ·rename_i e;exact .inr ⟨e,o⟩
 have f: ∀r v,(τ i).to r=some v->((τ i).reach p y).to r=some v:=by
  intro r v h;have:r≠p:=λe=>by rw[e,B] at h;cases h
  show (if r=p then some y else (τ i).to r)=some v;rw[if_neg this];exact h
 refine⟨?_,?_,?_,c.up.ahL oq⟩
 ·rw[cM]
  refine⟨?_,List.mem_append_left _ L.base,f _ _ L.one,λr=>?_,λr v h=>?_,λr v h=>?_,λr v h=>?_,λr v h=>?_,L.gP,L.gF,L.gN,L.le,λr U=>?_⟩
  ·show ((τ i).orb++ [p]).Nodup
   rw[List.nodup_append];exact⟨L.nd,by simp,λa R b K=>by simp at K;subst K;exact λe=>l (e▸R)⟩
  ·show r∈(τ i).orb++ [p]↔(if r=p then some y else (τ i).to r).isSome
   by_cases e:r=p
   ·subst e;simp
   ·rw[if_neg e,←L.iff r];simp [e]
  ·rcases d r v h with ⟨_,rfl⟩|⟨_,h⟩
   ·exact Y
   ·exact L.bF r v h
  ·rcases d r v h with ⟨_,rfl⟩|⟨_,h⟩
   ·exact F
   ·exact L.fix r v h
  ·rcases d r v h with ⟨rfl,rfl⟩|⟨_,h⟩
   ·exact W
   ·exact L.maps r v h
  ·rcases d r v h with ⟨_,rfl⟩|⟨_,h⟩
   ·exact P
   ·exact L.gen r v h
  ·exact L.zero r λh=>U (List.mem_append_left _ h)
 ·intro r v J j t A G
  rw[cM] at J A G ⊢;simp only[aeO (Nat.lt_succ_self i)];rcases d r v J with ⟨rfl,rfl⟩|⟨_,h⟩
  ·have hz:(τ i).tr r=0:=L.zero r l
   have Z:j<(τ i).tr r:=A;omega
  ·obtain⟨a,N,O⟩:=c.cl r v h j t A G
   exact⟨a,f _ _ N,O⟩
 ·intro Q g m
  rw[eD τ _ oq] at m;rw[cM];exact c.dn Q g m
theorem CI.found (c:CI n i τ)(hi:i<n){p:Nat}(b:(τ i).to q=some y)(t:(τ i).tr q=k)(m:(τ i).gens[k]? =some s)(l:(aM y s).getD i 0=p)(g:(τ i).to p=none):
  CI n i (wM τ i (((τ i).tick q).reach p (aM y s))):=by
 have L:=c.nG
 have a:s∈(τ i).gens:=List.mem_of_getElem? m
 have Y:=L.bF q y b
 have r:=L.gP s a
 have o:=c.reach hi g (Y.mul r) (Fix.mul Y oq (L.fix q y b) (L.gF s a)) l ((L.gen q y b).mul a)
 have d:q≠p:=λe=>by rw[e,g] at b;cases b
 have f:(wM τ i ((τ i).reach p (aM y s)) i).to p=some (aM y s):=by
  rw[cM];show (if p=p then some (aM y s) else (τ i).to p)=_;rw[if_pos rfl]
 have v:S n (wM τ i ((τ i).reach p (aM y s))) (i+1) (aM (aM y s) (bZ (aM y s))):=by
  rw[cG (Y.mul r)];exact (o.up.cY oq).one
 have A:=o.tick (q:=q) (k:=k) (y:=y) (s:=s) (u:=aM y s) (by
  rw[cM];show (if q=p then some (aM y s) else (τ i).to q)=_
  rw[if_neg d];exact b) (by rw[cM];exact t) (by rw[cM];exact m) (by rw[l];exact f) v
 have e:wM (wM τ i ((τ i).reach p (aM y s))) i ((wM τ i ((τ i).reach p (aM y s)) i).tick q)=wM τ i (((τ i).tick q).reach p (aM y s)):=by
  funext j
  by_cases h:j=i
  ·subst h;rw[cM,cM,cM];rfl
  ·rw[eD _ _ h,eD _ _ h,eD _ _ h]
 rwa [e] at A
structure Ks (n i:Nat)(x:List Nat)(τ τ':qD):Prop where
 low: ∀j,j<i->τ' j=τ j
 tw:pX n i τ'
 old: ∀s∈(τ i).gens,s∈(τ' i).gens
 new: ∀s∈(τ' i).gens,bM n (λg=>g∈(τ i).gens∨g=x) s
 has:bM n (· ∈(τ' i).gens) x
theorem Ks.S (a:Ks n i x τ τ')(t:pX n i τ)(hi:i<n)(h:Go.Pm.S n τ i z):Go.Pm.S n τ' i z:=
 (a.tw.gen hi).2 (((t.gen hi).1 h).mono a.old)
theorem CI.added (c:CI n i τ)(d:i+1<n)(a:Ks n (i+1) z τ τ')(r:bM n (· ∈(τ i).gens) z):CI n i τ'/\Go.Pm.S n τ' (i+1) z:=by
 have e:=a.low i oq;refine⟨⟨e▸c.nG,λq y m k s f l=>?_,λh g b=>?_,a.tw⟩,(a.tw.gen d).2 a.has⟩
 ·rw[e] at m f l ⊢
  obtain⟨u,o,p⟩:=c.cl q y m k s f l;exact⟨u,o,a.S c.up d p⟩
 ·rw[e]
  refine (a.new g b).le (bM.cY c.nG.gP) λg b=>?_
  rcases b with b|rfl
  ·exact c.dn d g b
  ·exact r
def Yo (n:Nat)(τ:qD):Nat->Nat->List Nat->Nat×List Nat
 |0,i,x=>(i,x)
 |d+1,i,x=>match (τ i).to (x.getD i 0) with
  |none=>(i,x)
  |some y=>Yo n τ d (i+1) (if x.getD i 0=i then x else aM x (bZ y))
structure ZO (n i:Nat)(τ:qD)(x:List Nat)(k:Nat)(r:List Nat):Prop where
 ge:i<=k
 le:k<=n
 bF:aY n r
 fix:Fix k r
 out:k<n->(τ k).to (r.getD k 0)=none
 rest:i<n-> ∃w,bM n (· ∈(τ i).gens) w/\x=aM r w
theorem UB: ∀(d i:Nat) (x:List Nat),i+d=n->pX n i τ->aY n x->Fix i x->ZO n i τ x (Yo n τ d i x).1 (Yo n τ d i x).2
 |0,i,x,h,_,X,F=>⟨Nat.le_refl _,by show i<=n;omega,X,F,λa=>by have:i<n:=a;omega,λa=>oq⟩
 |d+1,i,x,h,t,X,F=>by
  have hi:i<n:=oq
  obtain⟨L,C,A,D⟩:=t i (Nat.le_refl _) hi;unfold Yo
  cases e:(τ i).to (x.getD i 0) with
  |none=>exact⟨Nat.le_refl _,by show i<=n;omega,X,F,λ_=>e,λ_=>⟨aX n,.one,(aZ X).symm⟩⟩
  |some y=>
   simp only;have Y:=L.bF _ y e
   have l: ∀f,f=(if x.getD i 0=i then x else aM x (bZ y))->aY n f/\Fix (i+1) f/\x=aM f y:=by
    intro f a
    by_cases g:x.getD i 0=i
    ·rw[if_pos g] at a
     subst a;rw[g,L.one] at e;cases e;exact⟨X,F.succ g,(aZ X).symm⟩
    ·rw[if_neg g] at a
     subst a;refine⟨X.mul Y.inv,(Fix.mul X oq F (Fix.inv Y oq (L.fix _ y e))).succ ?_,by rw[aG X Y.inv Y,dL Y,aZ X]⟩;rw[dE (by rw[X.len];exact hi)];have:=wY Y hi;rwa [L.maps _ y e] at this
   obtain⟨v,F2,ex⟩:=l _ rfl;have b:=UB d (i+1) _ oq (t.mono oq) v F2;refine⟨by have:=b.ge;omega,b.le,b.bF,b.fix,b.out,λ_=>?_⟩
   by_cases m:i+1<n
   ·obtain⟨w,o,r⟩:=b.rest m
    have c:bM n (· ∈(τ i).gens) w:=o.le (bM.cY L.gP) (D m);refine⟨aM w y,c.app L.gP (L.gen _ y e),?_⟩;rw[←aG b.bF (c.bF L.gP) Y,←r];exact ex
   ·have p:d=0:=oq
    subst p;exact⟨y,L.gen _ y e,ex⟩
theorem ZO.in (f:ZO n i τ x n w)(t:pX n i τ)(hi:i<n):S n τ i x:=by
 obtain⟨v,a,e⟩:=f.rest hi;have:=f.fix.all f.bF;rw[this,bX (a.bF (t i (Nat.le_refl _) hi).1.gP)] at e;subst e;exact (t.gen hi).2 a
theorem ZO.ajJ (f:ZO n i τ x k w)(t:pX n i τ)(a:k<n)(e:i<=j)(h2:j<=k): ¬S n τ j w:=by
 intro h;have c:=t.mono e;have d:=(c.Xc h2 oq).2 ⟨h,f.fix⟩;obtain⟨y,b,_⟩:=(t.mono f.ge).sift a d;rw[f.out a] at b;cases b
def push (τ:qD)(i k:Nat)(r:List Nat):qD:=λj=>if i<=j/\j<=k then (τ j).more r else τ j
theorem JA (τ:qD){i:Nat}(r:List Nat)(a:i<=j)(h2:j<=k):push τ i k r j=(τ j).more r:=by simp [push,a,h2]
theorem Ni (τ:qD){i:Nat}(r:List Nat)(h:j<i∨k<j):push τ i k r j=τ j:=by
 unfold push;rw[if_neg oq]
structure Nv (n i k:Nat)(r:List Nat)(τ τ':qD)(j:Nat):Prop where
 low: ∀m,m<j->τ' m=push τ i k r m
 tw:pX n j τ'
 gens:j<=k->(τ' j).gens=(τ j).gens++ [r]
 same:k<j->τ' j=τ j
theorem Nv.start (f:ZO n i τ x k w)(t:pX n i τ)(_:k<n):Nv n i k w τ (push τ i k w) (k+1):=
 ⟨λ_ _=>rfl,(t.mono (by have:=f.ge;omega)).congr λj a _=>(Ni τ w (.inr oq)).symm,λh=>oq,λ_=>Ni τ w (.inr oq)⟩
theorem Nv.ci (f:ZO n i τ x k w)(t:pX n i τ)(Y:k<n)(a:Nv n i k w τ τ' (j+1))(B:i<=j)(h2:j<=k):CI n j τ':=by
 have O:j<n:=oq
 obtain⟨L,C,Fu,D⟩:=t j B O;have e:τ' j=(τ j).more w:=(a.low j oq).trans (JA τ w B h2);have Z:=t.mono B;have F:w∉(τ j).gens:=λW=>f.ajJ t Y B h2 ((Z.gen O).2 (bM.of L.gP W))
 have J: ∀z,S n τ (j+1) z->S n τ' (j+1) z:=by
  intro z N
  by_cases r:j+1<n
  ·have G:=t.mono (show i<=j+1 by omega)
   refine (a.tw.gen r).2 (((G.gen r).1 N).mono λg c=>?_)
   by_cases o:j+1<=k
   ·rw[a.gens o];exact List.mem_append_left _ c
   ·rw[a.same oq];exact c
  ·obtain rfl:j+1=n:=oq
   rw[wC] at N ⊢;exact N
 have l: ∀g,g∈(τ j).gens->g∈(τ j).gens++ [w]:=λg c=>List.mem_append_left _ c
 have A: ∀g,g∈(τ j).gens++ [w]->aY n g:=λg c=>by
  rcases List.mem_append.1 c with c|c
  ·exact L.gP g c
  ·simp at c;subst c;exact f.bF
 refine⟨?_,λq y P m s R d=>?_,λr s d=>?_,a.tw⟩
 ·rw[e]
  refine⟨L.nd,L.base,L.one,L.iff,L.bF,L.fix,L.maps,λp y h=>(L.gen p y h).mono l,A,λg c=>?_,?_,λq=>?_,L.zero⟩
  ·rcases List.mem_append.1 c with c|c
   ·exact L.gF g c
   ·simp at c;subst c;exact f.fix.mono h2
  ·show ((τ j).gens++ [w]).Nodup
   rw[List.nodup_append];exact⟨L.gN,by simp,λa ha b Q=>by simp at Q;subst Q;exact λe=>F (e▸ha)⟩
  ·show (τ j).tr q<=((τ j).gens++ [w]).length
   have:=L.le q;simp;omega
 ·rw[e] at P R d ⊢
  have K:m<(τ j).tr q:=R;have v:((τ j).gens++ [w])[m]? =some s:=d;rw[List.getElem?_append_left (by have:=L.le q;omega)] at v;obtain⟨u,U,g2⟩:=C q y P m s K v;exact⟨u,U,J _ g2⟩
 ·rw[e]
  show bM n (· ∈(τ j).gens++ [w]) s
  by_cases o:j+1<=k
  ·rw[a.gens o] at d
   rcases List.mem_append.1 d with d|d
   ·exact (D r s d).mono l
   ·simp at d;subst d
    exact bM.of A (List.mem_append_right _ (by simp))
  ·rw[a.same oq] at d
   exact (D r s d).mono l
theorem Nv.next {b:qD}(a:Nv n i k w τ τ' (j+1))(c:i<=j)(h2:j<=k)(low: ∀m,m<j->b m=τ' m)(g:(b j).gens=(τ' j).gens)(t:pX n j b):Nv n i k w τ b j:=
 ⟨λm d=>(low m d).trans (a.low m oq),t,λ_=>by rw[g,a.low j oq,JA τ w c h2];rfl,λh=>oq⟩
theorem Nv.done (f:ZO n i τ x k w)(t:pX n i τ)(X:aY n x)(p:k<n)(a:Nv n i k w τ τ' i):Ks n i x τ τ':=by
 have hi:i<n:=by have:=f.ge;omega
 have L:=(t i (Nat.le_refl _) hi).1;have c:=a.gens f.ge;obtain⟨v,l,e⟩:=f.rest hi;have V:=l.bF L.gP;refine⟨λj m=>(a.low j m).trans (Ni τ w (.inl m)),a.tw,λs d=>?_,λs d=>?_,?_⟩
 ·rw[c];exact List.mem_append_left _ d
 ·have b: ∀g,(g∈(τ i).gens∨g=x)->aY n g:=λg c=>by
   rcases c with c|rfl
   ·exact L.gP g c
   ·exact X
  rw[c] at d;rcases List.mem_append.1 d with d|d
  ·exact bM.of b (.inl d)
  ·simp at d;subst d
   have o:s=aM x (bZ v):=by rw[e,aG f.bF V V.inv,cG V,aZ f.bF]
   rw[o];exact (bM.of b (.inr rfl)).app b ((l.mono λg c=>Or.inl c).inv b)
 ·have b: ∀g,g∈(τ' i).gens->aY n g:=(a.tw i (Nat.le_refl _) hi).1.gP
  rw[e];exact (bM.of b (by rw[c];exact List.mem_append_right _ (by simp))).app b (l.mono λg h=>by rw[c];exact List.mem_append_left _ h)
theorem Ks.none (t:pX n i τ)(hi:i<n)(h:Go.Pm.S n τ i x):Ks n i x τ τ:=by
 have L:=(t i (Nat.le_refl _) hi).1
 have b: ∀g,(g∈(τ i).gens∨g=x)->aY n g:=λg c=>by
  rcases c with c|rfl
  ·exact L.gP g c
  ·exact t.bF oq h
 exact⟨λ_ _=>rfl,t,λ_ a=>a,λs a=>bM.of b (.inl a),(t.gen hi).1 h⟩
theorem UY.many {l:Lv}(L:UY n j l):l.gens.length<=n^n:=Cu L.gN L.gP
def VB (n:Nat):qD:=λj=>⟨[], [j],λp=>if p=j then some (aX n) else none,λ_=>0⟩
theorem XV (n:Nat):pX n 0 (VB n):=λj _ d=>by
 refine⟨⟨by simp [VB],by simp [VB],by simp [VB],λp=>?_,λp y h=>?_,λp y h=>?_,λp y h=>?_,λp y h=>?_,λs b=>?_,λs b=>?_,by simp [VB],λq=>Nat.le_refl _,λ_ _=>rfl⟩,λq y g k s c=>?_,λq _=>rfl,λ_ s b=>?_⟩
 ·show p∈ [j]↔(if p=j then some (aX n) else none).isSome
  by_cases e:p=j<;>simp [e]
 all_goals first
  |(have a:(if p=j then some (aX n) else none)=some y:=h
    split at a
    ·rename_i e
     cases a
     first
      |exact aY.one n
      |exact Fix.one n j oq
      |(rw[e];exact fM d)
      |exact .one
    ·cases a)
  |(cases b;done)
  |(have f:k<0:=c;omega)
end
end
end Go.Pm
namespace Go.Proofs.YtcdbmkidaecdiaaGreat
open Go Go.Ay Go.Pm
set_option maxRecDepth 100000
def Slot (W:Nat->Prop)(h:H)(v:V):Option (List Nat)->Prop
 |none=>v= .aD
 |some y=>PV W h v y
def uU (F:Nat->V)(s:Nat):V:=F (s/2*194+s%2)
def WT (n L:Nat)(F:Nat->V)(id:Nat):Prop:=id=L∨ ∃s,s<2*n/\ ∃off len c,uU F s= .sl id off len c
structure tC (h:H)(n tid L:Nat)(F:Nat->V)(τ:qD):Prop where
 t:h.get tid=some (.cells false [aC n,.sl L 0 n (.kn n)])
 l:h.get L=some (.cells false (rc (n*194) F))
 tn:tid<h.next
 ln:L<h.next
 tw: ¬WT n L F tid
 to: ∀j p,j<n->p<64->Slot (WT n L F) h (F (j*194+2+p)) ((τ j).to p)
 iv: ∀j p,j<n->p<64->Slot (WT n L F) h (F (j*194+66+p)) (((τ j).to p).map bZ)
 tr: ∀j p,j<n->p<64->F (j*194+130+p)= aC ((τ j).tr p:Nat)
 gens: ∀j,j<n-> ∃vs,dH h (F (j*194)) 1 vs 0/\dZ (WT n L F) h vs (τ j).gens
 orb: ∀j,j<n->dH h (F (j*194+1)) 1 (ints (zi (τ j).orb)) 0
 Rh: ∀s s',s<2*n->s'<2*n->s≠s'->Dis (uU F s) (uU F s')
 ap: ∀s,s<2*n->dR (uU F s) L
section
variable {h h':H} {n tid L:Nat} {F:Nat->V} {τ:qD}
theorem Slot.fx {W:Nat->Prop}{v:V}{o:Option (List Nat)}(s:Slot W h v o)(f:Fx W h h'):Slot W h' v o:=by
 cases o with
 |none=>exact s
 |some y=>exact PV.fx s f
theorem Slot.kO {W W':Nat->Prop}{v:V}{o:Option (List Nat)}(s:Slot W h v o)(a: ∀id,id<h.next->W' id->W id):Slot W' h v o:=by
 cases o with
 |none=>exact s
 |some y=>exact PV.kO s a
theorem Ip (F:Nat->V)(j:Nat):uU F (2*j)=F (j*194):=by
 unfold uU;congr 1;omega
theorem Lb (F:Nat->V)(j:Nat):uU F (2*j+1)=F (j*194+1):=by
 unfold uU;congr 1;omega
theorem tC.own (R:tC h n tid L F τ){s:Nat}(c:s<2*n): ∃ws,dH h (uU F s) 1 ws 0:=by
 rcases Nat.mod_two_eq_zero_or_one s with e|e
 ·obtain⟨b,a,_⟩:=R.gens (s/2) om
  exact⟨b,by unfold uU;rw[e];exact a⟩
 ·exact⟨_,by unfold uU;rw[e];exact R.orb (s/2) om⟩
theorem tC.Pg (R:tC h n tid L F τ){id:Nat}(a:WT n L F id):id<h.next:=by
 rcases a with rfl|⟨s,b,d,len,c,e⟩
 ·exact R.ln
 ·obtain⟨f,o⟩:=R.own b
  exact (o.in _ _ _ _ e).1
theorem tC.mono (R:tC h n tid L F τ)(f:Fr h h'):tC h' n tid L F τ:=by
 refine⟨by rw[f.get _ R.tn];exact R.t,by rw[f.get _ R.ln];exact R.l,jM R.tn f.next,jM R.ln f.next,R.tw,
  λj p a b=>(R.to j p a b).fx (Fx.of f),λj p a b=>(R.iv j p a b).fx (Fx.of f),R.tr,λj c=>?_,λj c=>(R.orb j c).fr f,R.Rh,R.ap⟩
 obtain⟨d,a,b⟩:=R.gens j c;exact⟨d,a.fr f,b.fx (Fx.of f)⟩
theorem tC.cell (R:tC h n tid L F τ){j c:Nat}(a:j<n)(b:c<194):h.cell L (j*194+c)=some (F (j*194+c)):=
 tF R.l (by
         have:(j+1)*194<=n*194:=Nat.mul_le_mul_right _ a
         omega)
theorem tC.Si (R:tC h n tid L F τ){j c p:Nat}(b:j<n)(a:c+p<194):h.cell L (j*194+c+p)=some (F (j*194+c+p)):=by
 rw[Nat.add_assoc];exact R.cell b a
end
theorem WW {n:Nat}{τ:qD}{d i:Nat}{x:List Nat}(h:(τ i).to (x.getD i 0)=none):Yo n τ (d+1) i x=(i,x):=by
 rw[Yo,h]
theorem UK {n:Nat}{τ:qD}{d i:Nat}{x z:List Nat}(h:(τ i).to (x.getD i 0)=some z):Yo n τ (d+1) i x=Yo n τ d (i+1) (if x.getD i 0=i then x else aM x (bZ z)):=by
 rw[Yo,h]
theorem ZS (h:H)(n tid L:Nat)(F:Nat->V)(τ:qD)(vx:V)(x:List Nat)(a:Nat)(hn:n<=64)(h0:0<n)(R:tC h n tid L F τ)(hx:PV (WT n L F) h vx x)(X:aY n x)(a2:a<=n)(t:pX n a τ):
  Ev T 229 [.ptr tid 0,vx,aC a] h (λv h'=> ∃vr,v= .tup [aC (((Yo n τ (n-a) a x).1:Nat):Int),vr]/\PV (WT n L F) h' vr (Yo n τ (n-a) a x).2/\aY n (Yo n τ (n-a) a x).2/\Fr h h'):=by
 refine dW uW rfl ?_
 simp(disch:=omega)only[go_sem,uW,aE]
 refine aI (λk' m hh=> ∃(i:Nat) (y:List Nat) (q:V),(∃g:Nat->V,m= [.ptr tid 0,q,g 2,g 3,g 4,aC i,g 6,g 7,g 8,g 9])/\a<=i/\i<=n/\Yo n τ (n-i) i y=Yo n τ (n-a) a x/\
   PV (WT n L F) hh q y/\aY n y/\Fr h hh/\k'=n-i) (n-a)
  ⟨a,x,vx,aB rfl,dT _,a2,rfl,hx,X,Fr.refl h,rfl⟩ ?_
 rintro k' m d ⟨i,y,q,⟨g,rfl⟩,a1,a3,e,A,Y,f,rfl⟩
 have G:=R.mono f
 have K:d.cell tid 0=some (aC n):=by rw[H.cell_of G.t];rfl
 have cl:d.cell tid 1=some (.sl L 0 n (.kn n)):=by rw[H.cell_of G.t];rfl
 simp(disch:=omega)only[go_sem,K,cl]
 by_cases B:(i:Int)<(n:Int)
 ·have b:i<n:=om
  rw[cI B]
  obtain⟨id,Q,J,W,hc⟩:=A.si.open
  rw[aS,Y.len] at J W hc
  have ci:d.cell id (Q+i)=some (aC (y.getD i 0:Nat)):=by rw[hc i b];congr 2;simp [zi,Y.len,b]
  have r:=Y.fX b
  have lv:=(t i a1 b).1
  generalize hk:y.getD i 0=k at ci r
  have cb:=G.Si (c:=66) (p:=k) b om
  have s:=G.iv i k b om
  simp(disch:=omega)only[go_sem,K,cl,J.ixa,ci,cb]
  generalize F (i*194+66+k)=O at s cb
  have o:n-i=(n-(i+1))+1:=om
  rw[o] at e
  cases hto:(τ i).to k with
  |none=>
   rw[hto] at s;rw[WW (by rw[hk];exact hto)] at e;have l:O= .aD:=s;subst l;simp(disch:=omega)only[go_sem];rw[←e];exact⟨q,rfl,A.fx (Fx.of ((Fr.refl d).bH om)),Y,f.bH om⟩
  |some z=>
   rw[hto] at s;rw[UK (by rw[hk];exact hto),hk] at e;have Z:=lv.bF _ _ hto;have l:PV (WT n L F) d O (bZ z):=s;have sn:=Hr l (aY.ne h0 Z.inv) false;have u:Fr d (H.mk d.tr (d.next+14)):=(Fr.refl d).bH om
   by_cases w:k=i
   ·have N:decide ((k:Int)≠(i:Int))=false:=bI om
    rw[bJ w] at e;simp(disch:=omega)only[go_sem,sn,J.ixa,ci,N];rw[fJ i];exact⟨n-(i+1),om,i+1,y,q,aB rfl,om,om,e,A.fx (Fx.of u),Y,f.trans u,rfl⟩
   ·have N:decide ((k:Int)≠(i:Int))=true:=cI om
    rw[bU w] at e;simp(disch:=omega)only[go_sem,sn,J.ixa,ci,N];have a0:=A.fx (Fx.of u);have P:=l.fx (Fx.of u);have f':=f.trans u;generalize H.mk d.tr (d.next+14)=h3 at*;refine (nZ gE.ok q O y (bZ z) h3 (by rw[Y.len];omega) a0.si P.si (λj hj=>by rw[jU,Z.len];exact Y.fX (by rw[←Y.len];exact hj))).mono ?_;rintro v h4 nw;have f4:=f'.trans nw.fr;simp(disch:=omega)only[go_sem];rw[fJ i];refine⟨n-(i+1),om,i+1,_,v,aB rfl,om,om,e,nw.pv (λhw=>?_),Y.mul Z.inv,f4,rfl⟩;have:=R.Pg hw;have:=f'.next;omega
 ·rw[bI B]
  obtain rfl:i=n:=om
  simp(disch:=omega)only[go_sem,K,cl]
  rw[Nat.sub_self] at e
  have U:Yo i τ (i-a) a x=(i,y):=e.symm
  rw[U]
  exact⟨q,rfl,A,Y,f⟩
section
variable {h h' h2:H} {n tid L i:Nat} {F F':Nat->V} {τ τ':qD}
theorem WC (b: ∀s,s<2*n->uU F' s=uU F s)(id:Nat):WT n L F' id↔WT n L F id:=by
 unfold WT;constructor
 ·rintro (e|⟨s,a,h2⟩)
  ·exact .inl e
  ·exact .inr ⟨s,a,by rw[←b s a];exact h2⟩
 ·rintro (e|⟨s,a,h2⟩)
  ·exact .inl e
  ·exact .inr ⟨s,a,by rw[b s a];exact h2⟩
theorem QJ {j:Nat}(P: ∀s,s<2*n->uU F' s=uU F s)(a:j<n):F' (j*194)=F (j*194)/\F' (j*194+1)=F (j*194+1):=
 ⟨(Ip F' j).symm.trans ((P _ om).trans (Ip F j)),(Lb F' j).symm.trans ((P _ om).trans (Lb F j))⟩
theorem PV.go {W W':Nat->Prop}{v:V}{l:List Nat}(p:PV W h v l)(f:Fx W h h')(a: ∀id,id<h.next->W' id->W id):PV W' h' v l:=⟨p.si.fx p.off f,p.off.kO p.si a⟩
theorem Slot.go {W W':Nat->Prop}{v:V}{o:Option (List Nat)}(s:Slot W h v o)(f:Fx W h h')(a: ∀id,id<h.next->W' id->W id):Slot W' h' v o:=by
 cases o with
 |none=>exact s
 |some y=>exact PV.go s f a
theorem dZ.go {W W':Nat->Prop}{vs:List V}{ls:LN}(s:dZ W h vs ls)(f:Fx W h h')(a: ∀id,id<h.next->W' id->W id):dZ W' h' vs ls:=s.mono λ_ _ x=>PV.go x f a
theorem tC.cells (R:tC h n tid L F τ)(l:h.next<=h'.next)(z: ∀id,id≠L->id<h.next->h'.get id=h.get id)(G:h'.get L=some (.cells false (rc (n*194) F')))
  (g: ∀s,s<2*n->uU F' s=uU F s) (y: ∀j,j<n->(τ' j).gens=(τ j).gens/\(τ' j).orb=(τ j).orb)
  (r: ∀j p,j<n->p<64->Slot (WT n L F) h' (F' (j*194+2+p)) ((τ' j).to p)) (u: ∀j p,j<n->p<64->Slot (WT n L F) h' (F' (j*194+66+p)) (((τ' j).to p).map bZ))
  (q: ∀j p,j<n->p<64->F' (j*194+130+p)= aC ((τ' j).tr p:Nat)):tC h' n tid L F' τ'/\Fx (WT n L F) h h'/\ ∀id,WT n L F' id↔WT n L F id:=by
 have f:Fx (WT n L F) h h':=⟨l,λid b h2=>z id (λe=>h2 (.inl e)) b⟩
 have v:=WC (L:=L) g
 have o:WT n L F'=WT n L F:=funext λid=>propext (v id)
 have w: ∀s,s<2*n-> ∀id a len c,uU F s= .sl id a len c->id<h.next->h'.get id=h.get id:=λs b id a len c e h2=>z id (λA=>(R.ap s b _ _ _ _ e) A.symm) h2
 refine⟨⟨?_,G,jM R.tn l,jM R.ln l,by rw[o];exact R.tw,by rw[o];exact r,by rw[o];exact u,q,λj d=>?_,λj d=>?_,λs x b h2 k=>by rw[g s b,g x h2];exact R.Rh s x b h2 k,λs b=>by rw[g s b];exact R.ap s b⟩,f,v⟩
 ·rw[f.get tid R.tn R.tw];exact R.t
 ·obtain⟨B,b,h2⟩:=R.gens j d
  rw[(QJ g d).1,o,(y j d).1]
  exact⟨B,b.tU l λid a m c e k=>w (2*j) om id a m c (by rw[Ip];exact e) k,h2.fx f⟩
 ·rw[(QJ g d).2,(y j d).2]
  exact (R.orb j d).tU l λid a m c e k=>w (2*j+1) om id a m c (by rw[Lb];exact e) k
structure ajU (h h':H)(n tid L:Nat)(F F':Nat->V)(s0:Nat):Prop where
 fx:Fx (WT n L F) h h'
 wt: ∀id,id<h.next->WT n L F' id->WT n L F id
 Rh: ∀s s',s<2*n->s'<2*n->s≠s'->Dis (uU F' s) (uU F' s')
 ap: ∀s,s<2*n->dR (uU F' s) L
 own: ∀s,s<2*n->s≠s0->uU F' s=uU F s/\ ∀ws,dH h (uU F s) 1 ws 0->dH h' (uU F s) 1 ws 0
theorem tC.ajY (R:tC h n tid L F τ){s0 x m:Nat}(t:s0<2*n){ws us:List V}(p:vG h (uU F s0) x m 1 ws us h2)(g: ∀s,s<2*n->s≠s0->uU F' s=uU F s){G:pY}(f:uU F' s0= .sl h.next 0 (x+m) G)(o:Option Ob):
  ajU h (h2.set L o) n tid L F F' s0:=by
 have j: ∀s,s<2*n-> ∀id a len c,uU F s= .sl id a len c->id<h.next:=λs r id a len c e=>by
  obtain⟨ws,o⟩:=R.own r;exact (o.in _ _ _ _ e).1
 have N:Fx (WT n L F) h h2:=p.fx λid a len c e=> .inr ⟨s0,t,a,len,c,e⟩
 refine⟨N.trans (Fx.set h2 (.inl rfl:WT n L F L) o) (λ_ _ h=>h),λid d z=>?_,λs k d h2 q=>?_,λs d=>?_,λs d q=>⟨g s d q,λws B=>?_⟩⟩
 ·rcases z with e|⟨s,r,a,len,c,e⟩
  ·exact .inl e
  ·by_cases b:s=s0
   ·rw[b,f] at e;cases e;omega
   ·exact .inr ⟨s,r,a,len,c,by rw[←g s r b];exact e⟩
 ·by_cases b:s=s0
  ·rw[b,f,g k h2 om]
   intro i o n c e K O v y l
   cases e
   have:=j k h2 _ _ _ _ l
   omega
  ·rw[g s d b]
   by_cases u:k=s0
   ·rw[u,f]
    intro i o n c e K O v y l
    cases l
    have:=j s d _ _ _ _ e
    omega
   ·rw[g k h2 u];exact R.Rh s k d h2 q
 ·by_cases b:s=s0
  ·rw[b,f]
   exact dR.sl (by have:=R.ln;omega)
  ·rw[g s d b];exact R.ap s d
 ·refine B.tU (show h.next<=h2.next by rw[p.next];omega) λid a m c e J=>?_
  rw[H.aH h2 (λb:id=L=>(R.ap s d _ _ _ _ e) b.symm)]
  refine p.old id om λA w v y l b=>?_
  exact R.Rh s s0 d t q _ _ _ _ e _ _ _ _ l b
def F1 (F:Nat->V)(k:Nat)(v:V):Nat->V:=λc=>if c=k then v else F c
theorem tC.slot (R:tC h n tid L F τ){e f m:Nat}(hi:i<n)(U:e<2){ws us:List V}(p:vG h (F (i*194+e)) f m 1 ws us h2){h3:H}{v:V}{o:pY}(u:o= .un 1∨o= .kn (f+m))(z:v= .sl h.next 0 (f+m) o)(k:h3=h2.set L (some (.cells false (rc (n*194) (F1 F (i*194+e) v)))))
  (a: ∀j,j<n->(τ' j).to=(τ j).to/\(τ' j).tr=(τ j).tr)
  (J:Fx (WT n L F) h h3->(∀id,id<h.next->WT n L (F1 F (i*194+e) v) id->WT n L F id)->(∀s,s<2*n->s≠2*i+e-> ∀ws,dH h (uU F s) 1 ws 0->dH h3 (uU F s) 1 ws 0)->dH h3 v 1 (ws++us) 0->ws.length=f*1/\us.length=m*1->
   (∀j,j<n-> ∃vs,dH h3 (F1 F (i*194+e) v (j*194)) 1 vs 0/\dZ (WT n L (F1 F (i*194+e) v)) h3 vs (τ' j).gens)/\ ∀j,j<n->dH h3 (F1 F (i*194+e) v (j*194+1)) 1 (ints (zi (τ' j).orb)) 0)
  (x:ws.length=f*1/\us.length=m*1):
  tC h3 n tid L (F1 F (i*194+e) v) τ'/\Fx (WT n L F) h h3/\ ∀id,id<h.next->WT n L (F1 F (i*194+e) v) id->WT n L F id:=by
 have w: ∀s,s<2*n->s≠2*i+e->uU (F1 F (i*194+e) v) s=uU F s:=λs d h2=>by
  unfold uU F1;rw[bU om]
 have g:(2*i+e)/2*194+(2*i+e)%2=i*194+e:=om
 have r:uU F (2*i+e)=F (i*194+e):=by unfold uU;rw[g]
 have y:uU (F1 F (i*194+e) v) (2*i+e)= .sl h.next 0 (f+m) o:=by unfold uU F1;rw[g,bJ rfl,z]
 have G:=R.ajY (F':=F1 F (i*194+e) v) (s0:=2*i+e) om (by rw[r];exact p) w y (some (.cells false (rc (n*194) (F1 F (i*194+e) v))))
 rw[←k] at G
 obtain⟨A,N⟩:=J G.fx G.wt (λs d h2=>(G.own s d h2).2) (by
  rw[z,k];have K:dH h2 (.sl h.next 0 (f+m) o) 1 (ws++us) 0:= .inr ⟨h.next,f+m,o, [],rfl,by rw[iV,x.1,x.2];omega,by rcases u with e|e;exact .inl e;exact .inr ⟨e,rfl⟩,iB _,by rw[p.next];omega,by rw[tZ];exact p.get⟩;refine K.tU (dT _) λid O m c e P=>?_
  cases e
  exact H.aH h2 (by have:=R.ln;omega) _) x
 have Q: ∀j c,2<=c->c<194->F1 F (i*194+e) v (j*194+c)=F (j*194+c):=λj c d h2=>by
  unfold F1;rw[bU om]
 have l: ∀j b c,2<=b->b+c<194->F1 F (i*194+e) v (j*194+b+c)=F (j*194+b+c):=λj b c d h2=>by
  rw[Nat.add_assoc];exact Q j (b+c) om h2
 have q:=G.fx.next
 refine⟨⟨?_,by rw[k,H.aU],jM R.tn q,jM R.ln q,λB=>R.tw (G.wt _ R.tn B),λj p d h2=>?_,λj p d h2=>?_,λj p d h2=>?_,A,N,G.Rh,G.ap⟩,G.fx,G.wt⟩
 ·rw[G.fx.get tid R.tn R.tw];exact R.t
 ·rw[l j 2 p om om,(a j d).1];exact (R.to j p d h2).go G.fx G.wt
 ·rw[l j 66 p om om,(a j d).1];exact (R.iv j p d h2).go G.fx G.wt
 ·rw[l j 130 p om om,(a j d).2];exact R.tr j p d h2
theorem tC.more (R:tC h n tid L F τ)(hi:i<n){vs:List V}{d:V}{r:List Nat}(pv:dZ (WT n L F) h vs (τ i).gens)(m:PV (WT n L F) h d r)(p:vG h (F (i*194)) (τ i).gens.length 1 1 vs [d] h2){h3:H}{v:V}(o:v= .sl h.next 0 ((τ i).gens.length+1) (.un 1))(c:h3=h2.set L (some (.cells false (rc (n*194) (F1 F (i*194) v))))):
  tC h3 n tid L (F1 F (i*194) v) (wM τ i ((τ i).more r))/\Fx (WT n L F) h h3/\ ∀id,id<h.next->WT n L (F1 F (i*194) v) id->WT n L F id:=by
 refine R.slot (e:=0) hi om p (.inl rfl) o c (λj a=>?_) (λf b g q s=>⟨λj a=>?_,λj a=>?_⟩) ⟨by have:=aN.length pv;omega,rfl⟩
 ·by_cases e:j=i
  ·subst e;rw[cM];exact⟨rfl,rfl⟩
  ·rw[eD _ _ e];exact⟨rfl,rfl⟩
 ·by_cases e:j=i
  ·subst e
   rw[cM]
   refine⟨vs++ [d],?_,(dZ.go pv f b).append (dZ.one (PV.go m f b))⟩
   unfold F1;rw[bJ (Nat.add_zero _).symm];exact q
  ·rw[eD _ _ e]
   obtain⟨k,l,h2⟩:=R.gens j a
   refine⟨k,?_,dZ.go h2 f b⟩
   have:=g (2*j) om om k (by rw[Ip];exact l)
   rw[Ip] at this
   unfold F1;rw[bU om];exact this
 ·have:=g (2*j+1) om om _ (by rw[Lb];exact R.orb j a)
  rw[Lb] at this
  unfold F1;rw[bU om]
  by_cases e:j=i
  ·subst e;rw[cM];exact this
  ·rw[eD _ _ e];exact this
theorem tC.SX (R:tC h n tid L F τ)(hi:i<n){q:Nat}(p:vG h (F (i*194+1)) (τ i).orb.length 1 1 (ints (zi (τ i).orb)) [aC q] h2){h3:H}{v:V}{b:pY}(d:b= .un 1∨b= .kn ((τ i).orb.length+1))(r:v= .sl h.next 0 ((τ i).orb.length+1) b)(c:h3=h2.set L (some (.cells false (rc (n*194) (F1 F (i*194+1) v))))):
  tC h3 n tid L (F1 F (i*194+1) v) (wM τ i {τ i with orb:=(τ i).orb++ [q]})/\Fx (WT n L F) h h3/\ ∀id,id<h.next->WT n L (F1 F (i*194+1) v) id->WT n L F id:=by
 refine R.slot (e:=1) hi om p d r c (λj a=>?_) (λf g k s t=>⟨λj a=>?_,λj a=>?_⟩) ⟨by rw[aP,aS,tW],rfl⟩
 ·by_cases e:j=i
  ·subst e;rw[cM];exact⟨rfl,rfl⟩
  ·rw[eD _ _ e];exact⟨rfl,rfl⟩
 ·obtain⟨l,m,h2⟩:=R.gens j a
  have:=k (2*j) om om l (by rw[Ip];exact m)
  rw[Ip] at this
  refine⟨l,?_,?_⟩
  ·unfold F1;rw[bU om];exact this
  ·by_cases e:j=i
   ·subst e;rw[cM];exact dZ.go h2 f g
   ·rw[eD _ _ e];exact dZ.go h2 f g
 ·by_cases e:j=i
  ·subst e
   rw[cM]
   have o:ints (zi ((τ j).orb++ [q]))=ints (zi (τ j).orb)++ [aC q]:=by simp [zi,ints]
   show dH h3 _ 1 (ints (zi ((τ j).orb++ [q]))) 0
   rw[o]
   unfold F1;rw[bJ rfl];exact s
  ·rw[eD _ _ e]
   have:=k (2*j+1) om om _ (by rw[Lb];exact R.orb j a)
   rw[Lb] at this
   unfold F1;rw[bU om];exact this
theorem tC.tick (R:tC h n tid L F τ)(hi:i<n){q:Nat}(l:q<64){z:Int}(g:z=((τ i).tr q:Nat)+1){h3:H}(c:h3=h.set L (some (.cells false (rc (n*194) (F1 F (i*194+130+q) (aC z)))))):
  tC h3 n tid L (F1 F (i*194+130+q) (aC z)) (wM τ i ((τ i).tick q))/\Fx (WT n L F) h h3/\ ∀id,WT n L (F1 F (i*194+130+q) (aC z)) id↔WT n L F id:=by
 subst c
 have f:Fx (WT n L F) h (h.set L (some (.cells false (rc (n*194) (F1 F (i*194+130+q) (aC z)))))):=Fx.set h (.inl rfl) _
 have b: ∀j,(wM τ i ((τ i).tick q) j).to=(τ j).to/\(wM τ i ((τ i).tick q) j).gens=(τ j).gens/\(wM τ i ((τ i).tick q) j).orb=(τ j).orb:=λj=>by
  by_cases e:j=i
  ·subst e;rw[cM];exact⟨rfl,rfl,rfl⟩
  ·rw[eD _ _ e];exact⟨rfl,rfl,rfl⟩
 refine R.cells (dT _) (λid a _=>H.aH h a _) (H.aU ..) (λs k=>?_) (λj _=>(b j).2) (λj p a h2=>?_) (λj p a h2=>?_) (λj p a h2=>?_)
 ·unfold uU F1;rw[bU om]
 ·rw[(b j).1]
  have:=(R.to j p a h2).fx f
  unfold F1;rw[bU om];exact this
 ·rw[(b j).1]
  have:=(R.iv j p a h2).fx f
  unfold F1;rw[bU om];exact this
 ·have:=R.tr j p a h2
  unfold F1
  by_cases e:j=i
  ·subst e
   rw[cM]
   show _=aC (if p=q then (τ j).tr q+1 else (τ j).tr p:Nat)
   by_cases d:p=q
   ·subst d;rw[bJ rfl,bJ rfl,g];rfl
   ·rw[bU om,bU d];exact this
  ·rw[bU om,eD _ _ e];exact this
theorem tC.way (R:tC h n tid L F τ)(hi:i<n){q:Nat}(v:q<64){d g:V}{y:List Nat}(t:PV (WT n L F) h d y)(o:PV (WT n L F) h g (bZ y)){h3:H}(k:h.next<=h3.next)(l: ∀id,id≠L->id<h.next->h3.get id=h.get id)
  (m:h3.get L=some (.cells false (rc (n*194) (F1 (F1 F (i*194+2+q) d) (i*194+66+q) g)))):
  tC h3 n tid L (F1 (F1 F (i*194+2+q) d) (i*194+66+q) g) (wM τ i {τ i with to:=λr=>if r=q then some y else (τ i).to r})/\Fx (WT n L F) h h3/\ ∀id,WT n L (F1 (F1 F (i*194+2+q) d) (i*194+66+q) g) id↔WT n L F id:=by
 have f:Fx (WT n L F) h h3:=⟨k,λid a h2=>l id (λe=>h2 (.inl e)) a⟩
 have b: ∀j,(wM τ i {τ i with to:=λr=>if r=q then some y else (τ i).to r} j).tr=(τ j).tr/\(wM τ i {τ i with to:=λr=>if r=q then some y else (τ i).to r} j).gens=(τ j).gens/\(wM τ i {τ i with to:=λr=>if r=q then some y else (τ i).to r} j).orb=(τ j).orb:=λj=>by
  by_cases e:j=i
  ·subst e;rw[cM];exact⟨rfl,rfl,rfl⟩
  ·rw[eD _ _ e];exact⟨rfl,rfl,rfl⟩
 refine R.cells k l m (λs u=>?_) (λj _=>(b j).2) (λj p a h2=>?_) (λj p a h2=>?_) (λj p a h2=>?_)
 ·unfold uU F1;rw[bU om,bU om]
 ·have:=(R.to j p a h2).fx f
  unfold F1
  by_cases e:j=i
  ·subst e
   rw[cM]
   show Slot _ _ _ (if p=q then some y else (τ j).to p)
   by_cases c:p=q
   ·subst c;rw[bU om,bJ rfl,bJ rfl];exact PV.fx t f
   ·rw[bU om,bU om,bU c];exact this
  ·rw[bU om,bU om,eD _ _ e];exact this
 ·have:=(R.iv j p a h2).fx f
  unfold F1
  by_cases e:j=i
  ·subst e
   rw[cM]
   show Slot _ _ _ ((if p=q then some y else (τ j).to p).map bZ)
   by_cases c:p=q
   ·subst c;rw[bJ rfl,bJ rfl];exact PV.fx o f
   ·rw[bU om,bU om,bU c];exact this
  ·rw[bU om,bU om,eD _ _ e];exact this
 ·rw[(b j).1]
  have:=R.tr j p a h2
  unfold F1;rw[bU om,bU om];exact this
end
theorem DC {l:List Nat}(nd:l.Nodup){k:Nat}(a:k<l.length):l.getD k 0∉l.take k:=by
 intro h;obtain⟨m,d,e⟩:=Ad.1 h;have b:m<k:=by simp at d;omega
 rw[List.getElem_take,cW a] at e;have c:=nd.idxOf_getElem m om;have f:=nd.idxOf_getElem k a;rw[e] at c;omega
theorem agL {n i:Nat}{τ b:qD}{y s u z:List Nat}{q k:Nat}(c:CI n i τ)(G:i+1<n)(x:(τ i).to q=some y)(F:(τ i).tr q=k)(g:(τ i).gens[k]? =some s)(A:(τ i).to ((aM y s).getD i 0)=some u)
  (B:z=aM (aM y s) (bZ u)) (a:Ks n (i+1) z (wM τ i ((τ i).tick q)) b):CI n i b/\b i=(τ i).tick q/\ ∀j,j<i->b j=τ j:=by
 have v:b i=(τ i).tick q:=(a.low i om).trans (cM ..)
 have f: ∀j,j<i->b j=τ j:=λj o=>(a.low j om).trans (eD _ _ om)
 have K:Ks n (i+1) z τ (wM b i (τ i)):=by
  have w: ∀j,i<j->wM τ i ((τ i).tick q) j=τ j:=λj o=>eD _ _ om
  have d: ∀j,i<j->wM b i (τ i) j=b j:=λj o=>eD _ _ om
  refine⟨λj o=>?_,a.tw.congr λj L _=>(d j om).symm,λs g=>?_,λs g=>?_,?_⟩
  ·by_cases e:j=i
   ·subst e;exact cM ..
   ·rw[eD _ _ e];exact f j om
  ·rw[d _ om];exact a.old s (by rw[w _ om];exact g)
  ·rw[d _ om] at g
   have:=a.new s g;rwa [w _ om] at this
  ·rw[d _ om];exact a.has
 have l:s∈(τ i).gens:=Xu g
 obtain⟨_,_,p⟩:=c.Od om x l A
 obtain⟨J,r⟩:=c.added G K (by rw[B];exact p)
 have m:wM b i (τ i) i=τ i:=cM ..
 have t:=J.tick (q:=q) (k:=k) (y:=y) (s:=s) (u:=u) (by rw[m];exact x) (by rw[m];exact F) (by rw[m];exact g) (by rw[m];exact A) (by rw[←B];exact r)
 have e:wM (wM b i (τ i)) i ((wM b i (τ i) i).tick q)=b:=by
  funext j
  by_cases h:j=i
  ·subst h;rw[cM,cM,v]
  ·rw[eD _ _ h,eD _ _ h]
 rw[e] at t
 exact⟨t,v,f⟩
theorem dH.lens {h:H}{v:V}{ws:List V}{b n:Nat}(o:dH h v 1 ws b)(a:ws.length=n):bL v=some (aC n):=by
 unfold bL;rw[o.sv.len (n:=n) om om];rfl
theorem FU {F:Nat->V}{k c:Nat}{v:V}(h:c≠k):F1 F k v c=F c:=bU h
theorem Kb {N k:Nat}{F:Nat->V}(a:k<N)(hh:H)(L:Nat)(v:V):eU (some (.cells false (rc N F))) hh L k [v]=some (hh.set L (some (.cells false (rc N (F1 F k v))))):=by
 rw[bT (by rw[iQ];exact a),lH];rfl
def acJ (h:H)(n tid L:Nat)(F:Nat->V)(τ:qD)(i:Nat)(x:List Nat):V->H->Prop:=λ_ h'=> ∃F' τ',tC h' n tid L F' τ'/\Ks n i x τ τ'/\Fx (WT n L F) h h'/\ ∀id,id<h.next->WT n L F' id->WT n L F id
def LA (h:H)(n tid L:Nat)(F:Nat->V)(τ:qD)(i:Nat):V->H->Prop:=λ_ h'=> ∃F' τ',tC h' n tid L F' τ'/\pX n i τ'/\(∀j,j<i->τ' j=τ j)/\(τ' i).gens=(τ i).gens/\Fx (WT n L F) h h'/\ ∀id,id<h.next->WT n L F' id->WT n L F id
def ZL (n i:Nat):Prop:= ∀(h:H) (tid L:Nat) (F:Nat->V) (τ:qD) (vx:V) (x:List Nat),tC h n tid L F τ->PV (WT n L F) h vx x->aY n x->Fix i x->pX n i τ->Ev T 193 [.ptr tid 0,vx,aC i] h (acJ h n tid L F τ i x)
def Vg (n i:Nat):Prop:= ∀(h:H) (tid L:Nat) (F:Nat->V) (τ:qD),tC h n tid L F τ->CI n i τ->Ev T 230 [.ptr tid 0,aC i] h (LA h n tid L F τ i)
structure ClS (h:H)(n tid L:Nat)(F:Nat->V)(τ:qD)(i:Nat)(h':H)(F':Nat->V)(τ':qD)(k:Nat):Prop where
 R:tC h' n tid L F' τ'
 c:CI n i τ'
 hk:k<=(τ' i).orb.length
 done: ∀r∈(τ' i).orb.take k,(τ' i).tr r=(τ' i).gens.length
 low: ∀j,j<i->τ' j=τ j
 gens:(τ' i).gens=(τ i).gens
 fx:Fx (WT n L F) h h'
 wt: ∀id,id<h.next->WT n L F' id->WT n L F id
theorem YF {n j:Nat}{l:Lv}(V:UY n j l)(b:j<n):l.orb.length<=n:=by
 have:=List.Nodup.length_le_of_subset V.nd (l₂:=List.range n) λx a=>Dj.2 (V.lt b a)
 simpa using this
theorem Vv (n i:Nat)(hn:n<=7)(hi:i<n)(A:i+1<n->ZL n (i+1)):Vg n i:=by
 intro h a1 L F τ R c;refine dW sH rfl ?_;have cl:h.cell a1 1=some (.sl L 0 n (.kn n)):=by rw[H.cell_of R.t];rfl
 simp(disch:=omega)only[go_sem,sH,aE,cl];refine aI (λm N hh=> ∃(k:Nat) (F':Nat->V) (Q:qD),(∃g:Nat->V,N= [.ptr a1 0,aC i,.ptr L (i*194),aC k,g 4,g 5,g 6,g 7,g 8,g 9,g 10,g 11])/\ClS h n a1 L F τ i hh F' Q k/\m=n-k) n
  ⟨0,F,τ,aB rfl,⟨R,c,iB _,λr d=>by simp at d,λ_ _=>rfl,rfl,Fx.refl _ h,λ_ _ h=>h⟩,rfl⟩ ?_
 rintro m N x ⟨k,a5,o,⟨g,rfl⟩,S,rfl⟩;have co:x.cell L (i*194+1)=some (a5 (i*194+1)):=S.R.cell hi om;have oo:=S.R.orb i hi;have lo:=dH.lens oo (by rw[aP,aS]);have d0:=YF S.c.nG hi;simp(disch:=omega)only[go_sem,co,lo]
 by_cases a0:(k:Int)<((o i).orb.length:Int)
 case neg=>
  rw[bI a0];simp(disch:=omega)only[go_sem];refine⟨a5,o,S.R,S.c.full λq hq=>S.done q ?_,S.low,S.gens,S.fx,S.wt⟩;rw[Ro om];exact hq
 rw[cI a0];have b:k<(o i).orb.length:=om
 obtain⟨id,e7,sh,c5,hc⟩:=(show SI x (a5 (i*194+1)) (zi (o i).orb) from oo.sv).open;rw[aS] at sh c5 hc;obtain⟨q,hq⟩:=exI ((o i).orb.getD k 0);have ck:x.cell id (e7+k)=some (aC q):=by rw[hc k b];congr 2;simp [zi,b,←hq]
 simp(disch:=omega)only[go_sem,co,sh.ixa,ck];have b6:q∈(o i).orb:=by rw[←hq,cW b];exact xG b
 have f1:q<n:=S.c.nG.lt hi b6;clear sh c5 hc ck co lo oo d0 b6
 refine aI (λm N hh=> ∃(F':Nat->V) (Q:qD),(∃g:Nat->V,N= [.ptr a1 0,aC i,.ptr L (i*194),aC k,aC q,g 5,g 6,g 7,g 8,g 9,g 10,g 11])/\ClS h n a1 L F τ i hh F' Q k/\
   k<(Q i).orb.length/\(Q i).orb.getD k 0=q/\m=(Q i).gens.length-(Q i).tr q) ((o i).gens.length-(o i).tr q)
  ⟨a5,o,aB rfl,S,b,hq,rfl⟩ ?_
 clear a0 b hq S o a5;rintro m N K ⟨F2,a,⟨g2,rfl⟩,S,b,hq,rfl⟩;have R2:=S.R;have nG:=S.c.nG;have b6:q∈(a i).orb:=by rw[←hq,cW b];exact xG b
 obtain⟨y,hy⟩:=nG.to b6;have Y:=nG.bF _ _ hy;have b4:K.cell L (i*194+130+q)=some (aC ((a i).tr q:Nat)):=by rw[R2.Si hi om,R2.tr i q hi om]
 have cg:K.cell L (i*194)=some (F2 (i*194)):=by
  have:=R2.cell (c:=0) hi om;rwa [Nat.add_zero] at this
 obtain⟨vs,og,b0⟩:=R2.gens i hi;have lg:=dH.lens og (aN.length b0);have d0:=YF nG hi;simp(disch:=omega)only[go_sem,b4,cg,lg]
 by_cases a0:(((a i).tr q:Nat):Int)<((a i).gens.length:Int)
 case neg=>
  rw[bI a0];simp(disch:=omega)only[go_sem];rw[fJ k];have fb:Fr K (H.mk K.tr (K.next+12)):=(Fr.refl K).bH om;have f0:=nG.le q;refine⟨n-(k+1),om,k+1,F2,a,aB rfl,⟨R2.mono fb,S.c,b,λr d=>?_,S.low,S.gens,⟨mY S.fx.next fb.next,S.fx.get⟩,S.wt⟩,rfl⟩;rw[List.take_add_one,dD b,←cW b,hq] at d;rcases oD.1 d with d|d
  ·exact S.done r d
  ·simp at d;subst d;omega
 rw[cI a0];obtain⟨t,ht⟩:=exI ((a i).tr q);rw[ht] at a0 b4;have e9:(a i).gens.length<=1000000:=mY nG.many (mY (Nat.pow_le_pow_left hn n) (mY (Nat.pow_le_pow_right om hn) (by decide)));obtain⟨e2,c7,c8,d5,c4⟩:=og.sv.shape (a i).gens.length (by have:=aN.length b0;omega) om;obtain⟨vS,d1,pS⟩:=b0.at (i:=t) om;obtain⟨s,hs⟩:=exI ((a i).gens.getD t []);rw[hs] at pS
 have a4:(a i).gens[t]? =some s:=by
  rw[←hs,List.getD,dD om];rfl
 have Sp:=nG.gP s (Xu a4);have cS:K.cell e2 (c7+t)=some vS:=by rw[c4 t (by have:=aN.length b0;omega)];exact d1
 have pT:PV (WT n L F2) K (F2 (i*194+2+q)) y:=by
  have:=R2.to i q hi om;rw[hy] at this;exact this
 have hN:i*194+194<=n*194:=om
 simp(disch:=omega)only[go_sem,b4,cg,lg,c8.ixa,cS,R2.l,Kb,Nk,FU];have fb:Fr K (H.mk K.tr (K.next+12+13+11)):=(Fr.refl K).bH om
 obtain⟨h3,c1⟩: ∃h3,h3=(H.mk K.tr (K.next+12+13+11)).set L (some (.cells false (rc (n*194) (F1 F2 (i*194+130+q) (aC ((t:Int)+1)))))):=⟨_,rfl⟩
 rw[←c1];obtain⟨R3,f3,w3⟩:=(R2.mono fb).tick hi (q:=q) om (z:=(t:Int)+1) (by rw[ht]) c1;have c2:=(Fx.of (W:=WT n L F2) fb).trans f3 (λ_ _ h=>h);have c0:=PV.go pT c2 (λid _ h=>(w3 id).1 h);have d2:=PV.go pS c2 (λid _ h=>(w3 id).1 h);generalize F2 (i*194+2+q)=vt at pT c0;clear c1 pT pS b4 cg lg c8 d5 c4 cS d1 b0 og
 obtain⟨G,e1⟩: ∃G,G=F1 F2 (i*194+130+q) (aC ((t:Int)+1)):=⟨_,rfl⟩
 rw[←e1] at R3 w3 c0 d2
 obtain⟨J,w⟩: ∃J,J=wM a i ((a i).tick q):=⟨_,rfl⟩
 rw[←w] at R3;have e3:J i=(a i).tick q:=by rw[w];exact cM ..
 refine (nZ gE.ok vt vS y s h3 (by rw[Y.len];omega) c0.si d2.si (λj hj=>by rw[Sp.len];exact Y.fX (by rw[←Y.len];exact hj))).mono ?_;rintro v O nw;have P:=Y.mul Sp;obtain⟨p,hp⟩:=exI ((aM y s).getD i 0);have e8:p<n:=by rw[←hp];exact P.fX hi
 have R4:=R3.mono nw.fr;have pv:=nw.pv (W:=WT n L G) (λB=>by have:=R3.Pg B;omega)
 have cp:O.cell h3.next i=some (aC p):=by
  rw[H.cell_of nw.get,Ff (by rw[P.len];exact hi),hp]
 have e4:O.cell L (i*194+2+p)=some (G (i*194+2+p)):=R4.Si hi om;have f:=R4.to i p hi om;have ev:=nw.val;rw[P.len] at ev;have f4:Fx (WT n L F2) K O:=c2.trans (Fx.of (W:=WT n L F2) nw.fr) (λ_ _ h=>h);simp(disch:=omega)only[go_sem,ev,cp,e4];rw[←ev];have a2: ∀r∈(a i).orb.take k,r≠q:=λr d e=>DC nG.nd b (by rw[hq,←e];exact d)
 cases hpo:(a i).to p with
 |none=>
  have a9:G (i*194+2+p)= .aD:=by
   rw[e3] at f;have f:Slot _ _ _ ((a i).to p):=f;rw[hpo] at f;exact f
  simp(disch:=omega)only[go_sem,a9];refine (Df Cj.ok v n (aM y s) (H.mk O.tr (O.next+15)) om P (pv.mono ((Fr.refl O).bH om)).si).mono ?_;rintro vu h5 nu;have f5:Fr O h5:=((Fr.refl O).bH om:Fr O (H.mk O.tr (O.next+15))).trans nu.fr;have R5:=R4.mono f5;have b9:=pv.mono f5;have c3:=nu.pv (W:=WT n L G) (λB=>by have:=R4.Pg B;simp at this;omega);simp(disch:=omega)only[go_sem,R5.l,kP b9.fG.1 b9.fG.2,kP c3.fG.1 c3.fG.2,Kb,Nk,FU]
  obtain⟨F6,d4⟩: ∃F6,F6=F1 (F1 G (i*194+2+p) v) (i*194+66+p) vu:=⟨_,rfl⟩
  obtain⟨h6,b3⟩: ∃h6,h6=(h5.set L (some (Ob.cells false (rc (n*194) (F1 G (i*194+2+p) v))))).set L (some (Ob.cells false (rc (n*194) (F1 (F1 G (i*194+2+p) v) (i*194+66+p) vu)))):=⟨_,rfl⟩
  rw[←b3];obtain⟨R6,f6,w6⟩:=R5.way hi (q:=p) om b9 c3 (h3:=h6) (by rw[b3];exact dT _) (λid x _=>by rw[b3,H.aH _ x,H.aH _ x]) (by rw[b3,H.aU]);have eO:G (i*194+1)=F6 (i*194+1):=by rw[d4,FU om,FU om]
  rw[←d4] at R6 w6
  obtain⟨a3,a7⟩: ∃a3,a3=wM J i {J i with to:=λr=>if r=p then some (aM y s) else (J i).to r}:=⟨_,rfl⟩
  rw[←a7] at R6;have e6:a3 i={J i with to:=λr=>if r=p then some (aM y s) else (J i).to r}:=by rw[a7];exact cM ..
  have b7:(a3 i).orb=(a i).orb:=by rw[e6,e3];rfl
  simp(disch:=omega)only[go_sem,cK h6 (z:= aC 0) (v:= aC p) rfl rfl,eO]
  obtain⟨h7,b1⟩: ∃h7,h7=h6.new (.cells false [aC p]):=⟨_,rfl⟩
  have f7:Fr h6 h7:=by rw[b1];exact (Fr.refl h6).new _
  have n7:h7.next=h6.next+1:=by rw[b1];exact H.aW ..
  have g7:h7.get h6.next=some (.cells false [aC p]):=by rw[b1];exact H.aL ..
  rw[←b1];have R7:=R6.mono f7;have o7:=R7.orb i hi;rw[b7] at o7;obtain⟨h8,a8,p8⟩:=o7.push (bytes:=8) (SV.one om g7 (.kn 1)) (n:=(a i).orb.length) (m:=1) (by rw[aP,aS,tW]) rfl om om om
  have gL:h8.get L=some (.cells false (rc (n*194) F6)):=by
   rw[p8.old L (by have:=R7.ln;omega) (by have:=R7.ap (2*i+1) om;rw[Lb] at this;exact this)];exact R7.l
  simp(disch:=omega)only[go_sem,a8,gL,Kb]
  obtain⟨h9,d3⟩: ∃h9,h9=h8.set L (some (.cells false (rc (n*194) (F1 F6 (i*194+1) (.sl h7.next 0 ((a i).orb.length+1) (.un 1)))))):=⟨_,rfl⟩
  rw[←d3];obtain⟨R9,f9,w9⟩:=R7.SX hi (q:=p) (by rw[b7];exact p8) (.inl rfl) (by rw[b7]) d3;rw[b7] at R9
  have eT:wM a3 i {a3 i with orb:=(a i).orb++ [p]}=wM a i (((a i).tick q).reach p (aM y s)):=by
   funext j
   by_cases e:j=i
   ·subst e
    rw[cM,cM,e6,e3];rfl
   ·rw[eD _ _ e,eD _ _ e,a7,eD _ _ e,w,eD _ _ e]
  rw[eT] at R9;have c9:=S.c.found hi hy ht a4 hp hpo;have ei:wM a i (((a i).tick q).reach p (aM y s)) i=((a i).tick q).reach p (aM y s):=cM ..
  have W9: ∀id,id<K.next->WT n L (F1 F6 (i*194+1) (.sl h7.next 0 ((a i).orb.length+1) (.un 1))) id->WT n L F2 id:=λid x B=>
   (w3 id).1 ((w6 id).1 (w9 id (by have:=f4.next;have:=f5.next;have:=f6.next;have:=f7.next;omega) B))
  have b2:WT n L G=WT n L F2:=funext λid=>propext (w3 id)
  have d6:WT n L F6=WT n L F2:=(funext λid=>propext (w6 id)).trans b2;rw[b2] at f6;rw[d6] at f9;have d8:Fx (WT n L F2) K h9:=f4.trans ((Fx.of f5).trans (f6.trans ((Fx.of f7).trans f9 (λ_ _ h=>h)) (λ_ _ h=>h)) (λ_ _ h=>h)) (λ_ _ h=>h);refine⟨(a i).gens.length-(t+1),om,_,_,aB rfl,⟨R9,c9,?_,?_,λj hj=>(eD _ _ om).trans (S.low j hj),?_,S.fx.trans d8 λid x B=>S.wt id x B,λid x B=>S.wt id x (W9 id (by have:=S.fx.next;omega) B)⟩,?_,?_,?_⟩
  all_goals rw[ei]
  ·show k<=((a i).orb++ [p]).length
   rw[iV];omega
  ·intro r d
   have d:r∈((a i).orb++ [p]).take k:=d;rw[List.take_append_of_le_length om] at d;show (if r=q then (a i).tr q+1 else (a i).tr r)=(a i).gens.length;rw[bU (a2 r d)];exact S.done r d
  ·exact S.gens
  ·show k<((a i).orb++ [p]).length
   rw[iV];omega
  ·show ((a i).orb++ [p]).getD k 0=q
   rw[←hq,List.getD,List.getD,Dt b]
  ·show _=(a i).gens.length-(if q=q then (a i).tr q+1 else (a i).tr q)
   rw[bJ rfl,ht]
 |some u=>
  have U:=nG.bF _ _ hpo
  have a9:PV (WT n L G) O (G (i*194+2+p)) u:=by
   rw[e3] at f;have f:Slot _ _ _ ((a i).to p):=f;rw[hpo] at f;exact f
  have sn:=Hr a9 (aY.ne om U) false;have ct:O.cell a1 0=some (aC n):=by rw[H.cell_of R4.t];rfl
  have e0:O.cell L (i*194+66+p)=some (G (i*194+66+p)):=R4.Si hi om
  have d9:PV (WT n L G) O (G (i*194+66+p)) (bZ u):=by
   have:=R4.iv i p hi om;rw[e3] at this;have this:Slot _ _ _ (((a i).to p).map bZ):=this;rw[hpo] at this;exact this
  simp(disch:=omega)only[go_sem,sn,ct]
  by_cases b8:(i:Int)+1<(n:Int)
  ·rw[cI b8]
   simp(disch:=omega)only[go_sem,e0];refine (nZ gE.ok v _ (aM y s) (bZ u) O (by rw[P.len];omega) pv.si d9.si (λj hj=>by rw[jU,U.len];exact P.fX (by rw[←P.len];exact hj))).mono ?_;rintro v2 h5 nu;have R5:=R4.mono nu.fr;have Z:=P.mul U.inv;have pz:=nu.pv (W:=WT n L G) (λB=>by have:=R4.Pg B;omega);obtain⟨_,b5,_⟩:=S.c.Od hi hy (Xu a4) (by rw[hp];exact hpo);simp(disch:=omega)only[go_sem];rw[fJ i];refine (A om h5 a1 L G J v2 _ R5 pz Z b5 ?_).mono ?_
   ·rw[w];exact S.c.up.ahL om
   rintro vv h6 ⟨F6,a3,R6,a6,f6,w6⟩;rw[w] at a6;obtain⟨c6,e6,l6⟩:=agL S.c om hy ht a4 (by rw[hp];exact hpo) rfl a6;have b2:WT n L G=WT n L F2:=funext λid=>propext (w3 id)
   rw[b2] at f6 w6;have e5:Fx (WT n L F2) K h6:=f4.trans ((Fx.of nu.fr).trans f6 (λ_ _ h=>h)) (λ_ _ h=>h);simp(disch:=omega)only[go_sem];refine⟨(a i).gens.length-(t+1),om,_,_,aB rfl,⟨R6,c6,?_,?_,λj hj=>(l6 j hj).trans (S.low j hj),?_,S.fx.trans e5 λid x B=>S.wt id x B,λid x B=>S.wt id x (w6 id (by have:=S.fx.next;have:=f4.next;have:=nu.fr.next;omega) B)⟩,?_,?_,?_⟩
   all_goals rw[e6]
   ·exact Nat.le_of_lt b
   ·intro r d
    have d:r∈(a i).orb.take k:=d;show (if r=q then (a i).tr q+1 else (a i).tr r)=(a i).gens.length;rw[bU (a2 r d)];exact S.done r d
   ·exact S.gens
   ·exact b
   ·exact hq
   ·show _=(a i).gens.length-(if q=q then (a i).tr q+1 else (a i).tr q)
    rw[bJ rfl,ht]
  ·rw[bI b8]
   obtain⟨d7,b5,_⟩:=S.c.Od hi hy (Xu a4) (by rw[hp];exact hpo);have en:i+1=n:=om
   have c6:=S.c.tick hy ht a4 (by rw[hp];exact hpo) (by
    rw[en];rw[en] at b5
    exact wC.2 (b5.all d7))
   simp(disch:=omega)only[go_sem];rw[w] at R4;have e6:wM a i ((a i).tick q) i=(a i).tick q:=cM ..;refine⟨(a i).gens.length-(t+1),om,_,_,aB rfl,⟨R4,c6,?_,?_,λj hj=>(eD _ _ om).trans (S.low j hj),?_,S.fx.trans f4 λid x B=>S.wt id x B,λid x B=>S.wt id x ((w3 id).1 B)⟩,?_,?_,?_⟩
   all_goals rw[e6]
   ·exact Nat.le_of_lt b
   ·intro r d
    have d:r∈(a i).orb.take k:=d;show (if r=q then (a i).tr q+1 else (a i).tr r)=(a i).gens.length;rw[bU (a2 r d)];exact S.done r d
   ·exact S.gens
   ·exact b
   ·exact hq
   ·show _=(a i).gens.length-(if q=q then (a i).tr q+1 else (a i).tr q)
    rw[bJ rfl,ht]
def zW (τ:qD)(i m:Nat)(r:List Nat):qD:=λj=>if i<=j/\j<m then (τ j).more r else τ j
theorem DR (τ:qD)(i:Nat)(r:List Nat):zW τ i i r=τ:=by
 funext j;unfold zW;rw[bU om]
theorem CY (τ:qD){i m:Nat}(r:List Nat)(h:i<=m):wM (zW τ i m r) m ((zW τ i m r m).more r)=zW τ i (m+1) r:=by
 funext j
 by_cases e:j=m
 ·subst e
  rw[cM];unfold zW;rw[bU om,bJ om]
 ·rw[eD _ _ e]
  unfold zW
  by_cases a:i<=j/\j<m
  ·rw[bJ a,bJ om]
  ·rw[bU a,bU om]
theorem CH (τ:qD)(i k:Nat)(r:List Nat):zW τ i (k+1) r=push τ i k r:=by
 funext j;unfold zW push
 by_cases h:i<=j/\j<=k
 ·rw[bJ h,bJ om]
 ·rw[bU h,bU om]
theorem agA (a b c:Nat)(d:pY):dI (.sl a b c d) (.sl a b c d)=true:=by simp [dI]
theorem Ws (n b:Nat)(hn:n<=7)(hi:b<n)(C: ∀j,b<=j->j<n->Vg n j):ZL n b:=by
 intro h a L F τ vx x R hx X Fi t;refine dW wJ rfl ?_;simp(disch:=omega)only[go_sem,wJ,aE];refine (ZS h n a L F τ vx x b om om R hx X om t).mono ?_;have K:=UB (n-b) b x om t X Fi;obtain⟨k,hk⟩:=exI ((Yo n τ (n-b) b x).1);obtain⟨r,hr⟩:=exI ((Yo n τ (n-b) b x).2);rw[hk,hr] at K ⊢;rintro _ p ⟨vr,rfl,G,Rr,f1⟩;have R1:=R.mono f1;have ct:p.cell a 0=some (aC n):=by rw[H.cell_of R1.t];rfl
 simp(disch:=omega)only[go_sem,ct]
 by_cases Y:(k:Int)=(n:Int)
 ·rw[cI Y]
  have e:k=n:=om
  subst e;simp(disch:=omega)only[go_sem];exact⟨F,τ,R1,Ks.none t hi (K.in t hi),Fx.of f1,λ_ _ h=>h⟩
 rw[bI Y];have o:k<n:=by have:=K.le;omega
 have b0:=K.ge;simp(disch:=omega)only[go_sem]
 refine aI (λy d O=> ∃(m:Nat) (P:Nat->V),(∃g:Nat->V,d= [.ptr a 0,g 1,aC b,aC k,vr,aC m,g 6,g 7,g 8,g 9])/\b<=m/\m<=k+1/\tC O n a L P (zW τ b m r)/\PV (WT n L P) O vr r/\
   Fx (WT n L F) h O/\(∀id,id<h.next->WT n L P id->WT n L F id)/\y=k+1-m) (k+1-b)
  ⟨b,F,aB rfl,dT _,om,by rw[DR];exact R1,G,Fx.of f1,λ_ _ h=>h,rfl⟩ ?_
 clear R1 ct G f1;rintro y d i ⟨m,F2,⟨g,rfl⟩,q,a2,A,G,f2,w2,rfl⟩;simp(disch:=omega)only[go_sem]
 by_cases f:(m:Int)<=(k:Int)
 ·rw[cI f]
  have w:m<n:=om
  have cl:i.cell a 1=some (.sl L 0 n (.kn n)):=by rw[H.cell_of A.t];rfl
  have cg:i.cell L (m*194)=some (F2 (m*194)):=by
   have:=A.cell (c:=0) w om;rwa [Nat.add_zero] at this
  have z:zW τ b m r m=τ m:=by unfold zW;rw[bU om]
  have ln:=A.ln;have tn:=A.tn;simp(disch:=omega)only[go_sem,cl,cg,cK _ G.fG.1 G.fG.2]
  obtain⟨u,s⟩: ∃u:H,u=H.mk ((H.mk i.tr (i.next+14)).new (Ob.cells false [vr])).tr (i.next+19):=⟨_,rfl⟩
  rw[←s];have g3:u.get (i.next+14)=aF [vr]:=by rw[s];exact H.aL (H.mk i.tr (i.next+14)) _
  have n3:u.next=i.next+19:=by rw[s]
  have N:Fr i u:=⟨om,λid a9=>by rw[s];exact H.bG (H.mk i.tr (i.next+14)) (by simp;omega) _⟩
  have v:=A.mono N;have a0:=G.mono N;obtain⟨vs,o3,J⟩:=v.gens m w;rw[z] at J;have nG:=(t m q w).1;have a8:(τ m).gens.length<=1000000:=mY nG.many (mY (Nat.pow_le_pow_left hn n) (mY (Nat.pow_le_pow_right om hn) (by decide)));obtain⟨U,a4,p4⟩:=o3.push (bytes:=24) (SV.one om g3 (.kn 1)) (n:=(τ m).gens.length) (m:=1) (by have:=aN.length J;omega) rfl om om om;have gt:U.get a=u.get a:=p4.old a om (λid a6 nn c e e2=>v.tw (.inr ⟨2*m,om,a6,nn,c,by rw[Ip,e2];exact e⟩))
  have gL:U.get L=aF (rc (n*194) F2):=by
   rw[p4.old L om (by have:=v.ap (2*m) om;rw[Ip] at this;exact this)];exact v.l
  have a5:U.cell a 1=some (.sl L 0 n (.kn n)):=by unfold H.cell;rw[gt,v.t];rfl
  have hN:m*194+194<=n*194:=om
  simp(disch:=omega)only[go_sem,a4,a5,agA,gL,Kb]
  obtain⟨h5,a3⟩: ∃h5,h5=U.set L (aF (rc (n*194) (F1 F2 (m*194) (.sl u.next 0 ((τ m).gens.length+1) (.un 1))))):=⟨_,rfl⟩
  rw[←a3];obtain⟨R5,f5,w5⟩:=v.more w (by rw[z];exact J) a0 (by rw[z];exact p4) (by rw[z]) a3;rw[CY τ r q] at R5;rw[fJ m];refine⟨k+1-(m+1),om,m+1,_,aB rfl,om,om,R5,PV.go a0 f5 w5,f2.trans ((Fx.of (W:=WT n L F2) N).trans f5 (λ_ _ h=>h)) (λid p B=>w2 id p B),λid p B=>w2 id p (w5 id (by have:=f2.next;omega) B),rfl⟩
 rw[bI f];have z:m=k+1:=om
 subst z;rw[CH] at A;simp(disch:=omega)only[go_sem];have a1:=Nv.start K t o
 refine aI (λy d O=> ∃(m:Nat) (P:Nat->V) (Q:qD),(∃g:Nat->V,d= [.ptr a 0,g 1,aC b,g 3,g 4,g 5,aC ((m:Int)- 1),g 7,g 8,g 9])/\b<=m/\m<=k+1/\tC O n a L P Q/\Nv n b k r τ Q m/\
   Fx (WT n L F) h O/\(∀id,id<h.next->WT n L P id->WT n L F id)/\y=m) (k+1)
  ⟨k+1,F2,_,aB (by rw[show ((k+1:Nat):Int)- 1=(k:Int) from om];rfl),om,om,A,a1,f2,w2,rfl⟩ ?_
 clear A a1 f2 w2 G f q a2;rintro y d u ⟨m,F3,Z,⟨g3,rfl⟩,q,a2,v,AI,N,w3,hm⟩;subst hm;simp(disch:=omega)only[go_sem]
 by_cases f:(b:Int)<=(y:Int)- 1
 ·rw[cI f]
  obtain⟨j,rfl⟩: ∃j,y=j+1:=⟨y- 1,om⟩
  have ci:=AI.ci K t o om om;simp(disch:=omega)only[go_sem];rw[show ((j+1:Nat):Int)- 1=(j:Int) from om];refine (C j om om u a L F3 Z v ci).mono ?_;rintro _ U ⟨F4,a7,R4,t4,l4,g4,f4,w4⟩;simp(disch:=omega)only[go_sem];refine⟨j,om,j,F4,a7,aB rfl,om,om,R4,AI.next om om l4 g4 t4,N.trans f4 (λid p B=>w3 id p B),λid p B=>w3 id p (w4 id (by have:=N.next;omega) B),rfl⟩
 rw[bI f];have z:y=b:=om
 rw[z] at AI;simp(disch:=omega)only[go_sem];exact⟨F3,Z,v,AI.done K t X o,N,w3⟩
theorem Wk (n:Nat)(b:n<=7): ∀d i,i+d=n->(i<n->ZL n i)/\(i<n->Vg n i)
 |0,i,h=>⟨λa=>om,λa=>om⟩
 |d+1,i,h=>by
  have f:=Wk n b d (i+1) om
  have c: ∀j,i<=j->j<n->Vg n j:=λj k a=>by
   by_cases e:j=i
   ·subst e;exact Vv n j b a λg=>f.1 g
   ·exact (Wk n b (n-j) j om).2 a
  exact⟨λa=>Ws n i b a c,λa=>c i (dT _) a⟩
termination_by d=>d
theorem ahX (n:Nat)(a:n<=7)(b:0<n):ZL n 0:=(Wk n a n 0 om).1 b
end Go.Proofs.YtcdbmkidaecdiaaGreat
namespace Go.Pm
set_option maxRecDepth 100000
section
variable {x y:List Nat} {O:Al} {R:TH}
def Lt (x y:List Nat):Prop:= ∃k,k<x.length/\(∀j,j<k->x.getD j 0=y.getD j 0)/\x.getD k 0<y.getD k 0
def Le (x y:List Nat):Prop:=x=y∨Lt x y
theorem Lt.asymm (a:Lt x y)(b:Lt y x):False:=by
 obtain⟨k,_,c,e⟩:=a;obtain⟨m,_,d,f⟩:=b;rcases Nat.lt_trichotomy k m with h|h|h
 ·have:=d k h;omega
 ·subst h;omega
 ·have:=c m h;omega
theorem Le.antisymm (a:Le x y)(b:Le y x):x=y:=by
 rcases a with a|a
 ·exact a
 ·rcases b with b|b
  ·exact b.symm
  ·exact (a.asymm b).elim
def pG (x:List Nat):Nat->List Nat->Nat
 |b, []=>b
 |b,q::l=>pG x (if x.getD q 0<x.getD b 0 then q else b) l
theorem JC (x:List Nat): ∀(l:List Nat) (b:Nat),pG x b l∈b::l/\ ∀q∈b::l,x.getD (pG x b l) 0<=x.getD q 0
 | [],b=>⟨by simp [pG],λq d=>by simp at d;subst d;exact Nat.le_refl _⟩
 |q::l,b=>by
  have c:=JC x l (if x.getD q 0<x.getD b 0 then q else b);unfold pG;refine⟨?_,λr a=>?_⟩
  ·rcases List.mem_cons.1 c.1 with h|h
   ·rw[h];split<;>simp
   ·exact List.mem_cons_of_mem _ (List.mem_cons_of_mem _ h)
  ·have e:=c.2 _ (List.mem_cons_self ..)
   rcases List.mem_cons.1 a with rfl|a
   ·split at e<;>(split<;>omega)
   ·rcases List.mem_cons.1 a with rfl|a
    ·split at e<;>(split<;>omega)
    ·exact c.2 r (List.mem_cons_of_mem _ a)
def Lx (τ:qD):Nat->Nat->List Nat->List Nat
 |0,_,x=>x
 |d+1,k,x=>Lx τ d (k+1) (if pG x k (τ k).orb=k then x else aM (((τ k).to (pG x k (τ k).orb)).getD []) x)
section
variable {n:Nat} {τ:qD} {G:List Nat->Prop}
theorem TQ: ∀(d k:Nat) (x:List Nat),k+d=n->pX n k τ->aY n x-> ∃h,S n τ k h/\Lx τ d k x=aM h x/\ ∀g,S n τ k g->Le (Lx τ d k x) (aM g x)
 |0,k,x,h,_,X=>by
  obtain rfl:k=n:=oq
  refine⟨aX k,wC.2 rfl,(bX X).symm,λg f=> .inl ?_⟩;rw[wC] at f;subst f;exact (bX X).symm
 |d+1,k,x,h,t,X=>by
  have a:k<n:=oq
  have L:=(t k (Nat.le_refl _) a).1;have i:=t.mono (Nat.le_succ k);obtain⟨N,F⟩:=JC x (τ k).orb k
  have B:pG x k (τ k).orb∈(τ k).orb:=by
   rcases List.mem_cons.1 N with h|h
   ·rw[h];exact L.base
   ·exact h
  obtain⟨y,c⟩:=L.to B;have Y:=L.bF _ y c
  have s:(if pG x k (τ k).orb=k then x else aM (((τ k).to (pG x k (τ k).orb)).getD []) x)=aM y x:=by
   split
   ·rename_i e
    rw[e,L.one] at c;cases c;exact (bX X).symm
   ·rw[c];rfl
  unfold Lx;rw[s];obtain⟨g,f,e,q⟩:=TQ d (k+1) (aM y x) oq i (Y.mul X);have m:=i.bF a f;have z:S n τ k (aM g y):=(qQ a).2 ⟨_,y,g,c,f,rfl⟩;refine⟨aM g y,z,by rw[e,aG m Y X],λu w=>?_⟩;have U:=t.bF oq w;obtain⟨v,l,o⟩:=t.sift a w;have b:=L.mem l;have V:=L.bF _ v l;have J:(aM u x).getD k 0=x.getD (u.getD k 0) 0:=dE (by rw[U.len];exact a)
  have K:(aM g (aM y x)).getD k 0=x.getD (pG x k (τ k).orb) 0:=by
   rw[dE (by rw[m.len];exact a),i.fix a f k oq,dE (by rw[Y.len];exact a),L.maps _ y c]
  have P:=F _ (List.mem_cons_of_mem _ b)
  by_cases p:x.getD (pG x k (τ k).orb) 0<x.getD (u.getD k 0) 0
  ·rw[e]
   refine .inr ⟨k,by rw[fQ,m.len];exact a,λj A=>?_,by rw[J,K];exact p⟩;rw[dE (by rw[m.len];omega),i.fix a f j oq,dE (by rw[Y.len];omega),L.fix _ y c j A,dE (by rw[U.len];omega),t.fix oq w j A]
  ·have r:pG x k (τ k).orb=u.getD k 0:=X.inj (L.lt a B) (L.lt a b) oq
   rw[←r,c] at l;cases l;have:=q _ o;rwa [aG U Y.inv (Y.mul X),←aG Y.inv Y X,dL Y,bX X] at this
structure Yl (n:Nat)(G:List Nat->Prop)(i p:Nat)(x:List Nat):Prop where
 mem:G x
 fix:Fix i x
 maps:x.getD i 0=p
 least: ∀y,G y->Fix i y->y.getD i 0=p->Le x y
theorem Yl.uniq {i p:Nat}(a:Yl n G i p x)(b:Yl n G i p y):x=y:=
 (a.least y b.mem b.fix b.maps).antisymm (b.least x a.mem a.fix a.maps)
structure aV (n:Nat)(G:List Nat->Prop)(O:Al)(R:TH):Prop where
 lo:O.length=n
 lr:R.length=n
 asc: ∀i,i<n->(O.getD i []).Pairwise (· < ·)
 mem: ∀i,i<n-> ∀p,p∈O.getD i []↔ ∃x,G x/\Fix i x/\x.getD i 0=p
 rl: ∀i,i<n->(R.getD i []).length=(O.getD i []).length
 rep: ∀i,i<n-> ∀k,k<(O.getD i []).length->Yl n G i ((O.getD i []).getD k 0) ((R.getD i []).getD k [])
theorem pL: ∀{a b:List Nat},a.Pairwise (· < ·)->b.Pairwise (· < ·)->(∀p,p∈a↔p∈b)->a=b
 | [], [],_,_,_=>rfl
 | [],y::b,_,_,h=>by have:=(h y).2 (by simp);simp at this
 |x::a, [],_,_,h=>by have:=(h x).1 (by simp);simp at this
 |x::a,y::b,ha,hb,h=>by
  obtain⟨j,l⟩:=List.pairwise_cons.1 ha;obtain⟨i,k⟩:=List.pairwise_cons.1 hb
  have e:x=y:=by
   have c:=(h x).1 (by simp);have f:=(h y).2 (by simp);rcases List.mem_cons.1 c with c|c
   ·exact c
   ·rcases List.mem_cons.1 f with f|f
    ·exact f.symm
    ·have:=i x c;have:=j y f;omega
  subst e;congr 1
  refine pL l k λp=>⟨λd=>?_,λd=>?_⟩
  ·rcases List.mem_cons.1 ((h p).1 (List.mem_cons_of_mem _ d)) with e|g
   ·subst e;have:=j p d;omega
   ·exact g
  ·rcases List.mem_cons.1 ((h p).2 (List.mem_cons_of_mem _ d)) with e|g
   ·subst e;have:=i p d;omega
   ·exact g
theorem Hf {α:Type}{d:α}{a b:List α}(e:a.length=b.length)(h: ∀i,i<a.length->a.getD i d=b.getD i d):a=b:=by
 refine List.ext_getElem e λi c f=>?_
 have:=h i c;simpa [List.getD,c,f] using this
theorem aV.uniq {c:Al}{g:TH}(a:aV n G O R)(b:aV n G c g):O=c/\R=g:=by
 have e:O=c:=Hf (d:= []) (by rw[a.lo,b.lo]) λi hi=>by
  rw[a.lo] at hi;exact pL (a.asc i hi) (b.asc i hi) λp=>(a.mem i hi p).trans (b.mem i hi p).symm
 subst e;refine⟨rfl,Hf (d:= []) (by rw[a.lr,b.lr]) λi hi=>?_⟩;rw[a.lr] at hi;refine Hf (d:= []) (by rw[a.rl i hi,b.rl i hi]) λk f=>?_
 rw[a.rl i hi] at f;exact (a.rep i hi k f).uniq (b.rep i hi k f)
theorem aV.congr {H:List Nat->Prop}(a:aV n G O R)(h: ∀x,G x↔H x):aV n H O R:=by
 have:G=H:=funext λx=>propext (h x)
 exact this▸a
theorem pX.chain (t:pX n 0 τ)(F:O.length=n)(K:R.length=n)
  (q: ∀i,i<n->(O.getD i []).Pairwise (· < ·)) (mem: ∀i,i<n-> ∀p,p∈O.getD i []↔p∈(τ i).orb) (J: ∀i,i<n->(R.getD i []).length=(O.getD i []).length)
  (r: ∀i,i<n-> ∀k,k<(O.getD i []).length-> ∀y,(τ i).to ((O.getD i []).getD k 0)=some y->(R.getD i []).getD k []=Lx τ (n-(i+1)) (i+1) y):aV n (S n τ 0) O R:=by
 refine⟨F,K,q,λi hi p=>?_,J,λi hi k l=>?_⟩
 ·have L:=(t i (Nat.zero_le _) hi).1
  have d:=t.mono (Nat.zero_le i)
  rw[mem i hi p]
  constructor
  ·intro g
   obtain⟨y,a⟩:=L.to g
   have B:S n τ i y:=(d.gen hi).2 (L.gen p y a)
   have:=(t.Xc (Nat.zero_le i) oq).1 B
   exact⟨y,this.1,this.2,L.maps p y a⟩
  ·rintro⟨x,c,j,rfl⟩
   obtain⟨y,a,_⟩:=d.sift hi ((t.Xc (Nat.zero_le i) oq).2 ⟨c,j⟩)
   exact L.mem a
 ·have L:=(t i (Nat.zero_le _) hi).1
  have d:=t.mono (Nat.zero_le i)
  have m:=t.mono (Nat.zero_le (i+1))
  have g:(O.getD i []).getD k 0∈O.getD i []:=by
   rw[cW l];exact List.getElem_mem l
  obtain⟨y,a⟩:=L.to ((mem i hi _).1 g)
  rw[r i hi k l y a]
  generalize (O.getD i []).getD k 0=p at a
  have Y:=L.bF p y a
  obtain⟨h,f,e,b⟩:=TQ (n-(i+1)) (i+1) y oq m Y
  have H:=m.bF hi f
  have o:S n τ i (aM h y):=(qQ hi).2 ⟨p,y,h,a,f,rfl⟩
  have u:=(t.Xc (Nat.zero_le i) oq).1 o
  rw[e] at b ⊢
  refine⟨u.1,u.2,?_,λz c j A=>?_⟩
  ·rw[dE (by rw[H.len];exact hi),m.fix hi f i oq,L.maps p y a]
  ·obtain⟨v,w,s⟩:=d.sift hi ((t.Xc (Nat.zero_le i) oq).2 ⟨c,j⟩)
   rw[A,a] at w
   cases w
   have Z:=t.bF (Nat.zero_le _) c
   have:=b _ s
   rwa [aG Z Y.inv Y,dL Y,aZ Z] at this
theorem Ks.group {i:Nat}{d:qD}(a:Ks n i x τ d)(t:pX n i τ)(hi:i<n)(X:aY n x)(z:List Nat):Go.Pm.S n d i z↔bM n (λg=>Go.Pm.S n τ i g∨g=x) z:=by
 have L:=(t i (Nat.le_refl _) hi).1
 have e: ∀g,(Go.Pm.S n τ i g∨g=x)->aY n g:=λg b=>by
  rcases b with b|rfl
  ·exact t.bF oq b
  ·exact X
 rw[a.tw.gen hi];constructor
 ·intro h
  refine h.le (bM.cY e) λg b=>(a.new g b).mono λu c=>?_
  rcases c with c|c
  ·exact .inl ((t.gen hi).2 (bM.of L.gP c))
  ·exact .inr c
 ·intro h
  refine h.le (bM.cY (a.tw i (Nat.le_refl _) hi).1.gP) λg b=>?_
  rcases b with b|rfl
  ·exact ((t.gen hi).1 b).mono a.old
  ·exact a.has
end
end
section
variable {j:Nat} {y:List Nat}
abbrev rX:=Nat->Nat->Option (List Nat)
def ins (t:rX):Nat->Nat->List Nat->Option (Nat×List Nat)
 |0,_,_=>none
 |d+1,i,x=>if x.getD i 0=i then ins t d (i+1) x else
  match t i (x.getD i 0) with
  |none=>some (i,x)
  |some y=>ins t d (i+1) (aM x (bZ y))
def dd:Al->Al
 | []=> []
 |a::l=>if a∈dd l then dd l else a::dd l
theorem Ur {a:List Nat}: ∀{l:Al},a∈dd l↔a∈l
 | []=>Iff.rfl
 |b::l=>by
  unfold dd;have c:=Ur (a:=a) (l:=l);split
  ·rename_i h
   rw[c];constructor
   ·exact List.mem_cons_of_mem _
   ·intro d
    rcases List.mem_cons.1 d with rfl|d
    ·exact c.1 h
    ·exact d
  ·simp [c]
theorem Qw: ∀l:Al,(dd l).Nodup
 | []=>List.nodup_nil
 |b::l=>by
  unfold dd;split
  ·exact Qw l
  ·rename_i h;exact List.nodup_cons.2 ⟨h,Qw l⟩
def fZ (n:Nat)(t:rX)(j:Nat):Al:=(List.range n).flatMap λi=>if j<=i then (List.range n).filterMap λp=>t i p else []
theorem gO {n:Nat}{t:rX}:y∈fZ n t j↔ ∃i p,j<=i/\i<n/\p<n/\t i p=some y:=by
 simp only[fZ,List.mem_flatMap,List.mem_range];constructor
 ·rintro⟨i,hi,h⟩
  split at h
  ·rename_i a
   obtain⟨p,b,e⟩:=List.mem_filterMap.1 h;exact⟨i,p,a,hi,List.mem_range.1 b,e⟩
  ·simp at h
 ·rintro⟨i,p,a,hi,b,e⟩
  refine⟨i,hi,?_⟩;rw[if_pos a];exact List.mem_filterMap.2 ⟨p,List.mem_range.2 b,e⟩
def lF (n:Nat)(t:rX):qD:=λj=>
 {gens:=dd (fZ n t j)
  orb:=(List.range n).filter λp=>p==j||(t j p).isSome
  to:=λp=>if p=j then some (aX n) else t j p
  tr:=λq=>if q=j∨(t j q).isSome then (dd (fZ n t j)).length else 0}
structure pQ (n:Nat)(t:rX):Prop where
 lt: ∀i p y,t i p=some y->i<n/\p<n/\p≠i
 bF: ∀i p y,t i p=some y->aY n y
 fix: ∀i p y,t i p=some y->Fix i y
 maps: ∀i p y,t i p=some y->y.getD i 0=p
def Km (n:Nat)(t:rX):Prop:= ∀a b,a∈fZ n t 0->b∈fZ n t 0->ins t n 0 (aM a b)=none
section
variable {n:Nat} {t:rX}
theorem vX {p:Nat}(T:pQ n t)(b:j<n)(h:(lF n t j).to p=some y):aY n y/\Fix j y/\y.getD j 0=p/\(p=j/\y=aX n∨t j p=some y):=by
 have a:(if p=j then some (aX n) else t j p)=some y:=h;split at a
 ·rename_i e
  cases a;exact⟨aY.one n,Fix.one n j oq,by rw[e];exact fM b,.inl ⟨e,rfl⟩⟩
 ·exact⟨T.bF _ _ _ a,T.fix _ _ _ a,T.maps _ _ _ a,.inr a⟩
theorem RC (T:pQ n t): ∀(d j:Nat) (x:List Nat),j+d=n->S n (lF n t) j x->aY n x/\Fix j x
 |0,j,x,h,hs=>by
  obtain rfl:j=n:=oq
  rw[wC] at hs;subst hs;exact⟨aY.one j,Fix.one j j (Nat.le_refl _)⟩
 |d+1,j,x,h,hs=>by
  obtain⟨p,y,g,a,b,rfl⟩:=(qQ oq).1 hs;obtain⟨G,F⟩:=RC T d (j+1) g oq b;obtain⟨Y,F2,_⟩:=vX T oq a;exact⟨G.mul Y,Fix.mul G oq (F.mono oq) F2⟩
theorem Qo (j:Nat)(a:j<n){x:List Nat}(X:aY n x)(h:S n (lF n t) (j+1) x):S n (lF n t) j x:=
 (qQ a).2 ⟨j,aX n,x,by show (if j=j then some (aX n) else t j j)=_;rw[if_pos rfl],h,(aZ X).symm⟩
theorem Zk: ∀(d j:Nat),j+d=n->S n (lF n t) j (aX n)
 |0,j,h=>by
         obtain rfl:j=n:=oq
         exact wC.2 rfl
 |d+1,j,h=>Qo j oq (aY.one n) (Zk d (j+1) oq)
theorem Qa (T:pQ n t): ∀(d j:Nat) (x:List Nat),j+d=n->aY n x->Fix j x->ins t d j x=none->S n (lF n t) j x
 |0,j,x,h,X,F,_=>by
  obtain rfl:j=n:=oq
  exact wC.2 (F.all X)
 |d+1,j,x,h,X,F,hi=>by
  unfold ins at hi;split at hi
  ·rename_i e
   exact Qo j oq X (Qa T d (j+1) x oq X (F.succ e) hi)
  ·rename_i e
   split at hi
   ·cases hi
   ·rename_i y a
    have Y:=T.bF _ _ _ a;have F2:=T.fix _ _ _ a;refine (qQ oq).2 ⟨x.getD j 0,y,aM x (bZ y),?_,?_,by rw[aG X Y.inv Y,dL Y,aZ X]⟩
    ·show (if x.getD j 0=j then some (aX n) else t j (x.getD j 0))=_
     rw[if_neg e];exact a
    ·refine Qa T d (j+1) _ oq (X.mul Y.inv) ((Fix.mul X oq F (Fix.inv Y oq F2)).succ ?_) hi
     rw[dE (by rw[X.len];omega)];have:=wY Y (show j<n by omega);rwa [T.maps _ _ _ a] at this
theorem Yt: ∀(k d j:Nat) (x:List Nat),Fix (j+k) x->ins t (d+k) j x=ins t d (j+k) x
 |0,_,_,_,_=>rfl
 |k+1,d,j,x,F=>by
  have e:ins t (d+k+1) j x=ins t (d+k) (j+1) x:=by
   show (if x.getD j 0=j then ins t (d+k) (j+1) x else _)=_;rw[if_pos (F j oq)]
  rw[show d+(k+1)=(d+k)+1 from rfl,e,Yt k d (j+1) x (by rw[show j+1+k=j+(k+1) from oq];exact F),show j+1+k=j+(k+1) from oq]
theorem TT (T:pQ n t)(c:Km n t){a b:List Nat}(g:j<=n)(e:a∈fZ n t 0)(i:b∈fZ n t 0)(A:aY n a)(B:aY n b)(f:Fix j a)(d:Fix j b):S n (lF n t) j (aM a b):=by
 have F:=Fix.mul A g f d;have h:=c a b e i;rw[show n=(n-j)+j from oq,Yt j (n-j) 0 _ (by rw[Nat.zero_add];exact F),Nat.zero_add] at h;exact Qa T (n-j) j _ oq (A.mul B) F h
theorem aiQ (T:pQ n t)(h:y∈fZ n t j):S n (lF n t) j y:=by
 obtain⟨i,p,c,b,d,e⟩:=gO.1 h;have Y:=T.bF _ _ _ e
 have a:S n (lF n t) i y:=by
  refine (qQ b).2 ⟨p,y,aX n,?_,Zk (n-(i+1)) (i+1) oq,(bX Y).symm⟩;show (if p=i then some (aX n) else t i p)=_;rw[if_neg (T.lt _ _ _ e).2.2];exact e
 have: ∀k,k<=i->S n (lF n t) (i-k) y:=by
  intro k
  induction k with
  |zero=>intro _;exact a
  |succ k ih=>
   intro f;refine Qo (i-(k+1)) oq Y ?_;rw[show i-(k+1)+1=i-k from oq];exact ih oq
 have:=this (i-j) oq;rwa [show i-(i-j)=j from oq] at this
theorem HY (T:pQ n t)(c:Km n t):pX n 0 (lF n t):=λj _ f=>by
 have d: ∀p,p∈(lF n t j).orb↔((lF n t j).to p).isSome:=by
  intro p;show p∈(List.range n).filter (λp=>p==j||(t j p).isSome)↔(if p=j then some (aX n) else t j p).isSome;rw[List.mem_filter,List.mem_range]
  by_cases e:p=j
  ·subst e;simp [f]
  ·simp only[beq_iff_eq,e,if_neg,Bool.or_eq_true,false_or]
   constructor
   ·exact λh=>h.2
   ·intro h
    obtain⟨y,B⟩:=Option.isSome_iff_exists.1 h;exact⟨(T.lt _ _ _ B).2.1,h⟩
 have a: ∀s,s∈(lF n t j).gens↔s∈fZ n t j:=λs=>Ur
 have b: ∀s,s∈fZ n t j->aY n s/\Fix j s/\s∈fZ n t 0:=λs l=>by
  obtain⟨i,p,v,r,o,e⟩:=gO.1 l;exact⟨T.bF _ _ _ e,(T.fix _ _ _ e).mono v,gO.2 ⟨i,p,Nat.zero_le _,r,o,e⟩⟩
 refine⟨⟨List.nodup_range.filter _,(d j).2 ?_,?_,d,λp y h=>(vX T f h).1,λp y h=>(vX T f h).2.1,λp y h=>(vX T f h).2.2.1,λp y h=>?_,λs l=>(b s ((a s).1 l)).1,λs l=>(b s ((a s).1 l)).2.1,Qw _,λq=>?_,λq x=>?_⟩,λq y B k s Z l=>?_,λq x=>?_,λh s l=>?_⟩
 ·show (if j=j then some (aX n) else t j j).isSome
  rw[if_pos rfl];rfl
 ·show (if j=j then some (aX n) else t j j)=_
  rw[if_pos rfl]
 ·rcases (vX T f h).2.2.2 with ⟨_,rfl⟩|e
  ·exact .one
  ·refine bM.of (λg F=>(b g ((a g).1 F)).1) ((a y).2 (gO.2 ⟨j,p,Nat.le_refl _,f,(T.lt _ _ _ e).2.1,e⟩))
 ·show (if q=j∨(t j q).isSome then (dd (fZ n t j)).length else 0)<=_
  split
  ·exact Nat.le_refl _
  ·exact Nat.zero_le _
 ·show (if q=j∨(t j q).isSome then (dd (fZ n t j)).length else 0)=0
  rw[if_neg];rintro (e|e)
  ·exact x ((d q).2 (by show (if q=j then some (aX n) else t j q).isSome;rw[if_pos e];rfl))
  ·refine x ((d q).2 ?_)
   show (if q=j then some (aX n) else t j q).isSome;split
   ·rfl
   ·exact e
 ·--closure
  have w:s∈fZ n t j:=(a s).1 (List.mem_of_getElem? l);obtain⟨K,Q,z⟩:=b s w;obtain⟨Y,R,my,m⟩:=vX T f B
  have N:S n (lF n t) j (aM y s):=by
   rcases m with ⟨_,rfl⟩|e
   ·rw[bX K];exact aiQ T w
   ·exact TT T c oq (gO.2 ⟨j,q,Nat.zero_le _,f,(T.lt _ _ _ e).2.1,e⟩) z Y K R Q
  obtain⟨p,u,g,v,r,o⟩:=(qQ f).1 N;obtain⟨U,W,L,_⟩:=vX T f v;obtain⟨G,P⟩:=RC T (n-(j+1)) (j+1) g oq r
  have O:(aM y s).getD j 0=p:=by
   rw[o,dE (by rw[G.len];exact f),P j oq,L]
  refine⟨u,by rw[O];exact v,?_⟩;rw[o,aG G U U.inv,cG U,aZ G];exact r
 ·show (if q=j∨(t j q).isSome then (dd (fZ n t j)).length else 0)=(dd (fZ n t j)).length
  rw[if_pos];have:=(d q).1 x;have J:(if q=j then some (aX n) else t j q).isSome:=this;split at J
  ·rename_i e;exact .inl e
  ·exact .inr J
 ·have A:s∈fZ n t (j+1):=Ur.1 l
  obtain⟨i,p,v,r,o,e⟩:=gO.1 A;exact bM.of (λg F=>(b g ((a g).1 F)).1) ((a s).2 (gO.2 ⟨i,p,oq,r,o,e⟩))
theorem ED (T:pQ n t)(c:Km n t)(a:0<n)(x:List Nat):S n (lF n t) 0 x↔bM n (· ∈fZ n t 0) x:=by
 rw[(HY T c).gen a];have:(λg=>g∈(lF n t 0).gens)=λg=>g∈fZ n t 0:=funext λg=>propext Ur
 rw[this]
def put (t:rX)(i p:Nat)(x:List Nat):rX:=λj q=>if j=i/\q=p then some x else t j q
def jK (t:rX)(n:Nat)(x:List Nat):rX:=match ins t n 0 x with
 |none=>t
 |some (i,r)=>put t i (r.getD i 0) r
theorem Ax (T:pQ n t): ∀(d j:Nat) (x:List Nat) (i:Nat) (r:List Nat),j+d=n->aY n x->Fix j x->ins t d j x=some (i,r)->
  j<=i/\i<n/\aY n r/\Fix i r/\r.getD i 0≠i/\t i (r.getD i 0)=none/\ ∃w,bM n (· ∈fZ n t 0) w/\x=aM r w
 |0,_,_,_,_,_,_,_,h=>by cases h
 |d+1,j,x,i,r,h,X,F,hi=>by
  unfold ins at hi;split at hi
  ·rename_i e
   obtain⟨l,b⟩:=Ax T d (j+1) x i r oq X (F.succ e) hi;exact⟨oq,b⟩
  ·rename_i e
   split at hi
   ·rename_i q
    cases hi;exact⟨Nat.le_refl _,oq,X,F,e,q,aX n,.one,(aZ X).symm⟩
   ·rename_i y a
    have Y:=T.bF _ _ _ a
    have m: ∀g,g∈fZ n t 0->aY n g:=λg p=>by
     obtain⟨_,_,_,_,_,e⟩:=gO.1 p;exact T.bF _ _ _ e
    obtain⟨l,b,f,v,u,s,w,k,o⟩:=Ax T d (j+1) _ i r oq (X.mul Y.inv) ((Fix.mul X oq F (Fix.inv Y oq (T.fix _ _ _ a))).succ (by
     rw[dE (by rw[X.len];omega)];have:=wY Y (show j<n by omega)
     rwa [T.maps _ _ _ a] at this)) hi
    have c:y∈fZ n t 0:=gO.2 ⟨j,_,Nat.zero_le _,oq,(T.lt _ _ _ a).2.1,a⟩;refine⟨oq,b,f,v,u,s,aM w y,k.mul c,?_⟩;rw[←aG f (k.bF m) Y,←o,aG X Y.inv Y,dL Y,aZ X]
theorem yU (T:pQ n t): ∀(d j:Nat) (x:List Nat),j+d=n->aY n x->Fix j x->ins t d j x=none->bM n (· ∈fZ n t 0) x
 |0,j,x,h,X,F,_=>by
  obtain rfl:j=n:=oq
  rw[F.all X];exact .one
 |d+1,j,x,h,X,F,hi=>by
  unfold ins at hi;split at hi
  ·rename_i e
   exact yU T d (j+1) x oq X (F.succ e) hi
  ·rename_i e
   split at hi
   ·cases hi
   ·rename_i y a
    have Y:=T.bF _ _ _ a
    have b:=yU T d (j+1) _ oq (X.mul Y.inv) ((Fix.mul X oq F (Fix.inv Y oq (T.fix _ _ _ a))).succ (by
     rw[dE (by rw[X.len];omega)];have:=wY Y (show j<n by omega)
     rwa [T.maps _ _ _ a] at this)) hi
    have:=b.mul (gO.2 ⟨j,_,Nat.zero_le _,oq,(T.lt _ _ _ a).2.1,a⟩);rwa [aG X Y.inv Y,dL Y,aZ X] at this
def Sub (t t':rX):Prop:= ∀i p y,t i p=some y->t' i p=some y
theorem Gz {a:rX}(s:Sub t a): ∀(d j:Nat) (x:List Nat),ins t d j x=none->ins a d j x=none
 |0,_,_,_=>rfl
 |d+1,j,x,h=>by
  unfold ins at h ⊢;split at h
  ·rename_i e;rw[if_pos e];exact Gz s d _ _ h
  ·rename_i e
   rw[if_neg e];split at h
   ·cases h
   ·rename_i y b
    rw[s _ _ _ b];exact Gz s d _ _ h
theorem FR {i p:Nat}{x:List Nat}(h:t i p=none):Sub t (put t i p x):=λj q y a=>by
 unfold put;rw[if_neg (λe=>by rw[e.1,e.2,h] at a;cases a)];exact a
theorem Vr (T:pQ n t): ∀(d j:Nat) (x:List Nat) (i:Nat) (r:List Nat),j+d=n->aY n x->Fix j x->ins t d j x=some (i,r)->ins (put t i (r.getD i 0) r) d j x=none
 |0,_,_,_,_,_,_,_,h=>by cases h
 |d+1,j,x,i,r,h,X,F,hi=>by
  obtain⟨o,k,l,m,f,c,_⟩:=Ax T (d+1) j x i r h X F hi;have sub:=FR (t:=t) (x:=r) c;unfold ins at hi ⊢;split at hi
  ·rename_i e;rw[if_pos e];exact Vr T d (j+1) x i r oq X (F.succ e) hi
  ·rename_i e
   rw[if_neg e];split at hi
   ·cases hi
    have:put t j (x.getD j 0) x j (x.getD j 0)=some x:=by unfold put;rw[if_pos ⟨rfl,rfl⟩]
    rw[this];simp only;rw[cG X]
    have: ∀(d j:Nat),j+d=n-> ∀b:rX,ins b d j (aX n)=none:=by
     intro d
     induction d with
     |zero=>intro _ _ _;rfl
     |succ d ih=>intro j g b;unfold ins;rw[if_pos (fM oq)];exact ih (j+1) oq b
    exact this d (j+1) oq _
   ·rename_i y a
    have Y:=T.bF _ _ _ a;rw[sub _ _ _ a]
    exact Vr T d (j+1) _ i r oq (X.mul Y.inv) ((Fix.mul X oq F (Fix.inv Y oq (T.fix _ _ _ a))).succ (by
     rw[dE (by rw[X.len];omega)];have:=wY Y (show j<n by omega)
     rwa [T.maps _ _ _ a] at this)) hi
end
end
section
variable {x:List Nat}
section
variable {n:Nat} {t:rX}
theorem pQ.OK (T:pQ n t){j:Nat}: ∀g,g∈fZ n t j->aY n g:=λg a=>by
 obtain⟨_,_,_,_,_,e⟩:=gO.1 a;exact T.bF _ _ _ e
theorem Sub.refl (t:rX):Sub t t:=λ_ _ _ h=>h
theorem Sub.trans {a b c:rX}(x:Sub a b)(y:Sub b c):Sub a c:=λi p z h=>y i p z (x i p z h)
theorem pQ.empty (n:Nat):pQ n (λ_ _=>none):=⟨λ_ _ _ h=>(by cases h),λ_ _ _ h=>(by cases h),λ_ _ _ h=>(by cases h),λ_ _ _ h=>(by cases h)⟩
theorem abA (T:pQ n t)(X:aY n x):pQ n (jK t n x)/\Sub t (jK t n x)/\ins (jK t n x) n 0 x=none/\ ∀g,g∈fZ n (jK t n x) 0->bM n (λu=>u∈fZ n t 0∨u=x) g:=by
 unfold jK
 cases h:ins t n 0 x with
 |none=>exact⟨T,Sub.refl t,h,λg l=>bM.of (λu c=>by rcases c with c|rfl;exact T.OK u c;exact X) (.inl l)⟩
 |some q=>
  obtain⟨i,r⟩:=q;have o:Fix 0 x:=λk K=>oq
  obtain⟨L,p,f,J,F,B,w,m,A⟩:=Ax T n 0 x i r oq X o h
  have a: ∀j q y,put t i (r.getD i 0) r j q=some y->(j=i/\q=r.getD i 0/\y=r)∨t j q=some y:=λj q y b=>by
   unfold put at b;split at b
   ·rename_i e;cases b;exact .inl ⟨e.1,e.2,rfl⟩
   ·exact .inr b
  refine⟨⟨λj q y b=>?_,λj q y b=>?_,λj q y b=>?_,λj q y b=>?_⟩,FR B,Vr T n 0 x i r oq X o h,λg l=>?_⟩
  ·rcases a j q y b with ⟨rfl,rfl,rfl⟩|h
   ·exact⟨p,f.fX p,F⟩
   ·exact T.lt _ _ _ h
  ·rcases a j q y b with ⟨rfl,rfl,rfl⟩|h
   ·exact f
   ·exact T.bF _ _ _ h
  ·rcases a j q y b with ⟨rfl,rfl,rfl⟩|h
   ·exact J
   ·exact T.fix _ _ _ h
  ·rcases a j q y b with ⟨rfl,rfl,rfl⟩|h
   ·rfl
   ·exact T.maps _ _ _ h
  ·have d: ∀u,(u∈fZ n t 0∨u=x)->aY n u:=λu c=>by
    rcases c with c|rfl
    ·exact T.OK u c
    ·exact X
   obtain⟨j,q,s,z,v,e⟩:=gO.1 l;rcases a j q g e with ⟨_,_,rfl⟩|h
   ·have W:=m.bF T.OK
    have G:g=aM x (bZ w):=by rw[A,aG f W W.inv,cG W,aZ f]
    rw[G];exact (bM.of d (.inr rfl)).app d ((m.mono λu c=>Or.inl c).inv d)
   ·exact bM.of d (.inl (gO.2 ⟨j,q,s,z,v,h⟩))
structure Na (n:Nat)(L:List Nat->Prop)(t:rX):Prop where
 tab:pQ n t
 gen: ∀g,g∈fZ n t 0->bM n L g
variable {L:List Nat->Prop}
theorem Na.ins (a:Na n L t)(c: ∀g,L g->aY n g)(d:bM n L x):Na n L (jK t n x)/\Sub t (jK t n x)/\Go.Pm.ins (jK t n x) n 0 x=none:=by
 obtain⟨e,h,f,j⟩:=abA a.tab (d.bF c);refine⟨⟨e,λg i=>(j g i).le (bM.cY c) λu b=>?_⟩,h,f⟩;rcases b with b|rfl
 ·exact a.gen u b
 ·exact d
theorem Na.group (a:Na n L t)(b: ∀g,L g->aY n g)(e:0<n)(c:Km n t)(hi: ∀g,L g->Go.Pm.ins t n 0 g=none)(x:List Nat):S n (lF n t) 0 x↔bM n L x:=by
 rw[ED a.tab c e];constructor
 ·exact λh=>h.le (bM.cY b) a.gen
 ·exact λh=>h.le (bM.cY a.tab.OK) λg d=>yU a.tab n 0 g oq (b g d) (λk f=>oq) (hi g d)
structure PE (n:Nat)(L:List Nat->Prop)(τ:qD):Prop where
 tw:pX n 0 τ
 group: ∀x,S n τ 0 x↔bM n L x
theorem PE.start (a:0<n):PE n (λ_=>False) (VB n):=by
 refine⟨XV n,λx=>?_⟩;rw[(XV n).gen a];have:(λg=>g∈(VB n 0).gens)=λ_=>False:=funext λg=>propext ⟨λh=>(by cases h),λh=>h.elim⟩
 rw[this]
theorem PE.add {τ d:qD}(a:PE n L τ)(i:0<n)(e: ∀g,L g->aY n g)(X:aY n x)(b:Ks n 0 x τ d):PE n (λg=>L g∨g=x) d:=by
 refine⟨b.tw,λz=>?_⟩
 have f: ∀g,(L g∨g=x)->aY n g:=λg c=>by
  rcases c with c|rfl
  ·exact e g c
  ·exact X
 rw[b.group a.tw i X z];constructor
 ·intro h
  refine h.le (bM.cY f) λg c=>?_
  rcases c with c|rfl
  ·exact ((a.group g).1 c).mono λu j=> .inl j
  ·exact bM.of f (.inr rfl)
 ·intro h
  refine h.mono λg c=>?_
  rcases c with c|rfl
  ·exact .inl ((a.group g).2 (bM.of e c))
  ·exact .inr rfl
theorem PE.congr {M:List Nat->Prop}{τ:qD}(a:PE n L τ)(h: ∀g,L g↔M g):PE n M τ:=by
 have:L=M:=funext λg=>propext (h g)
 exact this▸a
end
def BZ (n:Nat)(R:TH):List Nat->Prop:=bM n λg=>g∈R.flatten
def Valid (n:Nat)(O:Al)(R:TH):Prop:=(∀g∈R.flatten,aY n g)/\aV n (BZ n R) O R
theorem Valid.iff {n:Nat}{O a:Al}{R b:TH}(d: ∀g∈R.flatten,aY n g)(c:aV n (BZ n R) a b):Valid n O R↔O=a/\R=b:=by
 constructor
 ·rintro⟨_,h⟩;exact h.uniq c
 ·rintro⟨rfl,rfl⟩;exact⟨d,c⟩
theorem Valid.cY {n:Nat}{O:Al}{R:TH}(v:Valid n O R):dO n (BZ n R):=bM.cY v.1
end
end Go.Pm
namespace Go.Proofs.YtcdbmkidaecdiaaGreat
open Go Go.Ay Go.Pm
set_option maxRecDepth 100000
def Me (c:Nat):V:=if c<130 then .aD else aC 0
def lv0:Lv:=⟨[], [],λ_=>none,λ_=>0⟩
theorem abW: [V.aD,V.aD,V.aD,V.aD,V.aD,V.aD,V.aD,V.aD,V.aD,V.aD,V.aD,V.aD,V.aD,V.aD,V.aD,V.aD,V.aD,V.aD,V.aD,V.aD,V.aD,V.aD,V.aD,V.aD,V.aD,V.aD,V.aD,V.aD,V.aD,V.aD,V.aD,V.aD,V.aD,V.aD,V.aD,V.aD,V.aD,V.aD,V.aD,V.aD,V.aD,V.aD,V.aD,V.aD,V.aD,V.aD,V.aD,V.aD,V.aD,V.aD,V.aD,V.aD,V.aD,V.aD,V.aD,V.aD,V.aD,V.aD,V.aD,V.aD,V.aD,V.aD,V.aD,V.aD,V.aD,V.aD,V.aD,V.aD,V.aD,V.aD,V.aD,V.aD,V.aD,V.aD,V.aD,V.aD,V.aD,V.aD,V.aD,V.aD,V.aD,V.aD,V.aD,V.aD,V.aD,V.aD,V.aD,V.aD,V.aD,V.aD,V.aD,V.aD,V.aD,V.aD,V.aD,V.aD,V.aD,V.aD,V.aD,V.aD,V.aD,V.aD,V.aD,V.aD,V.aD,V.aD,V.aD,V.aD,V.aD,V.aD,V.aD,V.aD,V.aD,V.aD,V.aD,V.aD,V.aD,V.aD,V.aD,V.aD,V.aD,V.aD,V.aD,V.aD,V.aD,V.aD,V.aD,V.aD,V.aD,V.aD,(aC 0),(aC 0),(aC 0),(aC 0),(aC 0),(aC 0),(aC 0),(aC 0),(aC 0),(aC 0),(aC 0),(aC 0),(aC 0),(aC 0),(aC 0),(aC 0),(aC 0),(aC 0),(aC 0),(aC 0),(aC 0),(aC 0),(aC 0),(aC 0),(aC 0),(aC 0),(aC 0),(aC 0),(aC 0),(aC 0),(aC 0),(aC 0),(aC 0),(aC 0),(aC 0),(aC 0),(aC 0),(aC 0),(aC 0),(aC 0),(aC 0),(aC 0),(aC 0),(aC 0),(aC 0),(aC 0),(aC 0),(aC 0),(aC 0),(aC 0),(aC 0),(aC 0),(aC 0),(aC 0),(aC 0),(aC 0),(aC 0),(aC 0),(aC 0),(aC 0),(aC 0),(aC 0),(aC 0),(aC 0)]=rc 194 Me:=rfl
theorem MM (n:Nat):dP (rc 194 Me) (n*194)=rc (n*194) λc=>Me (c%194):=by
 refine List.ext_getElem (by simp [dP,iQ]) λi a b=>?_
 simp [dP,rc];rw[List.getElem?_range (Nat.mod_lt _ om)];rfl
def QQ (n i:Nat):qD:=λj=>if j<i then VB n j else lv0
theorem tC.congr {h:H}{n d L:Nat}{F:Nat->V}{τ f:qD}(R:tC h n d L F τ)(e: ∀j,j<n->τ j=f j):tC h n d L F f:=
 ⟨R.t,R.l,R.tn,R.ln,R.tw,λj p a b=>by rw[←e j a];exact R.to j p a b,λj p a b=>by rw[←e j a];exact R.iv j p a b,λj p a b=>by rw[←e j a];exact R.tr j p a b,
  λj c=>by rw[←e j c];exact R.gens j c,λj c=>by rw[←e j c];exact R.orb j c,R.Rh,R.ap⟩
theorem Zd (n:Nat)(h:H)(h0:0<n)(hn:n<=7):
  Ev T 192 [aC n] h (λv h'=> ∃tid L F,v= .ptr tid 0/\tC h' n tid L F (VB n)/\Fr h h'/\ ∀id,WT n L F id->h.next<=id):=by
 refine dW xY rfl ?_
 have hm:Jz h 194 3632 (rc 194 Me) (aC n) (aC n)=some (.sl h.next 0 n (.kn n),h.new (.cells false (rc (n*194) λc=>Me (c%194)))):=by
  rw[uM om (Int.le_refl _) om om,DK,MM]
 obtain⟨w,K⟩: ∃w:Nat->V,w=λc=>Me (c%194):=⟨_,rfl⟩
 obtain⟨L,Y⟩:=exI h.next
 rw[Y,←K] at hm
 simp(disch:=omega)only[go_sem,xY,aE,abW,hm,WZ (z1:= aC 0) (z2:= .aD) (v:= aC n) (u:= .sl L 0 n (.kn n)) rfl rfl rfl rfl,qP _ (v:= aC n) (u:= .sl L 0 n (.kn n)) rfl rfl,Y]
 obtain⟨d,m⟩: ∃d,d=(h.new (.cells false (rc (n*194) w))).new (.cells false [aC n,.sl L 0 n (.kn n)]):=⟨_,rfl⟩
 rw[←m]
 have g1:d.get L=some (.cells false (rc (n*194) w)):=by rw[m,H.bG _ (by rw[H.aW];omega),←Y,H.aL]
 have g2:d.get (L+1)=some (.cells false [aC n,.sl L 0 n (.kn n)]):=by
  rw[m];have:=H.aL (h.new (.cells false (rc (n*194) w))) (.cells false [aC n,.sl L 0 n (.kn n)]);rwa [H.aW,Y] at this
 have n2:d.next=L+2:=by rw[m,H.aW,H.aW,Y]
 have f2:Fr h d:=by rw[m];exact ((Fr.refl h).new _).new _
 clear m hm
 have s0: ∀s,s<2*n->uU w s= .aD:=λs _=>by
  unfold uU Me at*;rw[K];simp only;rw[bJ om]
 have w0: ∀id,WT n L w id->id=L:=λid x=>by
  rcases x with e|⟨s,hs,a4,len,c,e⟩
  ·exact e
  ·rw[s0 s hs] at e;cases e
 have Z: ∀j c,c<194->w (j*194+c)=Me c:=λj c hc=>by
  rw[K];simp only;rw[Nat.mul_comm,Nat.mul_add_mod,Nat.mod_eq_of_lt hc]
 have z1: ∀j b c,b+c<194->w (j*194+b+c)=Me (b+c):=λj b c hc=>by rw[Nat.add_assoc];exact Z j (b+c) hc
 have R:tC d n (L+1) L w (QQ n 0):=by
  refine⟨g2,g1,om,om,λx=>by have:=w0 _ x;omega,λj p a d=>?_,λj p a d=>?_,λj p a d=>?_,λj hj=>⟨[],?_,trivial⟩,λj hj=>?_,λs s' a d _=>?_,λs a=>?_⟩
  ·rw[z1 j 2 p om];unfold Me;rw[bJ om];rfl
  ·rw[z1 j 66 p om];unfold Me;rw[bJ om];rfl
  ·rw[z1 j 130 p om];unfold Me;rw[bU om];rfl
  ·have:=Z j 0 om
   rw[Nat.add_zero] at this;rw[this];exact dH.aD ..
  ·rw[Z j 1 om];exact dH.aD ..
  ·rw[s0 s a];intro i o n c e;cases e
  ·rw[s0 s a];exact dR.aD _
 have a1:d.cell (L+1) 1=some (.sl L 0 n (.kn n)):=by rw[H.cell_of g2];rfl
 simp(disch:=omega)only[go_sem,a1]
 refine aI (λk' J hh=> ∃(i:Nat) (F:Nat->V),(∃g:Nat->V,J= [aC n,g 1,.ptr (L+1) 0,g 3,g 4,aC n,aC i,g 7])/\i<=n/\tC hh n (L+1) L F (QQ n i)/\Fr h hh/\(∀id,WT n L F id->h.next<=id)/\k'=n-i) n
  ⟨0,w,aB rfl,iB _,R,f2,λid x=>by rw[w0 id x];omega,rfl⟩ ?_
 clear R g1 g2 n2 f2 s0 w0 Z z1
 rintro k' J h3 ⟨i,F,⟨g,rfl⟩,hi,R,f,x,rfl⟩
 simp(disch:=omega)only[go_sem]
 by_cases O:(i:Int)<(n:Int)
 ·rw[cI O]
  have Q:i<n:=om
  have cl:h3.cell (L+1) 1=some (.sl L 0 n (.kn n)):=by rw[H.cell_of R.t];rfl
  have ln:=R.ln
  have hN:i*194+194<=n*194:=om
  have e0:QQ n i i=lv0:=by unfold QQ;rw[bU om]
  simp(disch:=omega)only[go_sem,cl,cK h3 (z:= aC 0) (v:= aC i) rfl rfl,R.l,Kb]
  obtain⟨y,A⟩: ∃y,y=(h3.new (.cells false [aC i])).set L (some (.cells false (rc (n*194) (F1 F (i*194+1) (.sl h3.next 0 1 (.kn 1)))))):=⟨_,rfl⟩
  rw[←A]
  have p4:vG h3 (F (i*194+1)) 0 1 1 [] [aC i] (h3.new (.cells false [aC i])):=⟨H.aL ..,H.aW ..,λk hk _=>H.bG h3 hk _⟩
  obtain⟨P,f4,w4⟩:=R.SX Q (q:=i) (v:= .sl h3.next 0 1 (.kn 1)) (by rw[e0];exact p4) (.inr rfl) (by rw[e0];rfl) A
  obtain⟨G,a2⟩: ∃G,G=F1 F (i*194+1) (.sl h3.next 0 1 (.kn 1)):=⟨_,rfl⟩
  rw[←a2] at P w4
  have n4:y.next=h3.next+1:=by rw[A,H.cV,H.aW]
  have N: ∀id,WT n L G id->h.next<=id:=λid a=>by
   by_cases d:id<h3.next
   ·exact x id (w4 id d a)
   ·have:=f.next;omega
  have a3:Fr h y:=⟨mY f.next f4.next,λid a=>(f4.get id (jM a f.next) λd=>by have:=x id d;omega).trans (f.get id a)⟩
  clear A
  generalize U:wM (QQ n i) i {QQ n i i with orb:=(QQ n i i).orb++ [i]}=B at P
  have e4:B i={lv0 with orb:= [i]}:=by rw[←U,cM,e0];rfl
  refine (Uk wG.ok n (H.mk y.tr (h3.next+1+16)) om).mono ?_
  rintro va h5 na
  simp(disch:=omega)only[go_sem]
  refine (Uk wG.ok n h5 om).mono ?_
  rintro vb h6 nb
  have f5:Fr y h5:=((Fr.refl y).bH om:Fr y (H.mk y.tr (h3.next+1+16))).trans na.fr
  have R6:=P.mono (f5.trans nb.fr)
  have pa:=(na.pv (W:=WT n L G) (λa=>by have:=P.Pg a;simp at this;omega)).mono nb.fr
  have pb:=nb.pv (W:=WT n L G) (λa=>by have:=P.Pg a;have:=f5.next;omega)
  have a0:PV (WT n L G) h6 vb (bZ (aX n)):=by rw[oX];exact pb
  simp(disch:=omega)only[go_sem,R6.l,kP pa.fG.1 pa.fG.2,kP pb.fG.1 pb.fG.2,Kb]
  obtain⟨R7,f7,w7⟩:=R6.way Q (q:=i) om pa a0 (h3:=(h6.set L (some (Ob.cells false (rc (n*194) (F1 G (i*194+2+i) va))))).set L (some (Ob.cells false (rc (n*194) (F1 (F1 G (i*194+2+i) va) (i*194+66+i) vb))))) (dT _) (λid a _=>by rw[H.aH _ a,H.aH _ a]) (by rw[H.aU])
  have eT:wM B i {B i with to:=λr=>if r=i then some (aX n) else (B i).to r}=QQ n (i+1):=by
   funext j
   by_cases e:j=i
   ·subst e
    rw[cM,e4];unfold QQ;rw[bJ om]
    rfl
   ·rw[eD _ _ e,←U,eD _ _ e]
    unfold QQ
    by_cases e2:j<i
    ·rw[bJ e2,bJ om]
    ·rw[bU e2,bU om]
  rw[eT] at R7
  have f6:=a3.trans (f5.trans nb.fr)
  rw[fJ i]
  refine⟨n-(i+1),om,i+1,_,aB rfl,om,R7,⟨mY f6.next f7.next,λid a=>(f7.get id (jM a f6.next) λd=>by have:=N id d;omega).trans (f6.get id a)⟩,λid a=>N id ((w7 id).1 a),rfl⟩
 rw[bI O]
 obtain rfl:i=n:=om
 simp(disch:=omega)only[go_sem]
 have eT:tC h3 i (L+1) L F (VB i):=R.congr λj hj=>by unfold QQ;rw[bJ hj]
 exact⟨L+1,L,F,rfl,eT,f,λid a=>by have:=x id a;omega⟩
abbrev SP (h:H)(v:V)(l:LN):Prop:=SR h v (l.map zi)
theorem xJ {h:H}{ws:List V}{l:LN}(a:aN (SI h) ws (l.map zi)){i:Nat}(hi:i<l.length):SI h (ws.getD i .undef) (zi (l.getD i [])):=by
 have:=FJ a (i:=i) (by simpa using hi);rwa [show (l.map zi).getD i []=zi (l.getD i []) by simp [List.getD,hi]] at this
theorem HN {W:Nat->Prop}{h:H}{b:Nat}{v:V}{l:List Int}(s:SI h v l)(d:h.next<=b)(c: ∀id,W id->b<=id):Ej W v:=by
 cases v with
 |sl id off len cap=>exact λa=>by have:=s.in _ _ _ _ rfl;have:=c id a;omega
 |_=>trivial
theorem MO {l:LN}{i:Nat}(hi:i<l.length)(g:List Nat):g∈l.take (i+1)↔g∈l.take i∨g=l.getD i []:=by
 rw[List.take_add_one,dD hi,oD];simp [List.getD,hi]
theorem BD (n:Nat)(q:V)(l:LN)(h:H)(p:0<n)(z:n<=7)(hl:l.length<1000000)(A:SP h q l)(G: ∀g∈l,aY n g):
  Ev T 141 [aC n,q] h (λv h'=> ∃tid L F τ,v= .ptr tid 0/\tC h' n tid L F τ/\PE n (· ∈l) τ/\Fr h h'/\ ∀id,WT n L F id->h.next<=id):=by
 refine dW Eg rfl ?_
 simp(disch:=omega)only[go_sem,Eg,aE]
 refine (Zd n h p z).mono ?_
 rintro _ d ⟨tid,L,F,rfl,R,f,c⟩
 have J:=A.lens
 rw[iA] at J
 obtain⟨id,r,N,O,e,s,B,j⟩:=A.open
 rw[iA] at O e s B
 simp(disch:=omega)only[go_sem,J]
 refine aI (λP b x=> ∃(i:Nat) (F:Nat->V) (τ:qD),(∃g:Nat->V,b= [aC n,q,g 2,.ptr tid 0,g 4,q,aC (l.length:Int),aC i,g 8])/\i<=l.length/\tC x n tid L F τ/\PE n (· ∈l.take i) τ/\Fr h x/\(∀id,WT n L F id->h.next<=id)/\P=l.length-i) l.length
  ⟨0,F,VB n,aB rfl,iB _,R,(PE.start p).congr (by simp),f,c,rfl⟩ ?_
 clear R f c F
 rintro P b o ⟨i,F,τ,⟨g,rfl⟩,hi,R,t,f,c,rfl⟩
 simp(disch:=omega)only[go_sem]
 by_cases m:(i:Int)<(l.length:Int)
 ·rw[cI m]
  have a:i<l.length:=om
  have ci:o.cell id (r+i)=some (N.getD i .undef):=by rw[f.cell (e om),B i a]
  have y:=xJ j a
  have pv:PV (WT n L F) o (N.getD i .undef) (l.getD i []):=⟨y.mono f,HN y (dT _) c⟩
  have X:aY n (l.getD i []):=G _ (by simp [List.getD,a])
  simp(disch:=omega)only[go_sem,O.ixa,ci]
  refine (ahX n z p o tid L F τ _ _ R pv X (λk hk=>om) t.tw).mono ?_
  rintro vv h3 ⟨Z,w,Q,Y,K,w3⟩
  have U:=(t.add p (λg W=>G g (List.mem_of_mem_take W)) X Y).congr λg=>(MO a g).symm
  simp(disch:=omega)only[go_sem]
  rw[fJ i]
  refine⟨l.length-(i+1),om,i+1,Z,w,aB rfl,om,Q,U,⟨mY f.next K.next,λid d=>(K.get id (jM d f.next) λu=>by have:=c id u;omega).trans (f.get id d)⟩,λid d=>?_,rfl⟩
  by_cases u:id<o.next
  ·exact c id (w3 id u d)
  ·have:=f.next;omega
 rw[bI m]
 obtain rfl:i=l.length:=om
 simp(disch:=omega)only[go_sem]
 exact⟨tid,L,F,τ,rfl,R,t.congr λg=>by rw[List.take_length],f,c⟩
theorem Sf (x:List Nat)(l:List Nat){i:Nat}(hi:i<l.length)(b:Nat):pG x b (l.drop i)=pG x (if x.getD (l.getD i 0) 0<x.getD b 0 then l.getD i 0 else b) (l.drop (i+1)):=by
 rw[Zh hi,cW hi];rfl
theorem XQ (h:H)(n l L:Nat)(F:Nat->V)(τ:qD)(vx:V)(x:List Nat)(i:Nat)(hn:n<=7)(R:tC h n l L F τ)(hx:PV (WT n L F) h vx x)(X:aY n x)(b1:i<n)(t:pX n (i+1) τ):
  Ev T 196 [.ptr l 0,vx,aC i] h (λv h'=>PV (WT n L F) h' v (Lx τ (n-(i+1)) (i+1) x)/\aY n (Lx τ (n-(i+1)) (i+1) x)/\Fr h h'):=by
 refine dW sJ rfl ?_
 simp(disch:=omega)only[go_sem,sJ,aE]
 rw[fJ i]
 refine aI (λk' d hh=> ∃(k:Nat) (y:List Nat) (P:V),(∃g:Nat->V,d= [.ptr l 0,P,g 2,g 3,aC k,g 5,g 6,g 7,g 8,g 9,g 10,g 11,g 12,g 13])/\i<k/\k<=n/\Lx τ (n-k) k y=Lx τ (n-(i+1)) (i+1) x/\
   PV (WT n L F) hh P y/\aY n y/\Fr h hh/\k'=n-k) (n-(i+1))
  ⟨i+1,x,vx,aB rfl,om,om,rfl,hx,X,Fr.refl h,rfl⟩ ?_
 rintro k' d G ⟨k,y,P,⟨g,rfl⟩,b0,a9,p,hy,Y,f,rfl⟩
 have R2:=R.mono f
 have ct:G.cell l 0=some (aC n):=by rw[H.cell_of R2.t];rfl
 have cl:G.cell l 1=some (.sl L 0 n (.kn n)):=by rw[H.cell_of R2.t];rfl
 simp(disch:=omega)only[go_sem,ct,cl]
 by_cases a1:(k:Int)<(n:Int)
 case neg=>
  rw[bI a1];obtain rfl:k=n:=om
  rw[Nat.sub_self] at p;simp(disch:=omega)only[go_sem];rw[←p];exact⟨hy,Y,f⟩
 have c:k<n:=om
 rw[cI a1]
 have co:G.cell L (k*194+1)=some (F (k*194+1)):=R2.cell c om
 have oo:=R2.orb k c
 have lo:=dH.lens oo (by rw[aP,aS])
 have nG:=(t k om c).1
 have b2:=YF nG c
 simp(disch:=omega)only[go_sem,cl,co,lo]
 obtain⟨id,a7,sh,a0,hc⟩:=(show SI G (F (k*194+1)) (zi (τ k).orb) from oo.sv).open
 rw[aS] at sh a0 hc
 obtain⟨W,z,a3,r,K⟩:=hy.si.open
 rw[aS,Y.len] at a3 r K
 refine aI (λm' d hh=> ∃(m b:Nat),(∃g:Nat->V,d= [.ptr l 0,P,g 2,g 3,aC k,aC b,g 6,g 7,F (k*194+1),aC ((τ k).orb.length:Int),aC m,g 11,g 12,g 13])/\m<=(τ k).orb.length/\b<n/\b∈k::(τ k).orb/\
   pG y b ((τ k).orb.drop m)=pG y k (τ k).orb/\Fr G hh/\m'=(τ k).orb.length-m) (τ k).orb.length
  ⟨0,k,aB rfl,iB _,c,tQ ..,rfl,Fr.refl G,rfl⟩ ?_
 rintro m' d s ⟨m,b,⟨g3,rfl⟩,hm,hb,Q,a,B,rfl⟩
 simp(disch:=omega)only[go_sem]
 by_cases A:(m:Int)<((τ k).orb.length:Int)
 ·rw[cI A]
  have o:m<(τ k).orb.length:=om
  rw[Sf _ _ o] at a
  have cq:s.cell id (a7+m)=some (aC ((τ k).orb.getD m 0:Nat)):=by rw[B.cell (a0 om),hc m o];congr 2;simp [zi,o]
  have N:(τ k).orb.getD m 0∈(τ k).orb:=by rw[cW o];exact xG o
  have w:=nG.lt c N
  generalize (τ k).orb.getD m 0=q at cq N w a
  have c1:s.cell W (z+q)=some (aC (y.getD q 0:Nat)):=by rw[B.cell (r om),K q w];congr 2;simp [zi,Y.len,w]
  have c2:s.cell W (z+b)=some (aC (y.getD b 0:Nat)):=by rw[B.cell (r om),K b hb];congr 2;simp [zi,Y.len,hb]
  simp(disch:=omega)only[go_sem,sh.ixa,cq,a3.ixa,c1,c2]
  have fb:Fr G (H.mk s.tr (s.next+9)):=B.bH om
  by_cases a2:((y.getD q 0:Nat):Int)<((y.getD b 0:Nat):Int)
  ·rw[cI a2]
   rw[bJ om] at a
   simp(disch:=omega)only[go_sem]
   rw[fJ m]
   exact⟨(τ k).orb.length-(m+1),om,m+1,q,aB rfl,om,w,wI _ N,a,fb,rfl⟩
  ·rw[bI a2]
   rw[bU om] at a
   simp(disch:=omega)only[go_sem]
   rw[fJ m]
   exact⟨(τ k).orb.length-(m+1),om,m+1,b,aB rfl,om,hb,Q,a,fb,rfl⟩
 rw[bI A]
 have em:m=(τ k).orb.length:=om
 rw[em,List.drop_length] at a
 have a:b=pG y k (τ k).orb:=a
 have O:n-k=(n-(k+1))+1:=om
 rw[O] at p
 have p:Lx τ (n-(k+1)) (k+1) (if pG y k (τ k).orb=k then y else aM (((τ k).to (pG y k (τ k).orb)).getD []) y)=Lx τ (n-(i+1)) (i+1) x:=p
 rw[←a] at p
 have R3:=R2.mono B
 have Z:=hy.mono B
 simp(disch:=omega)only[go_sem]
 by_cases J:b=k
 ·rw[bJ J] at p
  have e0:decide ((b:Int)≠(k:Int))=false:=bI om
  simp(disch:=omega)only[go_sem,e0]
  rw[fJ k]
  exact⟨n-(k+1),om,k+1,y,P,aB rfl,om,om,p,Z,Y,f.trans B,rfl⟩
 rw[bU J] at p
 have e0:decide ((b:Int)≠(k:Int))=true:=cI om
 have a5:s.cell l 1=some (.sl L 0 n (.kn n)):=by rw[H.cell_of R3.t];rfl
 have a8:b∈(τ k).orb:=by
  rcases vI.1 Q with e|e
  ·exact absurd e J
  ·exact e
 obtain⟨u,hu⟩:=nG.to a8
 have U:=nG.bF _ _ hu
 have a4:s.cell L (k*194+2+b)=some (F (k*194+2+b)):=R3.Si c om
 have a6:PV (WT n L F) s (F (k*194+2+b)) u:=by
  have:=R3.to k b c om;rw[hu] at this;exact this
 rw[hu] at p
 simp(disch:=omega)only[go_sem,e0,a5,a4]
 refine (nZ gE.ok _ P u y s (by rw[U.len];omega) a6.si Z.si (λj hj=>by rw[Y.len];exact U.fX (by rw[←U.len];exact hj))).mono ?_
 rintro v h4 nw
 simp(disch:=omega)only[go_sem]
 rw[fJ k]
 exact⟨n-(k+1),om,k+1,_,v,aB rfl,om,om,p,nw.pv (λhw=>by have:=R3.Pg hw;omega),U.mul Y,(f.trans B).trans nw.fr,rfl⟩
end Go.Proofs.YtcdbmkidaecdiaaGreat
namespace Go.Proofs.YtcdbmkidaecdiaaGreat
open Go Go.Ay Go.Sort
set_option maxRecDepth 100000
section
variable {h:H} {S N i j a:Nat} {d:Array Int} {lt:Int->Int->Bool}
structure dY (h:H)(S N:Nat)(d:Array Int):Prop where
 get:h.get S=aF (ints d.toList)
 size:d.size=N
 lt:S<h.next
theorem dY.rd (A:dY h S N d)(hi:i<N):h.cell S i=some (aC d[i]!):=by
 have b:i<d.size:=by rw[A.size];exact hi
 rw[H.cell_of A.get];simp [ints,b]
theorem dY.fr {h':H}(A:dY h S N d)(f:Fr h h'):dY h' S N d:=⟨by rw[f.get _ A.lt];exact A.get,A.size,jM A.lt f.next⟩
theorem cJ (hi:i<d.size)(hh:H)(S:Nat)(x:Int):eU (aF (ints d.toList)) hh S i [aC x]=some (hh.set S (aF (ints (d.setIfInBounds i x).toList))):=by
 rw[Sb (by simpa using hi),Array.toList_setIfInBounds]
theorem bW {y:Int}(hi:i<d.size)(hh:H)(S:Nat)(x:Int):eU (aF (ints (d.setIfInBounds j y).toList)) hh S i [aC x]=some (hh.set S (aF (ints ((d.setIfInBounds j y).setIfInBounds i x).toList))):=
 cJ (by simpa using hi) hh S x
theorem dY.swap {h2:H}(A:dY h S N d){nx:Nat}(b:h.next<=nx)(e:h2=((H.mk h.tr nx).set S (aF (ints (d.setIfInBounds i d[j]!).toList))).set S (aF (ints ((d.setIfInBounds i d[j]!).setIfInBounds j d[i]!).toList))):dY h2 S N (swp d i j)/\Fx (· =S) h h2:=by
 subst e;refine⟨⟨?_,?_,jM A.lt b⟩,⟨b,λid _ c=>?_⟩⟩
 ·rw[H.aU];rfl
 ·have:=A.size;simp [swp,this]
 ·rw[H.aH _ c,H.aH _ c];rfl
theorem Cw (a:Int)(h:H):Ev T 198 [aC a] h (λv h'=>v= .bool false/\h'=h):=by
 refine dW nY rfl ?_;have e:decide (a≠a)=false:=bI om;simp(disch:=omega)only[go_sem,nY,aE,e]
theorem iC (a b:Int)(h:H):Ev T 144 [aC a,aC b] h (λv h'=>v= .bool (ltInt a b)/\Fr h h'):=by
 refine dW Bk rfl ?_;simp(disch:=omega)only[go_sem,Bk,aE];refine (Cw a h).mono ?_;rintro _ c ⟨rfl,rfl⟩;simp(disch:=omega)only[go_sem];exact⟨rfl,Fr.refl _⟩
theorem gZ {a b c:H}(x:Fx (· =S) a b)(y:Fx (· =S) b c):Fx (· =S) a c:=x.trans y λ_ _ h=>h
theorem EI (b:a<j+1)(h2:lt d[j+1]! d[j]! =true):insInner lt a (j+1) d=insInner lt a j (swp d (j+1) j):=by
 rw[insInner,bJ (by simp [b,h2])]
theorem DO (h2:lt d[j+1]! d[j]! =false):insInner lt a (j+1) d=d:=by
 rw[insInner,bU (by simp [h2])]
theorem CL (h:j<=a):insInner lt a j d=d:=by
 cases j with
 |zero=>rfl
 |succ j=>rw[insInner,bU (by simp;omega)]
theorem yY (h:H)(S N a b:Nat)(d:Array Int)(w:pY)(hN:N<1000000)(A:dY h S N d)(hb:b<=N)(K:a<=b):
  Ev T 234 [.sl S 0 N w,aC a,aC b] h (λ_ h'=>dY h' S N (insertionSort ltInt d a b)/\Fx (· =S) h h'):=by
 refine dW iX rfl ?_
 simp(disch:=omega)only[go_sem,iX,aE]
 rw[fJ a]
 refine aI (λt c p=> ∃(i:Nat) (e:Array Int),(∃g:Nat->V,c= [.sl S 0 N w,aC a,aC b,aC i,g 4,g 5,g 6])/\a<i/\i<=b+1/\dY p S N e/\insOuter ltInt a b i e=insertionSort ltInt d a b/\Fx (· =S) h p/\t=b+1-i) (b+1-(a+1))
  ⟨a+1,d,aB rfl,om,om,A,rfl,Fx.refl _ h,rfl⟩ ?_
 clear A
 rintro t c U ⟨i,e,⟨g,rfl⟩,L,B,A,f,F,rfl⟩
 simp(disch:=omega)only[go_sem]
 by_cases r:(i:Int)<(b:Int)
 case neg=>
  rw[bI r];simp(disch:=omega)only[go_sem];rw[insOuter,bU om] at f;rw[←f];exact⟨A,F⟩
 rw[cI r]
 rw[insOuter,bJ om] at f
 simp(disch:=omega)only[go_sem]
 refine aI (λt c p=> ∃(j:Nat) (k:Array Int),(∃g:Nat->V,c= [.sl S 0 N w,aC a,aC b,aC i,aC j,g 5,g 6])/\a<=j/\j<=i/\dY p S N k/\insInner ltInt a j k=insInner ltInt a i e/\Fx (· =S) h p/\t=j) i
  ⟨i,e,aB rfl,om,om,A,rfl,F,rfl⟩ ?_
 clear A F
 rintro t c n ⟨j,k,⟨Z,rfl⟩,J,O,A,o,F,Y⟩
 have sz:=A.size
 by_cases s:(a:Int)<(j:Int)
 ·obtain⟨m,rfl⟩: ∃m,j=m+1:=⟨j- 1,om⟩
  have Q:=A.rd (i:=m+1) om
  have P:=A.rd (i:=m) om
  have v:=cI s
  have z:((m+1:Nat):Int)- 1=(m:Int):=om
  simp(disch:=omega)only[go_sem,v,z,Q,P]
  refine (iC _ _ _).mono ?_
  rintro _ x ⟨rfl,u⟩
  have l:Fr n x:=Fr.trans ((Fr.refl n).bH om) u
  have q:=A.fr l
  have G:=q.rd (i:=m+1) om
  have R:=q.rd (i:=m) om
  cases hl:ltInt k[m+1]! k[m]! with
  |false=>
   rw[DO hl] at o;simp(disch:=omega)only[go_sem,hl];rw[fJ i];rw[←o] at f;exact⟨b+1-(i+1),om,i+1,k,aB rfl,om,om,q,f,gZ F (Fx.of l),rfl⟩
  |true=>
   rw[EI om hl] at o;simp(disch:=omega)only[go_sem,hl,z,G,R,q.get,cJ,bW];have W:=q.swap (i:=m+1) (j:=m) (nx:=x.next+18) om rfl;exact⟨m,om,m,_,aB rfl,om,om,W.1,o,gZ (gZ F (Fx.of l)) W.2,rfl⟩
 ·have v:=bI s
  rw[CL om] at o
  simp(disch:=omega)only[go_sem,v]
  rw[fJ i]
  rw[←o] at f
  have y:Fr n (H.mk n.tr (n.next+15)):=(Fr.refl n).bH om
  exact⟨b+1-(i+1),om,i+1,k,aB rfl,om,om,A.fr y,f,gZ F (Fx.of y),rfl⟩
end
def ZN (op:BinOp)(k:IntKind)(x y:V):Option V:=match x,y with
 | .int j a,.int _ b=>if j=k then Fq op k a b else none
 |_,_=>none
theorem Hj (ρ:X->V)(h:H)(op:BinOp)(k:IntKind)(x y:X):fC ρ h (.shf op k x y)=(ZN op k (ρ x) (ρ y)).map (·,h):=by
 simp only[fC,ZN];cases ρ x<;>cases ρ y<;>try rfl
 simp only;split<;>rfl
theorem Cd (op:BinOp)(k j:IntKind)(a b:Int):ZN op k (.int k a) (.int j b)=Fq op k a b:=by simp [ZN]
theorem wrap_u64 (n:Int):0<=IntKind.u64.wrap n/\IntKind.u64.wrap n<18446744073709551616:=by
 unfold IntKind.wrap;simp only[IntKind.bits,IntKind.signed];have:=Int.emod_nonneg n (show (18446744073709551616:Int)≠0 by omega);have:=Int.emod_lt_of_pos n (show (0:Int)<18446744073709551616 by omega);simp;omega
theorem fS {n:Int}(a:0<=n)(h2:n<18446744073709551616):IntKind.u64.wrap n=n:=by
 unfold IntKind.wrap;simp only[IntKind.bits,IntKind.signed];have:n%18446744073709551616=n:=Int.emod_eq_of_lt a h2;simp;exact this
theorem zG {n:Int}(a:0<=n)(h2:n<256):IntKind.u8.wrap n=n:=by
 unfold IntKind.wrap;simp only[IntKind.bits,IntKind.signed];have:n%256=n:=Int.emod_eq_of_lt a h2;simp;exact this
theorem IP (a b:Int)(c:0<=b): ∃y,Fq .shl .u64 a b=some (.int .u64 y)/\0<=y/\y<18446744073709551616:=by
 unfold Fq;rw[bU om];exact⟨_,rfl,wrap_u64 _⟩
theorem adV (a b:Int)(c:0<=b): ∃y,Fq .shr .u64 a b=some (.int .u64 y):=by
 unfold Fq;rw[bU om];exact⟨_,rfl⟩
theorem LV {x:Nat}:Fq .shr .u64 (x:Int) 8=some (.int .u64 ((x/256:Nat):Int)):=by
 unfold Fq;rw[bU om];simp only;congr 2;show Int.fdiv (x:Int) 256=_;rw[Int.fdiv_eq_ediv_of_nonneg _ om];rfl
theorem Vi (a b:Int): ∃y,arith .xor .u64 a b=some (.int .u64 y)/\0<=y/\y<18446744073709551616:=⟨_,rfl,wrap_u64 _⟩
theorem IU (a:Int)(b:Nat)(c:b<18446744073709551616): ∃y:Nat,arith .and .u64 a (b:Int)=some (.int .u64 (y:Int))/\y<=b:=by
 refine⟨(BitVec.ofInt 64 a&&&BitVec.ofInt 64 (b:Int)).toNat,?_,?_⟩
 ·rw[KQ]
  congr 2;show IntKind.u64.wrap (((BitVec.ofInt 64 a&&&BitVec.ofInt 64 (b:Int)).toNat:Nat):Int)=_;have:=(BitVec.ofInt 64 a&&&BitVec.ofInt 64 (b:Int)).isLt;generalize (BitVec.ofInt 64 a&&&BitVec.ofInt 64 (b:Int)).toNat=w at*;exact fS om om
 ·rw[BitVec.toNat_and]
  have:(BitVec.ofInt 64 (b:Int)).toNat=b:=by
   simp [BitVec.toNat_ofInt];omega
  rw[this];exact Nat.and_le_right
theorem PZ: ∀z,z<256->([0,1,2,2,3,3,3,3,4,4,4,4,4,4,4,4,5,5,5,5,5,5,5,5,5,5,5,5,5,5,5,5,6,6,6,6,6,6,6,6,6,6,6,6,6,6,6,6,6,6,6,6,6,6,6,6,6,6,6,6,6,6,6,6,7,7,7,7,7,7,7,7,7,7,7,7,7,7,7,7,7,7,7,7,7,7,7,7,7,7,7,7,7,7,7,7,7,7,7,7,7,7,7,7,7,7,7,7,7,7,7,7,7,7,7,7,7,7,7,7,7,7,7,7,7,7,7,7,8,8,8,8,8,8,8,8,8,8,8,8,8,8,8,8,8,8,8,8,8,8,8,8,8,8,8,8,8,8,8,8,8,8,8,8,8,8,8,8,8,8,8,8,8,8,8,8,8,8,8,8,8,8,8,8,8,8,8,8,8,8,8,8,8,8,8,8,8,8,8,8,8,8,8,8,8,8,8,8,8,8,8,8,8,8,8,8,8,8,8,8,8,8,8,8,8,8,8,8,8,8,8,8,8,8,8,8,8,8,8,8,8,8,8,8,8,8,8,8,8,8,8,8,8,8,8,8][z]? :Option Nat)=some (bitsLen z):=by decide+kernel
theorem IS {z:Nat}(b:z<256):ZG (.str [0,1,2,2,3,3,3,3,4,4,4,4,4,4,4,4,5,5,5,5,5,5,5,5,5,5,5,5,5,5,5,5,6,6,6,6,6,6,6,6,6,6,6,6,6,6,6,6,6,6,6,6,6,6,6,6,6,6,6,6,6,6,6,6,7,7,7,7,7,7,7,7,7,7,7,7,7,7,7,7,7,7,7,7,7,7,7,7,7,7,7,7,7,7,7,7,7,7,7,7,7,7,7,7,7,7,7,7,7,7,7,7,7,7,7,7,7,7,7,7,7,7,7,7,7,7,7,7,8,8,8,8,8,8,8,8,8,8,8,8,8,8,8,8,8,8,8,8,8,8,8,8,8,8,8,8,8,8,8,8,8,8,8,8,8,8,8,8,8,8,8,8,8,8,8,8,8,8,8,8,8,8,8,8,8,8,8,8,8,8,8,8,8,8,8,8,8,8,8,8,8,8,8,8,8,8,8,8,8,8,8,8,8,8,8,8,8,8,8,8,8,8,8,8,8,8,8,8,8,8,8,8,8,8,8,8,8,8,8,8,8,8,8,8,8,8,8,8,8,8,8,8,8,8,8,8]) (.int .u8 (z:Int))=some (.int .u8 ((bitsLen z:Nat):Int)):=by
 have c:bitsLen z<=8:=(bitsLen_le_iff z 8).2 om;have a:=PZ z b;generalize ([0,1,2,2,3,3,3,3,4,4,4,4,4,4,4,4,5,5,5,5,5,5,5,5,5,5,5,5,5,5,5,5,6,6,6,6,6,6,6,6,6,6,6,6,6,6,6,6,6,6,6,6,6,6,6,6,6,6,6,6,6,6,6,6,7,7,7,7,7,7,7,7,7,7,7,7,7,7,7,7,7,7,7,7,7,7,7,7,7,7,7,7,7,7,7,7,7,7,7,7,7,7,7,7,7,7,7,7,7,7,7,7,7,7,7,7,7,7,7,7,7,7,7,7,7,7,7,7,8,8,8,8,8,8,8,8,8,8,8,8,8,8,8,8,8,8,8,8,8,8,8,8,8,8,8,8,8,8,8,8,8,8,8,8,8,8,8,8,8,8,8,8,8,8,8,8,8,8,8,8,8,8,8,8,8,8,8,8,8,8,8,8,8,8,8,8,8,8,8,8,8,8,8,8,8,8,8,8,8,8,8,8,8,8,8,8,8,8,8,8,8,8,8,8,8,8,8,8,8,8,8,8,8,8,8,8,8,8,8,8,8,8,8,8,8,8,8,8,8,8,8,8,8,8,8,8]:List Nat)=l at*;unfold ZG;simp only;rw[bJ om,DK,a];simp only[Option.map_some];rw[Nat.mod_eq_of_lt om]
theorem WV {x:Nat}(h:256<=x):bitsLen x=8+bitsLen (x/256):=by
 apply Nat.le_antisymm
 ·rw[bitsLen_le_iff,Nat.pow_add]
  have:=lt_two_pow_bitsLen (x/256);omega
 ·have a:=lt_two_pow_bitsLen x
  have d: ¬bitsLen x<=8:=λb=>by rw[bitsLen_le_iff] at b;omega
  obtain⟨k,c⟩: ∃k,bitsLen x=8+k:=⟨bitsLen x- 8,om⟩
  rw[c,Nat.pow_add] at a;have:bitsLen (x/256)<=k:=(bitsLen_le_iff _ _).2 om;omega
theorem SO (x:Nat)(h:H)(f:x<65536):Ev T 177 [.int .u64 (x:Int)] h (λv h'=>v= aC (bitsLen x:Nat)/\h'=h):=by
 refine dW pP rfl ?_;have c:decide ((4294967296:Int)<=(x:Int))=false:=bI om;have b:decide ((65536:Int)<=(x:Int))=false:=bI om
 by_cases d:256<=x
 ·have a:decide ((256:Int)<=(x:Int))=true:=cI om
  have g:=WV d;have e:bitsLen (x/256)<=8:=(bitsLen_le_iff _ 8).2 om;simp(disch:=omega)only[go_sem,pP,aE,c,b,a,Hj,Cd,LV,IT,IS,zG];exact⟨by congr 1;omega,trivial⟩
 ·have a:decide ((256:Int)<=(x:Int))=false:=bI om
  have e:bitsLen x<=8:=(bitsLen_le_iff _ 8).2 om;simp(disch:=omega)only[go_sem,pP,aE,c,b,a,IT,IS,zG];exact⟨by congr 1;omega,trivial⟩
theorem CV (x:Nat)(h:H)(a:x<65536):Ev T 128 [.int .u64 (x:Int)] h (λv h'=>v= aC (bitsLen x:Nat)/\h'=h):=by
 refine dW zV rfl ?_;simp(disch:=omega)only[go_sem,zV,aE];refine (SO x h a).mono ?_;rintro _ _ ⟨rfl,rfl⟩;simp(disch:=omega)only[go_sem]
theorem HO (n:Nat)(h:H)(f:n<65536):Ev T 212 [aC n] h (λv h'=>v= .int .u64 ((2^bitsLen n:Nat):Int)/\h'=h):=by
 refine dW gG rfl ?_;have d:bitsLen n<=16:=(bitsLen_le_iff _ 16).2 om;have b:2^bitsLen n<=2^16:=Nat.pow_le_pow_right om d;obtain⟨m,a⟩:=exI (2^bitsLen n);rw[a] at b ⊢
 have c:Fq .shl .u64 1 ((bitsLen n:Nat):Int)=some (.int .u64 (m:Int)):=by
  unfold Fq;rw[bU om];simp only[DK,IntKind.bits];rw[Nat.min_eq_left om];have e:(1:Int)*2^bitsLen n=(m:Int):=by rw[Int.one_mul,←a];push_cast;rfl
  rw[e,fS om om]
 simp(disch:=omega)only[go_sem,gG,aE,fS (n:=(n:Int)) om om];refine (CV n h f).mono ?_;rintro _ _ ⟨rfl,rfl⟩;simp(disch:=omega)only[go_sem,Hj,Cd,c]
theorem HK (R:Nat)(x:Int)(h:H)(k:h.get R=some (.cells false [.int .u64 x]))(s:R<h.next):
  Ev T 213 [.ptr R 0] h (λv h'=> ∃y,v= .int .u64 y/\h'.get R=some (.cells false [.int .u64 y])/\Fx (· =R) h h'):=by
 refine dW pM rfl ?_
 have m:h.cell R 0=some (.int .u64 x):=by rw[H.cell_of k];rfl
 obtain⟨q,g,_⟩:=IP x 13 om
 obtain⟨j,i,_⟩:=Vi x q
 obtain⟨n,f⟩:=adV j 7 om
 obtain⟨l,d,_⟩:=Vi j n
 obtain⟨o,b,_⟩:=IP l 17 om
 obtain⟨r,e,_⟩:=Vi l o
 have p: ∀(u w:Int) (a:H),eU (some (.cells false [.int .u64 u])) a R 0 [.int .u64 w]=some (a.set R (some (.cells false [.int .u64 w]))):=λu w a=>bT (by simp) a R _
 simp(disch:=omega)only[go_sem,pM,aE,m,Hj,Cd,g,i,f,d,b,e,k,p]
 exact⟨r,rfl,rfl,⟨by simp only[H.cV];omega,λid _ c=>by
  rw[H.aH _ c,H.xZ,H.aH _ c,H.xZ,H.aH _ c,H.xZ]⟩⟩
theorem ZD:T 143=some ⟨0, [], [],.fail,true⟩:=rfl
theorem Mw (h:H)(S:Nat)(l:List Int)(j:pY)(q:l.length<60000)(f:h.get S=aF (ints l))(p:S<h.next):
  Ev T 143 [.sl S 0 l.length j] h (λ_ h'=> ∃l',h'.get S=aF (ints l')/\l'.Perm l/\l'.Pairwise (· <= ·)/\Fx (· =S) h h'):=by
 have i: ∀l:List Int,(ints l).map YX=l:=λl=>by
  rw[ints,List.map_map];exact List.map_id l
 have g:(ints l).all isI=true:=by
  rw[ints,List.all_map];exact zP.2 λ_ _=>rfl
 by_cases d:l.length=0
 ·refine⟨1,.tup [],h,λm n=>?_,l,f,List.Perm.refl l,by rw[ON d];exact .nil,Fx.of (Fr.refl h)⟩
  obtain⟨k,rfl⟩: ∃k,m=k+1:=⟨m- 1,om⟩
  simp only[nG,GO,ZD,if_true,Mm,d]
 ·refine⟨1,.tup [],_,λm n=>?_,l.mergeSort λx y=>decide (x<=y),H.aU ..,List.mergeSort_perm ..,?_,⟨Nat.le_of_eq (H.cV ..).symm,λid _ e=>H.aH _ e _⟩⟩
  ·obtain⟨k,rfl⟩: ∃k,m=k+1:=⟨m- 1,om⟩
   simp only[nG,GO,ZD,if_true,Mm,bU d,f]
   rw[bJ ⟨aP l,g,om⟩,i]
   rfl
  ·have:=List.pairwise_mergeSort (le:=λx y:Int=>decide (x<=y)) (λa b c o e=>by simp at*;omega) (λa b=>by simp;omega) l
   exact this.imp λh=>of_decide_eq_true h
theorem Yu {a b:List Int}(h:a.Perm b)(d:a.Pairwise (· <= ·))(f:b.Pairwise (· <= ·)):a=b:=
 h.eq_of_pairwise (λ_ _ _ _ c e=>Int.le_antisymm c e) d f
end Go.Proofs.YtcdbmkidaecdiaaGreat
namespace Go.Proofs.YtcdbmkidaecdiaaGreat
open Go Go.Ay Go.Pm
set_option maxRecDepth 100000
theorem DT (id b:Nat)(d:V)(l:List Int)(h:H)(F:l.length<1000000)(J:Nat->H->Prop)(D:H->Prop)(n:J 0 h)
  (m: ∀i hh,J i hh->hh.get b=aF [d]/\SI hh d l)
  (z: ∀i hh,i<l.length->J i hh->Ey T id [aC (l.getD i 0)] hh (λv h'=>v= .bool true/\J (i+1) h'∨v= .bool false/\D h')):
  Ev T 232 [.yl id,.ptr b 0] h (λ_ h'=>J l.length h'∨D h'):=by
 refine dW mW rfl ?_
 obtain⟨p,q⟩:=m 0 h n
 have t:h.cell b 0=some d:=by rw[H.cell_of p];rfl
 have A:=q.lens
 simp(disch:=omega)only[go_sem,mW,aE,t,A]
 refine aI (λo a hh=> ∃(i:Nat),(∃g:Nat->V,a= [.yl id,.ptr b 0,g 2,d,aC (l.length:Int),aC i,g 6,g 7])/\i<=l.length/\J i hh/\o=l.length-i) l.length
  ⟨0,aB rfl,iB _,n,rfl⟩ ?_
 rintro o a k ⟨i,⟨g,rfl⟩,hi,f,rfl⟩
 by_cases c:(i:Int)<(l.length:Int)
 ·have e:=cI c
  obtain⟨G,s⟩:=m i k f
  obtain⟨r,u,x,w,y⟩:=s.open
  have ci:=y i om
  simp(disch:=omega)only[go_sem,e,x.ixa,ci]
  refine (z i k om f).mono ?_
  rintro v B (⟨rfl,j⟩|⟨rfl,j⟩)
  ·simp(disch:=omega)only[go_sem]
   rw[fJ i]
   exact⟨l.length-(i+1),om,i+1,aB rfl,om,j,rfl⟩
  ·simp(disch:=omega)only[go_sem]
   exact .inr j
 have e:=bI c
 obtain rfl:i=l.length:=om
 simp(disch:=omega)only[go_sem,e]
 exact .inl f
theorem CE (b:Nat)(vl:V)(l:List Int)(h:H)(hn:l.length<100000)(hb:h.get b=aF [vl])(O:b<h.next)(R:SI h vl l):
  Ev T 231 [.fn 232 [] [.ptr b 0]] h (λv h'=>dH h' v 1 (ints l) h.next/\(v= .aD∨ ∃id cap,v= .sl id 0 l.length cap/\h.next<=id/\id<h'.next/\h'.get id=aF (ints l))/\Fr h h'):=by
 refine dW rW rfl ?_
 simp(disch:=omega)only[go_sem,rW,aE]
 refine Ev.mono (Q:=λv h'=>dH h' v 1 (ints l) h.next/\(v= .aD∨ ∃id cap,v= .sl id 0 l.length cap/\h.next<=id/\id<h'.next/\h'.get id=aF (ints l))/\Fr h h') ?_ (λv h' R=>by simp(disch:=omega)only[go_sem];exact R)
 refine dW mI rfl ?_
 simp(disch:=omega)only[go_sem,mI,aE,mE (x:= .aD) rfl rfl]
 obtain⟨B,N⟩:=exI h.next
 obtain⟨s,q⟩: ∃s,s=h.new (.cells false [.aD]):=⟨_,rfl⟩
 have g1:s.get B=aF [.aD]:=by rw[q,←N,H.aL]
 have n1:s.next=B+1:=by rw[q,H.aW,N]
 have f1:Fr h s:=by rw[q];exact (Fr.refl h).new _
 rw[←q,N]
 refine⟨rfl,?_⟩
 refine wF λr p=>?_
 refine (DT (B+1) b vl l _ om (λi d=>d.get (B+1)=some (.loop r)/\B+1<d.next/\Fr h d/\ ∃g,d.get B=aF [g]/\dH d g 1 (ints (l.take i)) (B+2)/\(g= .aD∨ ∃id cap,g= .sl id 0 i cap/\B+2<=id/\id<d.next/\d.get id=aF (ints (l.take i)))) (λ_=>False) ?_ ?_ ?_).mono ?_
 ·have e:=H.aL s (.loop r)
  rw[n1] at e
  refine⟨e,by rw[H.aW];omega,f1.new _,.aD,by rw[H.bG s om];exact g1,dH.aD _ _ _,.inl rfl⟩
 ·rintro i d ⟨_,_,f,_⟩
  exact⟨by rw[f.get b O];exact hb,R.mono f⟩
 ·rintro i d hi ⟨Y,nr,f,g,G,A,sh⟩
  have jI:r.st= .ready:=by rw[p]
  have L:r.pend=none:=by rw[p]
  refine uC Y (by rw[p];rfl) jI λt g2 W o2=>?_
  rw[congrArg fK.assign p,congrArg fK.vars p,congrArg fK.pars p]
  simp(disch:=omega)only[go_sem,List.zip_cons_cons,List.zip_nil_left]
  rw[congrArg fK.body p]
  have J:t.cell B 0=some g:=by unfold H.cell;rw[o2 B om,G];rfl
  simp(disch:=omega)only[go_sem,J,cK t (z:= aC 0) (v:= aC (l.getD i 0)) rfl rfl,W]
  obtain⟨a,o⟩: ∃a,a=t.new (.cells false [aC (l.getD i 0)]):=⟨_,rfl⟩
  have g3:a.get d.next=aF [aC (l.getD i 0)]:=by rw[o,←W,H.aL]
  have n3:a.next=d.next+1:=by rw[o,H.aW,W]
  have U: ∀k,k<d.next->k≠B+1->a.get k=d.get k:=λk j w=>by rw[o,H.bG t om,o2 k w]
  have r3:a.get (B+1)=some (.loop (qE r)):=by rw[o,H.bG t om,g2]
  rw[←o]
  have P:dH a g 1 (ints (l.take i)) (B+2):=A.mono om λid F n c e j w=>U id w om
  have K:(l.take i).length=i:=by rw[zO];omega
  obtain⟨j,a4,y⟩:=P.push (bytes:=8) (SV.one om g3 (.kn 1)) (n:=i) (m:=1) (by rw[aP,K,tW]) rfl om om om
  have Z: ∀k,k<B+2->dR g k:=λk hk id F n c e e2=>by
   have:=(A.in _ _ _ _ e).2.1;omega
  have g4:j.get B=aF [g]:=by rw[y.old B om (Z B om),U B om om];exact G
  have r4:j.get (B+1)=some (.loop (qE r)):=by rw[y.old (B+1) om (Z (B+1) om)];exact r3
  have pt:eU (aF [g]) j B 0 [.sl a.next 0 (i+1) (.un 1)]=some (j.set B (aF [.sl a.next 0 (i+1) (.un 1)])):=bT (by simp) j B _
  simp(disch:=omega)only[go_sem,a4,g4,pt]
  refine pU jI L (by rw[H.aH j om];exact r4) (.inl ⟨rfl,?_⟩)
  have et:ints (l.take (i+1))=ints (l.take i)++ [aC (l.getD i 0)]:=by
   rw[←List.take_append_getElem hi,rP];simp [ints,List.getD,hi]
  have n4:=y.next
  have g5:((j.set B (aF [.sl a.next 0 (i+1) (.un 1)])).set (B+1) (some (.loop r))).get a.next=aF (ints (l.take (i+1))):=by
   rw[H.aH _ om,H.aH _ om,y.get,et]
  refine⟨by rw[H.aU],by simp only[H.cV];omega,⟨by simp only[H.cV];have:=f.next;omega,λid u=>?_⟩,_,by rw[H.aH _ om,H.aU],?_,.inr ⟨a.next,_,rfl,om,by simp only[H.cV];omega,g5⟩⟩
  ·rw[H.aH _ om,H.aH _ om,y.old id (by have:=f.next;omega) (Z id om),U id (by have:=f.next;omega) om]
   exact f.get id u
  ·exact .inr ⟨a.next,i+1,_, [],rfl,by rw[aP,zO];omega,.inl rfl,om,by simp only[H.cV];omega,by rw[tZ];exact g5⟩
 ·rintro _ t (⟨Y,nr,f,g,G,A,sh⟩|h)
  case inr=>exact h.elim
  refine⟨r,Y,by rw[p];simp,?_⟩
  have J:(t.set (B+1) (some (.loop {r with st:= .out}))).cell B 0=some g:=by unfold H.cell;rw[H.aH _ om,G];rfl
  have en:r.pend.getD .norm= .norm:=by rw[p];rfl
  rw[en]
  simp(disch:=omega)only[go_sem,J]
  rw[List.take_length] at A sh
  refine⟨?_,?_,⟨by simp only[H.cV];have:=f.next;omega,λid u=>by rw[H.aH _ om];exact f.get id u⟩⟩
  ·refine (A.mono (by simp only[H.cV];omega) λid F n c e j w=>H.aH _ om _).le om
  ·rcases sh with rfl|⟨id,cap,rfl,a,j,w⟩
   ·exact .inl rfl
   ·exact .inr ⟨id,cap,rfl,om,j,by rw[H.aH _ om];exact w⟩
theorem JU (b:Nat)(d:V)(l:List Int)(h:H)(w:0<l.length)(x:l.length<50000)(r:h.get b=aF [d])(f:b<h.next)(o:SI h d l):
  Ev T 194 [.fn 232 [] [.ptr b 0]] h (λv h'=> ∃id cap l',v= .sl id 0 l.length cap/\h.next<=id/\id<h'.next/\h'.get id=aF (ints l')/\l'.Perm l/\l'.Pairwise (· <= ·)/\Fr h h'):=by
 refine dW sZ rfl ?_
 simp(disch:=omega)only[go_sem,sZ,aE]
 refine (CE b d l h om r f o).mono ?_
 rintro v j ⟨n,s,a⟩
 rcases s with rfl|⟨id,cap,rfl,m,g,u⟩
 ·exfalso
  rcases n with ⟨_,e⟩|⟨_,_,_,_,e,_⟩
  ·have:=congrArg List.length e
   rw[aP,List.length_nil] at this
   omega
  ·cases e
 simp(disch:=omega)only[go_sem]
 refine (Mw j id l cap om u g).mono ?_
 rintro _ y ⟨l',q,p,t,c⟩
 simp(disch:=omega)only[go_sem]
 exact⟨id,cap,l',rfl,m,jM g c.next,q,p,t,mY a.next c.next,λk i=>(c.get k (jM i a.next) (λe=>by have:k=id:=e;omega)).trans (a.get k i)⟩
section
variable {v vO vR:V} {b C D n:Nat} {r O:LN} {wsO wsR:List V}
structure Af (h h':H)(v:V)(l:List Int):Prop where
 ex: ∃id cap,v= .sl id 0 l.length cap/\h.next<=id/\id<h'.next/\h'.get id=aF (ints l)/\(cap= .un 1∨cap= .kn l.length)
 fr:Fr h h'
theorem Af.pv {h h':H}{l:List Nat}(f:Af h h' v (zi l)){W:Nat->Prop}(e: ∀id,W id->id<h.next):PV W h' v l:=by
 obtain⟨id,a,rfl,i,d,c,_⟩:=f.ex;exact⟨SV.all (by rw[aP,tW]) d c _,λg=>by have:=e id g;omega⟩
theorem Af.si {h h':H}{l:List Int}(f:Af h h' v l):SI h' v l:=by
 obtain⟨id,a,rfl,e,d,c,_⟩:=f.ex;exact SV.all (by rw[aP,tW]) d c _
theorem Af.own {h h':H}{l:List Int}(f:Af h h' v l):dH h' v 1 (ints l) h.next:=by
 obtain⟨id,a,rfl,c,g,d,i⟩:=f.ex;exact .inr ⟨id,l.length,a, [],rfl,by rw[aP,tW],by rcases i with e|e;exact .inl e;exact .inr ⟨e,rfl⟩,c,g,by rw[tZ];exact d⟩
theorem Nh (u:V)(l:List Int)(h:H)(s:0<l.length)(A:l.length<1000000)(o:SI h u l):
  Ev T 138 [u] h (λv h'=>Af h h' v l):=by
 refine dW fU rfl ?_
 have x:Ht false u=some (.bool false):=by
  rcases o with ⟨_,e⟩|⟨id,d,len,t,B,F,rfl,_⟩
  ·have:=congrArg List.length e
   rw[aP,List.length_nil] at this;omega
  ·rfl
 simp(disch:=omega)only[go_sem,fU,aE,x]
 have g:Fr h (h.new (.cells false [])):=(Fr.refl h).new _
 have w:dH (h.new (.cells false [])) (.sl h.next 0 0 (.kn 0)) 1 [] 0:=dH.new h 1 0 0 [] rfl (iB _)
 obtain⟨y,j,a⟩:=w.push (bytes:=8) (o.mono g) (n:=0) (m:=l.length) rfl (by rw[aP,tW]) om s om
 have i:(h.new (.cells false [])).next=h.next+1:=H.aW ..
 rw[i] at j
 have p:=a.next
 have k:=a.get
 rw[i] at p k
 simp(disch:=omega)only[go_sem,j]
 refine⟨⟨h.next+1,_,rfl,om,om,k,.inl rfl⟩,om,λid f=>?_⟩
 rw[a.old id om (λq d n c e z=>by cases e;omega)]
 exact g.get id f
def II (v:V):Prop:= ∀id off len cap,v= .sl id off len cap->cap= .un 1∨ ∃c,cap= .kn c/\len<=c
theorem dH.UH {h:H}{ws:List V}(o:dH h v 1 ws b):II v:=by
 rintro id d len a rfl;rcases o with ⟨e,_⟩|⟨_,_,_,_,e,_,c,_⟩
 ·cases e
 ·cases e
  rcases c with e|⟨e,_⟩
  ·exact .inl e
  ·exact .inr ⟨_,e,dT _⟩
def SRR (h:H)(v:V)(R:List (List (List Int))):Prop:= ∃ws,SV h v 1 ws/\aN (SR h) ws R/\ ∀w∈ws,II w
theorem SRR.mono {h h':H}{R:List (List (List Int))}(s:SRR h v R)(f:Fr h h'):SRR h' v R:=by
 obtain⟨c,s,a,k⟩:=s;exact⟨c,s.mono f,a.mono λ_ _ x=>x.mono f,k⟩
def YD (h:H)(v:V)(d:Int)(O:List (List Int))(R:List (List (List Int))):Prop:= ∃vO vR,v= .agg [aC d,vO,vR]/\SR h vO O/\SRR h vR R
theorem YD.mono {h h':H}{d:Int}{O:List (List Int)}{R:List (List (List Int))}(s:YD h v d O R)(f:Fr h h'):YD h' v d O R:=by
 obtain⟨vO,vR,e,c,a⟩:=s;exact⟨vO,vR,e,c.mono f,a.mono f⟩
def PL (W:Nat->Prop)(h:H)(v:V)(r:LN):Prop:= ∃ws,SV h v 1 ws/\Ej W v/\dZ W h ws r/\II v
section
variable {W W':Nat->Prop} {h h' hh:H}
theorem PL.go (p:PL W h v r)(f:Fx W h h')(c: ∀id,id<h.next->W' id->W id):PL W' h' v r:=by
 obtain⟨d,s,o,a,k⟩:=p;exact⟨d,s.fx o f,o.kO s c,dZ.go a f c,k⟩
theorem PL.sp (p:PL W h v r):SP h v r:=by
 obtain⟨d,s,o,a,_⟩:=p;refine⟨d,s,?_⟩;have c:=aN.length a
 exact aN.eM (by simpa using c) λi hi e=>by
  have:=(aN.get a i hi om).si;simpa using this
def Ik (W:Nat->Prop)(v:V):Prop:= ∀id off n c,v= .sl id off n c->W id
structure Cn (h hh:H)(C D:Nat)(W:Nat->Prop)(n:Nat)(O:LN)(R:jJ)(vO vR:V)(wsO wsR:List V):Prop where
 get:hh.get C=aF [aC n,vO,vR]
 oO:dH hh vO 1 wsO h.next
 oR:dH hh vR 1 wsR h.next
 aO:dZ W hh wsO O
 aR:aN (PL W hh) wsR R
 bO:Ik W vO
 bR:Ik W vR
 pO:dR vO C
 pR:dR vR C
 qO:dR vO D
 qR:dR vR D
 d:W D
 cd:C≠D
 Rh:Dis vO vR
 wb: ∀id,W id->id<hh.next
 low: ∀id,id<h.next->W id
 hC:h.next<=C
 hD:h.next<=D
 c:W C
 fr:Fr h hh
theorem Cn.start (i:h.next<=C)(a:C<hh.next)(g:h.next<=D)(c:D<hh.next)(d:C≠D)(f:Fr h hh)(j:hh.get C=aF [aC n,.aD,.aD]):Cn h hh C D (λid=>id=C∨id=D∨id<h.next) n [] [] .aD .aD [] []:=
 ⟨j,dH.aD _ _ _,dH.aD _ _ _,trivial,trivial,λ_ _ _ _ e=>(by cases e),λ_ _ _ _ e=>(by cases e),dR.aD _,dR.aD _,dR.aD _,dR.aD _,.inr (.inl rfl),d,λ_ _ _ _ e=>(by cases e),λid e=>by rcases e with rfl|rfl|e;exact a;exact c;exact jM e f.next,λid e=> .inr (.inr e),i,g,.inl rfl,f⟩
theorem Cn.mono {R:jJ}(A:Cn h hh C D W n O R vO vR wsO wsR){h2:H}(f:Fr hh h2):Cn h h2 C D W n O R vO vR wsO wsR:=
 ⟨by rw[f.get C (A.wb C A.c)];exact A.get,A.oO.fr f,A.oR.fr f,dZ.go A.aO (Fx.of f) (λ_ _ h=>h),A.aR.mono λ_ _ x=>x.go (Fx.of f) (λ_ _ h=>h),A.bO,A.bR,A.pO,A.pR,A.qO,A.qR,A.d,A.cd,A.Rh,λid h=>jM (A.wb id h) f.next,A.low,A.hC,A.hD,A.c,A.fr.trans f⟩
theorem Cn.step {R:jJ}(A:Cn h hh C D W n O R vO vR wsO wsR){v4 v5:V}{o:List Nat}(G:PV W hh v4 o)(B:PL W hh v5 r)
  {h6:H} {a k1 k2:Nat} (ha:hh.next<=a) (hb:hh.next<=b) (t:a≠b) (u:a<h6.next) (y:b<h6.next) (z:wsO.length+1=k1) (L:wsR.length+1=k2)
  (N:h6.get C=aF [aC n,.sl a 0 k1 (.un 1),.sl b 0 k2 (.un 1)]) (J:h6.get a=aF (wsO++ [v4])) (F:h6.get b=aF (wsR++ [v5]))
  (p: ∀k,k<hh.next->k≠C->dR vO k->dR vR k->h6.get k=hh.get k):
  Cn h h6 C D (λid=>W id∨id=a∨id=b) n (O++ [o]) (R++ [r]) (.sl a 0 k1 (.un 1)) (.sl b 0 k2 (.un 1)) (wsO++ [v4]) (wsR++ [v5]):=by
 have s:Fx W hh h6:=⟨om,λid g j=>p id g (λe=>j (e▸A.c)) (λl f n c e m=>j (m▸A.bO _ _ _ _ e)) (λl f n c e m=>j (m▸A.bR _ _ _ _ e))⟩
 have q: ∀id,id<hh.next->(W id∨id=a∨id=b)->W id:=λid g j=>by
  rcases j with j|j|j
  ·exact j
  ·omega
  ·omega
 have Q:=A.wb C A.c
 have Z:=A.wb D A.d
 have P:=A.fr.next
 refine⟨N,.inr ⟨a,k1,_, [],rfl,by rw[iV];simp;omega,.inl rfl,om,u,by rw[tZ];exact J⟩,.inr ⟨b,k2,_, [],rfl,by rw[iV];simp;omega,.inl rfl,om,y,by rw[tZ];exact F⟩,
  (dZ.go A.aO s q).append (dZ.one (PV.go G s q)),(A.aR.mono λ_ _ x=>x.go s q).append ⟨B.go s q,trivial⟩,λid f n c e=>by cases e;exact .inr (.inl rfl),λid f n c e=>by cases e;exact .inr (.inr rfl),
  dR.sl om,dR.sl om,dR.sl om,dR.sl om,.inl A.d,A.cd,λi o n c e Y o' U c' K=>by cases e;cases K;exact t,λid g=>?_,λid g=> .inl (A.low id g),A.hC,A.hD,.inl A.c,⟨om,λid w=>?_⟩⟩
 ·rcases g with g|g|g
  ·have:=A.wb id g;omega
  ·omega
  ·omega
 ·have hC:=A.hC
  rw[p id om om (λl f n c e m=>by have:=(A.oO.in _ _ _ _ e).2.1;omega) (λl f n c e m=>by have:=(A.oR.in _ _ _ _ e).2.1;omega)]
  exact A.fr.get id w
theorem Cn.box {R:jJ}(A:Cn h hh C D W n O R vO vR wsO wsR){h3:H}{o:Option Ob}(e:h3=hh.set D o):Cn h h3 C D W n O R vO vR wsO wsR:=by
 subst e;have f:Fx W hh (hh.set D o):=Fx.set hh A.d o;have i:=A.wb D A.d
 refine⟨by rw[H.aH hh A.cd];exact A.get,A.oO.mono (dT _) λid a m c e _ _=>H.aH hh (λg=>A.qO _ _ _ _ e g.symm) o,A.oR.mono (dT _) λid a m c e _ _=>H.aH hh (λg=>A.qR _ _ _ _ e g.symm) o,
  dZ.go A.aO f (λ_ _ h=>h),A.aR.mono λ_ _ x=>x.go f (λ_ _ h=>h),A.bO,A.bR,A.pO,A.pR,A.qO,A.qR,A.d,A.cd,A.Rh,A.wb,A.low,A.hC,A.hD,A.c,?_⟩
 exact A.fr.set A.hD o
end
def OP (W:Nat->Prop)(h:H)(v:V)(n:Nat)(O:LN)(R:jJ):Prop:= ∃vO vR wsO wsR,v= .agg [aC n,vO,vR]/\SV h vO 1 wsO/\Ej W vO/\dZ W h wsO O/\SV h vR 1 wsR/\Ej W vR/\aN (PL W h) wsR R
section
variable {W W':Nat->Prop} {h h' hh:H}
theorem OP.go {R:jJ}(c:OP W h v n O R)(f:Fx W h h')(a: ∀id,id<h.next->W' id->W id):OP W' h' v n O R:=by
 obtain⟨vO,vR,wsO,wsR,e,j,g,l,i,d,k⟩:=c;exact⟨vO,vR,wsO,wsR,e,j.fx g f,g.kO j a,dZ.go l f a,i.fx d f,d.kO i a,k.mono λ_ _ x=>x.go f a⟩
theorem OP.mono {R:jJ}(c:OP W h v n O R)(f:Fr h h'):OP W h' v n O R:=c.go (Fx.of f) λ_ _ h=>h
theorem OP.ch {R:jJ}(c:OP W h v n O R):YD h v (n:Int) (O.map zi) (R.map (List.map zi)):=by
 obtain⟨vO,vR,wsO,wsR,e,l,p,f,m,o,a⟩:=c;refine⟨vO,vR,e,⟨wsO,l,?_⟩,⟨wsR,m,?_,λw g=>?_⟩⟩
 ·have d:=aN.length f
  exact aN.eM (by simpa using d) λi hi j=>by
   have:=(aN.get f i hi om).si;simpa using this
 ·have d:=aN.length a
  exact aN.eM (by simpa using d) λi hi j=>by
   have:=(aN.get a i hi om).sp;simpa using this
 ·obtain⟨i,hi,rfl⟩:=Ad.1 g
  have d:=aN.length a;obtain⟨_,_,_,_,k⟩:=aN.get a i hi om;exact k
theorem DM {sz:Nat}{ws:List V}(o:dH h v sz ws b):Ej (λid=>id<b) v:=by
 cases v with
 |sl id off m c=>exact λe=>by have:=(o.in _ _ _ _ rfl).2.1;omega
 |_=>trivial
theorem Cn.chw {R:jJ}(A:Cn h hh C D W n O R vO vR wsO wsR):OP (λid=>id<h.next) hh (.agg [aC n,vO,vR]) n O R:=
 ⟨vO,vR,wsO,wsR,rfl,A.oO.sv,DM A.oO,dZ.kO A.aO λid _ h=>A.low id h,A.oR.sv,DM A.oR,A.aR.mono λ_ _ x=>x.go (Fx.refl _ _) λid _ h=>A.low id h⟩
end
theorem BX {h:H}{O:List (List Int)}(s:SR h v O):v.one=true:=by
 obtain⟨_,t,_⟩:=s;exact t.cT.2.1
theorem Up {h:H}{O:List (List (List Int))}(s:SRR h v O):v.one=true:=by
 obtain⟨_,t,_⟩:=s;exact t.cT.2.1
end
def ChL (τ:qD)(n j:Nat)(o:List Nat)(r:LN):Prop:=o.Pairwise (· < ·)/\(∀p,p∈o↔p∈(τ j).orb)/\r.length=o.length/\ ∀k,k<o.length-> ∀y,(τ j).to (o.getD k 0)=some y->r.getD k []=Lx τ (n-(j+1)) (j+1) y
theorem acD {l:List Int}{a:List Nat}(h:l.Perm (zi a)): ∃q,l=zi q/\q.Perm a:=by
 refine⟨l.map Int.toNat,?_,?_⟩
 ·unfold zi
  rw[List.map_map];refine (List.map_id l).symm.trans (Xa λx b=>?_);have:=h.mem_iff.1 b;obtain⟨k,_,rfl⟩:=pH.1 this;simp
 ·have:=h.map Int.toNat
  have e:(zi a).map Int.toNat=a:=by
   unfold zi;rw[List.map_map];exact (Xa λx _=>by simp).trans (List.map_id a)
  rwa [e] at this
theorem ahJ {q:List Nat}(h:(zi q).Pairwise (· <= ·))(nd:q.Nodup):q.Pairwise (· < ·):=by
 unfold zi at h;rw[List.pairwise_map] at h;rw[MV] at nd;exact (h.and nd).imp λ⟨a,h2⟩=>om
theorem KX (u:V)(b:u.cells= [u])(a:u.one=true)(h:H):Ev T 195 [u] h (λv h'=>v= .fn 232 [] [.ptr h.next 0]/\h'.get h.next=aF [u]/\h'.next=h.next+1/\Fr h h'):=by
 refine dW oP rfl ?_;simp(disch:=omega)only[go_sem,oP,aE,mE b a];exact (Fr.refl h).new _
theorem mK {α:Type}{a:List α}{x:α}{j:Nat}{d:α}(h:j<a.length):(a++ [x]).getD j d=a.getD j d:=by
 rw[List.getD,List.getD,Dt h]
theorem kQ {α:Type}{a:List α}{x d:α}:(a++ [x]).getD a.length d=x:=by
 rw[List.getD,Jg (dT _),Nat.sub_self];rfl
theorem Rw (h:H)(n s L:Nat)(F:Nat->V)(τ:qD)(hn:n<=7)(R:tC h n s L F τ)(t:pX n 0 τ):
  Ev T 142 [.ptr s 0] h (λv h'=> ∃O R',OP (λid=>id<h.next) h' v n O R'/\aV n (S n τ 0) O R'/\Fr h h'):=by
 refine dW kH rfl ?_
 obtain⟨B,hB⟩:=exI h.next
 have tn:=R.tn
 have ln:=R.ln
 have ct:h.cell s 0=some (aC n):=by rw[H.cell_of R.t];rfl
 have bl:qU [aC 0,.aD,.aD] [(0,1,aC n)]=some (.agg [aC n,.aD,.aD]):=by
  have e1:putAt [aC 0,.aD,.aD] 0 [aC n]=some [aC n,.aD,.aD]:=by simp [putAt]
  simp [qU,iK,e1,V.cells,V.one]
 obtain⟨Q,a3⟩: ∃Q,Q=(h.new (.cells false [aC 0,.aD,.aD])).new (.cells false [aC 0,.aD,.aD]):=⟨_,rfl⟩
 have n1:Q.next=B+2:=by rw[a3,H.aW,H.aW,hB]
 have g1:Q.get (B+1)=aF [aC 0,.aD,.aD]:=by
  rw[a3];have:=H.aL (h.new (.cells false [aC 0,.aD,.aD])) (.cells false [aC 0,.aD,.aD]);rwa [H.aW,hB] at this
 have g0:Q.get B=aF [aC 0,.aD,.aD]:=by rw[a3,H.bG _ (by rw[H.aW,hB];omega),←hB,H.aL]
 have f1:Fr h Q:=by rw[a3];exact ((Fr.refl h).new _).new _
 have i4:Q.cell s 0=some (aC n):=by rw[f1.cell tn];exact ct
 simp(disch:=omega)only[go_sem,kH,aE,hB,ct,bl]
 rw[←a3]
 simp(disch:=omega)only[go_sem,cF Q (B+1) 0 (v:= aC n) (u:= .aD) (w:= .aD) rfl rfl rfl,g1,cH]
 obtain⟨l,a4⟩: ∃l,l=Q.set (B+1) (aF [aC n,.aD,.aD]):=⟨_,rfl⟩
 have n2:l.next=B+2:=by rw[a4];exact n1
 have f2:Fr h l:=by rw[a4];exact f1.set om _
 have g2:l.get (B+1)=aF [aC n,.aD,.aD]:=by rw[a4,H.aU]
 have c3:l.get B=aF [aC 0,.aD,.aD]:=by rw[a4,H.aH _ om];exact g0
 have c9:Q.cell s 1=some (.sl L 0 n (.kn n)):=by rw[H.cell_of (R.mono f1).t];rfl
 rw[←a4]
 simp(disch:=omega)only[go_sem,c9]
 clear a3 a4 f1 g0 g1 i4 c9 n1 Q
 refine aI (λk' a2 J=> ∃(i:Nat) (W:Nat->Prop) (O:LN) (R':jJ) (vO N:V) (c8 b8:List V),(∃g:Nat->V,a2= [.ptr s 0,.ptr B 0,.ptr (B+1) 0,g 3,g 4,g 5,g 6,aC n,aC i,g 9,g 10,g 11,g 12,g 13])/\i<=n/\Cn h J (B+1) B W n O R' vO N c8 b8/\
   J.get B=aF [aC 0,.aD,.aD]/\O.length=i/\R'.length=i/\(∀j,j<i->ChL τ n j (O.getD j []) (R'.getD j []))/\k'=n-i) n
  ⟨0,_, [], [],_,_,_,_,aB rfl,iB _,Cn.start om om om om om f2 g2,c3,rfl,rfl,λj hj=>om,rfl⟩ ?_
 clear f2 g2 c3 n2 l
 rintro k' a2 l ⟨i,W,O,R',vO,N,c8,b8,⟨g,rfl⟩,hi,A,gB,lO,lR,hC,rfl⟩
 by_cases c4:(i:Int)<(n:Int)
 case neg=>
  have e1:=bI c4;obtain rfl:i=n:=om
  have hr:=aJ A.get;have nB:=A.fr.next;simp(disch:=omega)only[go_sem,e1,hr,cF l B 0 (v:= aC i) (u:=vO) (w:=N) rfl (SV.cT A.oO.sv).2.1 (SV.cT A.oR.sv).2.1,gB,cH];have h0:=aJ (h:=l.set B (aF [aC i,vO,N])) (H.aU ..);have fB:Fx (· =B) l (l.set B (aF [aC i,vO,N])):=Fx.set l (W:=(· =B)) rfl _;simp(disch:=omega)only[go_sem,h0]
  obtain⟨h3,d2⟩: ∃h3,h3=l.set B (aF [aC i,vO,N]):=⟨_,rfl⟩
  rw[←d2] at fB ⊢;have A3:=A.box d2;refine⟨O,R',by rw[←hB];exact A3.chw,?_,A3.fr⟩;have X:=t.chain (O:=O) (R:=R') lO lR (λj hj=>(hC j hj).1) (λj hj=>(hC j hj).2.1) (λj hj=>(hC j hj).2.2.1) (λj hj=>(hC j hj).2.2.2);exact X
 have e1:=cI c4
 have a0:i<n:=om
 have R2:=R.mono A.fr
 have cl:l.cell s 1=some (.sl L 0 n (.kn n)):=by rw[H.cell_of R2.t];rfl
 have co:l.cell L (i*194+1)=some (F (i*194+1)):=R2.cell a0 om
 have oo:=R2.orb i a0
 obtain⟨nG,_⟩:=t i (iB _) a0
 have j1:=YF nG a0
 have c6:0<(τ i).orb.length:=Rl nG.base
 simp(disch:=omega)only[go_sem,e1,cl,co]
 refine (KX (F (i*194+1)) (SV.cT oo.sv).1 (SV.cT oo.sv).2.1 l).mono ?_
 rintro _ h3 ⟨rfl,g3,n3,f3⟩
 simp(disch:=omega)only[go_sem]
 have d6:SI h3 (F (i*194+1)) (zi (τ i).orb):=(show SI l _ _ from oo.sv).mono f3
 refine (JU l.next _ (zi (τ i).orb) h3 (by rw[aS];exact c6) (by rw[aS];omega) g3 om d6).mono ?_
 rintro _ h4 ⟨P,cp,l',rfl,j0,d1,gP,pm,d7,f4⟩
 obtain⟨q,rfl,b6⟩:=acD pm
 have d0:=ahJ d7 (b6.nodup_iff.2 nG.nd)
 have lq:q.length=(τ i).orb.length:=b6.length_eq
 have b4: ∀p,p∈q↔p∈(τ i).orb:=λp=>b6.mem_iff
 rw[aS,←lq]
 have A4:=A.mono (f3.trans f4)
 have pq:PV W h4 (.sl P 0 q.length cp) q:=⟨SV.all (by rw[aP,aS,tW]) d1 gP _,λhw=>by have:=A.wb P hw;omega⟩
 have e6:h4.get B=aF [aC 0,.aD,.aD]:=by rw[(f3.trans f4).get B (A.wb B A.d)];exact gB
 clear A gB g3 d6 oo co cl R2 pm d7
 simp(disch:=omega)only[go_sem]
 refine bQ (λvs J=> ∃(U:V) (r:LN),(∃g:Nat->V,vs= [.ptr s 0,.ptr B 0,.ptr (B+1) 0,aC i,.sl P 0 q.length cp,U,g 6,aC n,aC i,g 9,g 10,g 11,g 12,g 13])/\PL W J U r/\ChL τ n i q r/\Fr h4 J) ?_ ?_
 ·refine aI (λk' vs J=> ∃(k:Nat) (U:V) (ws:List V) (r:LN) (W':Nat->Prop),(∃g:Nat->V,vs= [.ptr s 0,.ptr B 0,.ptr (B+1) 0,aC i,.sl P 0 q.length cp,U,g 6,aC n,aC i,g 9,.sl P 0 q.length cp,aC (q.length:Int),aC k,g 13])/\k<=q.length/\dH J U 1 ws h4.next/\dZ W' J ws r/\Ik W' U/\(∀id,W id->W' id)/\(∀id,W' id->id<J.next/\(W id∨h4.next<=id))/\r.length=k/\
    (∀j,j<k-> ∀y,(τ i).to (q.getD j 0)=some y->r.getD j []=Lx τ (n-(i+1)) (i+1) y)/\Fr h4 J/\k'=q.length-k) q.length
   ⟨0,.aD, [], [],W,aB rfl,iB _,dH.aD _ _ _,trivial,λ_ _ _ _ e=>(by cases e),λ_ h=>h,λid h=>⟨A4.wb id h,.inl h⟩,rfl,λj hj=>om,Fr.refl _,rfl⟩ ?_
  rintro k' a2 f ⟨k,U,ws,r,W',⟨g,rfl⟩,hk,ow,c1,g5,c2,d8,lr,hr,f5,rfl⟩
  by_cases b5:(k:Int)<(q.length:Int)
  case neg=>
   have e2:=bI b5;obtain rfl:k=q.length:=om
   simp(disch:=omega)only[go_sem,e2];refine⟨U,r,aB rfl,⟨ws,ow.sv,?_,c1.kO (λid _ h=>c2 id h),dH.UH ow⟩,⟨d0,b4,lr,hr⟩,f5⟩
   cases U with
   |sl id b3 m c=>exact λh=>by have:=(ow.in _ _ _ _ rfl).2.1;have:=A4.wb id h;omega
   |_=>trivial
  have e2:=cI b5
  have c0:k<q.length:=om
  obtain⟨p,hp⟩:=exI (q.getD k 0)
  have d9:=pq.mono f5
  have ck:f.cell P k=some (aC p):=by
   rw[H.cell_of (by rw[f5.get P d1];exact gP),Ff c0,hp]
  have d5:p∈(τ i).orb:=(b4 p).1 (by rw[←hp,cW c0];exact xG c0)
  have j2:=nG.lt a0 d5
  obtain⟨y,hy⟩:=nG.to d5
  have Y:=nG.bF _ _ hy
  have R5:=R.mono (A4.fr.trans f5)
  have cl:f.cell s 1=some (.sl L 0 n (.kn n)):=by rw[H.cell_of R5.t];rfl
  have i0:f.cell L (i*194+2+p)=some (F (i*194+2+p)):=R5.Si a0 om
  have i2:PV (WT n L F) f (F (i*194+2+p)) y:=by
   have:=R5.to i p a0 om;rw[hy] at this;exact this
  simp(disch:=omega)only[go_sem,e2,ck,cl,i0]
  refine (XQ f n s L F τ _ y i hn R5 i2 Y a0 (t.mono om)).mono ?_
  rintro v6 h6 ⟨p6,Q6,f6⟩
  simp(disch:=omega)only[go_sem]
  refine (Nh v6 _ h6 (by rw[aS,Q6.len];omega) (by rw[aS,Q6.len];omega) p6.si).mono ?_
  rintro v7 h7 c7
  have f7:=c7.fr
  have p7:PV W' h7 v7 (Lx τ (n-(i+1)) (i+1) y):=c7.pv λid h=>jM (d8 id h).1 f6.next
  simp(disch:=omega)only[go_sem,cK h7 (z:= .aD) p7.fG.1 p7.fG.2]
  obtain⟨Z,K⟩: ∃Z,Z=h7.new (.cells false [v7]):=⟨_,rfl⟩
  have g8:Z.get h7.next=aF [v7]:=by rw[K,H.aL]
  have n8:Z.next=h7.next+1:=by rw[K,H.aW]
  have f8:Fr h7 Z:=by rw[K];exact (Fr.refl h7).new _
  rw[←K]
  have b2:=(f6.trans f7).trans f8
  have e0:=ow.fr b2
  have j4:=aN.length c1
  obtain⟨h9,a9,p9⟩:=e0.push (bytes:=24) (SV.one om g8 (.kn 1)) (n:=k) (m:=1) om rfl om om om
  simp(disch:=omega)only[go_sem,a9]
  rw[fJ k]
  have n9:=p9.next
  have f9:Fx W' Z h9:=p9.fx g5
  have g7:=b2.next
  have c5: ∀id,id<Z.next->(W' id∨id=Z.next)->W' id:=λid Q l=>by
   rcases l with l|l
   ·exact l
   ·omega
  refine⟨q.length-(k+1),om,k+1,_,_,r++ [Lx τ (n-(i+1)) (i+1) y],λid=>W' id∨id=Z.next,aB rfl,om,p9.own om rfl (by have:=f5.next;omega),?_,λid b3 m c e=>by cases e;exact .inr rfl,λid h=> .inl (c2 id h),λid h=>?_,by rw[iV,lr];rfl,λj hj z hz=>?_,?_,rfl⟩
  ·exact (dZ.go (dZ.go c1 (Fx.of b2) (λ_ _ h=>h)) f9 c5).append (dZ.one (PV.go (p7.mono f8) f9 c5))
  ·rcases h with h|h
   ·have:=d8 id h;exact⟨om,this.2⟩
   ·have:=f5.next;exact⟨om,.inr om⟩
  ·by_cases e:j=k
   ·subst e
    rw[hp,hy] at hz
    cases hz
    rw[←lr,kQ]
   ·rw[mK om]
    exact hr j om z hz
  ·refine⟨by have:=f5.next;omega,λid b0=>?_⟩
   rw[p9.old id (by have:=f5.next;omega) (λe3 b3 m c e e2=>by have:=(ow.in _ _ _ _ e).2.1;omega),b2.get id (by have:=f5.next;omega)]
   exact f5.get id b0
 rintro a2 f ⟨U,r,⟨g,rfl⟩,pl,i6,f5⟩
 have G:=A4.mono f5
 have d9:=pq.mono f5
 have i1:f.get B=aF [aC 0,.aD,.aD]:=by rw[f5.get B (A4.wb B A4.d)];exact e6
 have cO:f.cell (B+1) 1=some vO:=by rw[H.cell_of G.get];rfl
 have cR:f.cell (B+1) 2=some N:=by rw[H.cell_of G.get];rfl
 obtain⟨ws,b9,e7,g9,e9⟩:=pl
 have pl:PL W f U r:=⟨ws,b9,e7,g9,e9⟩
 have i9:=G.fr.next
 have d4:=G.wb _ G.c
 simp(disch:=omega)only[go_sem,cO,cR,cK _ (z:= .aD) (v:= .sl P 0 q.length cp) rfl rfl]
 obtain⟨h6,b1⟩: ∃h6:H,h6=H.mk ((H.mk f.tr (f.next+3)).new (Ob.cells false [.sl P 0 q.length cp])).tr (f.next+14):=⟨_,rfl⟩
 rw[←b1]
 have g6:h6.get (f.next+3)=aF [.sl P 0 q.length cp]:=by rw[b1];exact H.aL (H.mk f.tr (f.next+3)) _
 have n6:h6.next=f.next+14:=by rw[b1]
 have o6: ∀k,k≠f.next+3->h6.get k=f.get k:=λk hk=>by rw[b1];exact H.bG (H.mk f.tr (f.next+3)) (by simpa using hk) _
 have f6:Fr f h6:=⟨om,λid b0=>o6 id om⟩
 have j5:=aN.length G.aO
 have j3:=aN.length G.aR
 obtain⟨h7,a7,p7⟩:=(G.oO.fr f6).push (bytes:=24) (SV.one om g6 (.kn 1)) (n:=i) (m:=1) om rfl om om om
 have n7:=p7.next
 have a5: ∀k,k<f.next->dR vO k->h7.get k=f.get k:=λk Q l=>by rw[p7.old k om l,o6 k om]
 have g4:h7.cell (B+1) 2=some N:=by unfold H.cell;rw[a5 (B+1) d4 G.pO,G.get];rfl
 have eR:dI N N=true:=G.oR.sv.dI
 have d3:U.cells= [U]/\U.one=true:=⟨(SV.cT b9).1,(SV.cT b9).2.1⟩
 simp(disch:=omega)only[go_sem,a7,g4,eR,cK _ (z:= .aD) d3.1 d3.2]
 obtain⟨Z,K⟩: ∃Z:H,Z=H.mk ((H.mk h7.tr (f.next+8)).new (Ob.cells false [U])).tr h7.next:=⟨_,rfl⟩
 rw[←K]
 have g8:Z.get (f.next+8)=aF [U]:=by rw[K];exact H.aL (H.mk h7.tr (f.next+8)) _
 have n8:Z.next=h7.next:=by rw[K]
 have o8: ∀k,k≠f.next+8->Z.get k=h7.get k:=λk hk=>by rw[K];exact H.bG (H.mk h7.tr (f.next+8)) (by simpa using hk) _
 have i5:dH Z N 1 b8 h.next:=G.oR.mono om λid b3 m c e _ b0=>by
  rw[o8 id om,a5 id b0 (λe3 i7 n' c' e' e2=>G.Rh _ _ _ _ e' _ _ _ _ e e2.symm)]
 obtain⟨h9,a9,p9⟩:=i5.push (bytes:=24) (SV.one om g8 (.kn 1)) (n:=i) (m:=1) om rfl om om om
 have n9:=p9.next
 have e5: ∀k,f.next<=k->dR N k:=λk hk id b3 m c e e2=>by have:=(G.oR.in _ _ _ _ e).1;omega
 have a8: ∀k,k<f.next->dR vO k->dR N k->h9.get k=f.get k:=λk Q l h3=>by rw[p9.old k om h3,o8 k om,a5 k Q l]
 have f0:h9.get (B+1)=aF [aC n,vO,N]:=by rw[a8 _ d4 G.pO G.pR];exact G.get
 have i3: ∀(J:H) (x:V),eU (aF [aC n,vO,N]) J (B+1) 1 [x]=some (J.set (B+1) (aF [aC n,x,N])):=λJ x=>bT (by simp) J _ x
 have e4: ∀(J:H) (x y:V),eU (aF [aC n,x,N]) J (B+1) 2 [y]=some (J.set (B+1) (aF [aC n,x,y])):=λJ x y=>bT (by simp) J _ y
 simp(disch:=omega)only[go_sem,a9,f0,i3,e4]
 rw[fJ i]
 obtain⟨ha,hb⟩:h6.next=f.next+14/\Z.next=f.next+15:=⟨n6,om⟩
 rw[ha,hb]
 obtain⟨a6,a1⟩: ∃a6,a6=(h9.set (B+1) (aF [aC n,.sl (f.next+14) 0 (i+1) (.un 1),N])).set (B+1) (aF [aC n,.sl (f.next+14) 0 (i+1) (.un 1),.sl (f.next+15) 0 (i+1) (.un 1)]):=⟨_,rfl⟩
 rw[←a1]
 have b7: ∀k,k≠B+1->a6.get k=h9.get k:=λk hk=>by rw[a1,H.aH _ hk,H.aH _ hk]
 have i8:a6.next=f.next+16:=by rw[a1];show h9.next=_;omega
 have e8:=G.step (v4:= .sl P 0 q.length cp) (v5:=U) (o:=q) (r:=r) (h6:=a6) (a:=f.next+14) (b:=f.next+15) (k1:=i+1) (k2:=i+1) d9 pl om om om om om om om (by rw[a1,H.aU])
  (by rw[b7 _ om,p9.old _ om (e5 _ om),o8 _ om,←ha];exact p7.get) (by rw[b7 _ om,←hb];exact p9.get) (λk Q l h3 h4=>by rw[b7 k l];exact a8 k Q h3 h4)
 refine⟨n-(i+1),om,i+1,_,_,_,_,_,_,_,aB rfl,om,e8,?_,by rw[iV,lO];rfl,by rw[iV,lR];rfl,λj hj=>?_,rfl⟩
 ·rw[a8 B (G.wb B G.d) G.qO G.qR];exact i1
 ·by_cases e:j=i
  ·subst e
   have e1:(O++ [q]).getD j []=q:=by rw[←lO];exact kQ
   have e2:(R'++ [r]).getD j []=r:=by rw[←lR];exact kQ
   rw[e1,e2]
   exact i6
  ·rw[mK om,mK om]
   exact hC j om
end Go.Proofs.YtcdbmkidaecdiaaGreat
namespace Go.Ay
set_option maxRecDepth 100000
def sm:Nat->(Nat->Int)->Int
 |0,_=>0
 |n+1,f=>sm n f+f n
def ab (x:Int):Int:=if x<0 then -x else x
end Go.Ay
namespace Go.Proofs.YtcdbmkidaecdiaaGreat
open Go Go.Ay
set_option maxRecDepth 100000
section
variable {h h' a:H} {l:List Int} {u:V} {b x:Nat}
def UL (h:H)(l:List Int)(v:V)(h':H):Prop:=dH h' v 1 (ints l) h.next/\Fr h h'/\(0<l.length-> ∃id,v= .sl id 0 l.length (.un 1)/\h.next<=id/\id<h'.next/\h'.get id=aF (ints l))
theorem acG {v:V}(g:SI h v l)(j:l.length<1000000): ∃v' h',zK (h.new (.cells false [])) 1 8 (.sl h.next 0 0 (.kn 0)) v=some (v',h')/\UL h l v' h':=by
 obtain⟨v',h',e,a⟩:=(dH.new h 1 0 h.next [] rfl (dT _)).app (bytes:=8) (n:=0) (by rw[H.aW];omega) (SV.mono g ((Fr.refl h).new _)) (m:=l.length) rfl (by rw[aP,tW]) om om;refine⟨v',h',e,a.own,a.fr h ((Fr.refl h).new _) (dT _),λk=>?_⟩;rcases a.cT with ⟨c,_⟩|⟨id,c,f,d,i⟩
 ·omega
 ·exact⟨id,by rw[c,Nat.zero_add],f,d,i⟩
theorem agS (v:V)(l:List Int)(h:H)(f:SI h v l)(d:l.length<1000000):Ev T 150 [v] h (UL h l):=by
 refine dW En rfl ?_;simp only[En,aE,go_sem];obtain⟨g,h',e,c⟩:=acG f d;simp only[e,go_sem];exact c
theorem SG (n d:Nat):(n:Int).tmod (d:Int)=((n%d:Nat):Int):=rfl
theorem Nr {a b:List Int}(d:a.length=b.length)(h: ∀j,j<a.length->a.getD j 0=b.getD j 0):a=b:=by
 apply List.ext_getElem d;intro i c e;have:=h i c;rw[OU,dD c,OU,dD e] at this;exact this
theorem Se {g:Nat}(B:T g=some kI.fn)(w s:V)(a b:List Int)(h:H)(z:SI h w a)(N:SI h s b)(a1:a.length<1000000)(Y:b.length<1000000):Ev T g [w,s] h (λv h'=>v= .bool (decide (a=b))/\Fr h h'):=by
 refine mX B rfl ?_;obtain⟨id,U,r,t,W⟩:=z.open;obtain⟨Q,G,n,o,A⟩:=N.open;simp (disch:=first|omega|(simp only[Qn];(try omega);done)|fail) only[go_sem,kI,aE,z.lens,N.lens];refine bA (λm=>?_) (λq=>?_)
 ·simp (disch:=first|omega|(simp only[Qn];(try omega);done)|fail) only[go_sem]
  have:a≠b:=λe=>m (by rw[e])
  exact⟨by rw[bI this],Fr.refl h⟩
 have q:a.length=b.length:=om
 simp (disch:=first|omega|(simp only[Qn];(try omega);done)|fail) only[go_sem,z.lens];refine aI (λk f F=> ∃(i:Nat) (O L K:V),f= [w,s,.bool false,O,.bool (decide ((a.length:Int)≠(b.length:Int))),aC (a.length:Int),aC i,L,K]/\i<=a.length/\(∀j,j<i->a.getD j 0=b.getD j 0)/\Fr h F/\k=a.length-i) a.length
  ⟨0,_,_,_,rfl,iB _,λj J=>om,Fr.refl h,rfl⟩ ?_
 rintro k f F ⟨i,O,L,K,rfl,hi,d,c,rfl⟩;simp (disch:=first|omega|(simp only[Qn];(try omega);done)|fail) only[go_sem];refine bA (λZ=>?_) (λa0=>?_)
 ·have y:=Hw c t W
  have p:=Hw c o A;simp (disch:=first|omega|(simp only[Qn];(try omega);done)|fail) only[go_sem,r.ixa,n.ixa,y,p,DK];refine bA (λm=>?_) (λR=>?_)
  ·simp (disch:=first|omega|(simp only[Qn];(try omega);done)|fail) only[go_sem]
   have:a≠b:=λe=>m (by rw[e])
   exact⟨by rw[bI this],c.bH om⟩
  ·simp (disch:=first|omega|(simp only[Qn];(try omega);done)|fail) only[go_sem]
   rw[fJ i];refine⟨a.length-(i+1),om,i+1,_,_,_,rfl,om,λj J=>?_,c.bH om,rfl⟩
   by_cases P:j=i
   ·rw[P];exact Decidable.byContradiction R
   ·exact d j om
 ·simp (disch:=first|omega|(simp only[Qn];(try omega);done)|fail) only[go_sem]
  have:a=b:=Nr q λj J=>d j om
  exact⟨by rw[cI this],c⟩
theorem Yh (c f:V)(a b:List Int)(h:H)(g:SI h c a)(i:SI h f b)(d:a.length<1000000)(e:b.length<1000000):Ev T 105 [c,f] h (λv h'=>v= .bool (decide (a=b))/\Fr h h'):=Se kI.ok c f a b h g i d e
theorem We (w s:V)(a b:List Int)(h:H)(q:SI h w a)(G:SI h s b)(Z:a.length<1000000)(Q:b.length<1000000):Ev T 97 [w,s] h (λv h'=>v= .bool (decide (a=b))/\Fr h h'):=by
 refine dW Bh rfl ?_;obtain⟨id,O,r,t,P⟩:=q.open;obtain⟨K,B,m,n,z⟩:=G.open;simp (disch:=first|omega|(simp only[Qn];(try omega);done)|fail) only[go_sem,Bh,aE,q.lens,G.lens];refine bA (λg=>?_) (λp=>?_)
 ·simp (disch:=first|omega|(simp only[Qn];(try omega);done)|fail) only[go_sem]
  have:a≠b:=λe=>g (by rw[e])
  exact⟨by rw[bI this],Fr.refl h⟩
 have p:a.length=b.length:=om
 simp (disch:=first|omega|(simp only[Qn];(try omega);done)|fail) only[go_sem,q.lens];refine aI (λk f A=> ∃(i:Nat) (Y L U:V),f= [w,s,.bool false,aC i,Y,L,U]/\i<=a.length/\(∀j,j<i->a.getD j 0=b.getD j 0)/\Fr h A/\k=a.length-i) a.length
  ⟨0,_,_,_,rfl,iB _,λj F=>om,Fr.refl h,rfl⟩ ?_
 rintro k f A ⟨i,x3,x7,x8,rfl,hi,d,c,rfl⟩;simp (disch:=first|omega|(simp only[Qn];(try omega);done)|fail) only[go_sem,q.lens];refine bA (λR=>?_) (λW=>?_)
 ·have y:=Hw c t P
  have o:=Hw c n z;simp (disch:=first|omega|(simp only[Qn];(try omega);done)|fail) only[go_sem,r.ixa,m.ixa,y,o,DK];refine bA (λg=>?_) (λN=>?_)
  ·simp (disch:=first|omega|(simp only[Qn];(try omega);done)|fail) only[go_sem]
   have:a≠b:=λe=>g (by rw[e])
   exact⟨by rw[bI this],c.bH om⟩
  ·simp (disch:=first|omega|(simp only[Qn];(try omega);done)|fail) only[go_sem]
   rw[fJ i];refine⟨a.length-(i+1),om,i+1,_,_,_,rfl,om,λj F=>?_,c.bH om,rfl⟩
   by_cases J:j=i
   ·rw[J];exact Decidable.byContradiction N
   ·exact d j om
 ·simp (disch:=first|omega|(simp only[Qn];(try omega);done)|fail) only[go_sem]
  have:a=b:=Nr p λj F=>d j om
  exact⟨by rw[cI this],c⟩
def ZR (u:V)(b:Nat):Prop:= ∀id off n c,u= .sl id off n c->b<=id
theorem ZR.ne {id off n:Nat}{c:pY}(f:ZR u b)(h:id<b):u≠ .sl id off n c:=λe=>by have:=f _ _ _ _ e;omega
theorem ZR.le {g:Nat}(f:ZR u b)(h:g<=b):ZR u g:=λid d n c e=>mY h (f id d n c e)
theorem ZR.own {v:V}{sz:Nat}{ws:List V}(o:dH h v sz ws b):ZR v b:=λid i n c e=>by
 rcases o with ⟨d,_⟩|⟨g,_,_,_,d,_,_,f,_⟩
 ·rw[d] at e;cases e
 ·rw[d] at e;cases e;exact f
structure Ah (x:Nat)(h h':H):Prop where
 next:h.next<=h'.next
 get: ∀id,id<h.next->id≠x->h'.get id=h.get id
theorem Ah.refl (x:Nat)(h:H):Ah x h h:=⟨dT _,λ_ _ _=>rfl⟩
theorem Ah.of (f:Fr h h'):Ah x h h':=⟨f.next,λid c _=>f.get id c⟩
theorem Ah.trans {b c:H}(f:Ah x a b)(g:Ah x b c):Ah x a c:=⟨mY f.next g.next,λid d e=>(g.get id (jM d f.next) e).trans (f.get id d e)⟩
theorem Ah.set {b:H}(f:Ah x a b)(o:Option Ob):Ah x a (b.set x o):=⟨f.next,λid c d=>(H.aH b d o).trans (f.get id c d)⟩
theorem Ah.fr {b c:H}(f:Fr a b)(e:a.next<=x)(g:Ah x b c):Fr a c:=⟨mY f.next g.next,λid d=>(g.get id (jM d f.next) om).trans (f.get id d)⟩
theorem SI.fx {g:Nat}(s:SI h u l)(m:ZR u g)(r:x<g)(f:Ah x h h'):SI h' u l:=by
 rcases s with s|⟨id,d,len,c,i,j,rfl,k,e,q,p,o⟩
 ·exact .inl s
 ·have n:=m _ _ _ _ rfl
  exact .inr ⟨id,d,len,c,i,j,rfl,k,jM e f.next,by rw[f.get id e om];exact q,p,o⟩
def Tk (h:H)(x:Nat)(l:List Int):Prop:= ∃vl,∃a:Nat,h.get x=aF [vl,aC a]/\SI h vl l/\(∀id off len c,vl= .sl id off len c->id<x)/\a<=l.length/\x<h.next
theorem Tk.mono (t:Tk h x l)(f:Fr h h'):Tk h' x l:=by
 obtain⟨i,a,d,g,e,j,c⟩:=t;exact⟨i,a,(f.get x c).trans d,g.mono f,e,j,jM c f.next⟩
theorem Tk.low (t:Tk h x l)(i:h.next<=h'.next)(g: ∀id,id<=x->h'.get id=h.get id):Tk h' x l:=by
 obtain⟨q,a,j,k,f,z,v⟩:=t;refine⟨q,a,(g x (dT _)).trans j,?_,f,z,jM v i⟩;rcases k with m|⟨id,d,len,c,n,p,e,r,w,y,s,o⟩
 ·exact .inl m
 ·have:=f _ _ _ _ e
  exact .inr ⟨id,d,len,c,n,p,e,r,jM w i,(g id om).trans y,s,o⟩
theorem Tk.set {y:Nat}(t:Tk h x l)(c:h.next<=y)(o:Option Ob):Tk (h.set y o) x l:=t.mono ((Fr.refl h).set c o)
def aiS (n:Nat):Nat->Nat->Nat
 |0,_=>n
 |f+1,d=>if d*d<=n then (if n%d=0 then d else aiS n f (d+1)) else n
def akJ (n:Nat):Nat:=aiS n 1000 2
def bF (n:Int):Bool:=decide (1<n)&&(decide (n<1000000)&&decide (akJ n.toNat=n.toNat))
end
end Go.Proofs.YtcdbmkidaecdiaaGreat
namespace Go.Proofs.YtcdbmkidaecdiaaGreat
open Go Go.Ay Go.Pm
set_option maxRecDepth 100000
theorem wV {g:Nat}(A:T g=some fP.fn)(f:Nat)(p r:V)(a b:List V)(e:Nat->Bool)(h:H)(J:SV h p 1 a)(K:SV h r 1 b)(Z:a.length<1000000)(Q:b.length<1000000)
  (O:a.length=b.length-> ∀i,i<a.length-> ∀hh,Fr h hh->Ev T f [a.getD i .undef,b.getD i .undef] hh (λv h'=>v= .bool (e i)/\Fr hh h')):
  Ev T g [p,r,.fn f [] []] h (λv h'=>v= .bool (decide (a.length=b.length/\ ∀i,i<a.length->e i=true))/\Fr h h'):=by
 refine mX A rfl ?_
 have B:bL p=some (aC (a.length:Int)):=by unfold bL;rw[J.len (n:=a.length) om om];rfl
 have R:bL r=some (aC (b.length:Int)):=by unfold bL;rw[K.len (n:=b.length) om om];rfl
 obtain⟨id,u,Y,x,P⟩:=J.shape a.length om om
 obtain⟨s,l,z,m,y⟩:=K.shape b.length om om
 simp(disch:=omega)only[go_sem,fP,aE,B,R]
 refine bA (λt=>?_) (λk=>?_)
 ·simp(disch:=omega)only[go_sem]
  exact⟨by rw[bI (λh=>t om)],Fr.refl h⟩
 have k:a.length=b.length:=om
 simp(disch:=omega)only[go_sem,B]
 refine aI (λL d hh=> ∃(i:Nat),(∃g:Nat->V,d= [p,r,.fn f [] [],g 3,g 4,g 5,g 6,g 7,p,aC (a.length:Int),aC i,g 11,g 12])/\i<=a.length/\(∀j,j<i->e j=true)/\Fr h hh/\L=a.length-i) a.length
  ⟨0,aB rfl,iB _,λj N=>om,Fr.refl h,rfl⟩ ?_
 rintro L d hh ⟨i,⟨g,rfl⟩,hi,o,F,rfl⟩
 by_cases q:(i:Int)<(a.length:Int)
 ·have w:=cI q
  have c:i<a.length:=om
  have c1:hh.cell id (u+i)=some (a.getD i .undef):=by rw[F.cell (x om),P i c,List.getD,dD c];rfl
  have U:hh.cell s (l+i)=some (b.getD i .undef):=by rw[F.cell (m om),y i om,List.getD,dD om];rfl
  simp(disch:=omega)only[go_sem,w,Y.ixa,z.ixa,c1,U]
  refine (O k i c hh F).mono ?_
  rintro _ h2 ⟨rfl,G⟩
  cases he:e i with
  |true=>
   simp(disch:=omega)only[go_sem];rw[fJ i];refine⟨a.length-(i+1),om,i+1,aB rfl,om,λj N=>?_,F.trans G,rfl⟩
   by_cases W:j=i
   ·rw[W];exact he
   ·exact o j om
  |false=>
   simp(disch:=omega)only[go_sem];exact⟨by rw[bI (λh=>by have:=h.2 i c;rw[he] at this;cases this)],F.trans G⟩
 have w:=bI q
 obtain rfl:i=a.length:=om
 simp(disch:=omega)only[go_sem,w]
 exact⟨by rw[cI ⟨k,o⟩],F⟩
theorem iJ {α β:Type}{R:α->β->Prop}{c:List α}{b:List β}(a:aN R c b){i:Nat}(hi:i<b.length)(d:α)(e:β):R (c.getD i d) (b.getD i e):=by
 have f:=a.length;rw[List.getD,dD om,List.getD,dD hi];exact a.get i om hi
theorem wT {α:Type}[DecidableEq α]{a b:List α}(d:α):decide (a=b)=decide (a.length=b.length/\ ∀i,i<a.length->decide (a.getD i d=b.getD i d)=true):=by
 congr 1;rw[eq_iff_iff];constructor
 ·rintro rfl;exact⟨rfl,λi _=>by simp⟩
 ·rintro⟨h1,h2⟩
  exact Hf (d:=d) h1 λi hi=>by simpa using h2 i hi
def Pw (R:List (List (List Int))):Prop:=R.length<1000000/\ ∀i,i<R.length->(R.getD i []).length<1000000
def tE (R:List (List (List Int))):Prop:=R.length<1000000/\ ∀i,i<R.length->(R.getD i []).length<1000000/\ ∀k,k<(R.getD i []).length->((R.getD i []).getD k []).length<1000000
def Bf (O:List (List Int)):Prop:=O.length<1000000/\ ∀i,i<O.length->(O.getD i []).length<1000000
theorem RW (va vb:V)(d n:Int)(O p:List (List Int))(R r:List (List (List Int)))(h:H)(ha:YD h va d O R)(hb:YD h vb n p r)(so:Bf O)(G:Bf p)(sr:tE R)(m:tE r):
  Ev T 178 [va,vb] h (λv h'=>v= .bool (decide (d=n/\O=p/\R=r))/\Fr h h'):=by
 obtain⟨F,B,rfl,sO,sR⟩:=ha
 obtain⟨g,e,rfl,a1,W⟩:=hb
 refine dW Ir rfl ?_
 obtain⟨wO,tO,aO⟩:=sO
 obtain⟨Y,y,A⟩:=a1
 obtain⟨wR,tR,aR,_⟩:=sR
 obtain⟨Q,q,z,_⟩:=W
 have lO:=aO.length
 have t:=A.length
 have lR:=aR.length
 have x:=z.length
 simp(disch:=omega)only[go_sem,Ir,aE,bV h (v:= aC d) (u:=F) (w:=B) rfl tO.cT.2.1 tR.cT.2.1]
 obtain⟨a,j⟩: ∃a,a=h.new (.cells false [aC d,F,B]):=⟨_,rfl⟩
 have P:a.get h.next=some (.cells false [aC d,F,B]):=by rw[j,H.aL]
 have n1:a.next=h.next+1:=by rw[j,H.aW]
 have f1:Fr h a:=by rw[j];exact (Fr.refl h).new _
 rw[←j]
 simp(disch:=omega)only[go_sem,bV a (v:= aC n) (u:=g) (w:=e) rfl y.cT.2.1 q.cT.2.1]
 obtain⟨b,l⟩: ∃b,b=a.new (.cells false [aC n,g,e]):=⟨_,rfl⟩
 have g2:b.get a.next=some (.cells false [aC n,g,e]):=by rw[l,H.aL]
 have n2:b.next=a.next+1:=by rw[l,H.aW]
 have f2:Fr a b:=by rw[l];exact (Fr.refl a).new _
 rw[←l]
 have ga: ∀c,Fr b c-> ∀i,c.cell h.next i= [aC d,F,B][i]? :=λc f i=>by rw[H.cell_of (by rw[f.get _ om,f2.get _ om];exact P)]
 have gb: ∀c,Fr b c-> ∀i,c.cell a.next i= [aC n,g,e][i]? :=λc f i=>by rw[H.cell_of (by rw[f.get _ om];exact g2)]
 have F2:=f1.trans f2
 by_cases K:d=n
 case neg=>
  have U:=bI K;simp(disch:=omega)only[go_sem,H.cell_of P,ga b (Fr.refl _),gb b (Fr.refl _),U];exact⟨by rw[bI (λh=>K h.1)],F2⟩
 have U:=cI K
 simp(disch:=omega)only[go_sem,H.cell_of P,ga b (Fr.refl _),gb b (Fr.refl _),U]
 refine (wV fP.ok 105 F g wO Y (λi=>decide (O.getD i []=p.getD i [])) b (tO.mono F2) (y.mono F2) (by rw[lO];exact so.1) (by rw[t];exact G.1) (λhl i hi c f=>?_)).mono ?_
 ·exact Yh _ _ _ _ c ((iJ aO om _ _).mono (F2.trans f)) ((iJ A om _ _).mono (F2.trans f)) (so.2 i om) (G.2 i om)
 rw[lO,t,←wT]
 rintro _ Z ⟨rfl,L⟩
 by_cases J:O=p
 case neg=>
  rw[bI J];simp(disch:=omega)only[go_sem];exact⟨by rw[bI (λh=>J h.2.1)],F2.trans L⟩
 rw[cI J]
 simp(disch:=omega)only[go_sem,ga Z L,gb Z L]
 have s:=F2.trans L
 refine (wV iF.ok 218 B e wR Q (λi=>decide (R.getD i []=r.getD i [])) Z (tR.mono s) (q.mono s) (by rw[lR];exact sr.1) (by rw[x];exact m.1) (λhl i hi c f=>?_)).mono ?_
 ·refine dW Am rfl ?_
  simp(disch:=omega)only[go_sem,Am,aE]
  obtain⟨ws,s1,s2⟩:=(iJ aR (i:=i) om .undef []).mono (s.trans f)
  obtain⟨a0,a2,o⟩:=(iJ z (i:=i) om .undef []).mono (s.trans f)
  have k1:=s2.length
  have k2:=o.length
  refine (wV gV.ok 220 _ _ ws a0 (λk=>decide ((R.getD i []).getD k []=(r.getD i []).getD k [])) c s1 a2 (by rw[k1];exact (sr.2 i om).1) (by rw[k2];exact (m.2 i om).1) (λa3 k hk h4 N=>?_)).mono ?_
  ·refine dW yJ rfl ?_
   simp(disch:=omega)only[go_sem,yJ,aE]
   refine (Se tT.ok _ _ _ _ h4 ((iJ s2 om _ _).mono N) ((iJ o om _ _).mono N) ((sr.2 i om).2 k om) ((m.2 i om).2 k om)).mono ?_
   rintro _ h5 ⟨rfl,f5⟩
   simp(disch:=omega)only[go_sem]
   exact f5
  rw[k1,k2,←wT]
  rintro _ h5 ⟨rfl,f5⟩
  simp(disch:=omega)only[go_sem]
  exact f5
 rw[lR,x,←wT]
 rintro _ h4 ⟨rfl,N⟩
 simp(disch:=omega)only[go_sem]
 refine⟨?_,s.trans N⟩
 congr 2
 rw[eq_iff_iff]
 exact⟨λh=>⟨K,J,h⟩,λh=>h.2.2⟩
section
variable {i:Nat} {a:List Int}
def nU (a:List Int):Bool:=decide a.Nodup&&a.all λx=>decide (0<=x)&&decide (x<(a.length:Int))
def BN (a:List Int):Int:=if a.length<1∨64<a.length then 2 else if nU a=true then 0 else 3
structure TX (a:List Int)(i:Nat):Prop where
 nd:(a.take i).Nodup
 rg: ∀x∈a.take i,0<=x/\x<(a.length:Int)
theorem AD {l:List Int}(hi:i<l.length):l.take (i+1)=l.take i++ [l.getD i 0]:=by
 rw[List.take_add_one,dD hi];simp [List.getD,hi]
theorem TX.zero (a:List Int):TX a 0:=⟨by simp,λx b=>by simp at b⟩
theorem TX.succ (p:TX a i)(hi:i<a.length)(d:0<=a.getD i 0)(c:a.getD i 0<(a.length:Int))(h2:a.getD i 0∉a.take i):TX a (i+1):=by
 refine⟨?_,λx b=>?_⟩
 ·rw[AD hi,List.nodup_append]
  exact⟨p.nd,by simp,λx b y f=>by
   have e:y=a.getD i 0:=by simpa using f
   intro g;rw[g,e] at b
   exact h2 b⟩
 ·rw[AD hi] at b
  rcases oD.1 b with b|b
  ·exact p.rg x b
  ·simp at b;subst b;exact⟨d,c⟩
theorem TX.all (p:TX a a.length):nU a=true:=by
 have e:a.take a.length=a:=List.take_length;unfold nU;simp only[sE,decide_eq_true_eq,zP];exact⟨e▸p.nd,λx b=>p.rg x (by rw[e];exact b)⟩
theorem Db (hi:i<a.length)(h:a.getD i 0<0∨(a.length:Int)<=a.getD i 0∨a.getD i 0∈a.take i):nU a=false:=by
 cases e:nU a with
 |false=>rfl
 |true=>
  exfalso;unfold nU at e;simp only[sE,decide_eq_true_eq,zP] at e;obtain⟨d,c⟩:=e
  have f:a.getD i 0∈a:=by
   have:a.getD i 0=a[i]:=by simp [List.getD,hi]
   rw[this];exact xG hi
  have:=c _ f;rcases h with h|h|h
  ·omega
  ·omega
  ·have b:(a.take (i+1)).Nodup:=d.sublist (List.take_sublist _ _)
   rw[AD hi,List.nodup_append] at b;exact b.2.2 _ h _ (by simp) rfl
theorem FW: [V.bool false,.bool false,.bool false,.bool false,.bool false,.bool false,.bool false,.bool false,.bool false,.bool false,.bool false,.bool false,.bool false,.bool false,.bool false,.bool false,
 .bool false,.bool false,.bool false,.bool false,.bool false,.bool false,.bool false,.bool false,.bool false,.bool false,.bool false,.bool false,.bool false,.bool false,.bool false,.bool false,
 .bool false,.bool false,.bool false,.bool false,.bool false,.bool false,.bool false,.bool false,.bool false,.bool false,.bool false,.bool false,.bool false,.bool false,.bool false,.bool false,
 .bool false,.bool false,.bool false,.bool false,.bool false,.bool false,.bool false,.bool false,.bool false,.bool false,.bool false,.bool false,.bool false,.bool false,.bool false,.bool false]=rc 64 (λ_=> .bool false):=rfl
theorem wW (u:V)(a:List Int)(h:H)(hl:a.length<1000000)(P:SI h u a):
  Ev T 140 [u] h (λv h'=>v= aC (BN a)/\Fr h h'):=by
 refine dW tJ rfl ?_
 have l:=P.lens
 obtain⟨id,off,y,A,W⟩:=P.open
 by_cases G:a.length<1
 ·have w:decide ((a.length:Int)<1)=true:=cI om
  simp(disch:=omega)only[go_sem,tJ,aE,l,w]
  exact⟨by unfold BN;rw[bJ (.inl G)],Fr.refl h⟩
 have w:decide ((a.length:Int)<1)=false:=bI om
 by_cases U:64<a.length
 ·have z:decide ((64:Int)<(a.length:Int))=true:=cI om
  simp(disch:=omega)only[go_sem,tJ,aE,l,w,z]
  exact⟨by unfold BN;rw[bJ (.inr U)],Fr.refl h⟩
 have z:decide ((64:Int)<(a.length:Int))=false:=bI om
 have s:BN a=if nU a=true then 0 else 3:=by unfold BN;rw[bU om]
 simp(disch:=omega)only[go_sem,tJ,aE,l,w,z,FW]
 have m:Fr h (h.new (.cells false (rc 64 λ_=>V.bool false))):=(Fr.refl h).new _
 have f:(h.new (.cells false (rc 64 λ_=>V.bool false))).get h.next=some (.cells false (rc 64 λ_=>V.bool false)):=H.aL ..
 have n:(h.new (.cells false (rc 64 λ_=>V.bool false))).next=h.next+1:=H.aW ..
 generalize h.new (.cells false (rc 64 λ_=>V.bool false))=G at*
 obtain⟨S,L⟩:=exI h.next
 rw[L] at f n
 rw[L]
 refine aI (λR c J=> ∃(i:Nat),(∃j:Nat->V,c= [u,aC 0,.ptr S 0,j 3,j 4,u,aC (a.length:Int),aC i,j 8,j 9])/\i<=a.length/\TX a i/\
   J.get S=some (.cells false (rc 64 λj=> .bool ((a.take i).contains (j:Int))))/\Fr h J/\R=a.length-i) a.length
  ⟨0,aB rfl,iB _,TX.zero a,by rw[f];rfl,m,rfl⟩ ?_
 clear f m n
 rintro R c K ⟨i,⟨Z,rfl⟩,hi,p,Q,F,rfl⟩
 simp(disch:=omega)only[go_sem]
 by_cases q:(i:Int)<(a.length:Int)
 ·rw[cI q]
  have b:i<a.length:=om
  have ci:K.cell id (off+i)=some (aC (a.getD i 0)):=by rw[F.cell (A om),W i b]
  generalize d:a.getD i 0=x at ci
  by_cases g:x<0
  ·have o:=cI g
   simp(disch:=omega)only[go_sem,y.ixa,ci,o]
   refine⟨?_,F⟩
   rw[s,Db b (.inl (by rw[d];exact g))];rfl
  have o:=bI g
  by_cases B:(a.length:Int)<=x
  ·have t:decide ((a.length:Int)<=x)=true:=cI om
   simp(disch:=omega)only[go_sem,y.ixa,ci,o,t,l]
   refine⟨?_,F⟩
   rw[s,Db b (.inr (.inl (by rw[d];exact B)))];rfl
  have t:decide ((a.length:Int)<=x)=false:=bI om
  obtain⟨k,rfl⟩: ∃k:Nat,x=(k:Int):=⟨x.toNat,om⟩
  have O:k<64:=om
  have r:=tF Q O
  cases hm:(a.take i).contains (k:Int) with
  |true=>
   rw[hm] at r;simp(disch:=omega)only[go_sem,y.ixa,ci,o,t,l,r];refine⟨?_,F⟩;rw[s,Db b (.inr (.inr (by rw[d];simpa using hm)))];rfl
  |false=>
   rw[hm] at r;have N:=bT (vs:=rc 64 λj=> .bool ((a.take i).contains (j:Int))) (off:=k) (by rw[iQ];exact O) K S (.bool true);rw[lH] at N;simp(disch:=omega)only[go_sem,y.ixa,ci,o,t,l,r,Q,N];rw[fJ i];refine⟨a.length-(i+1),om,i+1,aB rfl,om,p.succ b (by rw[d];omega) (by rw[d];omega) (by rw[d];simpa using hm),?_,F.set om _,rfl⟩;congr 2;refine dJ λj Y=>?_
   rw[AD b,d]
   by_cases e:j=k
   ·subst e;rw[bJ rfl];simp
   ·rw[bU e]
    congr 1;rw[DW];simp only[List.contains_iff_mem,oD,List.mem_singleton];constructor
    ·exact .inl
    ·rintro (h|h)
     ·exact h
     ·omega
 rw[bI q]
 obtain rfl:i=a.length:=om
 simp(disch:=omega)only[go_sem]
 refine⟨?_,F⟩
 rw[s,p.all];rfl
end
theorem Tv (hh:H)(c:Nat)(a:c<=100000):Jz hh 1 1 [.bool false] (aC c) (aC c)=some (.sl hh.next 0 c (.kn c),hh.new (.cells false (rc c λ_=> .bool false))):=by
 rw[uM om (Int.le_refl _) om om,DK,tW];congr 4;refine List.ext_getElem (by simp [dP,rc]) λi _ _=>?_
 simp [dP,Nat.mod_one,rc]
theorem adX (u:V)(a:List Int)(h:H)(U:a.length<=1000)(K:SI h u a):
  Ev T 129 [u,aC (a.length:Int)] h (λv h'=>v= .bool (nU a)/\Fr h h'):=by
 refine dW Nw rfl ?_
 have r:=K.lens
 obtain⟨id,off,t,w,O⟩:=K.open
 simp(disch:=omega)only[go_sem,Nw,aE,r]
 rw[bI (show ¬((a.length:Int)≠(a.length:Int)) by omega)]
 simp(disch:=omega)only[go_sem,Tv _ a.length om]
 have l:Fr h (h.new (.cells false (rc a.length λ_=>V.bool false))):=(Fr.refl h).new _
 have f:(h.new (.cells false (rc a.length λ_=>V.bool false))).get h.next=some (.cells false (rc a.length λ_=>V.bool false)):=H.aL ..
 have m:(h.new (.cells false (rc a.length λ_=>V.bool false))).next=h.next+1:=H.aW ..
 generalize h.new (.cells false (rc a.length λ_=>V.bool false))=P at*
 obtain⟨S,B⟩:=exI h.next
 rw[B] at f m
 rw[B]
 refine aI (λN c z=> ∃(i:Nat),(∃j:Nat->V,c= [u,aC (a.length:Int),j 2,.sl S 0 a.length (.kn a.length),aC i,j 5,j 6,j 7])/\i<=a.length/\TX a i/\
   z.get S=some (.cells false (rc a.length λj=> .bool ((a.take i).contains (j:Int))))/\Fr h z/\N=a.length-i) a.length
  ⟨0,aB rfl,iB _,TX.zero a,by rw[f];rfl,l,rfl⟩ ?_
 clear f l m
 rintro N c A ⟨i,⟨R,rfl⟩,hi,o,L,F,rfl⟩
 simp(disch:=omega)only[go_sem]
 by_cases p:(i:Int)<(a.length:Int)
 ·rw[cI p]
  have b:i<a.length:=om
  have ci:A.cell id (off+i)=some (aC (a.getD i 0)):=by rw[F.cell (w om),O i b]
  generalize d:a.getD i 0=x at ci
  by_cases g:x<0
  ·have n:=cI g
   simp(disch:=omega)only[go_sem,t.ixa,ci,n]
   refine⟨?_,F⟩
   rw[Db b (.inl (by rw[d];exact g))]
  have n:=bI g
  by_cases y:(a.length:Int)<=x
  ·have s:decide ((a.length:Int)<=x)=true:=cI om
   simp(disch:=omega)only[go_sem,t.ixa,ci,n,s,r]
   refine⟨?_,F⟩
   rw[Db b (.inr (.inl (by rw[d];exact y)))]
  have s:decide ((a.length:Int)<=x)=false:=bI om
  obtain⟨k,rfl⟩: ∃k:Nat,x=(k:Int):=⟨x.toNat,om⟩
  have J:k<a.length:=om
  have q:=tF L J
  cases hm:(a.take i).contains (k:Int) with
  |true=>
   rw[hm] at q;simp(disch:=omega)only[go_sem,t.ixa,ci,n,s,r,q];refine⟨?_,F⟩;rw[Db b (.inr (.inr (by rw[d];simpa using hm)))]
  |false=>
   rw[hm] at q;have G:=bT (vs:=rc a.length λj=> .bool ((a.take i).contains (j:Int))) (off:=k) (by rw[iQ];exact J) A S (.bool true);rw[lH] at G;simp(disch:=omega)only[go_sem,t.ixa,ci,n,s,r,q,L,G];rw[fJ i];refine⟨a.length-(i+1),om,i+1,aB rfl,om,o.succ b (by rw[d];omega) (by rw[d];omega) (by rw[d];simpa using hm),?_,F.set om _,rfl⟩;congr 2;refine dJ λj Q=>?_
   rw[AD b,d]
   by_cases e:j=k
   ·subst e;rw[bJ rfl];simp
   ·rw[bU e]
    congr 1;rw[DW];simp only[List.contains_iff_mem,oD,List.mem_singleton];constructor
    ·exact .inl
    ·rintro (h|h)
     ·exact h
     ·omega
 rw[bI p]
 obtain rfl:i=a.length:=om
 simp(disch:=omega)only[go_sem]
 refine⟨?_,F⟩
 rw[o.all]
theorem Hn (u:V)(a:List Int)(h:H)(k:a.length<1000000)(i:SI h u a):
  Ev T 85 [u] h (λv h'=>v= aC (BN a)/\Fr h h'):=by
 refine dW qZ rfl ?_
 have c:=i.lens
 by_cases j:a.length<1
 ·have b:decide ((a.length:Int)<1)=true:=cI om
  simp(disch:=omega)only[go_sem,qZ,aE,c,b]
  exact⟨by unfold BN;rw[bJ (.inl j)],Fr.refl h⟩
 have b:decide ((a.length:Int)<1)=false:=bI om
 by_cases g:64<a.length
 ·have d:decide ((64:Int)<(a.length:Int))=true:=cI om
  simp(disch:=omega)only[go_sem,qZ,aE,c,b,d]
  exact⟨by unfold BN;rw[bJ (.inr g)],Fr.refl h⟩
 have d:decide ((64:Int)<(a.length:Int))=false:=bI om
 have f:BN a=if nU a=true then 0 else 3:=by unfold BN;rw[bU om]
 simp(disch:=omega)only[go_sem,qZ,aE,c,b,d]
 refine (adX u a h om i).mono ?_
 rintro _ g ⟨rfl,F⟩
 cases e:nU a with
 |true=>
  simp(disch:=omega)only[go_sem];exact⟨by rw[f,e];rfl,F⟩
 |false=>
  simp(disch:=omega)only[go_sem];exact⟨by rw[f,e];rfl,F⟩
theorem Kd {a:List Int}(h:nU a=true):a=zi (a.map Int.toNat)/\aY a.length (a.map Int.toNat):=by
 unfold nU at h;simp only[sE,decide_eq_true_eq,zP] at h;obtain⟨f,c⟩:=h
 have e:a=zi (a.map Int.toNat):=by
  unfold zi;rw[List.map_map];refine (List.map_id a).symm.trans (Xa λx b=>?_);have:=(c x b).1
  show x=((x.toNat:Nat):Int)
  omega
 refine⟨e,by simp,?_,λx b=>?_⟩
 ·rw[MV,List.pairwise_map]
  rw[MV] at f;refine f.imp_of_mem λ{x y} b d g i=>?_
  have:=(c x b).1;have:=(c y d).1;omega
 ·obtain⟨y,d,rfl⟩:=pH.1 b
  have:=c y d;omega
theorem Yf {n:Nat}{l:List Nat}(L:aY n l):nU (zi l)=true:=by
 unfold nU;simp only[sE,decide_eq_true_eq,zP];refine⟨?_,λx b=>?_⟩
 ·unfold zi
  have:=L.nd;rw[MV] at this ⊢;rw[List.pairwise_map];exact this.imp λa e=>a om
 ·obtain⟨k,c,rfl⟩:=pH.1 b
  have:=L.lt k c;rw[aS,L.len];omega
def sQ:List Nat->List Nat->Bool
 |x::a,y::b=>if x=y then sQ a b else decide (x<y)
 |a,b=>decide (a.length<b.length)
theorem Nt: ∀{a b:List Nat} {i:Nat},(∀j,j<i->a.getD j 0=b.getD j 0)->i<a.length->i<b.length->a.getD i 0≠b.getD i 0->sQ a b=decide (a.getD i 0<b.getD i 0)
 | [],_,i,_,h,_,_=>by simp at h
 |_::_, [],i,_,_,h,_=>by simp at h
 |x::a,y::b,0,_,_,_,hne=>by
  have:x≠y:=by simpa using hne
  simp [sQ,this]
 |x::a,y::b,i+1,h,h1,h2,hne=>by
  have e:x=y:=by simpa using h 0 om
  unfold sQ;rw[bJ e,Nt (a:=a) (b:=b) (i:=i) (λj c=>by simpa using h (j+1) om) (by simpa using h1) (by simpa using h2) (by simpa using hne)];simp
theorem yS: ∀a:List Nat,sQ a a=false
 | []=>by simp [sQ]
 |x::a=>by unfold sQ;rw[bJ rfl];exact yS a
theorem mQ {a b:List Nat}(o:a.length=b.length):sQ a b=true↔Lt a b:=by
 by_cases h: ∃i,i<a.length/\a.getD i 0≠b.getD i 0
 ·have n: ∃i,(i<a.length/\a.getD i 0≠b.getD i 0)/\ ∀j,j<i-> ¬(j<a.length/\a.getD j 0≠b.getD j 0):=by
   obtain⟨i,hi⟩:=h
   induction i using Nat.strongRecOn with
   |_ i ih=>
    by_cases g: ∃j,j<i/\j<a.length/\a.getD j 0≠b.getD j 0
    ·obtain⟨j,d,f⟩:=g;exact ih j d f
    ·exact⟨i,hi,λj d f=>g ⟨j,d,f⟩⟩
  obtain⟨i,⟨d,f⟩,m⟩:=n;have c: ∀j,j<i->a.getD j 0=b.getD j 0:=λj g=>Jj λl=>m j g ⟨om,l⟩
  rw[Nt c d om f,decide_eq_true_eq];constructor
  ·intro h;exact⟨i,d,c,h⟩
  ·rintro⟨k,h4,h5,h6⟩
   rcases Nat.lt_trichotomy i k with h|h|h
   ·exact absurd (h5 i h) f
   ·subst h;exact h6
   ·have:=c k h;omega
 ·have e:a=b:=uZ o λi hi=>Jj λl=>h ⟨i,hi,l⟩
  subst e;rw[yS];constructor
  ·intro h;cases h
  ·exact λh=>(h.asymm h).elim
theorem abJ (u w:V)(n:Nat)(a b:List Nat)(h:H)(R:n<100000)(z:a.length=n)(lb:b.length=n)(N:SI h u (zi a))(G:SI h w (zi b)):
  Ev T 134 [u,w] h (λv h'=>v= .bool (sQ a b)/\Fr h h'):=by
 refine dW Pt rfl ?_
 have s:=N.lens
 rw[aS,z] at s
 have r:=G.lens
 rw[aS,lb] at r
 obtain⟨id,y,A,o,L⟩:=N.open
 rw[aS,z] at A o L
 obtain⟨t,m,l,f,q⟩:=G.open
 rw[aS,lb] at l f q
 simp(disch:=omega)only[go_sem,Pt,aE]
 refine aI (λO g P=> ∃(i:Nat),(∃j:Nat->V,g= [u,w,.bool false,aC i,j 4,j 5])/\i<=n/\(∀j,j<i->a.getD j 0=b.getD j 0)/\Fr h P/\O=n-i) n
  ⟨0,aB rfl,iB _,λ_ h=>om,Fr.refl h,rfl⟩ ?_
 rintro O g B ⟨i,⟨W,rfl⟩,hi,k,F,rfl⟩
 by_cases p:(i:Int)<(n:Int)
 ·have d:=cI p
  have c:i<n:=om
  have ci:B.cell id (y+i)=some (aC (a.getD i 0:Nat)):=by rw[F.cell (o om),L i c];congr 2;simp [zi,z,c]
  have K:B.cell t (m+i)=some (aC (b.getD i 0:Nat)):=by rw[F.cell (f om),q i c];congr 2;simp [zi,lb,c]
  by_cases J:a.getD i 0=b.getD i 0
  ·have x:decide (((a.getD i 0:Nat):Int)≠((b.getD i 0:Nat):Int))=false:=bI om
   simp(disch:=omega)only[go_sem,s,r,d,A.ixa,l.ixa,ci,K,x]
   rw[fJ i]
   refine⟨n-(i+1),om,i+1,aB rfl,om,λj Q=>?_,?_,rfl⟩
   ·by_cases e:j=i
    ·rw[e];exact J
    ·exact k j om
   ·first|exact F|exact F.bH om
  ·have x:decide (((a.getD i 0:Nat):Int)≠((b.getD i 0:Nat):Int))=true:=cI om
   simp(disch:=omega)only[go_sem,s,r,d,A.ixa,l.ixa,ci,K,x]
   refine⟨?_,?_⟩
   ·rw[Nt k om om J]
    congr 1
    rw[DW];simp
   ·first|exact F|exact F.bH om|exact (F.bH om).bH (by simp;omega)
 have d:=bI p
 have U:decide ((n:Int)<(n:Int))=false:=bI om
 obtain rfl:i=n:=om
 simp(disch:=omega)only[go_sem,s,r,d]
 have e:a=b:=uZ om λj Q=>k j om
 refine⟨?_,F⟩
 rw[e,yS]
section
variable {n:Nat} {O:List (List Int)}
theorem HV (d:Int)(b a:V)(e:b.one=true)(c:a.one=true)(h:H):Ev T 146 [.agg [aC d,b,a]] h (λv h'=>v= .fn 199 [] [.ptr h.next 0]/\h'.get h.next=aF [aC d,b,a]/\h'.next=h.next+1/\Fr h h'):=by
 refine dW Ic rfl ?_;simp(disch:=omega)only[go_sem,Ic,aE,bV h (v:= aC d) (u:=b) (w:=a) rfl e c];exact (Fr.refl h).new _
theorem Xy (id b:Nat)(d:Int)(u e:V)(ws:List V)(h:H)(K:ws.length<1000000)(J:Nat->H->Prop)(D:H->Prop)(q:J 0 h)
  (p: ∀i hh,J i hh->hh.get b=aF [aC d,u,e]/\SV hh e 1 ws)
  (B: ∀i hh,i<ws.length->J i hh->Ey T id [aC i,ws.getD i .undef] hh (λv h'=>v= .bool true/\J (i+1) h'∨v= .bool false/\D h')):
  Ev T 199 [.yl id,.ptr b 0] h (λ_ h'=>J ws.length h'∨D h'):=by
 refine dW Bj rfl ?_
 obtain⟨s,t⟩:=p 0 h q
 have x:h.cell b 2=some e:=by rw[H.cell_of s];rfl
 have F:bL e=some (aC (ws.length:Int)):=by unfold bL;rw[t.len (n:=ws.length) om om];rfl
 simp(disch:=omega)only[go_sem,Bj,aE,x,F]
 refine aI (λr a hh=> ∃(i:Nat),(∃g:Nat->V,a= [.yl id,.ptr b 0,g 2,g 3,e,aC (ws.length:Int),aC i,g 7,g 8])/\i<=ws.length/\J i hh/\r=ws.length-i) ws.length
  ⟨0,aB rfl,iB _,q,rfl⟩ ?_
 rintro r a f ⟨i,⟨g,rfl⟩,hi,m,rfl⟩
 by_cases c:(i:Int)<(ws.length:Int)
 ·have l:=cI c
  obtain⟨L,w⟩:=p i f m
  obtain⟨j,k,z,y,A⟩:=w.shape ws.length om om
  have ci:f.cell j (k+i)=some (ws.getD i .undef):=by rw[A i om,List.getD,dD om];rfl
  simp(disch:=omega)only[go_sem,l,z.ixa,ci]
  refine (B i f om m).mono ?_
  rintro v G (⟨rfl,o⟩|⟨rfl,o⟩)
  ·simp(disch:=omega)only[go_sem]
   rw[fJ i]
   exact⟨ws.length-(i+1),om,i+1,aB rfl,om,o,rfl⟩
  ·simp(disch:=omega)only[go_sem]
   exact .inr o
 have l:=bI c
 obtain rfl:i=ws.length:=om
 simp(disch:=omega)only[go_sem,l]
 exact .inl m
structure QP (n:Nat)(O:List (List Int))(R:List (List (List Int))):Prop where
 lo:O.length=n
 lr:R.length=n
 row: ∀i,i<n->(R.getD i []).length=(O.getD i []).length/\(R.getD i []).length<=n-i
 perm: ∀i,i<n-> ∀x∈R.getD i [],x.length=n/\nU x=true
def NI (d:Int)(O:List (List Int))(R:List (List (List Int))):Prop:= ∃(n:Nat) (O':LN) (R':jJ),d=(n:Int)/\1<=n/\n<=64/\O=O'.map zi/\R=R'.map (List.map zi)/\Valid n O' R'
open Classical in
noncomputable def Wa (d:Int)(O:List (List Int))(R:List (List (List Int))):Int:=if d<1∨64<d then 2 else if NI d O R then 0 else 3
theorem Wv {a b:List Nat}(h:zi a=zi b):a=b:=by
 have:=congrArg (List.map Int.toNat) h
 have e: ∀a:List Nat,(zi a).map Int.toNat=a:=λa=>by
  unfold zi;rw[List.map_map];exact (Xa λx _=>by simp).trans (List.map_id a)
 rwa [e,e] at this
theorem map_inj {α β:Type}{f:α->β}(c: ∀x y,f x=f y->x=y): ∀{a b:List α},a.map f=b.map f->a=b
 | [], [],_=>rfl
 | [],_::_,h=>by cases h
 |_::_, [],h=>by cases h
 |x::a,y::b,h=>by
  simp only[List.map_cons,List.cons.injEq] at h;rw[c x y h.1,map_inj c h.2]
theorem tK {i:Nat}{G:List Nat->Prop}(d: ∀x,G x->aY n x){o:List Nat}(hi:i<n)(a:o.Pairwise (· < ·))(mem: ∀p,p∈o↔ ∃x,G x/\Fix i x/\x.getD i 0=p):o.length<=n-i:=by
 have nd:o.Nodup:=by rw[MV];exact a.imp λh e=>om
 have:=List.Nodup.length_le_of_subset nd (l₂:=(List.range (n-i)).map (· +i)) λp b=>by
  obtain⟨x,c,f,rfl⟩:=(mem p).1 b;have X:=d x c;have g:=X.fX hi
  have l:i<=x.getD i 0:=Jj λk=>by
   have:=X.inj hi (j:=x.getD i 0) om (by rw[f (x.getD i 0) om]);omega
  exact pH.2 ⟨x.getD i 0-i,Dj.2 om,om⟩
 simpa using this
theorem NI.frm {R:List (List (List Int))}(c:NI (n:Int) O R):QP n O R:=by
 obtain⟨m,d,b,e,o,q,rfl,rfl,g,v⟩:=c;obtain rfl:n=m:=om
 have h: ∀i,i<n->(b.map (List.map zi)).getD i []=(b.getD i []).map zi/\(d.map zi).getD i []=zi (d.getD i [])/\ ∀x∈b.getD i [],x∈b.flatten:=λi hi=>by
  have p:=v.lr;have r:=v.lo;refine⟨by simp [List.getD,show i<b.length by omega],by simp [List.getD,show i<d.length by omega],λx a=>?_⟩;rw[List.getD,dD om] at a;exact List.mem_flatten.2 ⟨_,xG om,a⟩
 refine⟨by rw[iA];exact v.lo,by rw[iA];exact v.lr,λi hi=>?_,λi hi x a=>?_⟩
 ·obtain⟨f,j,_⟩:=h i hi
  rw[f,j,iA,aS,v.rl i hi];exact⟨rfl,tK (λx a=>bM.bF g a) hi (v.asc i hi) (v.mem i hi)⟩
 ·obtain⟨f,_,k⟩:=h i hi
  rw[f] at a;obtain⟨y,l,rfl⟩:=pH.1 a;have Y:=g y (k y l);exact⟨by rw[aS];exact Y.len,Yf Y⟩
theorem QP.nat {R:List (List (List Int))}(f:QP n O R): ∃R':jJ,R=R'.map (List.map zi)/\ ∀g∈R'.flatten,aY n g:=by
 have b: ∀x,(∃i,i<n/\x∈R.getD i [])->x=zi (x.map Int.toNat)/\aY n (x.map Int.toNat):=λx ⟨i,hi,a⟩=>by
  obtain⟨j,l⟩:=f.perm i hi x a;obtain⟨k,h⟩:=Kd l;rw[j] at h;exact⟨k,h⟩
 have mem: ∀r∈R,∀x∈r,∃i,i<n/\x∈R.getD i []:=λr c x a=>by
  obtain⟨i,hi,rfl⟩:=Ad.1 c;have:=f.lr;exact⟨i,om,by rw[List.getD,dD hi];exact a⟩
 refine⟨R.map (List.map (List.map Int.toNat)),?_,λg d=>?_⟩
 ·rw[List.map_map]
  refine (List.map_id R).symm.trans (Xa λr c=>?_);show r=(r.map (List.map Int.toNat)).map zi;rw[List.map_map];refine (List.map_id r).symm.trans (Xa λx a=>(b x (mem r c x a)).1)
 ·obtain⟨m,e,d⟩:=List.mem_flatten.1 d
  obtain⟨r,c,rfl⟩:=pH.1 e;obtain⟨x,a,rfl⟩:=pH.1 d;exact (b x (mem r c x a)).2
theorem NI.iff {d:jJ}(k:1<=n)(h2:n<=64)(j: ∀g∈d.flatten,aY n g){f:LN}{i:jJ}(c:aV n (BZ n d) f i):
  NI (n:Int) O (d.map (List.map zi))↔O=f.map zi/\d.map (List.map zi)=i.map (List.map zi):=by
 have inj: ∀a b:LN,a.map zi=b.map zi->a=b:=λa b h=>map_inj (λ_ _=>Wv) h
 constructor
 ·rintro⟨m,O3,R3,e,_,_,rfl,e3,v⟩
  obtain rfl:n=m:=om
  have:=map_inj inj e3
  subst this
  obtain⟨l,o⟩:=(Valid.iff j c).1 v
  subst l o
  exact⟨rfl,rfl⟩
 ·rintro⟨rfl,e⟩
  have:=map_inj inj e
  subst this
  exact⟨n,f,d,rfl,k,h2,rfl,rfl,(Valid.iff j c).2 ⟨rfl,rfl⟩⟩
end
section
variable {n i:Nat} {O:List (List Int)} {R:List (List (List Int))}
def PA (n:Nat)(O:List (List Int))(R:List (List (List Int)))(j:Nat):Prop:=((R.getD j []).length=(O.getD j []).length/\(R.getD j []).length<=n-j)/\ ∀x∈R.getD j [],x.length=n/\nU x=true
theorem QP.of (a:O.length=n)(h2:R.length=n)(h: ∀j,j<n->PA n O R j):QP n O R:=⟨a,h2,λi hi=>(h i hi).1,λi hi=>(h i hi).2⟩
theorem Nb (a:1<=n)(h2:n<=64)(h: ¬QP n O R):Wa (n:Int) O R=3:=by
 unfold Wa;rw[bU om,bU (λc=>h c.frm)]
theorem bC {α:Type}{l:List α}{k:Nat}{d:α}(h:k<l.length):l.getD k d∈l:=by
 rw[List.getD,dD h];exact xG h
theorem eY {α:Type}{l:List α}{k:Nat}(d:α)(h:k<l.length):l.take (k+1)=l.take k++ [l.getD k d]:=by
 rw[←List.take_append_getElem h,List.getD,dD h];rfl
theorem uK {R:List (List (List Int))}{m:Nat}: ∀{i:Nat},i<=R.length->(∀j,j<i->(R.getD j []).length<=m)->((R.take i).flatten).length<=i*m
 |0,_,_=>by simp
 |i+1,h,hr=>by
  rw[←List.take_append_getElem (show i<R.length by omega),List.flatten_append,iV];have b:=uK (i:=i) om (λj c=>hr j om);have a:=hr i om;rw[List.getD,dD om] at a;have a:R[i].length<=m:=a;simp only[List.flatten_cons,List.flatten_nil,tZ];rw[Nat.succ_mul];omega
theorem Lg {G:List Nat->Prop}(a: ∀x,G x->aY n x){O:LN}{R:jJ}(f:n<=64)(c:aV n G O R):Bf (O.map zi)/\tE (R.map (List.map zi)):=by
 have d: ∀i,i<n->(O.getD i []).length<=n:=λi hi=>mY (tK a hi (c.asc i hi) (c.mem i hi)) om
 refine⟨⟨by rw[iA,c.lo];omega,λi hi=>?_⟩,⟨by rw[iA,c.lr];omega,λi hi=>?_⟩⟩
 ·rw[iA,c.lo] at hi
  have:(O.map zi).getD i []=zi (O.getD i []):=by simp [List.getD,show i<O.length by rw[c.lo];exact hi]
  rw[this,aS];have:=d i hi;omega
 ·rw[iA,c.lr] at hi
  have e:(R.map (List.map zi)).getD i []=(R.getD i []).map zi:=by simp [List.getD,show i<R.length by rw[c.lr];exact hi]
  rw[e,iA,c.rl i hi];refine⟨by have:=d i hi;omega,λk b=>?_⟩
  have:((R.getD i []).map zi).getD k []=zi ((R.getD i []).getD k []):=by
   have:=c.rl i hi;simp [List.getD,show k<(R[i]?.getD []).length by simp [List.getD] at this b;omega]
  rw[this,aS,(a _ (c.rep i hi k b).mem).len];omega
theorem tE.out (s:tE R):Pw R:=⟨s.1,λi hi=>(s.2 i hi).1⟩
theorem Pw.inn (s:Pw R)(f: ∀i,i<R.length-> ∀x∈R.getD i [],x.length=n)(b:n<=64):tE R:=⟨s.1,λi hi=>⟨s.2 i hi,λk a=>by rw[f i hi _ (bC a)];omega⟩⟩
theorem MQ {α:Type}{R:List (List α)}(hi:i<R.length):(R.take (i+1)).flatten=(R.take i).flatten++R.getD i []:=by
 rw[←List.take_append_getElem hi,List.flatten_append];simp [List.getD,hi]
structure LG (h hh:H)(B id b:Nat)(r:fK)(n:Nat)(vO vR:V)(O:List (List Int))(R:List (List (List Int)))(i:Nat)(acc:List (List Int)):Prop where
 gB:hh.get B=some (.cells false [aC n,vO,vR])
 gR:hh.get (B+1)=some (.cells false [aC 0])
 gN:hh.get (B+1+1)=some (.cells false [aC n])
 gA: ∃va ws,hh.get (B+1+1+1)=some (.cells false [va])/\dH hh va 1 ws (id+1)/\aN (SI h) ws acc
 gr:hh.get id=some (.loop r)
 gb:hh.get b=some (.cells false [aC n,vO,vR])
 nx:id<hh.next
 fr:Fr h hh
 rows: ∀j,j<i->PA n O R j
structure CkD (h hh:H)(B id:Nat)(r:fK)(n:Nat)(O:List (List Int))(R:List (List (List Int))):Prop where
 gR:hh.get (B+1)=some (.cells false [aC 3])
 gr:hh.get id=some (.loop (vD r .ret))
 nx:id<hh.next
 fr:Fr h hh
 bad: ¬QP n O R
theorem LG.mono {h hh h2:H}{B id b:Nat}{r:fK}{e d:V}{c:List (List Int)}(J:LG h hh B id b r n e d O R i c)(j:B+1+1+1<id)(m:b<id)(f:Fr hh h2):LG h h2 B id b r n e d O R i c:=by
 obtain⟨l,k,g,o,a⟩:=J.gA;have:=J.nx;exact⟨by rw[f.get _ om];exact J.gB,by rw[f.get _ om];exact J.gR,by rw[f.get _ om];exact J.gN,⟨l,k,by rw[f.get _ om];exact g,o.fr f,a⟩,by rw[f.get _ om];exact J.gr,by rw[f.get _ om];exact J.gb,jM J.nx f.next,J.fr.trans f,J.rows⟩
theorem LG.loop {h hh h2:H}{B id b:Nat}{r r2:fK}{f e:V}{c:List (List Int)}(J:LG h hh B id b r n f e O R i c)(p:B+1+1+1<id)(v:b<id)(s:h.next<=B)(g:h2.get id=some (.loop r2))(d:h2.next=hh.next)(o: ∀k,k≠id->h2.get k=hh.get k):LG h h2 B id b r2 n f e O R i c:=by
 obtain⟨t,q,j,l,a⟩:=J.gA;refine⟨by rw[o _ om];exact J.gB,by rw[o _ om];exact J.gR,by rw[o _ om];exact J.gN,⟨t,q,by rw[o _ om];exact j,l.mono om λk _ _ _ _ u _=>o k om,a⟩,g,by rw[o _ om];exact J.gb,by rw[d];exact J.nx,⟨by rw[d];exact J.fr.next,λk m=>by rw[o k om];exact J.fr.get k m⟩,J.rows⟩
theorem WE (vc:V)(d:Int)(O:List (List Int))(R:List (List (List Int)))(h:H)(hc:YD h vc d O R)(hd:d<=7∨64<d)(so:Bf O)(sr:Pw R):
  Ev T 135 [vc] h (λv h'=>v= aC (Wa d O R)/\Fr h h'):=by
 obtain⟨q,o,rfl,sO,sR⟩:=hc
 refine dW lD rfl ?_
 obtain⟨wO,tO,aO⟩:=sO
 obtain⟨wR,tR,aR,kR⟩:=sR
 have lO:=aO.length
 have lR:=aR.length
 have c1:bL q=some (aC (O.length:Int)):=by unfold bL;rw[tO.len (n:=O.length) om om];rfl
 have d5:bL o=some (aC (R.length:Int)):=by unfold bL;rw[tR.len (n:=R.length) om om];rfl
 have a8:=tO.cT.2.1
 have a9:=tR.cT.2.1
 obtain⟨B,hB⟩:=exI h.next
 obtain⟨h1,e1,n1,g1,o1,f1⟩:=dK hB [aC d,q,o]
 obtain⟨h2,e2,n2,g2,o2,f2⟩:=dK n1 [aC 0]
 obtain⟨h3,e3,n3,g3,o3,f3⟩:=dK n2 [aC 0]
 obtain⟨h4,e4,n4,g4,o4⟩:=mV h3 (B+1+1) [aC d]
 have W:h2.get B=some (.cells false [aC d,q,o]):=by rw[o2 _ om];exact g1
 have a2:h4.get B=some (.cells false [aC d,q,o]):=by rw[o4 _ om,o3 _ om];exact W
 have A:h4.get (B+1)=some (.cells false [aC 0]):=by rw[o4 _ om,o3 _ om];exact g2
 have F4:Fr h h4:=by
  refine⟨om,λid b2=>?_⟩;rw[o4 _ om,o3 _ om,o2 _ om,o1 _ om]
 have Z: ∀(l:H) (id:Nat) (x y:Int),eU (some (.cells false [aC x])) l id 0 [aC y]=some (l.set id (some (.cells false [aC y]))):=λl id x y=>bT (by simp) l _ _
 have bx:=bV h (v:= aC d) (u:=q) (w:=o) rfl a8 a9
 have j7:=H.cell_of A
 have a4: ∀z:Int,(h4.set (B+1) (some (.cells false [aC z]))).cell (B+1) 0=some (aC z)/\Fr h (h4.set (B+1) (some (.cells false [aC z]))):=λz=>⟨by rw[H.Ei];rfl,F4.set om _⟩
 by_cases c2:d<1
 ·have s:=cI c2
  simp(disch:=omega)only[go_sem,lD,aE,bx,hB,e1,n1,e2,n2,e3,H.cell_of W,g3,Z,e4,H.cell_of g4,s,A]
  exact⟨by unfold Wa;rw[bJ (.inl c2)],(a4 2).2⟩
 have s:=bI c2
 by_cases b0:64<d
 ·have d2:=cI b0
  simp(disch:=omega)only[go_sem,lD,aE,bx,hB,e1,n1,e2,n2,e3,H.cell_of W,g3,Z,e4,H.cell_of g4,s,d2,A]
  exact⟨by unfold Wa;rw[bJ (.inr b0)],(a4 2).2⟩
 have d2:=bI b0
 obtain⟨n,rfl⟩: ∃n:Nat,d=(n:Int):=⟨d.toNat,om⟩
 have Y:1<=n:=om
 have d8:n<=7:=om
 by_cases b6:(O.length:Int)≠(n:Int)
 ·have dl:=cI b6
  simp(disch:=omega)only[go_sem,lD,aE,bx,hB,e1,n1,e2,n2,e3,H.cell_of W,g3,Z,e4,H.cell_of g4,s,d2,A,H.cell_of a2,c1,dl]
  exact⟨by rw[Nb Y om (λf=>b6 (by have:=f.lo;omega))],(a4 3).2⟩
 have dl:=bI b6
 by_cases b8:(R.length:Int)≠(n:Int)
 ·have b1:=cI b8
  simp(disch:=omega)only[go_sem,lD,aE,bx,hB,e1,n1,e2,n2,e3,H.cell_of W,g3,Z,e4,H.cell_of g4,s,d2,A,H.cell_of a2,c1,dl,d5,b1]
  exact⟨by rw[Nb Y om (λf=>b8 (by have:=f.lr;omega))],(a4 3).2⟩
 have b1:=bI b8
 have d3:h4.next=B+1+1+1:=by rw[n4];exact n3
 obtain⟨h5,e5,n5,g5,o5,f5⟩:=dK d3 [.aD]
 have e0:h5.get B=some (.cells false [aC n,q,o]):=by rw[o5 _ om];exact a2
 have rB:=aJ e0
 simp(disch:=omega)only[go_sem,lD,aE,bx,hB,e1,n1,e2,n2,e3,H.cell_of W,g3,Z,e4,H.cell_of g4,s,d2,A,H.cell_of a2,c1,dl,d5,b1,d3,e5,rB]
 refine (HV (n:Int) q o a8 a9 h5).mono ?_
 rintro _ N ⟨rfl,g6,n6,f6⟩
 simp(disch:=omega)only[go_sem]
 have F6:Fr h N:=(F4.trans f5).trans f6
 have j4:N.get B=some (.cells false [aC n,q,o]):=by rw[f6.get _ om];exact e0
 have i6:N.get (B+1)=some (.cells false [aC 0]):=by rw[f6.get _ om,f5.get _ om];exact A
 have g8:N.get (B+1+1)=some (.cells false [aC n]):=by rw[f6.get _ om,f5.get _ om];exact g4
 have f0:N.get (B+1+1+1)=some (.cells false [.aD]):=by rw[f6.get _ om];exact g5
 refine⟨rfl,wF λr hr=>?_⟩
 obtain⟨id,b2⟩:=exI N.next
 obtain⟨b,hb⟩:=exI h5.next
 rw[hb] at g6 n6
 rw[b2,hb]
 have jI:r.st= .ready:=by rw[hr]
 have b9:r.pend=none:=by rw[hr]
 have i2:R.length=n:=om
 have f4:O.length=n:=om
 have f7:Fr N (N.new (.loop r)):=(Fr.refl N).new _
 have o7: ∀k,k<id->(N.new (.loop r)).get k=N.get k:=λk hk=>H.bG N om _
 have J0:LG h (N.new (.loop r)) B id b r n q o O R 0 []:=
  ⟨by rw[o7 _ om];exact j4,by rw[o7 _ om];exact i6,by rw[o7 _ om];exact g8,⟨.aD, [],by rw[o7 _ om];exact f0,dH.aD _ _ _,trivial⟩,by rw[←b2,H.aL],by rw[o7 _ om];exact g6,by rw[H.aW];omega,F6.trans f7,λj hj=>om⟩
 refine (Xy id b (n:Int) q o wR _ (by rw[lR];exact sr.1) (λi l=>LG h l B id b r n q o O R i (R.take i).flatten) (λl=>CkD h l B id r n O R) J0 (λi l J=>⟨J.gb,tR.mono J.fr⟩) ?_).mono ?_
 ·rintro i l hi J
  have a3:i<n:=om
  refine uC J.gr (by rw[hr];rfl) jI λQ g7 n7 o7=>?_
  rw[congrArg fK.assign hr,congrArg fK.vars hr,congrArg fK.pars hr]
  simp(disch:=omega)only[go_sem,List.zip_cons_cons,List.zip_nil_left]
  rw[congrArg fK.body hr]
  have J7:LG h Q B id b (qE r) n q o O R i (R.take i).flatten:=J.loop om om om g7 n7 o7
  have c4:=iJ aO (i:=i) om .undef []
  have d0:=iJ aR (i:=i) om .undef []
  obtain⟨wr,tr,ar⟩:=d0
  have lr:=ar.length
  have b7:bL (wR.getD i .undef)=some (aC ((R.getD i []).length:Int)):=by unfold bL;rw[tr.len (n:=(R.getD i []).length) om om];rfl
  have b5:=c4.lens
  obtain⟨h0,d9,a5,e6,c8⟩:=(tO.mono J7.fr).shape O.length om om
  have co:Q.cell h0 (d9+i)=some (wO.getD i .undef):=by rw[c8 i om,List.getD,dD om];rfl
  have cB:=H.cell_of J7.gB
  have cN:=H.cell_of J7.gN
  have d6: ∀l P,LG h l B id b (qE r) n q o O R i P-> ¬QP n O R->CkD h ((l.set (B+1) (some (.cells false [aC 3]))).set id (some (.loop (vD r .ret)))) B id r n O R:=λl P J hb=>by
   have:=J.nx;refine⟨by rw[H.aH _ om,H.aU],by rw[H.aU],J.nx,(J.fr.set om _).set om _,hb⟩
  have yq: ∀l p P,LG h l B id b (qE r) n q o O R i P-> ¬QP n O R->Kq id (λv h'=>v= .bool true/\LG h h' B id b r n q o O R (i+1) (R.take (i+1)).flatten∨v= .bool false/\CkD h h' B id r n O R) .ret p (l.set (B+1) (some (.cells false [aC 3]))):=λl p P J hb=>
   Ty (by rw[H.aH _ om];exact J.gr) (.inr ⟨rfl,d6 l P J hb⟩)
  by_cases t:((R.getD i []).length:Int)≠((O.getD i []).length:Int)
  ·have s:=cI t
   simp(disch:=omega)only[go_sem,b7,cB,a5.ixa,co,b5,s,J7.gR,Z]
   exact yq _ _ _ J7 λf=>t (by have:=(f.row i a3).1;omega)
  have s:=bI t
  by_cases e7:(n:Int)-(i:Int)<((R.getD i []).length:Int)
  ·have d2:=cI e7
   simp(disch:=omega)only[go_sem,b7,cB,cN,a5.ixa,co,b5,s,d2,J7.gR,Z]
   exact yq _ _ _ J7 λf=>by have:=(f.row i a3).2;omega
  have d2:=bI e7
  simp(disch:=omega)only[go_sem,b7,cB,cN,a5.ixa,co,b5,s,d2]
  refine aI (λk' p l=> ∃(k:Nat),(∃g:Nat->V,p= [g 0,.ptr B 0,.ptr (B+1) 0,.ptr (B+1+1) 0,.ptr (B+1+1+1) 0,g 5,g 6,g 7,g 8,g 9,g 10,g 11,g 12,g 13,wR.getD i .undef,aC ((R.getD i []).length:Int),aC k,g 17,g 18,g 19])/\k<=(R.getD i []).length/\LG h l B id b (qE r) n q o O R i ((R.take i).flatten++(R.getD i []).take k)/\
    (∀x∈(R.getD i []).take k,x.length=n/\nU x=true)/\k'=(R.getD i []).length-k) (R.getD i []).length
   ⟨0,aB rfl,iB _,by rw[List.take_zero,tZ];exact J7,λx hx=>by simp at hx,rfl⟩ ?_
  clear co cB cN e6 c8 J7 s d2 a5 g7 n7 o7 Q
  rintro k' p h8 ⟨k,⟨g,rfl⟩,hk,U,b4,rfl⟩
  by_cases c6:(k:Int)<((R.getD i []).length:Int)
  case neg=>
   have e1:=bI c6;obtain rfl:k=(R.getD i []).length:=om
   rw[List.take_length] at U b4;rw[←MQ om] at U;simp(disch:=omega)only[go_sem,e1];refine pU jI b9 U.gr (.inl ⟨rfl,?_⟩);have a:=U.loop (h2:=h8.set id (some (.loop r))) om om om (by rw[H.aU]) rfl (λk hk=>H.aH _ hk _)
   have c0: ∀j,j<i+1->PA n O R j:=λj hj=>by
    by_cases e:j=i
    ·subst e;exact⟨⟨om,om⟩,b4⟩
    ·exact a.rows j om
   exact⟨a.gB,a.gR,a.gN,a.gA,a.gr,a.gb,a.nx,a.fr,c0⟩
  have e1:=cI c6
  have a6:k<(R.getD i []).length:=om
  obtain⟨x,hx⟩:=exI ((R.getD i []).getD k [])
  have sx:=iJ ar a6 .undef []
  rw[hx] at sx
  have d4:x∈R.getD i []:=by rw[←hx];exact bC a6
  obtain⟨j3,e8,c3,j6,i4⟩:=(tr.mono U.fr).shape (R.getD i []).length om om
  have ck:h8.cell j3 (e8+k)=some (wr.getD k .undef):=by rw[i4 k om,List.getD,dD om];rfl
  have cN:=H.cell_of U.gN
  generalize wr.getD k .undef=vx at sx ck
  have c7:=sx.lens
  by_cases t:(x.length:Int)≠(n:Int)
  ·have s:=cI t
   simp(disch:=omega)only[go_sem,e1,c3.ixa,ck,c7,cN,s,U.gR,Z]
   exact yq _ _ _ U λf=>t (by have:=(f.perm i a3 x d4).1;omega)
  have s:=bI t
  simp(disch:=omega)only[go_sem,e1,c3.ixa,ck,c7,cN,s]
  refine (wW vx x h8 om (sx.mono U.fr)).mono ?_
  rintro _ h9 ⟨rfl,f9⟩
  have a:=U.mono om om f9
  cases hpk:nU x with
  |false=>
   have e3:decide (BN x≠0)=true:=cI (by unfold BN;rw[bU om,hpk];simp);simp(disch:=omega)only[go_sem,e3,a.gR,Z];exact yq _ _ _ a λf=>by have:=(f.perm i a3 x d4).2;rw[hpk] at this;cases this
  |true=>
   have e3:decide (BN x≠0)=false:=bI (by unfold BN;rw[bU om,hpk];simp);obtain⟨va,ws,gA,ow,al⟩:=a.gA
   have one:vx.cells= [vx]/\vx.one=true:=⟨sx.cT.1,sx.cT.2.1⟩
   have k4:=a.nx;obtain⟨b3,i5,k1,j0,k0,G⟩:=dK (h:=h9) rfl [vx];have cA:=H.cell_of gA;have j8:b3.cell (B+1+1+1) 0=some va:=by rw[H.cell_of (by rw[G.get _ om];exact gA)];rfl
   have k3:=al.length
   have j5:((R.take i).flatten++(R.getD i []).take k).length<=400:=by
    have h1:=uK (m:=7) (R:=R) (i:=i) om (λj hj=>by have:=(a.rows j hj).1.2;omega);have h2:i*7<=7*7:=Nat.mul_le_mul_right 7 om;rw[iV,zO];omega
   obtain⟨c9,i9,a0⟩:=(ow.fr G).push (bytes:=24) (SV.one om j0 (.kn 1)) (n:=ws.length) (m:=1) om rfl om om om;have ap: ∀k,k<=id->dR va k:=λk hk j9 j2 m c e e2=>by have:=(ow.in _ _ _ _ e).2.1;omega
   have c5:c9.get (B+1+1+1)=some (.cells false [va]):=by rw[a0.old _ om (ap _ om),G.get _ om];exact gA
   have k2:=a0.next;have i0: ∀(l:H) (y:V),eU (some (.cells false [va])) l (B+1+1+1) 0 [y]=some (l.set (B+1+1+1) (some (.cells false [y]))):=λl y=>bT (by simp) l _ _
   simp(disch:=omega)only[go_sem,e3,cA,cK h9 (z:= .aD) one.1 one.2,i5,i9,c5,i0];rw[fJ k]
   have K: ∀k,k<=id->k≠B+1+1+1->(c9.set (B+1+1+1) (some (.cells false [.sl b3.next 0 (ws.length+1) (.un 1)]))).get k=h9.get k:=λk h1 h2=>by
    rw[H.aH _ h2,a0.old _ om (ap _ h1),G.get _ om]
   have tk:(R.take i).flatten++(R.getD i []).take (k+1)=((R.take i).flatten++(R.getD i []).take k)++ [x]:=by
    rw[Lz,eY [] a6,hx]
   refine⟨(R.getD i []).length-(k+1),om,k+1,aB rfl,om,⟨by rw[K _ om om];exact a.gB,by rw[K _ om om];exact a.gR,by rw[K _ om om];exact a.gN,⟨_,ws++ [vx],by rw[H.aU],?_,?_⟩,by rw[K _ om om];exact a.gr,by rw[K _ om om];exact a.gb,by simp only[H.cV];omega,?_,a.rows⟩,λy hy=>?_,rfl⟩
   ·refine (a0.own (b:=id+1) om rfl om).mono (dT _) λk j2 m c e h1 h2=>H.aH _ om _
   ·rw[tk];exact al.append ⟨sx,trivial⟩
   ·refine⟨by simp only[H.cV];have:=a.fr.next;omega,λk hk=>?_⟩
    rw[K k om om];exact a.fr.get k hk
   ·rw[eY [] a6,hx] at hy
    rcases oD.1 hy with hy|hy
    ·exact b4 y hy
    ·rw[List.mem_singleton.1 hy]
     exact⟨om,hpk⟩
 ·rintro _ l (J|D)
  ·refine⟨r,J.gr,by rw[jI];simp,?_⟩
   have en:r.pend.getD .norm= .norm:=by rw[b9];rfl
   rw[en]
   rw[lR,List.take_length] at J
   have J:=J.loop (r2:={r with st:= .out}) (h2:=l.set id (some (.loop {r with st:= .out}))) om om om (by rw[H.aU]) rfl (λk hk=>H.aH _ hk _)
   generalize l.set id (some (.loop {r with st:= .out}))=Q at J
   clear J0 f7 o7 b9 jI hr
   have frm:QP n O R:=QP.of f4 i2 λj hj=>J.rows j om
   obtain⟨R',eR,hP⟩:=frm.nat
   obtain⟨va,ws,gA,ow,al⟩:=J.gA
   have eF:R.flatten=R'.flatten.map zi:=by rw[eR,List.map_flatten]
   rw[eF] at al
   have nx:=J.nx
   have rB:=aJ J.gB
   have cN:=H.cell_of J.gN
   have cA:=H.cell_of gA
   have fb:Fr Q (H.mk Q.tr (Q.next+7)):=(Fr.refl Q).bH om
   have i8:SP (H.mk Q.tr (Q.next+7)) va R'.flatten:=⟨ws,(ow.fr fb).sv,al.mono λ_ _ x=>x.mono (J.fr.trans fb)⟩
   have g0:R'.flatten.length<1000000:=by
    have h1:=uK (m:=7) (R:=R) (i:=n) om (λj hj=>by have:=(J.rows j om).1.2;omega);have h2:n*7<=7*7:=Nat.mul_le_mul_right 7 om;rw[Ro om,eF,iA] at h1;omega
   simp(disch:=omega)only[go_sem,aJ (h:=H.mk Q.tr (Q.next+7)) J.gB,cN,cA]
   refine (BD n va R'.flatten _ Y d8 g0 i8 hP).mono ?_
   rintro _ h8 ⟨i1,L,F,τ,rfl,RR,tl,f8,_⟩
   have F8:Fr Q h8:=fb.trans f8
   have U:=J.mono om om F8
   have eO:=tO.dI
   have d7:=tR.dI
   simp(disch:=omega)only[go_sem,aJ U.gB,eO,d7]
   refine (Rw h8 n i1 L F τ d8 RR tl.tw).mono ?_
   rintro i7 h9 ⟨O2,R2,i3,g9,f9⟩
   have a:=U.mono om om f9
   have a7:aV n (BZ n R') O2 R2:=g9.congr tl.group
   obtain⟨e9,j1⟩:=Lg (λx hx=>bM.bF hP hx) om a7
   simp(disch:=omega)only[go_sem,aJ a.gB,eO,d7]
   refine (RW _ i7 (n:Int) (n:Int) O (O2.map zi) R (R2.map (List.map zi)) h9 ⟨q,o,rfl,⟨wO,tO.mono a.fr,aO.mono λ_ _ x=>x.mono a.fr⟩,⟨wR,tR.mono a.fr,aR.mono (λ_ _ x=>x.mono a.fr),kR⟩⟩ i3.ch so e9 (sr.inn (λj hj x hx=>(frm.perm j om x hx).1) om) j1).mono ?_
   rintro _ b3 ⟨rfl,G⟩
   have a1:=a.mono om om G
   have iff:=NI.iff (O:=O) Y om hP a7
   rw[←eR] at iff
   by_cases hq:(n:Int)=(n:Int)/\O=O2.map zi/\R=R2.map (List.map zi)
   ·have ed:=cI hq
    rw[ed]
    simp(disch:=omega)only[go_sem,a1.gR,Z]
    refine⟨?_,a1.fr.set om _⟩
    unfold Wa
    rw[bU om,bJ (iff.2 hq.2)]
   ·have ed:=bI hq
    rw[ed]
    simp(disch:=omega)only[go_sem,a1.gR,Z]
    refine⟨?_,a1.fr.set om _⟩
    unfold Wa
    rw[bU om,bU (λc=>hq ⟨rfl,iff.1 c⟩)]
  ·refine⟨_,D.gr,by simp [vD],?_⟩
   have en:(vD r .ret).pend.getD .norm= .ret:=rfl
   rw[en]
   have nx:=D.nx
   have gR:(l.set id (some (.loop {vD r .ret with st:= .out}))).cell (B+1) 0=some (aC 3):=by rw[H.Ln _ om,H.cell_of D.gR];rfl
   simp(disch:=omega)only[go_sem,gR]
   exact⟨by rw[Nb Y om D.bad],D.fr.set (by have:=D.fr.next;omega) _⟩
end
theorem IC {x:Nat}:Fq .shr .u64 (x:Int) 1=some (.int .u64 ((x/2:Nat):Int)):=by
 unfold Fq;rw[bU om];simp only;congr 2;show Int.fdiv (x:Int) 2=_;rw[Int.fdiv_eq_ediv_of_nonneg _ om];rfl
theorem Gi (u:V)(a:List Nat)(p:Nat)(h:H)(hn:a.length<1000000)(J:a.Pairwise (· < ·))(U:SI h u (zi a)):
  Ev T 103 [u,aC p] h (λv h'=> ∃k f,v= .tup [aC (k:Nat),.bool f]/\(f=true↔p∈a)/\(f=true->k<a.length/\a.getD k 0=p)/\Fr h h'):=by
 refine dW kF rfl ?_
 have P:=U.lens
 rw[aS] at P
 simp(disch:=omega)only[go_sem,kF,aE,P]
 have mono: ∀i j,i<j->j<a.length->a.getD i 0<a.getD j 0:=λi j r o=>by
  rw[cW om,cW o];exact GP.1 J i j om o r
 refine aI (λW d A=> ∃(i j:Nat),(∃g:Nat->V,d= [u,aC p,g 2,g 3,aC (a.length:Int),aC i,aC j,g 7,g 8,g 9])/\i<=j/\j<=a.length/\(∀m,m<i->a.getD m 0<p)/\(∀m,j<=m->m<a.length->p<=a.getD m 0)/\Fr h A/\W=j-i) a.length
  ⟨0,a.length,aB rfl,om,om,λm c=>om,λm r o=>om,Fr.refl h,rfl⟩ ?_
 rintro W d A ⟨i,j,⟨g,rfl⟩,a0,Z,l,s,F,rfl⟩
 obtain⟨id,L,G,N,O⟩:=(U.mono F).open
 rw[aS] at G N O
 have cell: ∀m,m<a.length->A.cell id (L+m)=some (aC (a.getD m 0:Nat)):=λm c=>by rw[O m c];congr 2;simp [zi,c]
 by_cases w:(i:Int)<(j:Int)
 ·have t:=cI w
  have ea:(i:Int)+(j:Int)=((i+j:Nat):Int):=om
  obtain⟨m,c⟩:=exI ((i+j)/2)
  have sr:=IC (x:=i+j)
  rw[c] at sr
  have cm:=cell m om
  simp(disch:=omega)only[go_sem,t,ea,Hj,Cd,fS (n:=((i+j:Nat):Int)) om om,sr,G.ixa,cm]
  refine (iC _ _ _).mono ?_
  rintro _ Y ⟨rfl,B⟩
  by_cases R:((a.getD m 0:Nat):Int)<(p:Int)
  ·have b:Go.Sort.ltInt ((a.getD m 0:Nat):Int) (p:Int)=true:=by unfold Go.Sort.ltInt;exact cI R
   rw[b]
   simp(disch:=omega)only[go_sem]
   rw[fJ m]
   refine⟨j-(m+1),om,m+1,j,aB rfl,om,Z,λq hq=>?_,s,F.trans B,rfl⟩
   by_cases e:q=m
   ·rw[e];omega
   ·have:=mono q m om om;omega
  ·have b:Go.Sort.ltInt ((a.getD m 0:Nat):Int) (p:Int)=false:=by unfold Go.Sort.ltInt;exact bI R
   rw[b]
   simp(disch:=omega)only[go_sem]
   refine⟨m-i,om,i,m,aB rfl,om,om,l,λq r o=>?_,F.trans B,rfl⟩
   by_cases e:q=m
   ·rw[e];omega
   ·have:=mono m q om o;omega
 have t:=bI w
 obtain rfl:i=j:=om
 by_cases y:(i:Int)<(a.length:Int)
 ·have b:=cI y
  have ci:=cell i om
  by_cases z:((a.getD i 0:Nat):Int)=(p:Int)
  ·have K:=cI z
   simp(disch:=omega)only[go_sem,t,b,G.ixa,ci,K,xX]
   exact⟨i,true,rfl,⟨λ_=>by rw[show p=a.getD i 0 by omega];exact bC om,λ_=>rfl⟩,λ_=>⟨om,om⟩,F⟩
  ·have K:=bI z
   simp(disch:=omega)only[go_sem,t,b,G.ixa,ci,K,xX]
   refine Ev.mono (Q:=λv h'=>v= .bool false/\Fr A h') ?_ ?_
   ·refine dW uA rfl ?_
    have e: ∀x:Int,decide (x≠x)=false:=λx=>bI om
    simp(disch:=omega)only[go_sem,uA,aE,e]
    exact Fr.refl _
   rintro _ Y ⟨rfl,B⟩
   simp(disch:=omega)only[go_sem]
   refine⟨i,false,rfl,⟨λh=>(by cases h),λh=>?_⟩,λh=>(by cases h),F.trans B⟩
   exfalso
   obtain⟨m,c,e⟩:=Ad.1 h
   rw[←cW (a:=a) c] at e
   by_cases r:m<i
   ·have:=l m r;omega
   ·have o:m≠i:=λb=>by subst b;omega
    have:=mono i m om c
    have:=s i om om
    omega
 ·have b:=bI y
  simp(disch:=omega)only[go_sem,t,b,xX]
  refine⟨i,false,rfl,⟨λh=>(by cases h),λh=>?_⟩,λh=>(by cases h),F⟩
  exfalso
  obtain⟨m,c,e⟩:=Ad.1 h
  rw[←cW (a:=a) c] at e
  have:=l m om
  omega
theorem oI {α β:Type}(f:α->β){l:List α}{i:Nat}{d:α}{e:β}(h:i<l.length):(l.map f).getD i e=f (l.getD i d):=by
 simp [List.getD,h]
theorem Af.mono {h h' h2:H}{v:V}{l:List Int}(f:Af h h' v l)(g:Fr h' h2):Af h h2 v l:=by
 obtain⟨id,a,e,c,b,i,d⟩:=f.ex;exact⟨⟨id,a,e,c,jM b g.next,by rw[g.get _ b];exact i,d⟩,f.fr.trans g⟩
theorem Ud {h h':H}{v:V}{l:List Nat}(n:Yz h h' v l):Af h h' v (zi l):=by
 obtain⟨e,g,nx,f⟩:=n;exact⟨⟨h.next,_,by rw[e,aS],dT _,om,g,.inr (by rw[aS])⟩,f⟩
theorem Af.le {b h h':H}{v:V}{l:List Int}(f:Af h h' v l)(g:Fr b h):Af b h' v l:=by
 obtain⟨id,a,e,c,d,j,i⟩:=f.ex;exact⟨⟨id,a,e,mY g.next c,d,j,i⟩,g.trans f.fr⟩
section
variable {W:Nat->Prop} {h:H} {vc:V} {n:Nat} {O:LN} {G:List Nat->Prop}
structure GC (W:Nat->Prop)(h:H)(vc:V)(n:Nat)(O:LN)(R:jJ)(G:List Nat->Prop):Prop where
 cw:OP W h vc n O R
 isc:aV n G O R
 cY:dO n G
 n0:1<=n
 n7:n<=7
theorem GC.go {W':Nat->Prop}{h':H}{R:jJ}(g:GC W h vc n O R G)(f:Fx W h h')(a: ∀id,id<h.next->W' id->W id):GC W' h' vc n O R G:=⟨g.cw.go f a,g.isc,g.cY,g.n0,g.n7⟩
theorem GC.ch {R:jJ}(g:GC W h vc n O R G):YD h vc (n:Int) (O.map zi) (R.map (List.map zi)):=g.cw.ch
theorem GC.mono {h':H}{R:jJ}(g:GC W h vc n O R G)(f:Fr h h'):GC W h' vc n O R G:=⟨g.cw.mono f,g.isc,g.cY,g.n0,g.n7⟩
theorem Tb {n:Nat}{G:List Nat->Prop}(b:dO n G){O:LN}{R:jJ}(c:aV n G O R): ∀d i x,i+d=n->G x->Fix i x->BZ n R x
 |0,i,x,h,hx,fx=>by
  have X:=b.bF hx;obtain rfl:i=n:=om
  rw[fx.all X];exact .one
 |d+1,i,x,h,hx,fx=>by
  have hi:i<n:=om
  have X:=b.bF hx;have m:=(c.mem i hi (x.getD i 0)).2 ⟨x,hx,fx,rfl⟩;obtain⟨k,g,e⟩:=Ad.1 m;have a:=c.rep i hi k g;rw[cW g,e] at a;obtain⟨z,j⟩:=exI ((R.getD i []).getD k []);rw[j] at a;have Z:=b.bF a.mem
  have f:z∈R.flatten:=by
   have l:k<(R.getD i []).length:=by rw[c.rl i hi];exact g
   exact List.mem_flatten.2 ⟨R.getD i [],bC (by rw[c.lr];exact hi),by rw[←j];exact bC l⟩
  have o:=Tb b c d (i+1) (aM x (bZ z)) om (b.mul hx (b.inv a.mem)) ((Fix.mul X om fx (Fix.inv Z om a.fix)).succ (by
   rw[dE (by rw[X.len];exact hi)];have:=wY Z hi
   rwa [a.maps] at this))
  have:=bM.mul o f;rwa [aG X Z.inv Z,dL Z,aZ X] at this
theorem Jt {R:jJ}(c:aV n G O R): ∀g∈R.flatten,G g:=λg d=>by
 obtain⟨r,j,d⟩:=List.mem_flatten.1 d;obtain⟨i,hi,rfl⟩:=Ad.1 j;obtain⟨k,f,rfl⟩:=Ad.1 d;have a:i<n:=by have:=c.lr;omega
 have e:R.getD i []=R[i]:=by rw[List.getD,dD hi];rfl
 have b:k<(O.getD i []).length:=by rw[←c.rl i a,e];exact f
 have:=(c.rep i a k b).mem;rw[e,List.getD,dD f] at this;exact this
theorem De (a:dO n G){R:jJ}(c:aV n G O R)(x:List Nat):BZ n R x↔G x:=
 ⟨λh=>h.le a (Jt c),λh=>Tb a c n 0 x om h (λk b=>om)⟩
theorem GC.chk {R:jJ}(g:GC W h vc n O R G):Wa (n:Int) (O.map zi) (R.map (List.map zi))=0:=by
 unfold Wa;have:=g.n0;have:=g.n7;rw[bU om,bJ ⟨n,O,R,rfl,g.n0,om,rfl,rfl,λx a=>g.cY.bF (Jt g.isc x a),g.isc.congr λx=>(De g.cY g.isc x).symm⟩]
theorem GC.small {R:jJ}(g:GC W h vc n O R G):Bf (O.map zi)/\tE (R.map (List.map zi)):=Lg (λx a=>g.cY.bF a) (by have:=g.n7;omega) g.isc
theorem GC.check {R:jJ}(g:GC W h vc n O R G):Ev T 135 [vc] h (λv h'=>v= aC 0/\Fr h h'):=by
 have:=WE vc _ _ _ h g.ch (.inl (by have:=g.n7;omega)) g.small.1 g.small.2.out;rwa [g.chk] at this
theorem Wm {x:List Nat}(X:aY n x)(a:1<=n)(h2:n<=64):BN (zi x)=0:=by
 unfold BN;rw[bU (by rw[aS,X.len];omega),Yf X];rfl
end
theorem Ms (j:V)(n:Nat)(l:LN)(h:H)(W:1<=n)(J:n<=7)(hl:l.length<=4096)(N:SP h j l)(y: ∀g∈l,aY n g):
  Ev T 101 [aC n,j] h (λv h'=> ∃vc O R,v= .tup [vc,aC 0]/\GC (λid=>id<h.next) h' vc n O R (bM n (· ∈l))/\Fr h h'):=by
 refine dW He rfl ?_
 obtain⟨B,hB⟩:=exI h.next
 obtain⟨t,e1,n1,g1,o1,f1⟩:=dK hB [aC 0,.aD,.aD]
 have d1:decide ((n:Int)<1)=false:=bI om
 have d2:decide ((64:Int)<(n:Int))=false:=bI om
 have lv:=N.lens
 rw[iA] at lv
 have d3:decide ((4096:Int)<(l.length:Int))=false:=bI om
 obtain⟨id,P,ws,sh,a,Q,c,o⟩:=N.open
 rw[iA] at sh a Q c
 simp(disch:=omega)only[go_sem,He,aE,hB,e1,d1,d2,lv,d3]
 refine bQ (λZ x=>(∃g:Nat->V,Z= [aC n,j,.ptr B 0,g 3,g 4,g 5,g 6,g 7,g 8,g 9,g 10,g 11,g 12,g 13])/\Fr t x) ?_ ?_
 ·refine aI (λk' Z x=> ∃(i:Nat),(∃g:Nat->V,Z= [aC n,j,.ptr B 0,g 3,g 4,g 5,g 6,g 7,j,aC (l.length:Int),aC i,g 11,g 12,g 13])/\i<=l.length/\Fr t x/\k'=l.length-i) l.length
   ⟨0,aB rfl,iB _,Fr.refl t,rfl⟩ ?_
  rintro k' m r ⟨i,⟨g,rfl⟩,hi,f,rfl⟩
  by_cases k:(i:Int)<(l.length:Int)
  ·have U:=cI k
   have b:i<l.length:=om
   have F2:=f1.trans f
   have ci:r.cell id (P+i)=some (ws.getD i .undef):=by rw[F2.cell (a om),c i b]
   have G:=xJ o b
   have X:aY n (l.getD i []):=y _ (bC b)
   generalize ws.getD i .undef=vx at ci G
   have lx:=G.lens
   rw[aS,X.len] at lx
   simp(disch:=omega)only[go_sem,U,sh.ixa,ci]
   refine (wW vx _ r (by rw[aS,X.len];omega) (G.mono F2)).mono ?_
   rw[Wm X W om]
   rintro _ A ⟨rfl,d⟩
   simp(disch:=omega)only[go_sem]
   refine bA (λc=>(c rfl).elim) (λ_=>?_)
   simp(disch:=omega)only[go_sem,lx]
   refine bA (λc=>(c rfl).elim) (λ_=>?_)
   simp(disch:=omega)only[go_sem]
   rw[fJ i]
   exact⟨l.length-(i+1),om,i+1,aB rfl,om,f.trans d,rfl⟩
  have U:=bI k
  simp(disch:=omega)only[go_sem,U]
  exact⟨aB rfl,f⟩
 rintro m r ⟨⟨g,rfl⟩,f⟩
 have F2:=f1.trans f
 simp(disch:=omega)only[go_sem]
 refine (BD n j l r W J om (N.mono F2) y).mono ?_
 rintro _ A ⟨K,L,F,τ,rfl,R,tl,d,_⟩
 simp(disch:=omega)only[go_sem]
 refine (Rw A n K L F τ J R tl.tw).mono ?_
 rintro vc s ⟨O,R',ch,z,f4⟩
 have F4:=(F2.trans d).trans f4
 have g4:s.get B=some (.cells false [aC 0,.aD,.aD]):=by rw[f4.get _ (by have:=d.next;have:=f.next;omega),d.get _ (by have:=f.next;omega),f.get _ om];exact g1
 have Y:=ch
 obtain⟨vO,vR,a1,a0,e,t1,_,_,t2,_,_⟩:=ch
 subst e
 have p:=t1.cT.2.1
 have q:=t2.cT.2.1
 obtain⟨h5,e5,n5,g5,o5⟩:=mV s B [aC n,vO,vR]
 have r5:=aJ g5
 simp(disch:=omega)only[go_sem,cF s B 0 (v:= aC n) (u:=vO) (w:=vR) rfl p q,g4,cH,e5,r5]
 have n3:=d.next
 have n2:=f.next
 have n4:=f4.next
 have f5:Fx (λid=>id<A.next) s h5:=⟨om,λid _ a=>o5 id om⟩
 refine⟨_,O,R',rfl,⟨Y.go f5 (λid _ h=>om),z.congr tl.group,bM.cY y,W,J⟩,⟨by have:=F4.next;omega,λid a=>by rw[o5 id om];exact F4.get id a⟩⟩
section
variable {b A:Nat} {hh:H} {l:LN}
theorem GA {h:H}{v:V}{ws:List V}(s:SV h v 1 ws)(i:II v)(m:1<=ws.length): ∃v',rY 1 v (some (aC 1)) none none=some v'/\SV h v' 1 (ws.drop 1):=by
 rcases s with ⟨_,e⟩|⟨id,a,len,q,g,d,rfl,k,f,j,r,n⟩
 ·rw[e] at m;simp at m
 have t:nP none len len=some len:=by simp [nP]
 have o:((d.drop a).take (len*1)).drop 1=(d.drop (a+1)).take (len- 1):=by
  rw[List.drop_take,List.drop_drop,tW]
 rcases i _ _ _ _ rfl with rfl|⟨c,rfl,u⟩
 ·by_cases p:1<len
  ·refine⟨.sl id (a+1) (len- 1) (.un 1),?_,.inr ⟨id,a+1,len- 1,_,g,d,rfl,by rw[Gb,k];omega,f,j,om,by rw[←n,o,tW]⟩⟩
   simp [rY,nP,p,show (1:Int)<=(len:Int) by omega]
  ·refine⟨.sl id a 0 (.un 1),?_,.inr ⟨id,a,0,_,g,d,rfl,by rw[Gb,k];omega,f,j,om,?_⟩⟩
   ·have:len=1:=om
    subst this;simp [rY,nP]
   ·have:ws.drop 1= []:=ON (by rw[Gb];omega)
    rw[this];simp
 ·refine⟨.sl id (if c=1 then a else a+1) (len- 1) (.kn (c- 1)),?_,.inr ⟨id,_,len- 1,_,g,d,rfl,by rw[Gb,k];omega,f,j,by split<;>omega,?_⟩⟩
  ·have:1<=len:=om
   simp [rY,nP,show (1:Int)<=(len:Int) by omega,show 1<=c by omega]
  ·by_cases e:c=1
   ·have:ws.drop 1= []:=ON (by rw[Gb];omega)
    rw[this];have:len- 1=0:=om
    rw[this];simp
   ·rw[bU e,←n,o,tW]
def Mh (b:Nat)(hh:H)(A:Nat)(l:LN):Prop:= ∃va ws W,hh.get A=aF [va]/\dH hh va 1 ws b/\dZ W hh ws l/\Ik W va/\(∀id,id<b->W id)/\ ∀id,W id->id<hh.next
theorem Mh.mono {h2:H}(a:Mh b hh A l)(d:A<hh.next)(f:Fr hh h2):Mh b h2 A l:=by
 obtain⟨i,e,W,g,o,p,k,j,c⟩:=a;exact⟨i,e,W,by rw[f.get _ d];exact g,o.fr f,p.fx (Fx.of f),k,j,λid h=>jM (c id h) f.next⟩
theorem Mh.other {h2:H}(a:Mh b hh A l){k:Nat}(r:k<b)(c:k≠A)(n:h2.next=hh.next)(o: ∀j,j≠k->h2.get j=hh.get j):Mh b h2 A l:=by
 obtain⟨u,t,W,g,s,p,v,d,i⟩:=a
 have f:Fx W hh h2:=⟨om,λid m q=>o id λe=>q (e▸d k r)⟩
 exact⟨u,t,W,by rw[o _ (Ne.symm c)];exact g,s.mono om λid _ _ _ _ m _=>o id om,dZ.go p f (λ_ _ h=>h),v,d,λid h=>by rw[n];exact i id h⟩
theorem Mh.push {d:H}(a:Mh b hh A l)(z:A<b){x:List Nat}{s y:V}(bytes:Nat)(Y:bytes<=24)(hl:l.length<1000000)(f:Fr hh d)(a0:b<=hh.next)(L:PV (λid=>id<hh.next) d s x)(U:SV d y 1 [s]):
  ∃va h6,hh.get A=aF [va]/\zK d 1 bytes va y=some (.sl d.next 0 (l.length+1) (.un 1),h6)/\h6.get A=aF [va]/\h6.next=d.next+1/\(∀k,k<b->h6.get k=d.get k)/\
   (va.cells= [va]/\va.one=true)/\dI va va=true/\ ∀h7,h6.set A (aF [.sl d.next 0 (l.length+1) (.un 1)])=h7->Mh b h7 A (l++ [x]):=by
 obtain⟨va,Z,W,g,i,p,P,B,F⟩:=a
 have N:=aN.length p
 have nx:=f.next
 obtain⟨h6,O,q⟩:=(i.fr f).push (bytes:=bytes) U (n:=l.length) (m:=1) om rfl om om ⟨by have:=Nat.mul_le_mul_left (2*(l.length+1)+1000) Y;omega,om⟩
 have R: ∀k,k<b->dR va k:=λk G id j m c e e2=>by have:=(i.in _ _ _ _ e).2.1;omega
 have Q:=q.next
 have J: ∀k,k<b->h6.get k=d.get k:=λk G=>q.old k om (R k G)
 refine⟨va,h6,g,O,by rw[J A z,f.get A om];exact g,Q,J,⟨i.sv.cT.1,i.sv.cT.2.1⟩,i.sv.dI,λh7 e=>?_⟩
 subst e
 have t:Fx W d h6:=q.fx P
 have v:Fx W h6 (h6.set A (aF [.sl d.next 0 (l.length+1) (.un 1)])):=Fx.set h6 (B A z) _
 have o:=t.trans v (λ_ _ h=>h)
 have w: ∀id,id<d.next->(W id∨id=d.next)->W id:=λid K r=>by
  rcases r with r|r
  ·exact r
  ·omega
 have u:PV W d s x:=L.kO λid _ h=>F id h
 refine⟨_,Z++ [s],λid=>W id∨id=d.next,by rw[H.aU],?_,(dZ.go (p.fx (Fx.of f)) o w).append (dZ.one (PV.go u o w)),λid j n c e=>by cases e;exact .inr rfl,λid h=> .inl (B id h),λid h=>?_⟩
 ·exact (q.own (b:=b) om rfl om).mono (dT _) λid j m c e K _=>H.aH h6 om _
 ·simp only[H.cV]
  rcases h with h|h
  ·have:=F id h;omega
  ·omega
end
def bP (R:jJ):LN:=R.flatMap (List.drop 1)
theorem Be {R:jJ}{i:Nat}(hi:i<R.length):bP (R.take (i+1))=bP (R.take i)++(R.getD i []).drop 1:=by
 unfold bP;rw[eY [] hi,List.flatMap_append];simp
theorem uG {n:Nat}{R:jJ}: ∀{i:Nat},i<=R.length->(∀j,j<i->(R.getD j []).length<=n)->(bP (R.take i)).length<=i*n
 |0,_,_=>by simp [bP]
 |i+1,h,hr=>by
  rw[Be om,iV,Gb,Nat.succ_mul];have a:=uG (i:=i) om (λj b=>hr j om);have c:=hr i om;omega
structure ME (h h':H)(v:V)(l:LN):Prop where
 ex: ∃ws W,dH h' v 1 ws h.next/\dZ W h' ws l/\Ik W v/\(∀id,id<h.next->W id)
 fr:Fr h h'
theorem ME.sp {h h':H}{v:V}{l:LN}(n:ME h h' v l):SP h' v l:=by
 obtain⟨b,W,o,p,_⟩:=n.ex;have a:=aN.length p
 exact⟨b,o.sv,aN.eM (by simpa using a) λi hi c=>by
  have:=(aN.get p i hi om).si
  simpa using this⟩
theorem ME.pl {h h':H}{v:V}{l:LN}(n:ME h h' v l):PL (λid=>id<h.next) h' v l:=by
 obtain⟨a,W,o,p,_,b⟩:=n.ex;exact⟨a,o.sv,DM o,p.kO (λid _ h=>b id h),dH.UH o⟩
structure StJ (h hh:H)(id b B:Nat)(r:fK)(n:Nat)(vO vR:V)(R:jJ)(i:Nat):Prop where
 acc:Mh (id+1) hh (B+1) (bP (R.take i))
 gr:hh.get id=some (.loop r)
 gb:hh.get b=aF [aC n,vO,vR]
 nx:id<hh.next
 fr:Fr h hh
theorem Sd {W:Nat->Prop}(vc:V)(n:Nat)(O:LN)(R:jJ)(G:List Nat->Prop)(h:H)(gc:GC W h vc n O R G):
  Ev T 106 [vc] h (λv h'=> ∃vl,v= .tup [vl,aC 0]/\ME h h' vl (bP R)):=by
 obtain⟨vO,vR,e,sO,sR⟩:=gc.ch
 subst e
 refine dW Bx rfl ?_
 obtain⟨wR,tR,aR,kR⟩:=sR
 have lR:=aR.length
 have c:=gc.isc
 rw[iA,c.lr] at lR
 have a7:vO.one=true:=BX sO
 have a8:=tR.cT.2.1
 have n0:=gc.n0
 have n7:=gc.n7
 obtain⟨B,hB⟩:=exI h.next
 obtain⟨h1,e1,n1,g1,o1,f1⟩:=dK hB [aC n,vO,vR]
 have bx:=bV h (v:= aC n) (u:=vO) (w:=vR) rfl a7 a8
 have rB:=aJ g1
 simp(disch:=omega)only[go_sem,Bx,aE,bx,hB,e1,rB]
 refine ((gc.mono f1).check).mono ?_
 rintro _ h2 ⟨rfl,f2⟩
 simp(disch:=omega)only[go_sem]
 refine bA (λhc=>(hc rfl).elim) (λ_=>?_)
 obtain⟨A,hA⟩:=exI h2.next
 have n2:=f2.next
 obtain⟨h3,e3,n3,g3,o3,f3⟩:=dK hA [.aD]
 have f6:h3.get B=aF [aC n,vO,vR]:=by rw[f3.get _ om,f2.get _ om];exact g1
 have d9:=aJ f6
 simp(disch:=omega)only[go_sem,hA,e3,d9]
 refine (HV (n:Int) vO vR a7 a8 h3).mono ?_
 rintro _ P ⟨rfl,g4,n4,f4⟩
 simp(disch:=omega)only[go_sem]
 obtain⟨id,b2⟩:=exI P.next
 obtain⟨b,hb⟩:=exI h3.next
 rw[hb] at g4 n4
 refine⟨rfl,wF λr hr=>?_⟩
 rw[b2,hb]
 have jI:r.st= .ready:=by rw[hr]
 have c6:r.pend=none:=by rw[hr]
 have o5: ∀k,k<id->(P.new (.loop r)).get k=P.get k:=λk N=>H.bG P om _
 have f5:Fr P (P.new (.loop r)):=(Fr.refl P).new _
 have n5:(P.new (.loop r)).next=id+1:=by rw[H.aW,b2]
 have F4:=((f1.trans f2).trans f3).trans f4
 have rl: ∀j,j<n->(R.getD j []).length<=n:=λj Y=>by
  rw[c.rl j Y];exact mY (tK (λx hx=>gc.cY.bF hx) Y (c.asc j Y) (c.mem j Y)) om
 obtain⟨t,b6⟩: ∃t,A=t+1:=⟨A- 1,om⟩
 have J0:StJ h (P.new (.loop r)) id b t r n vO vR R 0:=by
  refine⟨⟨.aD, [],λk=>k<id+1,?_,dH.aD _ _ _,trivial,λ_ _ _ _ e=>(by cases e),λ_ h=>h,λk N=>om⟩,by rw[←b2,H.aL],by rw[o5 _ om];exact g4,om,F4.trans f5⟩;rw[←b6,o5 _ om,f4.get _ om];exact g3
 refine (Xy id b (n:Int) vO vR wR _ om (λi o=>StJ h o id b t r n vO vR R i) (λo=>False) J0 (λi o J=>⟨J.gb,tR.mono J.fr⟩) ?_).mono ?_
 ·rintro i o hi J
  have m:i<n:=om
  refine uC J.gr (by rw[hr];rfl) jI λh9 g9 n9 o9=>?_
  rw[congrArg fK.assign hr,congrArg fK.vars hr,congrArg fK.pars hr]
  simp(disch:=omega)only[go_sem,List.zip_cons_cons,List.zip_nil_left]
  rw[congrArg fK.body hr]
  have nx:=J.nx
  have ri:(R.map (List.map zi)).getD i []=(R.getD i []).map zi:=oI (List.map zi) (by rw[c.lr];exact m)
  have a6:=iJ aR (i:=i) (by rw[iA,c.lr];exact m) .undef []
  rw[ri] at a6
  obtain⟨wr,tr,ar⟩:=a6
  have lr:=ar.length
  rw[iA] at lr
  have c1:1<=wr.length:=by
   rw[lr,c.rl i m];have:=(c.mem i m i).2 ⟨aX n,gc.cY.one,Fix.one n i om,fM m⟩;exact Rl this
  have F9:Fr h h9:=⟨by rw[n9];exact J.fr.next,λk N=>by rw[o9 k om];exact J.fr.get k N⟩
  obtain⟨vt,e9,tt⟩:=GA tr (kR _ (bC om)) c1
  have lt:bL vt=some (aC (wr.length- 1:Nat)):=by unfold bL;rw[tt.len (n:=wr.length- 1) (by rw[Gb];omega) om];rfl
  have g0:wr.length<=7:=by have:=rl i m;omega
  simp(disch:=omega)only[go_sem,e9,lt]
  have A9:Mh (id+1) h9 (t+1) (bP (R.take i)):=J.acc.other (k:=id) om om n9 o9
  refine aI (λk' b1 o=> ∃(k:Nat),(∃g:Nat->V,b1= [g 0,g 1,g 2,g 3,g 4,.ptr A 0,g 6,g 7,g 8,g 9,g 10,g 11,vt,aC (wr.length- 1:Nat),aC k,g 15])/\k<=wr.length- 1/\Mh (id+1) o (t+1) (bP (R.take i)++((R.getD i []).drop 1).take k)/\
    o.get id=some (.loop (qE r))/\o.get b=aF [aC n,vO,vR]/\id<o.next/\Fr h o/\k'=wr.length- 1-k) (wr.length- 1)
   ⟨0,aB rfl,iB _,by rw[List.take_zero,tZ];exact A9,g9,by rw[o9 _ om];exact J.gb,om,F9,rfl⟩ ?_
  rintro k' b1 a ⟨k,⟨g,rfl⟩,N,Z,b0,a9,c2,K,rfl⟩
  have g5:((R.getD i []).drop 1).length=wr.length- 1:=by rw[Gb];omega
  by_cases c0:(k:Int)<((wr.length- 1:Nat):Int)
  case neg=>
   have d1:=bI c0;have ek:k=wr.length- 1:=om
   rw[ek,Ro (l:=(R.getD i []).drop 1) om,←Be (by rw[c.lr];exact m)] at Z;simp(disch:=omega)only[go_sem,d1];refine pU jI c6 b0 (.inl ⟨rfl,Z.other (k:=id) om om rfl (λj Y=>H.aH _ Y _),by rw[H.aU],by rw[H.aH _ om];exact a9,c2,K.set om _⟩)
  have d1:=cI c0
  have g6:k<wr.length- 1:=om
  have b3:k+1<(R.getD i []).length:=om
  obtain⟨x,hx⟩:=exI ((R.getD i []).getD (k+1) [])
  have d4:((R.getD i []).drop 1).getD k []=x:=by
   rw[←hx];generalize R.getD i []=row;rw[List.getD,List.getD,List.getElem?_drop,Nat.add_comm 1 k]
  have X:aY n x:=by
   rw[←hx];exact gc.cY.bF (c.rep i m (k+1) (by rw[←c.rl i m];exact b3)).mem
  have sx:=iJ ar (i:=k+1) (by rw[iA];exact b3) .undef []
  rw[oI zi (d:= []) b3,hx] at sx
  obtain⟨f7,c9,d3,f8,e6⟩:=(tt.mono K).shape (wr.length- 1) (by rw[Gb];omega) om
  have ck:a.cell f7 (c9+k)=some (wr.getD (k+1) .undef):=by
   rw[e6 k (by rw[Gb];omega),List.getElem?_drop,List.getD,Nat.add_comm 1 k,dD om];rfl
  generalize wr.getD (k+1) .undef=vx at sx ck
  obtain⟨L,gA,e2⟩: ∃L,a.get (t+1)=aF [L]/\dI L L=true:=by
   obtain⟨L,_,_,gA,ow,_⟩:=Z;exact⟨L,gA,ow.sv.dI⟩
  have fb:Fr a (H.mk a.tr (a.next+6)):=(Fr.refl a).bH om
  rw[b6]
  simp(disch:=omega)only[go_sem,d1,d3.ixa,ck,H.cell_of gA]
  refine (Nh vx (zi x) (H.mk a.tr (a.next+6)) (by rw[aS,X.len];omega) (by rw[aS,X.len];omega) (sx.mono (K.trans fb))).mono ?_
  rintro a5 p s
  have c4:=fb.trans s.fr
  have d7:=s.fr.next
  have b9:p.get (t+1)=aF [L]:=by rw[c4.get _ om];exact gA
  have b8:PV (λid=>id<a.next) p a5 x:=s.pv λid h=>by simp;omega
  simp(disch:=omega)only[go_sem,H.cell_of b9,e2,cK _ (z:= .aD) b8.fG.1 b8.fG.2]
  obtain⟨f,q⟩: ∃f:H,f=H.mk ((H.mk p.tr (a.next+3)).new (Ob.cells false [a5])).tr p.next:=⟨_,rfl⟩
  rw[←q]
  have d6:f.get (a.next+3)=aF [a5]:=by rw[q];exact H.aL (H.mk p.tr (a.next+3)) _
  have g2:f.next=p.next:=by rw[q]
  have c8: ∀k,k≠a.next+3->f.get k=p.get k:=λk N=>by rw[q];exact H.bG (H.mk p.tr (a.next+3)) (by simpa using N) _
  simp only at d7
  have U:Fr a f:=⟨om,λk N=>by rw[c8 k om];exact c4.get k N⟩
  have e4:PV (λid=>id<a.next) f a5 x:=by
   obtain⟨i5,c5,ev,a1,a2,a3,a4⟩:=s.ex;simp only at a1;rw[ev];exact⟨SV.all (by rw[aP,tW]) om (by rw[c8 _ om];exact a3) _,λo=>by have:i5<a.next:=o;omega⟩
  have d5:(bP (R.take i)++((R.getD i []).drop 1).take k).length<1000000:=by
   have h1:=uG (n:=n) (R:=R) (i:=i) (by rw[c.lr];omega) (λj Y=>rl j om);have h2:i*n<=7*7:=Nat.mul_le_mul om n7;rw[iV,zO];omega
  obtain⟨d0,b4,c7,f0,e8,g8,b7,one,_,e7⟩:=Z.push om (bytes:=24) (dT _) d5 U om e4 (SV.one om d6 (.kn 1))
  have d2:d0=L:=by rw[gA] at c7;cases c7;rfl
  subst d2
  have d8: ∀(o:H) (y:V),eU (aF [d0]) o (t+1) 0 [y]=some (o.set (t+1) (aF [y])):=λo y=>bT (by simp) o _ _
  simp(disch:=omega)only[go_sem,f0,e8,d8]
  rw[fJ k]
  have b5:=e7 _ rfl
  have e0:bP (R.take i)++((R.getD i []).drop 1).take k++ [x]=bP (R.take i)++((R.getD i []).drop 1).take (k+1):=by
   rw[Lz,eY [] om,d4]
  rw[e0] at b5
  have g7:Fr a (b4.set (t+1) (aF [.sl f.next 0 ((bP (R.take i)++((R.getD i []).drop 1).take k).length+1) (.un 1)]))->True:=λ_=>trivial
  obtain⟨Q,F⟩: ∃Q,Q=b4.set (t+1) (aF [.sl f.next 0 ((bP (R.take i)++((R.getD i []).drop 1).take k).length+1) (.un 1)]):=⟨_,rfl⟩
  rw[←F] at b5 ⊢
  have e5: ∀k,k<=id->k≠t+1->Q.get k=a.get k:=λk h1 h2=>by rw[F,H.aH _ h2,b7 k om];exact U.get k om
  have f9:Q.next=b4.next:=by rw[F];rfl
  refine⟨wr.length- 1-(k+1),om,k+1,aB rfl,om,b5,by rw[b7 id om,U.get _ om];exact b0,by rw[b7 b om,U.get _ om];exact a9,om,⟨by have:=K.next;omega,λk N=>by rw[e5 k om om];exact K.get k N⟩,rfl⟩
 ·rintro _ o (J|hf)
  case inr=>exact hf.elim
  refine⟨r,J.gr,by rw[jI];simp,?_⟩
  have en:r.pend.getD .norm= .norm:=by rw[c6];rfl
  rw[en]
  have nx:=J.nx
  have c3:=J.acc
  rw[lR,Ro (by rw[c.lr];omega)] at c3
  obtain⟨h9,a0⟩: ∃h9,h9=o.set id (some (.loop {r with st:= .out})):=⟨_,rfl⟩
  have A9:=c3.other (h2:=h9) (k:=id) om om (by rw[a0];rfl) (λj Y=>by rw[a0,H.aH _ Y])
  have F9:Fr h h9:=by rw[a0];exact J.fr.set om _
  rw[←a0,b6]
  obtain⟨L,ws,W',gA,ow,pv,bl,l1,l2⟩:=A9
  simp(disch:=omega)only[go_sem,H.cell_of gA]
  exact⟨L,rfl,⟨ws,W',ow.le om,pv,bl,λid h=>l1 id om⟩,F9⟩
end Go.Proofs.YtcdbmkidaecdiaaGreat
namespace Go.Pm
set_option maxRecDepth 100000
section
variable {x:List Nat} {i:Nat}
def jT (O:Al)(x:List Nat)(i:Nat):List Nat:=(O.getD i []).map λq=>x.getD q 0
def yF (l:List Nat):List Nat:=l.mergeSort λa b=>decide (a<=b)
theorem oL (l:List Nat):(yF l).Perm l:=List.mergeSort_perm l _
theorem Ta (l:List Nat):(yF l).Pairwise (· <= ·):=by
 have:=List.pairwise_mergeSort (le:=λa b:Nat=>decide (a<=b)) (λa b c d e=>by simp at*;omega) (λa b=>by simp;omega) l;exact this.imp λh=>by simpa using h
def fY (O:Al)(R:TH)(x:List Nat)(i im:Nat):List Nat:=aM ((R.getD i []).getD ((jT O x i).idxOf im) []) x
def dM (O:Al)(R:TH):Nat->Nat->List Nat->Al
 |0,_,x=> [x]
 |d+1,i,x=>(yF (jT O x i)).flatMap λim=>dM O R d (i+1) (fY O R x i im)
structure cZ (G:List Nat->Prop)(L:Al):Prop where
 asc:L.Pairwise Lt
 mem: ∀x,x∈L↔G x
theorem Lt.irrefl (h:Lt x x):False:=h.asymm h
theorem Lt.trans {y z:List Nat}(n:x.length=y.length)(a:Lt x y)(b:Lt y z):Lt x z:=by
 obtain⟨k,f,d,g⟩:=a;obtain⟨m,o,e,l⟩:=b;rcases Nat.lt_trichotomy k m with h|h|h
 ·exact⟨k,f,λj c=>(d j c).trans (e j oq),by rw[←e k h];exact g⟩
 ·subst h;exact⟨k,f,λj c=>(d j c).trans (e j c),oq⟩
 ·exact⟨m,oq,λj c=>(d j oq).trans (e j c),by rw[d m h];exact l⟩
theorem IB: ∀{a b:Al},a.Pairwise Lt->b.Pairwise Lt->(∀p,p∈a↔p∈b)->a=b
 | [], [],_,_,_=>rfl
 | [],y::b,_,_,h=>by have:=(h y).2 (by simp);simp at this
 |x::a, [],_,_,h=>by have:=(h x).1 (by simp);simp at this
 |x::a,y::b,ha,hb,h=>by
  obtain⟨k,m⟩:=List.pairwise_cons.1 ha;obtain⟨j,l⟩:=List.pairwise_cons.1 hb
  have e:x=y:=by
   have c:=(h x).1 (by simp);have f:=(h y).2 (by simp);rcases List.mem_cons.1 c with c|c
   ·exact c
   ·rcases List.mem_cons.1 f with f|f
    ·exact f.symm
    ·exact ((j x c).asymm (k y f)).elim
  subst e;congr 1
  refine IB m l λp=>⟨λd=>?_,λd=>?_⟩
  ·rcases List.mem_cons.1 ((h p).1 (List.mem_cons_of_mem _ d)) with e|g
   ·subst e;exact ((k p d).irrefl).elim
   ·exact g
  ·rcases List.mem_cons.1 ((h p).2 (List.mem_cons_of_mem _ d)) with e|g
   ·subst e;exact ((j p d).irrefl).elim
   ·exact g
theorem cZ.uniq {G:List Nat->Prop}{L M:Al}(a:cZ G L)(b:cZ G M):L=M:=IB a.asc b.asc λp=>(a.mem p).trans (b.mem p).symm
theorem cZ.nodup {G:List Nat->Prop}{L:Al}(a:cZ G L):L.Nodup:=by
 rw[List.nodup_iff_pairwise_ne];exact a.asc.imp λh e=>by rw[e] at h;exact h.irrefl
def iW (O:Al):Nat->Nat->Nat
 |0,_=>1
 |d+1,i=>(O.getD i []).length*iW O d (i+1)
section
variable {n:Nat} {G:List Nat->Prop} {O:Al} {R:TH}
theorem SE {im:Nat}:im∈jT O x i↔ ∃q∈O.getD i [],x.getD q 0=im:=by simp [jT]
theorem Ky (a:dO n G)(c:aV n G O R)(hi:i<n){q:Nat}(b:q∈O.getD i []):q<n:=by
 obtain⟨g,d,_,rfl⟩:=(c.mem i hi q).1 b;exact (a.bF d).fX hi
theorem BU (d:dO n G)(c:aV n G O R)(X:aY n x)(hi:i<n):(jT O x i).Nodup:=by
 have nd:(O.getD i []).Pairwise (· < ·):=c.asc i hi;rw[List.nodup_iff_pairwise_ne];unfold jT;rw[List.pairwise_map];refine nd.imp_of_mem λ{a b} g h f e=>?_
 have:=X.inj (Ky d c hi g) (Ky d c hi h) e;omega
theorem xS (q:dO n G)(c:aV n G O R)(X:aY n x)(hi:i<n){im:Nat}(g:im∈jT O x i):
  ∃k,k<(O.getD i []).length/\(jT O x i).idxOf im=k/\x.getD ((O.getD i []).getD k 0) 0=im/\Yl n G i ((O.getD i []).getD k 0) ((R.getD i []).getD k [])/\fY O R x i im=aM ((R.getD i []).getD k []) x/\aY n (fY O R x i im)/\(fY O R x i im).getD i 0=im/\ ∀j,j<i->(fY O R x i im).getD j 0=x.getD j 0:=by
 have f:=List.idxOf_lt_length_iff.2 g
 have a:(jT O x i).idxOf im<(O.getD i []).length:=by simpa [jT] using f
 have m:(jT O x i).getD ((jT O x i).idxOf im) 0=im:=by rw[cW f,List.getElem_idxOf]
 obtain⟨k,e⟩: ∃k,(jT O x i).idxOf im=k:=⟨_,rfl⟩
 rw[e] at a m f
 have o:x.getD ((O.getD i []).getD k 0) 0=im:=by
  rw[←m];unfold jT;rw[List.getD_eq_getElem?_getD (l:=List.map _ _),List.getElem?_map,List.getElem?_eq_getElem a,cW a];rfl
 have b:=c.rep i hi k a
 have h:=q.bF b.mem
 have d:fY O R x i im=aM ((R.getD i []).getD k []) x:=by unfold fY;rw[e]
 refine⟨k,a,e,o,b,d,by rw[d];exact h.mul X,?_,λj p=>?_⟩
 ·rw[d,dE (by rw[h.len];exact hi),b.maps,o]
 ·rw[d,dE (by rw[h.len];omega),b.fix j p]
theorem Ss (f:dO n G)(c:aV n G O R): ∀(d i:Nat) (x:List Nat),i+d=n->aY n x->
  (∀z,z∈dM O R d i x↔ ∃g,G g/\Fix i g/\z=aM g x)/\(dM O R d i x).Pairwise Lt/\(dM O R d i x).length=iW O d i
 |0,i,x,h,X=>by
  obtain rfl:i=n:=oq
  refine⟨λz=>?_,by simp [dM],rfl⟩;simp only[dM,List.mem_singleton];constructor
  ·rintro rfl;exact⟨aX i,f.one,Fix.one i i (Nat.le_refl _),(bX X).symm⟩
  ·rintro⟨g,p,q,rfl⟩;rw[q.all (f.bF p),bX X]
 |d+1,i,x,h,X=>by
  have hi:i<n:=oq
  have u:=λo (e:o∈jT O x i)=>Ss f c d (i+1) (fY O R x i o) oq (xS f c X hi e).choose_spec.2.2.2.2.2.1
  have y: ∀o,o∈yF (jT O x i)↔o∈jT O x i:=λo=>(oL _).mem_iff
  have s: ∀o,o∈jT O x i-> ∀z,z∈dM O R d (i+1) (fY O R x i o)->z.length=n/\z.getD i 0=o/\ ∀j,j<i->z.getD j 0=x.getD j 0:=λo e z v=>by
   obtain⟨g,p,q,rfl⟩:=((u o e).1 z).1 v;obtain⟨k,_,_,_,_,_,_,Q,s2⟩:=xS f c X hi e;have r:=f.bF p;refine⟨by rw[fQ,r.len],?_,λj A=>?_⟩
   ·rw[dE (by rw[r.len];exact hi),q i oq,Q]
   ·rw[dE (by rw[r.len];omega),q j oq,s2 j A]
  refine⟨λz=>?_,?_,?_⟩
  ·simp only[dM,List.mem_flatMap,y]
   constructor
   ·rintro⟨o,e,v⟩
    obtain⟨g,p,q,rfl⟩:=((u o e).1 z).1 v;obtain⟨k,_,_,_,m,K,_⟩:=xS f c X hi e;refine⟨aM g ((R.getD i []).getD k []),f.mul p m.mem,Fix.mul (f.bF p) oq (q.mono oq) m.fix,?_⟩;rw[K,aG (f.bF p) (f.bF m.mem) X]
   ·rintro⟨g,p,q,rfl⟩
    have r:=f.bF p;have N:=(c.mem i hi (g.getD i 0)).2 ⟨g,p,q,rfl⟩;have e:x.getD (g.getD i 0) 0∈jT O x i:=SE.2 ⟨_,N,rfl⟩;refine⟨_,e,((u _ e).1 _).2 ?_⟩;obtain⟨k,L,_,U,m,K,_⟩:=xS f c X hi e;have B:(O.getD i []).getD k 0=g.getD i 0:=X.inj (Ky f c hi (by rw[cW L];exact List.getElem_mem L)) (Ky f c hi N) U;rw[B] at m;have t:=f.bF m.mem;refine⟨aM g (bZ ((R.getD i []).getD k [])),f.mul p (f.inv m.mem),(Fix.mul r oq q (Fix.inv t oq m.fix)).succ ?_,?_⟩
    ·rw[dE (by rw[r.len];exact hi)]
     have:=wY t hi;rwa [m.maps] at this
    ·rw[K,←aG (r.mul t.inv) t X,aG r t.inv t,dL t,aZ r]
  ·unfold dM
   rw[List.pairwise_flatMap];refine⟨λo e=>(u o ((y o).1 e)).2.1,?_⟩;have F:=Ta (jT O x i);have nd:(yF (jT O x i)).Nodup:=(oL _).nodup_iff.2 (BU f c X hi);rw[List.nodup_iff_pairwise_ne] at nd;refine (F.and nd).imp_of_mem λ{a b} J hb Y z v w P=>?_
   obtain⟨l1,W,z2⟩:=s a ((y a).1 J) z v;obtain⟨l2,w1,Z⟩:=s b ((y b).1 hb) w P;exact⟨i,oq,λj A=>by rw[z2 j A,Z j A],by rw[W,w1];omega⟩
  ·unfold dM iW
   rw[List.length_flatMap];have:(yF (jT O x i)).map (λa=>(dM O R d (i+1) (fY O R x i a)).length)=(yF (jT O x i)).map λ_=>iW O d (i+1):=List.map_congr_left λa J=>(u a ((y a).1 J)).2.2
   rw[this];have hl:(yF (jT O x i)).length=(O.getD i []).length:=by rw[(oL _).length_eq];simp [jT]
   rw[←hl];generalize yF (jT O x i)=l
   induction l with
   |nil=>simp
   |cons a l u=>simp only[List.map_cons,List.sum_cons,u,List.length_cons,Nat.succ_mul];omega
theorem dB (a:dO n G)(c:aV n G O R):cZ G (dM O R n 0 (aX n))/\(dM O R n 0 (aX n)).length=iW O n 0:=by
 obtain⟨d,f,e⟩:=Ss a c n 0 (aX n) oq (aY.one n);refine⟨⟨f,λx=>?_⟩,e⟩;rw[d];constructor
 ·rintro⟨g,hg,_,rfl⟩;rw[aZ (a.bF hg)];exact hg
 ·exact λb=>⟨x,b,λk h=>oq,(aZ (a.bF b)).symm⟩
end
end
end Go.Pm
namespace Go.Proofs.YtcdbmkidaecdiaaGreat
open Go Go.Ay Go.Pm
set_option maxRecDepth 100000
section
variable {O:LN} {W:Nat->Prop}
theorem TY {O:LN}{m:Nat}(a:1<=m): ∀d i,(∀j,i<=j->j<i+d->(O.getD j []).length<=m)->iW O d i<=m^d
 |0,_,_=>dT _
 |d+1,i,h=>by
  unfold iW;rw[Nat.pow_succ,Nat.mul_comm (m^d)];exact Nat.mul_le_mul (h i (dT _) om) (TY a d (i+1) λj b c=>h j om om)
theorem Mz {O:LN}: ∀d i,(∀j,i<=j->j<i+d->0<(O.getD j []).length)->0<iW O d i
 |0,_,_=>Nat.one_pos
 |d+1,i,h=>Nat.mul_pos (h i (dT _) om) (Mz d (i+1) λj a b=>h j om om)
theorem GC.row {h:H}{c:V}{n:Nat}{R:jJ}{G:List Nat->Prop}(g:GC W h c n O R G){j:Nat}(a:j<n):0<(O.getD j []).length/\(O.getD j []).length<=n:=by
 refine⟨?_,mY (tK (λx b=>g.cY.bF b) a (g.isc.asc j a) (g.isc.mem j a)) om⟩;exact Rl ((g.isc.mem j a j).2 ⟨aX n,g.cY.one,Fix.one n j om,fM a⟩)
theorem LH (vc:V)(n:Nat)(O:LN)(R:jJ)(G:List Nat->Prop)(h:H)(p:GC W h vc n O R G):
  Ev T 157 [vc] h (λv h'=> ∃S,v= .tup [.sl S 0 (n+1) (.kn (n+1)),.bool true]/\h'.cell S 0=some (aC (iW O n 0:Nat))/\Fr h h'):=by
 obtain⟨P,r,e,sO,sR⟩:=p.ch
 subst e
 refine dW Hl rfl ?_
 have f:=p.isc
 have n0:=p.n0
 have n7:=p.n7
 obtain⟨wO,tO,aO⟩:=sO
 have lO:=aO.length
 rw[iA,f.lo] at lO
 have N:=tO.cT.2.1
 have Q:r.one=true:=Up sR
 obtain⟨B,hB⟩:=exI h.next
 obtain⟨h1,e1,n1,g1,o1,f1⟩:=dK hB [aC n,P,r]
 have bx:=bV h (v:= aC n) (u:=P) (w:=r) rfl N Q
 have en:(n:Int)+1=((n+1:Nat):Int):=om
 have U:=tY h1 (n+1) om
 rw[n1] at U
 obtain⟨t,J,n2,g2,o2,f2⟩:=dK n1 (rc (n+1) λ_=> aC 0)
 rw[J] at U
 have o:t.get B=some (.cells false [aC n,P,r]):=by rw[o2 _ om];exact g1
 have pt: ∀(b:H) (S:Nat) (F:Nat->V) (k:Nat) (v:V),k<n+1->eU (some (.cells false (rc (n+1) F))) b S k [v]=some (b.set S (some (.cells false (rc (n+1) λj=>if j=k then v else F j)))):=λb S F k v Y=>by rw[bT (by rw[iQ];exact Y),lH]
 obtain⟨h3,e3,n3,g3,o3⟩:=mV t (B+1) (rc (n+1) λj=>if j=n then aC 1 else aC 0)
 have l:h3.get B=some (.cells false [aC n,P,r]):=by rw[o3 _ om];exact o
 have a0:n<n+1:=om
 simp(disch:=omega)only[go_sem,Hl,aE,bx,hB,e1,H.cell_of g1,en,U,H.cell_of o,g2,pt _ _ _ n _ a0,e3,H.cell_of l]
 have F3:Fr h h3:=⟨om,λk Y=>by rw[o3 _ om,o2 _ om,o1 _ om]⟩
 have a6: ∀i,i<=n->0<iW O (n-i) i/\iW O (n-i) i<=823543:=λi hi=>by
  refine⟨Mz _ _ λj h1 t=>(p.row om).1,mY (TY (m:=7) om _ _ λj h1 t=>by have:=(p.row (j:=j) om).2;omega) ?_⟩;exact mY (Nat.pow_le_pow_right om (show n-i<=7 by omega)) (by decide)
 refine aI (λq c b=> ∃(i:Nat),(∃g:Nat->V,c= [g 0,.ptr B 0,g 2,g 3,.sl (B+1) 0 (n+1) (.kn (n+1)),aC ((i:Int)- 1),g 6,g 7,g 8])/\i<=n/\b.get B=some (.cells false [aC n,P,r])/\
   b.get (B+1)=some (.cells false (rc (n+1) λj=>if i<=j then aC (iW O (n-j) j:Nat) else aC 0))/\B+1<b.next/\Fr h b/\q=i) n
  ⟨n,aB rfl,dT _,l,?_,om,F3,rfl⟩ ?_
 ·rw[g3]
  congr 2
  refine dJ λj hj=>?_
  by_cases e:j=n
  ·subst e;rw[bJ rfl,bJ (dT _),Nat.sub_self];rfl
  ·rw[bU e,bU om]
 clear g3 l o3 n3 e3 h3 F3 o g2 o2 n2 J U t f2
 rintro q c h4 ⟨i,⟨g,rfl⟩,hi,gB,gS,nx,F,Y⟩
 subst Y
 by_cases z:(0:Int)<=(q:Int)- 1
 case neg=>
  have Z:=bI z;obtain rfl:q=0:=om
  simp(disch:=omega)only[go_sem,Z];refine⟨B+1,rfl,?_,F⟩;rw[tF gS om]
  rfl
 have Z:=cI z
 obtain⟨i,rfl⟩: ∃i,q=i+1:=⟨q- 1,om⟩
 have ei:((i+1:Nat):Int)- 1=(i:Int):=om
 have eI:(i:Int)+1=((i+1:Nat):Int):=om
 rw[ei] at Z ⊢
 have a:=iJ aO (i:=i) (by rw[iA,f.lo];omega) .undef []
 rw[oI zi (d:= []) (by rw[f.lo];omega)] at a
 obtain⟨a4,L,a5,a7,a3⟩:=(tO.mono F).shape n om om
 have co:h4.cell a4 (L+i)=some (wO.getD i .undef):=by rw[a3 i om,List.getD,dD om];rfl
 generalize wO.getD i .undef=vo at a co
 have lo:=a.lens
 rw[aS] at lo
 obtain⟨m,hm⟩:=exI ((O.getD i []).length)
 rw[hm] at lo
 have K:=p.row (j:=i) om
 rw[hm] at K
 have cS:h4.cell (B+1) (i+1)=some (aC ((iW O (n-(i+1)) (i+1):Nat):Int)):=by rw[tF gS om,bJ (dT _)]
 obtain⟨s,hs⟩:=exI (iW O (n-(i+1)) (i+1))
 rw[hs] at cS
 have A:=a6 (i+1) om
 rw[hs] at A
 have y:(1000000000000000000:Int).tdiv (m:Int)=((1000000000000000000/m:Nat):Int):=by
  rw[show (1000000000000000000:Int)=((1000000000000000000:Nat):Int) from rfl,Int.tdiv_eq_ediv_of_nonneg om];rfl
 have hq:100000000000000000<=1000000000000000000/m:=by
  rw[Nat.le_div_iff_mul_le om];omega
 have a9:1000000000000000000/m<=1000000000000000000:=Nat.div_le_self _ _
 have d2:decide (((1000000000000000000/m:Nat):Int)<(s:Int))=false:=bI om
 have x:(m:Int)*(s:Int)=((m*s:Nat):Int):=rfl
 have a8:m*s<=7*823543:=Nat.mul_le_mul om A.2
 have a1:i<n+1:=om
 have a2:(m:Int)≠0:=om
 simp(disch:=omega)only[go_sem,Z,H.cell_of gB,a5.ixa,co,lo,eI,cS,y,a2,d2,x,gS,pt _ _ _ i _ a1]
 refine⟨i,om,i,aB rfl,om,gB,?_,om,?_,rfl⟩
 ·congr 2
  refine dJ λj hj=>?_
  by_cases e:j=i
  ·subst e
   rw[bJ rfl,bJ (dT _),show n-j=(n-(j+1))+1 by omega]
   unfold iW
   rw[hm,hs]
  ·rw[bU e]
   by_cases J:i+1<=j
   ·rw[bJ J,bJ om]
   ·rw[bU J,bU om]
 ·exact (F.bH om).set om _
theorem YV (m:V)(n:Nat)(O:LN)(R:jJ)(G:List Nat->Prop)(h:H)(d:GC W h m n O R G):
  Ev T 119 [m] h (λv h'=>v= .tup [aC (iW O n 0:Nat),aC 0]/\Fr h h'):=by
 obtain⟨g,f,e,t,x⟩:=d.ch
 subst e
 refine dW Lr rfl ?_
 have a:g.one=true:=BX t
 have b:f.one=true:=Up x
 obtain⟨B,o⟩:=exI h.next
 obtain⟨A,s,J,k,K,c⟩:=dK o [aC n,g,f]
 have z:=bV h (v:= aC n) (u:=g) (w:=f) rfl a b
 have r:=aJ k
 simp(disch:=omega)only[go_sem,Lr,aE,z,o,s,r]
 refine ((d.mono c).check).mono ?_
 rintro _ l ⟨rfl,i⟩
 have j:=aJ (h:=l) (id:=B) (by rw[i.get _ om];exact k)
 simp(disch:=omega)only[go_sem]
 refine bA (λy=>(y rfl).elim) (λ_=>?_)
 simp(disch:=omega)only[go_sem,j]
 refine (LH _ n O R G l ((d.mono c).mono i)).mono ?_
 rintro _ F ⟨S,rfl,p,q⟩
 simp(disch:=omega)only[go_sem,p]
 exact (c.trans i).trans q
end
theorem afI {h:H}{S k c:Nat}{vs:List V}{y w:V}(b:h.get S=some (.cells false vs))(i:vs.length=c)(g:k<c)(j:c<1000000)(a:SV h y 1 [w]):
  zK h 1 8 (.sl S 0 k (.kn c)) y=some (.sl S 0 (k+1) (.kn c),h.set S (some (.cells false (vs.set k w)))):=by
 have f:zK h 1 8 (.sl S 0 k (.kn c)) y=Ay.Fj h 1 8 (.sl S 0 k (.kn c)) 1 [w]:=by
  simp only[zK,a.len (n:=1) rfl om,a.slice]
 rw[f]
 have e:h.slice 1 (.sl S 0 k (.kn c))=some (vs.take k):=by
  simp only[H.slice,H.row,b,sub];rw[bJ om];simp
 have d:h.put S (0+k*1) [w]=some (h.set S (some (.cells false (vs.set k w)))):=by
  rw[H.put_eq,b,Nat.zero_add,tW,bT om]
 unfold Ay.Fj
 simp only[e,wZ]
 rw[bU om,bJ om,bJ om,d]
theorem FG {l:List Int}{a:List Nat}(b:l.Perm (zi a))(c:l.Pairwise (· <= ·)):l=zi (yF a):=by
 refine Yu ?_ c ?_
 ·exact b.trans ((oL a).map _).symm
 ·unfold zi
  rw[List.pairwise_map];exact (Ta a).imp λh=>om
theorem Hx (O:LN)(x:List Nat)(i:Nat):(jT O x i).length=(O.getD i []).length:=by simp [jT]
theorem acF {O:LN}{x:List Nat}{i k:Nat}(a:k<(O.getD i []).length):(jT O x i).getD k 0=x.getD ((O.getD i []).getD k 0) 0:=by
 unfold jT;rw[oI (λq=>x.getD q 0) (d:=0) a]
theorem CX {W:Nat->Prop}(vc vx:V)(n i:Nat)(O:LN)(R:jJ)(G:List Nat->Prop)(x:List Nat)(h:H)(gc:GC W h vc n O R G)(hi:i<n)(hx:SI h vx (zi x))(X:aY n x):
  Ev T 180 [vc,vx,aC i] h (λv h'=>Af h h' v (zi (yF (jT O x i)))):=by
 obtain⟨vO,vR,e,sO,sR⟩:=gc.ch
 subst e
 refine dW Ck rfl ?_
 have b:=gc.isc
 have n7:=gc.n7
 obtain⟨wO,tO,aO⟩:=sO
 have lO:=aO.length
 rw[iA,b.lo] at lO
 have a0:=tO.cT.2.1
 have a1:vR.one=true:=Up sR
 obtain⟨B,hB⟩:=exI h.next
 obtain⟨h1,e1,n1,g1,o1,f1⟩:=dK hB [aC n,vO,vR]
 have bx:=bV h (v:= aC n) (u:=vO) (w:=vR) rfl a0 a1
 have a:=iJ aO (i:=i) (by rw[iA,b.lo];omega) .undef []
 rw[oI zi (d:= []) (by rw[b.lo];omega)] at a
 obtain⟨Q,l,b1,Y,a8⟩:=(tO.mono f1).shape n om om
 have co:h1.cell Q (l+i)=some (wO.getD i .undef):=by rw[a8 i om,List.getD,dD om];rfl
 generalize wO.getD i .undef=vo at a co
 have lo:=a.lens
 rw[aS] at lo
 obtain⟨m,r⟩:=exI ((O.getD i []).length)
 rw[r] at lo
 have K:=gc.row (j:=i) hi
 rw[r] at K
 have mk:Jz h1 1 8 [aC 0] (aC 0) (aC m)=some (.sl (B+1) 0 0 (.kn m),h1.new (.cells false (rc m λ_=> aC 0))):=by
  rw[uM om om om om,DK,tW,Jk,show ints (List.replicate m 0)=rc m λ_=> aC 0 from (Lq (by simp [aP]) λi hi=>by simp [ints,hi]).symm,n1]
  rfl
 obtain⟨h2,e2,n2,g2,o2,f2⟩:=dK n1 (rc m λ_=> aC 0)
 rw[e2] at mk
 have b0:h2.get B=some (.cells false [aC n,vO,vR]):=by rw[o2 _ om];exact g1
 have a9:h2.cell Q (l+i)=some vo:=by rw[f2.cell (by have:=Y om;omega)];exact co
 simp(disch:=omega)only[go_sem,Ck,aE,bx,hB,e1,H.cell_of g1,b1.ixa,co,lo,mk,H.cell_of b0,a9]
 obtain⟨a6,Z,P,o,t⟩:=a.open
 rw[aS,r] at P o t
 obtain⟨idx,J,U,c,L⟩:=hx.open
 rw[aS,X.len] at U c L
 refine aI (λk' f hh=> ∃(k:Nat),(∃g:Nat->V,f= [g 0,vx,g 2,g 3,g 4,.sl (B+1) 0 k (.kn m),g 6,vo,aC m,aC k,g 10])/\k<=m/\hh.get (B+1)=some (.cells false (rc m λj=>if j<k then aC ((jT O x i).getD j 0:Nat) else aC 0))/\B+1<hh.next/\Fr h hh/\k'=m-k) m
  ⟨0,aB rfl,iB _,by rw[g2];rfl,om,f1.trans f2,rfl⟩ ?_
 rintro k' f p ⟨k,⟨g,rfl⟩,hk,gS,nx,F,rfl⟩
 by_cases A:(k:Int)<(m:Int)
 ·have d1:=cI A
  have a2:k<m:=om
  have cq:p.cell a6 (Z+k)=some (aC ((O.getD i []).getD k 0:Nat)):=by rw[F.cell (o om),t k a2];congr 2;rw[zi,oI _ (d:=0) om]
  have hq:=Ky gc.cY b hi (q:=(O.getD i []).getD k 0) (bC om)
  have N:=acF (O:=O) (x:=x) (i:=i) (k:=k) om
  generalize (O.getD i []).getD k 0=q at cq hq N
  have cx:p.cell idx (J+q)=some (aC (x.getD q 0:Nat)):=by rw[F.cell (c om),L q hq];congr 2;simp [zi,X.len,hq]
  obtain⟨h5,e5,n5,g5,o5,s⟩:=dK (h:=p) rfl [aC (x.getD q 0:Nat)]
  have a3:h5.get (B+1)=some (.cells false (rc m λj=>if j<k then aC ((jT O x i).getD j 0:Nat) else aC 0)):=by rw[s.get _ nx];exact gS
  have ap:=afI a3 (iQ _ _) a2 om (SV.one (v:= aC (x.getD q 0:Nat)) (id:=p.next) om g5 (.kn 1))
  rw[lH] at ap
  simp(disch:=omega)only[go_sem,d1,P.ixa,cq,U.ixa,cx,cK p (z:= aC 0) (v:= aC (x.getD q 0:Nat)) rfl rfl,e5,ap]
  rw[fJ k]
  refine⟨m-(k+1),om,k+1,aB rfl,om,?_,om,(F.trans s).set om _,rfl⟩
  congr 2
  refine dJ λj hj=>?_
  by_cases e:j=k
  ·subst e;rw[bJ rfl,bJ om,N]
  ·rw[bU e]
   by_cases e2:j<k
   ·rw[bJ e2,bJ om]
   ·rw[bU e2,bU om]
 have d1:=bI A
 obtain rfl:k=m:=om
 have a4:(zi (jT O x i)).length=k:=by rw[aS,Hx,r]
 have a7:p.get (B+1)=some (.cells false (ints (zi (jT O x i)))):=by
  rw[gS,←Sq,Hx,r];congr 2;exact dJ λj hj=>by rw[bJ hj]
 have so:=Mw p (B+1) (zi (jT O x i)) (.kn k) om a7 nx
 rw[a4] at so
 simp(disch:=omega)only[go_sem,d1]
 refine so.mono ?_
 rintro _ h5 ⟨l',g5,p5,a5,s⟩
 have el:=FG p5 a5
 subst el
 have ls:(zi (yF (jT O x i))).length=k:=by rw[aS,(oL _).length_eq,Hx,r]
 simp(disch:=omega)only[go_sem]
 refine⟨⟨B+1,_,by rw[ls],om,jM nx s.next,g5,.inr (by rw[ls])⟩,⟨mY F.next s.next,λid y=>?_⟩⟩
 rw[s.get id (jM y F.next) (λe=>by have:id=B+1:=e;omega)]
 exact F.get id y
theorem SL: ∀{l:List Nat} {k im:Nat},l[k]? =some im->l.idxOf im<=k
 | [],k,im,h=>by simp at h
 |a::l,0,im,h=>by
  have:a=im:=by simpa using h
  subst this;simp [List.idxOf_cons]
 |a::l,k+1,im,h=>by
  rw[List.idxOf_cons]
  by_cases e:a=im
  ·subst e;simp
  ·have b:(a==im)=false:=by simpa using e
   rw[b];have:=SL (l:=l) (k:=k) (im:=im) (by simpa using h);simp only[cond_false];omega
theorem agO (A J:V)(a b:Nat)(o x:List Nat)(im:Nat)(h:H)(hn:o.length<1000000)(Q:SI h A (zi o))(Y:SI h J (zi x))(ha:h.get a=some (.cells false [J]))(hb:h.get b=some (.cells false [aC im]))(L:a<h.next)(N:b<h.next)(hr: ∀q∈o,q<x.length)(w:im∈o.map λq=>x.getD q 0):
  Ev T 222 [A,.fn 223 [] [.ptr a 0,.ptr b 0]] h (λv h'=>v= aC ((o.map λq=>x.getD q 0).idxOf im:Nat)/\Fr h h'):=by
 refine dW mJ rfl ?_
 have O:=Q.lens
 rw[aS] at O
 obtain⟨G,r,y,j,n⟩:=Q.open
 rw[aS] at y j n
 obtain⟨idx,s,p,i,u⟩:=Y.open
 rw[aS] at p i u
 have B:=XK.2 w
 rw[iA] at B
 simp(disch:=omega)only[go_sem,mJ,aE,O]
 refine aI (λU l f=> ∃(k:Nat),(∃g:Nat->V,l= [A,.fn 223 [] [.ptr a 0,.ptr b 0],g 2,g 3,aC (o.length:Int),aC k,g 6,g 7])/\k<=(o.map λq=>x.getD q 0).idxOf im/\Fr h f/\U=o.length-k) o.length
  ⟨0,aB rfl,iB _,Fr.refl h,rfl⟩ ?_
 rintro U l f ⟨k,⟨g,rfl⟩,hk,F,rfl⟩
 have c:k<o.length:=om
 have d1:decide ((k:Int)<(o.length:Int))=true:=cI om
 have P:f.cell G (r+k)=some (aC (o.getD k 0:Nat)):=by rw[F.cell (j om),n k c];congr 2;rw[zi,oI _ (d:=0) c]
 have K:=hr _ (bC (d:=0) c)
 have m:(o.map λq=>x.getD q 0)[k]'(by simpa using c)=x.getD (o.getD k 0) 0:=by simp [List.getD,c]
 generalize o.getD k 0=q at P K m
 have W:f.cell idx (s+q)=some (aC (x.getD q 0:Nat)):=by rw[F.cell (i om),u q K];congr 2;simp [zi,K]
 have ca:f.cell a 0=some J:=by rw[H.cell_of (by rw[F.get _ L];exact ha)];rfl
 have Z:f.cell b 0=some (aC im):=by rw[H.cell_of (by rw[F.get _ N];exact hb)];rfl
 have cl:Ev T 223 [aC q,.ptr a 0,.ptr b 0] f (λv h'=>v= .bool (decide (((x.getD q 0:Nat):Int)=(im:Int)))/\Fr f h'):=by
  refine dW Et rfl ?_;simp(disch:=omega)only[go_sem,Et,aE,ca,p.ixa,W,Z];exact (Fr.refl f).bH om
 simp(disch:=omega)only[go_sem,d1,y.ixa,P]
 refine cl.mono ?_
 rintro _ h2 ⟨rfl,R⟩
 by_cases t:((x.getD q 0:Nat):Int)=(im:Int)
 ·rw[cI t]
  simp(disch:=omega)only[go_sem]
  have:(o.map λq=>x.getD q 0).idxOf im=k:=by
   have z:(o.map λq=>x.getD q 0).idxOf im<=k:=SL (by
    rw[dD (by simpa using c),m]
    congr 1;omega)
   omega
  rw[this]
  exact⟨rfl,F.trans R⟩
 ·rw[bI t]
  simp(disch:=omega)only[go_sem]
  rw[fJ k]
  refine⟨o.length-(k+1),om,k+1,aB rfl,?_,F.trans R,rfl⟩
  have:(o.map λq=>x.getD q 0).idxOf im≠k:=λe=>by
   have z:=List.getElem_idxOf (XK.2 w);simp only[e] at z;rw[m] at z;omega
  omega
theorem adJ {W:Nat->Prop}(vc g:V)(n i im:Nat)(O:LN)(R:jJ)(G:List Nat->Prop)(x:List Nat)(h:H)(l:GC W h vc n O R G)(hi:i<n)(L:SI h g (zi x))(X:aY n x)(p:im∈jT O x i):
  Ev T 181 [vc,g,aC i,aC im] h (λv h'=>Af h h' v (zi (fY O R x i im))):=by
 obtain⟨P,N,e,sO,sR⟩:=l.ch
 subst e
 refine dW Mb rfl ?_
 have a:=l.isc
 have n7:=l.n7
 obtain⟨wO,tO,aO⟩:=sO
 obtain⟨wR,tR,aR,kR⟩:=sR
 have lO:=aO.length
 have lR:=aR.length
 rw[iA,a.lo] at lO
 rw[iA,a.lr] at lR
 have z:=tO.cT.2.1
 have A:=tR.cT.2.1
 obtain⟨B,hB⟩:=exI h.next
 obtain⟨h1,e1,n1,g1,o1,f1⟩:=dK hB [aC n,P,N]
 obtain⟨h2,e2,n2,g2,o2,f2⟩:=dK n1 [g]
 obtain⟨K,e3,n3,g3,o3,f3⟩:=dK n2 [aC im]
 have J:=(f1.trans f2).trans f3
 have bx:=bV h (v:= aC n) (u:=P) (w:=N) rfl z A
 have a0:=mE L.cT.1 L.cT.2.1 h1
 have a7:=Qe h2 .i64 (im:Int)
 have s:K.get B=some (.cells false [aC n,P,N]):=by rw[o3 _ om,o2 _ om];exact g1
 have y:K.get (B+1)=some (.cells false [g]):=by rw[o3 _ om];exact g2
 have b:=iJ aO (i:=i) (by rw[iA,a.lo];omega) .undef []
 rw[oI zi (d:= []) (by rw[a.lo];omega)] at b
 obtain⟨a3,r,a8,b4,a2⟩:=(tO.mono J).shape n om om
 have co:K.cell a3 (r+i)=some (wO.getD i .undef):=by rw[a2 i om,List.getD,dD om];rfl
 generalize wO.getD i .undef=vo at b co
 simp(disch:=omega)only[go_sem,Mb,aE,bx,hB,e1,a0,n1,e2,a7,n2,e3,H.cell_of s,a8.ixa,co]
 have row:=l.row (j:=i) hi
 refine (agO vo g (B+1) (B+1+1) (O.getD i []) x im K om (b.mono J) (L.mono J) y g3 om om (λq hq=>by rw[X.len];exact Ky l.cY a hi hq) p).mono ?_
 rintro _ f ⟨rfl,f4⟩
 obtain⟨k,hk,ek,_,b0,es,Y,_⟩:=xS l.cY a X hi p
 have b2:(List.map (λq=>x.getD q 0) (O.getD i [])).idxOf im=k:=ek
 rw[b2,es]
 have m:=J.trans f4
 have a9:f.get B=some (.cells false [aC n,P,N]):=by rw[f4.get _ om];exact s
 have a5:f.get (B+1)=some (.cells false [g]):=by rw[f4.get _ om];exact y
 have c:=iJ aR (i:=i) (by rw[iA,a.lr];omega) .undef []
 rw[oI (List.map zi) (d:= []) (by rw[a.lr];omega)] at c
 obtain⟨b1,t,Q,b3,U⟩:=(tR.mono m).shape n om om
 have cr:f.cell b1 (t+i)=some (wR.getD i .undef):=by rw[U i om,List.getD,dD om];rfl
 generalize wR.getD i .undef=vr at c cr
 obtain⟨wr,tr,ar⟩:=c
 have lr:=ar.length
 rw[iA] at lr
 have o:k<(R.getD i []).length:=by rw[a.rl i hi];exact hk
 have sz:=iJ ar (i:=k) (by rw[iA];exact o) .undef []
 rw[oI zi (d:= []) o] at sz
 obtain⟨a1,F,a4,b5,a6⟩:=(tr.mono m).shape (R.getD i []).length om om
 have cz:f.cell a1 (F+k)=some (wr.getD k .undef):=by rw[a6 k om,List.getD,dD om];rfl
 generalize wr.getD k .undef=vz at sz cz
 have b6:(k:Int)<((R.getD i []).length:Int):=om
 have Z:=l.cY.bF b0.mem
 have fb:Fr f (H.mk f.tr (f.next+11)):=(Fr.refl f).bH om
 simp(disch:=omega)only[go_sem,H.cell_of a9,Q.ixa,cr,a4.ixa,cz,H.cell_of a5]
 refine (nZ EU.ok vz g _ x (H.mk f.tr (f.next+11)) (by rw[Z.len];omega) (sz.mono (m.trans fb)) (L.mono (m.trans fb)) (λj hj=>by rw[X.len];exact Z.fX (by rw[←Z.len];exact hj))).mono ?_
 rintro v h5 nw
 simp(disch:=omega)only[go_sem]
 exact (Ud nw).le (m.trans fb)
def Kept (b:Nat)(W:Nat->Prop)(hh h':H):Prop:=hh.next<=h'.next/\ ∀id,id<hh.next->(id<b∨W id)->h'.get id=hh.get id
theorem Kept.fr {b:Nat}{W:Nat->Prop}{hh h':H}(f:Fr hh h'):Kept b W hh h':=⟨f.next,λid h _=>f.get id h⟩
structure Rdr (id b:Nat)(L:LN)(W0:Nat->Prop)(J:Nat->(Nat->Prop)->H->Prop)(D:(Nat->Prop)->H->Prop):Prop where
 kJ: ∀k W hh h',J k W hh->Kept b W hh h'->J k W h'
 kD: ∀W hh h',D W hh->Kept b W hh h'->D W h'
 y: ∀k W hh v,k<L.length->J k W hh->PV W hh v (L.getD k [])->(∀id,W id->id<hh.next)->b<=hh.next->(∀id,id<b->W id->W0 id)->
  Ey T id [v] hh (λv h'=> ∃W2,(∀id,id<hh.next->W2 id->W id)/\(∀id,W2 id->id<h'.next)/\Fx W hh h'/\(v= .bool true/\J (k+1) W2 h'∨v= .bool false/\D W2 h'))
def ElC (n:Nat)(vO vR:V)(O:LN)(R:jJ)(G:List Nat->Prop)(d:Nat):Prop:=
 ∀(i:Nat) (x:List Nat) (vx:V) (id bi bc bx:Nat) (h:H) (W:Nat->Prop) (J:Nat->(Nat->Prop)->H->Prop) (D:(Nat->Prop)->H->Prop),i+d=n->aY n x->
  h.get bi=aF [aC i]->h.get bc=aF [aC n,vO,vR]->h.get bx=aF [vx]->PV W h vx x->bi<h.next->bc<h.next->bx<h.next-> ¬W bi-> ¬W bc-> ¬W bx->
  GC W h (.agg [aC n,vO,vR]) n O R G->(∀id,W id->id<h.next)->J 0 W h->Rdr id h.next (dM O R d i x) W J D->
  Ev T 179 [.yl id,.ptr bi 0,.ptr bc 0,.ptr bx 0] h (λ_ h'=> ∃W2,(∀id,id<h.next->W2 id->W id)/\(∀id,W2 id->id<h'.next)/\Fx W h h'/\(J (dM O R d i x).length W2 h'∨D W2 h'))
theorem ZK (n:Nat)(L F:V)(O:LN)(R:jJ)(G:List Nat->Prop):ElC n L F O R G 0:=by
 intro i x K id q P U h W J D hi X m z Q k Z lc lx wi wc wx g p u rd;refine dW lT rfl ?_;obtain rfl:i=n:=om
 obtain⟨B,j⟩:=exI h.next;obtain⟨a,r,n1,l,c,d⟩:=dK j [.yl id];have e:=mE (x:= .yl id) rfl rfl h;have ci:=H.cell_of (h:=a) (id:=q) (by rw[c _ om];exact m);have s:=H.cell_of (h:=a) (id:=P) (by rw[c _ om];exact z);have o:=H.cell_of (h:=a) (id:=U) (by rw[c _ om];exact Q);have d1:decide ((i:Int)=(i:Int))=true:=cI rfl;simp(disch:=omega)only[go_sem,lT,aE,e,j,r,ci,s];refine bA (λ_=>?_) (λt=>(t (by first|rfl|trivial)).elim);simp(disch:=omega)only[go_sem,H.cell_of l,o];refine (rd.y 0 W a K (by simp [dM]) (rd.kJ 0 W h a u (Kept.fr d)) (k.mono d) (λid h=>by have:=p id h;omega) om (λid _ h=>h)).mono ?_;rintro v f ⟨A,Y,w,N,b⟩;simp(disch:=omega)only[go_sem];refine⟨A,λid a f=>Y id om f,w,(Fx.of d).trans N (λ_ _ h=>h),?_⟩;rcases b with ⟨_,b⟩|⟨_,b⟩
 ·exact .inl b
 ·exact .inr b
theorem UJ (d:Int)(c b a:V)(i:Int)(y:c.one=true)(x:b.one=true)(j:a.cells= [a])(e:a.one=true)(h:H):Ev T 136 [.agg [aC d,c,b],a,aC i] h (λv h'=>v= .fn 179 [] [.ptr (h.next+1+1) 0,.ptr h.next 0,.ptr (h.next+1) 0]/\
  h'.get h.next=aF [aC d,c,b]/\h'.get (h.next+1)=aF [a]/\h'.get (h.next+1+1)=aF [aC i]/\h'.next=h.next+3/\Fr h h'):=by
 refine dW zT rfl ?_
 obtain⟨B,n⟩:=exI h.next
 obtain⟨o,J,l,q,P,p⟩:=dK n [aC d,c,b]
 obtain⟨r,t,k,F,K,z⟩:=dK l [a]
 obtain⟨O,A,G,L,m,s⟩:=dK k [aC i]
 have N:=bV h (v:= aC d) (u:=c) (w:=b) rfl y x
 have g:=mE j e o
 have f:=Qe r .i64 i
 simp(disch:=omega)only[go_sem,zT,aE,N,n,J,g,l,t,f,k,A]
 exact⟨by rw[m _ om,K _ om];exact q,by rw[m _ om];exact F,L,G,(p.trans z).trans s⟩
theorem RP {α β:Type}{l:List α}{f:α->List β}{m:Nat}(a:m<l.length)(d:α):((l.take (m+1)).flatMap f).length=((l.take m).flatMap f).length+(f (l.getD m d)).length:=by
 rw[eY d a,List.flatMap_append];simp
theorem GW {α β:Type}{f:α->List β}{e:β}(d:α): ∀{l:List α} {m k:Nat},m<l.length->k<(f (l.getD m d)).length->(l.flatMap f).getD (((l.take m).flatMap f).length+k) e=(f (l.getD m d)).getD k e/\((l.take m).flatMap f).length+k<(l.flatMap f).length
 | [],m,k,h,_=>by simp at h
 |a::l,0,k,_,b=>by
  have b:k<(f a).length:=b;constructor
  ·simp only[List.take_zero,List.flatMap_nil,List.length_nil,Nat.zero_add,List.flatMap_cons]
   rw[List.getD,List.getD,Dt b];rfl
  ·simp;omega
 |a::l,m+1,k,h,b=>by
  have i:m<l.length:=by simpa using h
  have c:k<(f (l.getD m d)).length:=by simpa using b
  obtain⟨g,j⟩:=GW (e:=e) d (l:=l) i c;constructor
  ·simp only[List.take_succ_cons,List.flatMap_cons,iV]
   rw[Nat.add_assoc,List.getD,Jg om,Nat.add_sub_cancel_left];exact g
  ·simp only[List.take_succ_cons,List.flatMap_cons,iV];omega
structure InJ (off id2 b4 id:Nat)(r:fK)(J:Nat->(Nat->Prop)->H->Prop)(W0:Nat->Prop)(k:Nat)(W:Nat->Prop)(hh:H):Prop where
 ex: ∃W3,(∀id,W id↔(W3 id∨id=id2))/\ ¬W3 id2/\ ¬W3 b4/\J (off+k) W3 hh/\(∀id,W3 id->id<hh.next)/\ ∀id,id<id2->W3 id->W0 id
 gr:hh.get id2=some (.loop r)
 g4:hh.get b4=aF [.yl id]
 nx:id2<hh.next
structure InD (id2 b4:Nat)(r:fK)(D:(Nat->Prop)->H->Prop)(W0:Nat->Prop)(W:Nat->Prop)(hh:H):Prop where
 ex: ∃W3,(∀id,W id↔(W3 id∨id=id2))/\ ¬W3 id2/\D W3 hh/\(∀id,W3 id->id<hh.next)/\ ∀id,id<id2->W3 id->W0 id
 gr:hh.get id2=some (.loop (vD r .ret))
 nx:id2<hh.next
theorem adU (n:Nat)(K F:V)(O:LN)(R:jJ)(G:List Nat->Prop)(d:Nat)(ih:ElC n K F O R G d):ElC n K F O R G (d+1):=by
 intro i x vx id bi bc bx h W J D hi X gi gc gx px li lc lx wi wc wx gC hW hJ rd;refine dW lT rfl ?_;have a7:i<n:=om
 have n7:=gC.n7
 obtain⟨c3,c4⟩:K.one=true/\F.one=true:=by
  obtain⟨a,b,e,s1,s2⟩:=gC.ch;cases e;obtain⟨_,t1,_⟩:=s1;obtain⟨_,t2,_⟩:=s2;exact⟨t1.cT.2.1,t2.cT.2.1⟩
 obtain⟨B,hB⟩:=exI h.next;obtain⟨p,e1,n1,g1,o1,f1⟩:=dK hB [.yl id];have g6:=mE (x:= .yl id) rfl rfl h;have d3:p.get bi=aF [aC i]:=by rw[o1 _ om];exact gi
 have b4:p.get bc=aF [aC n,K,F]:=by rw[o1 _ om];exact gc
 have d4:p.get bx=aF [vx]:=by rw[o1 _ om];exact gx
 have d1:decide ((i:Int)=(n:Int))=false:=bI om;have f0:=aJ b4;simp(disch:=omega)only[go_sem,lT,aE,g6,hB,e1,H.cell_of d3,H.cell_of b4,d1,f0,H.cell_of d4];refine (CX (.agg [aC n,K,F]) vx n i O R G x p (gC.mono f1) a7 (px.mono f1).si X).mono ?_;rintro v8 c b9;obtain⟨w,a8⟩:=exI (yF (jT O x i));rw[a8] at b9;have f2:=b9.fr;have F2:=f1.trans f2
 have i4:w.length<=7:=by
  have:=(gC.row (j:=i) a7).2;rw[←a8,(oL _).length_eq,Hx];omega
 have d6: ∀q,q∈w->q∈jT O x i:=λq h=>(oL _).mem_iff.1 (by rw[a8];exact h)
 have hL:dM O R (d+1) i x=w.flatMap λq=>dM O R d (i+1) (fY O R x i q):=by rw[←a8];rfl
 obtain⟨P,cp,b8,i0,f7,gP,_⟩:=b9.ex;rw[aS] at b8;have l8:bL v8=some (aC (w.length:Int)):=by rw[b8];rfl
 have e9:J 0 W c:=rd.kJ 0 W h c hJ (Kept.fr F2);have n2:=f2.next;simp(disch:=omega)only[go_sem,l8];refine aI (λk' b2 hh=> ∃(m:Nat) (s:Nat->Prop),(∃g:Nat->V,b2= [.yl id,.ptr bi 0,.ptr bc 0,.ptr bx 0,.ptr B 0,g 5,g 6,g 7,v8,aC (w.length:Int),aC m,g 11,g 12,g 13,g 14])/\m<=w.length/\J ((w.take m).flatMap λq=>dM O R d (i+1) (fY O R x i q)).length s hh/\Fx W c hh/\(∀id,id<c.next->s id->W id)/\(∀id,s id->id<hh.next)/\k'=w.length-m) w.length
  ⟨0,W,aB rfl,iB _,e9,Fx.refl _ _,λ_ _ h=>h,λid h=>by have:=hW id h;omega,rfl⟩ ?_
 rintro k' b2 u ⟨m,s,⟨g,rfl⟩,hm,a6,F3,w1,w2,rfl⟩
 by_cases c2:(m:Int)<(w.length:Int)
 case neg=>
  have d2:=bI c2;obtain rfl:m=w.length:=om
  simp(disch:=omega)only[go_sem,d2];rw[List.take_length,←hL] at a6;exact⟨s,λid p c=>w1 id om c,w2,(Fx.of F2).trans F3 (λ_ _ h=>h),.inl a6⟩
 have d2:=cI c2;have a4:m<w.length:=om
 obtain⟨q,Z⟩:=exI (w.getD m 0);have a9:q∈jT O x i:=d6 q (by rw[←Z];exact bC a4);obtain⟨_,_,_,_,_,_,Y,_⟩:=xS gC.cY gC.isc X a7 a9;have n3:=F3.next;have tU: ∀k,k<c.next-> ¬W k->u.get k=c.get k:=λk p c=>F3.get k p c
 have wB: ¬W B:=λh=>by have:=hW B h;omega
 have wP: ¬W P:=λh=>by have:=hW P h;omega
 have c5:u.get bi=aF [aC i]:=by rw[tU _ om wi,f2.get _ om];exact d3
 have b3:u.get bc=aF [aC n,K,F]:=by rw[tU _ om wc,f2.get _ om];exact b4
 have d5:u.get bx=aF [vx]:=by rw[tU _ om wx,f2.get _ om];exact d4
 have d9:u.get B=aF [.yl id]:=by rw[tU _ om wB,f2.get _ om];exact g1
 have cP:u.cell P m=some (aC q):=by rw[H.cell_of (by rw[tU _ f7 wP];exact gP),Ff a4,Z]
 have e3:=aJ b3
 have eO:dI K K=true:=by
  obtain⟨a,b,e,s1,s2⟩:=gC.ch;cases e;obtain⟨_,t1,_⟩:=s1;exact t1.dI
 have eR:dI F F=true:=by
  obtain⟨a,b,e,s1,s2⟩:=gC.ch;cases e;obtain⟨_,t2,_⟩:=s2;exact t2.dI
 have g5:GC W u (.agg [aC n,K,F]) n O R G:=(gC.mono F2).go F3 (λ_ _ h=>h);have g0:PV W u vx x:=(px.mono F2).fx F3;have fb:Fr u (H.mk u.tr (u.next+9)):=(Fr.refl u).bH om;rw[b8];have e7:(i:Int)+1=((i+1:Nat):Int):=om
 simp(disch:=omega)only[go_sem,d2,cP,e3,aJ (h:=H.mk u.tr (u.next+9)) b3,H.cell_of d5,H.cell_of c5,e7];refine (adJ (.agg [aC n,K,F]) vx n i q O R G x (H.mk u.tr (u.next+9)) (g5.mono fb) a7 (g0.mono fb).si X a9).mono ?_;rintro b6 h4 c8;have f4:=fb.trans c8.fr;have n4:=f4.next;have g3:h4.get bi=aF [aC i]:=by rw[f4.get _ om];exact c5
 have g7:h4.get bc=aF [aC n,K,F]:=by rw[f4.get _ om];exact b3
 have c1:PV s h4 b6 (fY O R x i q):=c8.pv λid h=>by have:=w2 id h;simp;omega
 simp(disch:=omega)only[go_sem,H.cell_of g3,aJ g7,eO,eR];refine (UJ (n:Int) K F b6 ((i+1:Nat):Int) c3 c4 c1.fG.1 c1.fG.2 h4).mono ?_;rintro _ h5 ⟨rfl,e6,g2,f8,n5,f5⟩;simp(disch:=omega)only[go_sem];refine⟨rfl,wF λr hr=>?_⟩;obtain⟨o,b5⟩:=exI h5.next;rw[b5];have jI:r.st= .ready:=by rw[hr]
 have d0:r.pend=none:=by rw[hr]
 obtain⟨h6,a5⟩: ∃h6,h6=h5.new (.loop r):=⟨_,rfl⟩
 have d7:h6.get o=some (.loop r):=by rw[a5,←b5,H.aL]
 have n6:h6.next=o+1:=by rw[a5,H.aW,b5]
 have f6:Fr h5 h6:=by rw[a5];exact (Fr.refl h5).new _
 rw[←a5];have c0:=(f4.trans f5).trans f6;obtain⟨a0,N⟩:=exI (((w.take m).flatMap λq=>dM O R d (i+1) (fY O R x i q)).length);rw[N] at a6;have i3:=f5.next;have d8: ¬s o:=λh=>by have:=w2 o h;omega
 have g8: ¬s B:=λh=>wB (w1 B om h)
 have e5: ∀k,k<(dM O R d (i+1) (fY O R x i q)).length->(dM O R (d+1) i x).getD (a0+k) []=(dM O R d (i+1) (fY O R x i q)).getD k []/\a0+k<(dM O R (d+1) i x).length:=λk hk=>by
  rw[hL,←N];have:=GW (f:=λq=>dM O R d (i+1) (fY O R x i q)) (e:=([]:List Nat)) 0 (l:=w) (m:=m) (k:=k) a4 (by rw[Z];exact hk);rw[Z] at this;exact this
 have c6:Fx W h h6:=((Fx.of F2).trans F3 (λ_ _ h=>h)).trans (Fx.of c0) (λ_ _ h=>h)
 have e0:Rdr o h6.next (dM O R d (i+1) (fY O R x i q)) (λk=>s k∨k=o) (InJ a0 o B id r J s) (InD o B r D s):=by
  refine⟨λk W2 hh h' j L=>?_,λW2 hh h' j L=>?_,λk W2 hh v hk j pv h8 i2 i1=>?_⟩
  ·obtain⟨W3,t,U,q3,q4,q5,q6⟩:=j.ex
   have nx:=j.nx;exact⟨⟨W3,t,U,q3,rd.kJ _ _ _ _ q4 ⟨L.1,λid p c=>L.2 id p (by rcases c with c|c;exact .inl om;exact .inr ((t id).2 (.inl c)))⟩,λid h=>jM (q5 id h) L.1,q6⟩,by rw[L.2 _ nx (.inl om)];exact j.gr,by rw[L.2 _ om (.inl om)];exact j.g4,jM nx L.1⟩
  ·obtain⟨W3,t,U,q4,q5,q6⟩:=j.ex
   have nx:=j.nx;exact⟨⟨W3,t,U,rd.kD _ _ _ q4 ⟨L.1,λid p c=>L.2 id p (by rcases c with c|c;exact .inl om;exact .inr ((t id).2 (.inl c)))⟩,λid h=>jM (q5 id h) L.1,q6⟩,by rw[L.2 _ nx (.inl om)];exact j.gr,jM nx L.1⟩
  ·obtain⟨W3,t,U,q3,q4,q5,q6⟩:=j.ex
   have nx:=j.nx;obtain⟨f3,e8⟩:=e5 k hk;refine uC j.gr (by rw[hr];rfl) jI λh9 g9 n9 o9=>?_
   rw[congrArg fK.assign hr,congrArg fK.vars hr,congrArg fK.pars hr];simp(disch:=omega)only[go_sem,List.zip_cons_cons,List.zip_nil_left];rw[congrArg fK.body hr];have c7:h9.get B=aF [.yl id]:=by rw[o9 _ om];exact j.g4
   have f9:Fx W2 hh h9:=⟨om,λk _ c=>o9 k λe=>c ((t k).2 (.inr e))⟩
   have k9:Kept h.next W3 hh h9:=⟨om,λk p c=>o9 k λe=>by
    subst e;rcases c with c|c
    ·omega
    ·exact U c⟩
   simp(disch:=omega)only[go_sem,H.cell_of c7];refine (rd.y (a0+k) W3 h9 v e8 (rd.kJ _ _ _ _ q4 k9) (by rw[f3];exact PV.go pv f9 λid _ h=>(t id).2 (.inl h)) (λid h=>by rw[n9];exact q5 id h) om (λid p c=>w1 id om (q6 id om c))).mono ?_;rintro v' z ⟨W4,u1,u2,a3,hv⟩;have h0:=a3.next;have b7: ¬W4 o:=λh=>U (u1 o om h)
   have e4: ¬W4 B:=λh=>q3 (u1 B om h)
   have b1:z.get o=some (.loop (qE r)):=by rw[a3.get o om U];exact g9
   have c9:z.get B=aF [.yl id]:=by rw[a3.get B om q3];exact c7
   have b0:Fx W2 hh z:=f9.trans a3 λid _ h=>(t id).2 (.inl h)
   have low: ∀k,k<o->W4 k->s k:=λk p c=>q6 k p (u1 k om c)
   have kk: ∀r2:fK,Kept h.next W4 z (z.set o (some (.loop r2))):=λr2=>⟨dT _,λk p c=>H.aH _ (λe=>by
    subst e;rcases c with c|c
    ·omega
    ·exact b7 c) _⟩
   rcases hv with ⟨rfl,hv⟩|⟨rfl,hv⟩
   ·simp(disch:=omega)only[go_sem]
    refine pU jI d0 b1 ⟨λk=>W4 k∨k=o,λk p c=>?_,λk c=>?_,b0.trans (Fx.set z ((t o).2 (.inr rfl)) _) (λ_ _ h=>h),.inl ⟨rfl,⟨W4,λk=>Iff.rfl,b7,e4,?_,u2,low⟩,by rw[H.aU],by rw[H.aH _ om];exact c9,by simp only[H.cV];omega⟩⟩
    ·rcases c with c|c
     ·exact (t k).2 (.inl (u1 k om c))
     ·exact (t k).2 (.inr c)
    ·rcases c with c|c
     ·exact u2 k c
     ·simp only[H.cV];omega
    ·exact rd.kJ _ _ _ _ hv (kk r)
   ·simp(disch:=omega)only[go_sem]
    refine Ty b1 ⟨λk=>W4 k∨k=o,λk p c=>?_,λk c=>?_,b0.trans (Fx.set z ((t o).2 (.inr rfl)) _) (λ_ _ h=>h),.inr ⟨rfl,⟨W4,λk=>Iff.rfl,b7,?_,u2,low⟩,by rw[H.aU],by simp only[H.cV];omega⟩⟩
    ·rcases c with c|c
     ·exact (t k).2 (.inl (u1 k om c))
     ·exact (t k).2 (.inr c)
    ·rcases c with c|c
     ·exact u2 k c
     ·simp only[H.cV];omega
    ·exact rd.kD _ _ _ hv (kk _)
 have A: ∀k,k<h5.next->h6.get k=h5.get k:=λk hk=>f6.get k hk
 have e2:GC (λk=>s k∨k=o) h6 (.agg [aC n,K,F]) n O R G:=gC.go c6 λk p c=>by
  rcases c with c|c
  ·exact w1 k om c
  ·omega
 refine (ih (i+1) (fY O R x i q) b6 o (h4.next+1+1) h4.next (h4.next+1) h6 (λk=>s k∨k=o) (InJ a0 o B id r J s) (InD o B r D s) om Y (by rw[A _ om];exact f8) (by rw[A _ om];exact e6) (by rw[A _ om];exact g2)
  (((c1.mono f5).kO λk p c=>(by rcases c with c|c;exact c;omega)).mono f6) om om om (λh=>by rcases h with h|h;have:=w2 _ h;omega;omega) (λh=>by rcases h with h|h;have:=w2 _ h;omega;omega) (λh=>by rcases h with h|h;have:=w2 _ h;omega;omega) e2 (λk h=>by rcases h with h|h;have:=w2 _ h;omega;omega)
  ⟨⟨s,λk=>Iff.rfl,d8,g8,rd.kJ _ _ _ _ a6 (Kept.fr c0),λk h=>by have:=w2 _ h;omega,λ_ _ h=>h⟩,d7,by rw[A _ om,f5.get _ om,f4.get _ om];exact d9,om⟩ e0).mono ?_
 rintro _ h7 ⟨W7,a1,a2,F7,j|j⟩
 ·obtain⟨W3,t,U,q3,q4,q5,q6⟩:=j.ex
  have nx:=j.nx;refine⟨r,j.gr,by rw[jI];simp,?_⟩;have en:r.pend.getD .norm= .norm:=by rw[d0];rfl
  rw[en];simp(disch:=omega)only[go_sem];rw[fJ m]
  have Q:Fx W c h7:=F3.trans ((Fx.of (W:=λk=>s k∨k=o) c0).trans F7 (λ_ _ h=>h)) λk p c=>by
   rcases c with c|c
   ·exact w1 k p c
   ·omega
  refine⟨w.length-(m+1),om,m+1,W3,aB rfl,om,?_,⟨Q.next,λk p c=>by rw[H.aH _ om];exact Q.get k p c⟩,λk p c=>w1 k p (q6 k om c),q5,rfl⟩;rw[RP a4 0,Z,N]
  refine rd.kJ _ _ _ _ q4 ⟨dT _,λk p c=>H.aH _ (λe=>by
   subst e;rcases c with c|c
   ·omega
   ·exact U c) _⟩
 ·obtain⟨W3,t,U,q4,q5,q6⟩:=j.ex
  have nx:=j.nx;refine⟨_,j.gr,by simp [vD],?_⟩;have en:(vD r .ret).pend.getD .norm= .ret:=rfl;rw[en];simp(disch:=omega)only[go_sem]
  have Q:Fx W h h7:=c6.trans F7 λk p c=>by
   rcases c with c|c
   ·exact w1 k om c
   ·omega
  refine⟨W3,λk p c=>w1 k om (q6 k om c),q5,⟨Q.next,λk p c=>by rw[H.aH _ om];exact Q.get k p c⟩,.inr ?_⟩
  refine rd.kD _ _ _ q4 ⟨dT _,λk p c=>H.aH _ (λe=>by
   subst e;rcases c with c|c
   ·omega
   ·exact U c) _⟩
theorem TD (n:Nat)(b a:V)(O:LN)(R:jJ)(G:List Nat->Prop): ∀d,ElC n b a O R G d
 |0=>ZK n b a O R G
 |d+1=>adU n b a O R G d (TD n b a O R G d)
def ajL (W M:Nat->Prop)(b:Nat)(hh:H)(w:V)(x:List Nat):Prop:= ∃id cap,w= .sl id 0 x.length cap/\W id/\ ¬M id/\b<=id/\id<hh.next/\hh.get id=aF (ints (zi x))
structure LsJ (h:H)(b0 A B id2:Nat)(r:fK)(l:LN)(W:Nat->Prop)(hh:H):Prop where
 ex: ∃va ws M,hh.get A=aF [va]/\dH hh va 1 ws (id2+1)/\aN (ajL W M (id2+1) hh) ws l/\Ik M va/\(∀id,M id->W id)/\(∀id,M id->id<hh.next)/\M A/\ ∀id off n c,va= .sl id off n c->id≠id2/\id≠A
 gr:hh.get id2=some (.loop r)
 wA:W A
 w2:W id2
 g1:hh.get (B+1)=aF [.aD]
 g2:hh.get (B+1+1)=aF [aC 0]
 nx:id2<hh.next
 nA:A<hh.next
 fr:Fr h hh
theorem LsJ.kept {h:H}{g b A B a:Nat}{r:fK}{l:LN}{W:Nat->Prop}{hh h':H}(j:LsJ h g A B a r l W hh)(k:Kept b W hh h')(F:B+1+1<b)(z:h.next<=b)(y:b<=hh.next):LsJ h g A B a r l W h':=by
 obtain⟨v,u,M,p,q,el,i,f,t,o,ne⟩:=j.ex
 refine⟨⟨v,u,M,by rw[k.2 A j.nA (.inr j.wA)];exact p,q.mono k.1 λid s n c e _ m=>k.2 id m (.inr (f _ (i _ _ _ _ e))),el.mono λw x ⟨id,cap,e,e1,e2,e3,e4,e5⟩=>⟨id,cap,e,e1,e2,e3,jM e4 k.1,by rw[k.2 id e4 (.inr e1)];exact e5⟩,i,f,λid h=>jM (t id h) k.1,o,ne⟩,
  by rw[k.2 _ j.nx (.inr j.w2)];exact j.gr,j.wA,j.w2,by rw[k.2 _ om (.inl om)];exact j.g1,by rw[k.2 _ om (.inl om)];exact j.g2,jM j.nx k.1,jM j.nA k.1,⟨mY j.fr.next k.1,λid d=>by rw[k.2 id (jM d j.fr.next) (.inl om)];exact j.fr.get id d⟩⟩
theorem jE {W:Nat->Prop}{h:H}{f:V}{n:Nat}{O:LN}{R:jJ}{G:List Nat->Prop}(g:GC W h f n O R G):iW O n 0<=5040:=by
 have j: ∀i,i<n->(O.getD i []).length<=n-i:=λi hi=>tK (λx k=>g.cY.bF k) hi (g.isc.asc i hi) (g.isc.mem i hi)
 have a: ∀d i,i+d=n->iW O d i<= [1,1,2,6,24,120,720,5040].getD d 0:=by
  intro d
  induction d with
  |zero=>intro i _;simp [iW]
  |succ d ih=>
   intro i hi;unfold iW;have c:=ih (i+1) om;have m:=j i om;have e:(O.getD i []).length<=d+1:=om
   have b:=g.n7;have l:=Nat.mul_le_mul e c;refine mY l ?_;have:d<=6:=om
   match d,this with
   |0,_=>decide
   |1,_=>decide
   |2,_=>decide
   |3,_=>decide
   |4,_=>decide
   |5,_=>decide
   |6,_=>decide
 have b:=g.n7;refine mY (a n 0 om) ?_
 match n,b with
 |0,_=>decide
 |1,_=>decide
 |2,_=>decide
 |3,_=>decide
 |4,_=>decide
 |5,_=>decide
 |6,_=>decide
 |7,_=>decide
theorem MN (t:V)(d:Int)(O:List (List Int))(R:List (List (List Int)))(h:H)(q:YD h t d O R)(F:d<=7∨64<d)(so:Bf O)(sr:Pw R)(hb:Wa d O R≠0):
  Ev T 98 [t] h (λv h'=>v= .tup [.aD,aC (Wa d O R)]/\Fr h h'):=by
 have m:=q
 obtain⟨g,f,e,K,N⟩:=q
 subst e
 refine dW Lk rfl ?_
 have a:g.one=true:=BX K
 have b:f.one=true:=Up N
 obtain⟨B,z⟩:=exI h.next
 obtain⟨h1,J,x,A,o1,Q⟩:=dK z [aC d,g,f]
 obtain⟨h2,Y,s,g2,o2,Z⟩:=dK x [.aD]
 obtain⟨o,G,n3,P,p,W⟩:=dK s [aC 0]
 have y:=(Q.trans Z).trans W
 have bx:=bV h (v:= aC d) (u:=g) (w:=f) rfl a b
 have n:o.get B=aF [aC d,g,f]:=by rw[p _ om,o2 _ om];exact A
 have k:=aJ n
 simp(disch:=omega)only[go_sem,Lk,aE,bx,z,J,x,Y,s,G,k]
 refine (WE _ d O R o (m.mono y) F so sr).mono ?_
 rintro _ r ⟨rfl,i⟩
 have l:r.get (B+1)=aF [.aD]:=by rw[i.get _ om,p _ om];exact g2
 have j:r.get (B+1+1)=aF [aC 0]:=by rw[i.get _ om];exact P
 have U:=cI hb
 have L: ∀(c:H) (id:Nat) (u w:V),eU (aF [u]) c id 0 [w]=some (c.set id (aF [w])):=λc id u w=>bT (by simp) c _ _
 have n4:=i.next
 simp(disch:=omega)only[go_sem,U,l,j,L]
 exact ((y.trans i).set om _).set om _
theorem Wb {W0:Nat->Prop}(vc:V)(n:Nat)(O:LN)(R:jJ)(G:List Nat->Prop)(h:H)(gc:GC W0 h vc n O R G):
  Ev T 98 [vc] h (λv h'=> ∃vl,v= .tup [vl,aC 0]/\ME h h' vl (dM O R n 0 (aX n))):=by
 obtain⟨vO,vR,e,sO,sR⟩:=gc.ch
 subst e
 refine dW Lk rfl ?_
 have e9:=gc.isc
 have n0:=gc.n0
 have n7:=gc.n7
 have b3:vO.one=true:=BX sO
 have b4:vR.one=true:=Up sR
 have eO:dI vO vO=true:=by obtain⟨_,t,_⟩:=sO;exact t.dI
 have eR:dI vR vR=true:=by obtain⟨_,t,_⟩:=sR;exact t.dI
 obtain⟨L,hL⟩:=exI (dM O R n 0 (aX n))
 obtain⟨d7,ll⟩:=dB gc.cY e9
 have j4:=jE gc
 rw[hL] at d7 ll
 have LP: ∀k,k<L.length->aY n (L.getD k []):=λk hk=>gc.cY.bF ((d7.mem _).1 (bC hk))
 obtain⟨B,hB⟩:=exI h.next
 obtain⟨h1,e1,n1,g1,o1,f1⟩:=dK hB [aC n,vO,vR]
 obtain⟨l,Z,n2,g2,o2,f2⟩:=dK n1 [.aD]
 obtain⟨h3,e3,n3,g3,o3,f3⟩:=dK n2 [aC 0]
 have F3:=(f1.trans f2).trans f3
 have bx:=bV h (v:= aC n) (u:=vO) (w:=vR) rfl b3 b4
 have e0:h3.get B=aF [aC n,vO,vR]:=by rw[o3 _ om,o2 _ om];exact g1
 have g7:=aJ e0
 simp(disch:=omega)only[go_sem,Lk,aE,bx,hB,e1,n1,Z,n2,e3,g7]
 refine ((gc.mono F3).check).mono ?_
 rintro _ h4 ⟨rfl,f4⟩
 have n4:=f4.next
 obtain⟨A,hA⟩:=exI h4.next
 obtain⟨Y,e5,n5,g5,o5,f5⟩:=dK hA [.aD]
 have b2:Y.get B=aF [aC n,vO,vR]:=by rw[f5.get _ om,f4.get _ om];exact e0
 have i3:Y.get (B+1)=aF [.aD]:=by rw[f5.get _ om,f4.get _ om,o3 _ om];exact g2
 have f9:Y.get (B+1+1)=aF [aC 0]:=by rw[f5.get _ om,f4.get _ om];exact g3
 have F5:=(F3.trans f4).trans f5
 have i2:=aJ b2
 have e4:=aJ (h:=H.mk Y.tr (Y.next+5)) b2
 simp(disch:=omega)only[go_sem]
 refine bA (λhc=>(hc (by first|rfl|trivial)).elim) (λ_=>?_)
 simp(disch:=omega)only[go_sem,hA,e5,i2,e4,H.cell_of b2]
 refine (Uk DU.ok n (H.mk Y.tr (Y.next+5)) om).mono ?_
 rintro v6 h6 nw
 have fb:Fr Y (H.mk Y.tr (Y.next+5)):=(Fr.refl Y).bH om
 have f6:=fb.trans nw.fr
 have n6:=f6.next
 have i9:h6.get B=aF [aC n,vO,vR]:=by rw[f6.get _ om];exact b2
 have c2:=Ud nw
 have d4:=c2.own
 simp(disch:=omega)only[go_sem,aJ i9,eO,eR]
 refine (UJ (n:Int) vO vR v6 0 b3 b4 d4.sv.cT.1 d4.sv.cT.2.1 h6).mono ?_
 rintro _ h7 ⟨rfl,i0,e7,i8,j3,f7⟩
 simp(disch:=omega)only[go_sem]
 refine⟨rfl,wF λr hr=>?_⟩
 obtain⟨a,b8⟩:=exI h7.next
 rw[b8]
 have jI:r.st= .ready:=by rw[hr]
 have d3:r.pend=none:=by rw[hr]
 obtain⟨h8,b1⟩: ∃h8,h8=h7.new (.loop r):=⟨_,rfl⟩
 have i1:h8.get a=some (.loop r):=by rw[b1,←b8,H.aL]
 have n8:h8.next=a+1:=by rw[b1,H.aW,b8]
 have f8:Fr h7 h8:=by rw[b1];exact (Fr.refl h7).new _
 have Q: ∀k,k<h7.next->h8.get k=h7.get k:=λk hk=>f8.get k hk
 rw[←b1]
 have d1:=(f6.trans f7).trans f8
 have F8:=F5.trans d1
 have c1: ∀k,k<Y.next->h8.get k=Y.get k:=λk hk=>d1.get k hk
 have J0:LsJ h B A B a r (L.take 0) (λk=>k=A∨k=a) h8:=
  ⟨⟨.aD, [],λk=>k=A,by rw[c1 _ om];exact g5,dH.aD _ _ _,trivial,λ_ _ _ _ e=>(by cases e),λk h=> .inl h,λk h=>by have:k=A:=h;omega,rfl,λ_ _ _ _ e=>(by cases e)⟩,i1,.inl rfl,.inr rfl,by rw[c1 _ om];exact i3,by rw[c1 _ om];exact f9,om,om,F8⟩
 have i7: ∀k,(k=A∨k=a)->k<h8.next:=λk h=>by rcases h with h|h<;>omega
 have j0:GC (λk=>k=A∨k=a) h8 (.agg [aC n,vO,vR]) n O R G:=gc.go (Fx.of F8) λk h1 l=>by rcases l with l|l<;>omega
 have p6:PV (λk=>k=A∨k=a) h8 v6 (aX n):=by
  obtain⟨i5,c5,ev,a1,a2,a3,a4⟩:=c2.ex;simp only at a1;rw[ev];exact⟨SV.all (by rw[aP,tW]) (by have:=(f7.trans f8).next;omega) (by rw[Q _ (by have:=f7.next;omega),f7.get _ a2];exact a3) _,λh=>by have:i5=A∨i5=a:=h;have:=f7.next;omega⟩
 refine (TD n vO vR O R G n 0 (aX n) v6 a (h6.next+1+1) h6.next (h6.next+1) h8 (λk=>k=A∨k=a) (λk W F=>LsJ h B A B a r (L.take k) W F) (λ_ _=>False) om (aY.one n)
  (by rw[Q _ om];exact i8) (by rw[Q _ om];exact i0) (by rw[Q _ om];exact e7) p6 om om om (λh=>by rcases h with h|h<;>omega) (λh=>by rcases h with h|h<;>omega) (λh=>by rcases h with h|h<;>omega) j0 i7 J0 ?_).mono ?_
 ·rw[hL]
  refine⟨λk W F h' j kp=>j.kept kp om (by have:=F8.next;omega) (by have:=j.nx;omega),λ_ _ _ h=>h.elim,λk W F v hk j pv g8 j6 j5=>?_⟩
  obtain⟨va,ws,M,gA,ow,el,bl,mw,mn,mA,ne⟩:=j.ex
  have nx:=j.nx
  have nA:=j.nA
  have d6:=aN.length el
  rw[zO,Nat.min_eq_left om] at d6
  refine uC j.gr (by rw[hr];rfl) jI λs g9 n9 o9=>?_
  rw[congrArg fK.assign hr,congrArg fK.vars hr,congrArg fK.pars hr]
  simp(disch:=omega)only[go_sem,List.zip_cons_cons,List.zip_nil_left]
  rw[congrArg fK.body hr]
  have b9:s.get A=aF [va]:=by rw[o9 _ om];exact gA
  have g0:Fx W F s:=⟨om,λk _ l=>o9 k λe=>l (e▸j.w2)⟩
  have d8:=pv.fx g0
  obtain⟨x,hx⟩:=exI (L.getD k [])
  rw[hx] at d8
  have X:aY n x:=by rw[←hx];exact LP k hk
  have b7:dH s va 1 ws (a+1):=ow.mono om λid g m c e _ _=>o9 id (ne _ _ _ _ e).1
  have j1:=dH.lens b7 d6
  have h0:=b7.sv.dI
  have d5:decide ((k:Int)=5040)=false:=bI om
  have d9:Fr s (H.mk s.tr (s.next+6)):=(Fr.refl s).bH om
  simp(disch:=omega)only[go_sem,H.cell_of b9,j1,d5]
  refine (Nh v (zi x) (H.mk s.tr (s.next+6)) (by rw[aS,X.len];omega) (by rw[aS,X.len];omega) (d8.mono d9).si).mono ?_
  rintro b6 d P
  have a6:=d9.trans P.fr
  obtain⟨i5,c5,ev,a1,a2,a3,a4⟩:=P.ex
  simp only at a1
  have a9:d.get A=aF [va]:=by rw[a6.get _ om];exact b9
  have b5:=P.own
  simp(disch:=omega)only[go_sem,H.cell_of a9,h0,cK _ (z:= .aD) b5.sv.cT.1 b5.sv.cT.2.1]
  obtain⟨f,i⟩: ∃f:H,f=H.mk ((H.mk d.tr (s.next+3)).new (Ob.cells false [b6])).tr d.next:=⟨_,rfl⟩
  rw[←i]
  have i4:f.get (s.next+3)=aF [b6]:=by rw[i];exact H.aL (H.mk d.tr (s.next+3)) _
  have g4:f.next=d.next:=by rw[i]
  have a5: ∀k,k≠s.next+3->f.get k=d.get k:=λk hk=>by rw[i];exact H.bG (H.mk d.tr (s.next+3)) (by simpa using hk) _
  have K:Fr s f:=⟨by have:=a6.next;omega,λk hk=>by rw[a5 k om];exact a6.get k hk⟩
  obtain⟨a7,e8,p⟩:=(b7.fr K).push (bytes:=24) (SV.one (by have:=a6.next;have:=P.fr.next;simp only at this;omega) i4 (.kn 1)) (n:=k) (m:=1) om rfl om om om
  have j2:=p.next
  have e6:dR va A:=λid g m c e Z=>(ne _ _ _ _ e).2 Z.symm
  have i6:dR va a:=λid g m c e Z=>(ne _ _ _ _ e).1 Z.symm
  have f0:=a6.next
  have c6:a7.get A=aF [va]:=by rw[p.old A om e6,K.get A om];exact b9
  have c9:a7.get a=some (.loop (qE r)):=by rw[p.old a om i6,K.get a om];exact g9
  have g6: ∀(F:H) (y:V),eU (aF [va]) F A 0 [y]=some (F.set A (aF [y])):=λF y=>bT (by simp) F _ _
  simp(disch:=omega)only[go_sem,e8,c6,g6]
  obtain⟨a0,J⟩: ∃a0,a0=(a7.set A (aF [.sl f.next 0 (k+1) (.un 1)])).set a (some (.loop r)):=⟨_,rfl⟩
  have d2:A≠a:=om
  have N: ∀q,q≠A->q≠a->a0.get q=a7.get q:=λq h1 l=>by rw[J,H.aH _ l,H.aH _ h1]
  have j7:a0.next=a7.next:=by rw[J];rfl
  refine pU jI d3 (by rw[H.aH _ (Ne.symm d2)];exact c9) ?_
  rw[←J]
  have c4: ∀q,q<F.next-> ¬W q->a0.get q=F.get q:=λq h1 l=>by
   rw[N q (λe=>l (e▸j.wA)) (λe=>l (e▸j.w2)),p.old q om (λid g m c e Z=>l (Z▸mw _ (bl _ _ _ _ e))),K.get q om,o9 q (λe=>l (e▸j.w2))]
  refine⟨λq=>W q∨q=f.next∨q=i5,λq h1 l=>by rcases l with l|l|l;exact l;omega;omega,λq h=>by rcases h with h|h|h;have:=g8 q h;omega;omega;omega,⟨om,c4⟩,.inl ⟨rfl,?_⟩⟩
  refine⟨⟨.sl f.next 0 (k+1) (.un 1),ws++ [b6],λq=>M q∨q=f.next,by rw[J,H.aH _ d2,H.aU],?_,?_,λid g m c e=>by cases e;exact .inr rfl,λq h=>by rcases h with h|h;exact .inl (mw q h);exact .inr (.inl h),λq h=>by rcases h with h|h;have:=mn q h;omega;omega,.inl mA,λid g m c e=>by cases e;exact⟨om,om⟩⟩,
   by rw[J,H.aU],.inl j.wA,.inl j.w2,?_,?_,om,om,?_⟩
  ·exact (p.own (b:=a+1) om rfl om).mono om λid g m c e h1 l=>by cases e;exact N _ om om
  ·rw[eY [] hk,hx]
   have c0: ∀(q:Nat) (o:Option Ob),q<F.next-> ¬M q->q≠a->a0.get q=F.get q:=λq _ h1 l h3=>by
    rw[N q (λe=>l (e▸mA)) h3,p.old q om (λb0 g m c e Z=>l (Z▸bl _ _ _ _ e)),K.get q om,o9 q h3]
   have c7: ∀q z,F.get q=aF z->q≠a:=λq z h e=>by rw[e,j.gr] at h;cases h
   refine (el.mono λw z ⟨id,d0,e,q1,q2,q3,q4,q5⟩=>⟨id,d0,e,.inl q1,(λh=>by rcases h with h|h;exact q2 h;omega),q3,om,(by rw[c0 id none q4 q2 (c7 _ _ q5)];exact q5)⟩).append ⟨⟨i5,c5,by rw[ev,aS],.inr (.inr rfl),λh=>by rcases h with h|h;have:=mn i5 h;omega;omega,om,om,?_⟩,trivial⟩
   rw[N i5 om om,p.old i5 om (λb0 g m c e Z=>by have:=mn _ (bl _ _ _ _ e);omega),a5 i5 om]
   exact a3
  ·rw[N _ om om,p.old _ om (λb0 g m c e Z=>by have:=(ow.in _ _ _ _ e).2.1;omega),K.get _ om,o9 _ om];exact j.g1
  ·rw[N _ om om,p.old _ om (λb0 g m c e Z=>by have:=(ow.in _ _ _ _ e).2.1;omega),K.get _ om,o9 _ om];exact j.g2
  ·refine⟨by have:=j.fr.next;omega,λq hq=>?_⟩
   have:=j.fr.next
   rw[N q om om,p.old q om (λb0 g m c e Z=>by have:=(ow.in _ _ _ _ e).2.1;omega),K.get q om,o9 q om]
   exact j.fr.get q hq
 ·rintro _ s ⟨W2,a1,a2,F9,j|hf⟩
  case inr=>exact hf.elim
  rw[hL,List.take_length] at j
  obtain⟨va,ws,M,gA,ow,el,bl,mw,mn,mA,ne⟩:=j.ex
  have nx:=j.nx
  have nA:=j.nA
  have pt: ∀(F:H) (id:Nat) (u w:V),eU (aF [u]) F id 0 [w]=some (F.set id (aF [w])):=λF id u w=>bT (by simp) F _ _
  refine⟨r,j.gr,by rw[jI];simp,?_⟩
  have en:r.pend.getD .norm= .norm:=by rw[d3];rfl
  rw[en]
  obtain⟨d,a8⟩: ∃d,d=s.set a (some (.loop {r with st:= .out})):=⟨_,rfl⟩
  have U: ∀q,q≠a->d.get q=s.get q:=λq hq=>by rw[a8,H.aH _ hq]
  have f0:d.next=s.next:=by rw[a8];rfl
  have a9:d.get A=aF [va]:=by rw[U _ om];exact gA
  have c8:d.get (B+1)=aF [.aD]:=by rw[U _ om];exact j.g1
  have c3:d.get (B+1+1)=aF [aC 0]:=by rw[U _ om];exact j.g2
  rw[←a8]
  simp(disch:=omega)only[go_sem,H.cell_of a9,c8,c3,pt,kP ow.sv.cT.1 ow.sv.cT.2.1]
  obtain⟨f,i⟩: ∃f,f=(d.set (B+1) (aF [va])).set (B+1+1) (aF [aC 0]):=⟨_,rfl⟩
  rw[←i]
  have a5: ∀q,q≠B+1->q≠B+1+1->f.get q=d.get q:=λq h1 l=>by rw[i,H.aH _ l,H.aH _ h1]
  have g4:f.next=d.next:=by rw[i];rfl
  have hn:=j.fr.next
  refine⟨va,rfl,⟨ws,λq=>M q∨q<h.next,?_,?_,λid g n c e=> .inl (bl _ _ _ _ e),λq h=> .inr h⟩,⟨om,λq hq=>?_⟩⟩
  ·refine (ow.mono om λid g m c e h1 _=>?_).le om
   rw[a5 id om om,U id om]
  ·rw[hL]
   refine aN.mono (R:=ajL W2 M (a+1) s) (λw z hw=>?_) el
   obtain⟨id,d0,e,q1,q2,q3,q4,q5⟩:=hw
   rw[e]
   exact⟨SV.all (by rw[aP,aS,tW]) om (by rw[a5 id om om,U id om];exact q5) _,λh=>by rcases h with h|h;exact q2 h;omega⟩
  ·rw[a5 q om om,U q om]
   exact j.fr.get q hq
end Go.Proofs.YtcdbmkidaecdiaaGreat
namespace Go.Pm
set_option maxRecDepth 100000
section
variable {i:Nat}
def it (a:List Nat):Nat->Nat->Nat
 |0,i=>i
 |t+1,i=>a.getD (it a t i) 0
section
variable {n:Nat} {a:List Nat}
theorem Ha (A:aY n a){i:Nat}(hi:i<n): ∀t,it a t i<n
 |0=>hi
 |t+1=>A.fX (Ha A hi t)
theorem wQ (a:List Nat)(s i:Nat): ∀t,it a (s+t) i=it a t (it a s i)
 |0=>rfl
 |t+1=>by
  show a.getD (it a (s+t) i) 0=a.getD (it a t (it a s i)) 0;rw[wQ a s i t]
theorem HS (A:aY n a){i:Nat}(hi:i<n): ∀t,it a t i=(pw n a t).getD i 0
 |0=>(fM hi).symm
 |t+1=>by
  show a.getD (it a t i) 0=(aM (pw n a t) a).getD i 0;rw[dE (by rw[(iE A t).len];exact hi),HS A hi t]
theorem DA (A:aY n a){i j:Nat}(hi:i<n)(b:j<n): ∀t,it a t i=it a t j->i=j
 |0,h=>h
 |t+1,h=>DA A hi b t (A.inj (Ha A hi t) (Ha A b t) h)
noncomputable def kW (a:List Nat)(i:Nat):Nat:=by
 classical exact if h: ∃t,0<t/\it a t i=i/\ ∀s,0<s->s<t->it a s i≠i then h.choose else 1
theorem afH (A:aY n a)(hi:i<n): ∃t,0<t/\it a t i=i:=by
 obtain⟨k,c,_,b⟩:=Oc A;exact⟨k,c,by rw[HS A hi,b,fM hi]⟩
theorem nJ (A:aY n a)(hi:i<n):0<kW a i/\it a (kW a i) i=i/\ ∀t,0<t->t<kW a i->it a t i≠i:=by
 classical
 have h: ∃t,0<t/\it a t i=i/\ ∀s,0<s->s<t->it a s i≠i:=by
  obtain⟨t,j,g⟩:=afH A hi
  induction t using Nat.strongRecOn with
  |_ t ih=>
   by_cases f: ∃s,0<s/\s<t/\it a s i=i
   ·obtain⟨s,d,b,c⟩:=f
    exact ih s b d c
   ·exact⟨t,j,g,λs d b c=>f ⟨s,d,b,c⟩⟩
 have e:kW a i=h.choose:=by unfold kW;rw[dif_pos h]
 rw[e];exact h.choose_spec
theorem Uu (A:aY n a){i:Nat}(hi:i<n): ∀k,it a (kW a i*k) i=i
 |0=>rfl
 |k+1=>by rw[Nat.mul_succ,wQ,Uu A hi k,(nJ A hi).2.1]
theorem BT (A:aY n a)(hi:i<n)(t:Nat):it a t i=it a (t%kW a i) i:=by
 have:=wQ a (kW a i*(t/kW a i)) i (t%kW a i);rw[Nat.div_add_mod,Uu A hi] at this;exact this
theorem Fo (A:aY n a)(hi:i<n)(t:Nat):it a t i=i↔kW a i∣t:=by
 obtain⟨c,d,b⟩:=nJ A hi;constructor
 ·intro h
  rw[BT A hi] at h;refine Nat.dvd_of_mod_eq_zero (Classical.byContradiction λe=>b _ oq (Nat.mod_lt _ c) h)
 ·rintro⟨k,rfl⟩;exact Uu A hi k
theorem aeX (A:aY n a)(hi:i<n){s t:Nat}(f:s<kW a i)(d:t<kW a i)(h:it a s i=it a t i):s=t:=by
 have b: ∀s t,s<=t->t<kW a i->it a s i=it a t i->s=t:=λs t jI d h=>by
  have e:it a t i=it a s (it a (t-s) i):=by rw[←wQ];congr 1;omega
  rw[e] at h;have:=DA A hi (Ha A hi (t-s)) s h;have g:=(Fo A hi (t-s)).1 this.symm;have:=Nat.eq_zero_of_dvd_of_lt g oq;omega
 rcases Nat.le_total s t with c|c
 ·exact b s t c d h
 ·exact (b t s c f h.symm).symm
noncomputable def IL (a:List Nat)(i:Nat):List Nat:=(List.range (kW a i)).map λt=>it a t i
theorem zB (a:List Nat)(i:Nat):(IL a i).length=kW a i:=by simp [IL]
theorem aeF (A:aY n a)(hi:i<n){j:Nat}:j∈IL a i↔ ∃t,it a t i=j:=by
 unfold IL;rw[List.mem_map];constructor
 ·rintro⟨t,_,h⟩;exact⟨t,h⟩
 ·rintro⟨t,h⟩;exact⟨t%kW a i,List.mem_range.2 (Nat.mod_lt _ (nJ A hi).1),by rw[←BT A hi];exact h⟩
theorem JV (A:aY n a)(hi:i<n):(IL a i).Nodup:=by
 unfold IL;rw[List.nodup_iff_pairwise_ne,List.pairwise_map,List.pairwise_iff_getElem];intro s t b c jI h;simp only[List.length_range] at b c;simp only[List.getElem_range] at h;have:=aeX A hi b c h;omega
theorem Wo (A:aY n a)(hi:i<n):kW a i<=n:=by
 rw[←zB a i]
 have:=List.Nodup.length_le_of_subset (JV A hi) (l₂:=List.range n) λj b=>by
  obtain⟨t,rfl⟩:=(aeF A hi).1 b;exact List.mem_range.2 (Ha A hi t)
 simpa using this
theorem Mx (A:aY n a)(hi:i<n)(t:Nat): ∃s,it a s (it a t i)=i:=by
 obtain⟨b,_,_⟩:=nJ A hi;refine⟨kW a i*(t/kW a i+1)-t,?_⟩;rw[←wQ,show t+(kW a i*(t/kW a i+1)-t)=kW a i*(t/kW a i+1) from ?_,Uu A hi];have:=Nat.div_add_mod t (kW a i);have:=Nat.mod_lt t b;rw[Nat.mul_succ];omega
theorem TP (A:aY n a)(hi:i<n)(t:Nat):kW a (it a t i)=kW a i:=by
 have c:=Ha A hi t
 have b: ∀k,it a k (it a t i)=it a t i↔it a k i=i:=λk=>by
  rw[←wQ,Nat.add_comm,wQ];exact⟨λh=>DA A (Ha A hi k) hi t h,λh=>by rw[h]⟩
 refine Nat.dvd_antisymm ?_ ?_
 ·rw[←Fo A c,b,Fo A hi];exact Nat.dvd_refl _
 ·rw[←Fo A hi,←b,Fo A c];exact Nat.dvd_refl _
def oZ (a:List Nat)(n i:Nat):Prop:= ∀t,i<=it a t i
open Classical in
noncomputable def Pd (a:List Nat)(n:Nat):List Nat:=(List.range n).filter λi=>decide (oZ a n i)
noncomputable def xC (a:List Nat)(n:Nat):Al:=(Pd a n).map (IL a)
theorem afP (A:aY n a)(hi:i<n): ∃j,j<n/\oZ a n j/\ ∃t,it a t j=i:=by
 induction i using Nat.strongRecOn with
 |_ i ih=>
  by_cases h:oZ a n i
  ·exact⟨i,hi,h,0,rfl⟩
  ·have: ∃t,it a t i<i:=Classical.byContradiction λe=>h λt=>Nat.le_of_not_lt λb=>e ⟨t,b⟩
   obtain⟨t,g⟩:=this;obtain⟨j,c,b,s,d⟩:=ih _ g (Ha A hi t);obtain⟨u,f⟩:=Mx A hi t;exact⟨j,c,b,s+u,by rw[wQ,d,f]⟩
theorem Jv (A:aY n a)(hi:i<n):oZ a n i↔ ∀j,j<i-> ∀t,it a t j≠i:=by
 constructor
 ·intro h j d t e
  obtain⟨s,b⟩:=Mx A (show j<n by omega) t;rw[e] at b;have:=h s;omega
 ·intro h t
  refine Nat.le_of_not_lt λc=>?_
  obtain⟨s,b⟩:=Mx A hi t;exact h _ c s b
def Ft (l:List Nat):Nat:=l.foldl (λm c=>m/Nat.gcd m c*c) 1
theorem WX (m c:Nat):m/Nat.gcd m c*c=Nat.lcm m c:=by
 unfold Nat.lcm;rw[Nat.mul_comm,←Nat.mul_div_assoc _ (Nat.gcd_dvd_left m c),Nat.mul_comm]
theorem AM: ∀(l:List Nat) (m k:Nat),l.foldl (λm c=>m/Nat.gcd m c*c) m∣k↔m∣k/\ ∀c∈l,c∣k
 | [],m,k=>by simp
 |c::l,m,k=>by
  rw[List.foldl_cons,AM l,WX,Nat.lcm_dvd_iff];simp only[List.mem_cons,forall_eq_or_imp,and_assoc]
theorem Cq (l:List Nat)(k:Nat):Ft l∣k↔ ∀c∈l,c∣k:=by
 unfold Ft;rw[AM];simp
noncomputable def oJ (a:List Nat)(n:Nat):Nat:=Ft ((xC a n).map List.length)
theorem Aw (A:aY n a)(k:Nat):oJ a n∣k↔pw n a k=aX n:=by
 unfold oJ;rw[Cq];constructor
 ·intro h
  refine uZ (by rw[(iE A k).len,iH]) λi hi=>?_
  rw[(iE A k).len] at hi;rw[←HS A hi,fM hi,Fo A hi];obtain⟨j,d,e,t,m⟩:=afP A hi;have:=h (kW a j) (List.mem_map.2 ⟨IL a j,List.mem_map.2 ⟨j,by unfold Pd;rw[List.mem_filter];exact⟨List.mem_range.2 d,by simpa using e⟩,rfl⟩,zB a j⟩);rw[←TP A d t,m] at this;exact this
 ·rintro h c g
  obtain⟨l,f,rfl⟩:=List.mem_map.1 g;obtain⟨j,d,rfl⟩:=List.mem_map.1 f
  have b:j<n:=by
   unfold Pd at d;exact List.mem_range.1 (List.mem_filter.1 d).1
  rw[zB,←Fo A b,HS A b,h,fM b]
theorem Zj (A:aY n a):0<oJ a n:=by
 obtain⟨k,c,_,b⟩:=Oc A;have:=(Aw A k).2 b;refine Nat.pos_of_ne_zero λe=>?_
 rw[e] at this;have:=Nat.eq_zero_of_zero_dvd this;omega
theorem GS (A:aY n a):oJ a n<=n^n:=by
 obtain⟨k,c,d,b⟩:=Oc A;exact Nat.le_trans (Nat.le_of_dvd c ((Aw A k).2 b)) d
end
end
end Go.Pm
