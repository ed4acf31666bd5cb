/- Texts of the claim. -/
import Derived.Test.YtcdbmkidaecdiaaGreatDp1
import Derived.Test.YtcdbmkidaecdiaaGreatP5a
import Derived.Test.YtcdbmkidaecdiaaGreatAy39
import Derived.Test.YtcdbmkidaecdiaaGreatC16code
import Derived.Sort.AssemblyPlain
import Derived.Test.YtcdbmkidaecdiaaGreatAy26
set_option maxHeartbeats 32000000
namespace Go.Pm
set_option maxRecDepth 100000
section
variable {j p:Nat}
structure Lv where
 gens:Al
 orb:List Nat
 to:Nat->Option (List Nat)
 tr:Nat->Nat
abbrev qD:=Nat->Lv
def Fix (i:Nat)(x:List Nat):Prop:= ∀k,k<i->x.getD k 0=k
def InS (n:Nat)(τ:qD):Nat->Nat->List Nat->Prop
 |_,0,x=>x=aX n
 |i,d+1,x=> ∃p y h,(τ i).to p=some y/\InS n τ (i+1) d h/\x=aM h y
def S (n:Nat)(τ:qD)(i:Nat)(x:List Nat):Prop:=InS n τ i (n-i) x
section
variable {n:Nat} {τ τ':qD} {x y z:List Nat} {i:Nat}
theorem wC:S n τ n x↔x=aX n:=by unfold S;rw[Nat.sub_self];exact Iff.rfl
theorem qQ (hi:i<n):S n τ i x↔ ∃p y h,(τ i).to p=some y/\S n τ (i+1) h/\x=aM h y:=by
 unfold S;rw[show n-i=(n-(i+1))+1 from oq];exact Iff.rfl
theorem Ua: ∀(d i:Nat) (x:List Nat),(∀j,i<=j->j<i+d->τ j=τ' j)->(InS n τ i d x↔InS n τ' i d x)
 |0,_,_,_=>Iff.rfl
 |d+1,i,x,h=>by
  simp only[InS];rw[h i (Nat.le_refl _) oq];have a:=λg=>Ua d (i+1) g (λj b c=>h j oq oq)
  simp only[a]
theorem HH (h: ∀j,i<=j->j<n->τ j=τ' j):S n τ i x↔S n τ' i x:=
 Ua _ _ _ λj a b=>h j a oq
structure UY (n j:Nat)(l:Lv):Prop where
 nd:l.orb.Nodup
 base:j∈l.orb
 one:l.to j=some (aX n)
 iff: ∀p,p∈l.orb↔(l.to p).isSome
 bF: ∀p y,l.to p=some y->aY n y
 fix: ∀p y,l.to p=some y->Fix j y
 maps: ∀p y,l.to p=some y->y.getD j 0=p
 gen: ∀p y,l.to p=some y->bM n (· ∈l.gens) y
 gP: ∀s∈l.gens,aY n s
 gF: ∀s∈l.gens,Fix j s
 gN:l.gens.Nodup
 le: ∀q,l.tr q<=l.gens.length
 zero: ∀q,q∉l.orb->l.tr q=0
theorem UY.lt {l:Lv}(L:UY n j l)(c:j<n)(b:p∈l.orb):p<n:=by
 obtain⟨y,a⟩:=Option.isSome_iff_exists.1 ((L.iff p).1 b);rw[←L.maps p y a];exact (L.bF p y a).fX c
theorem UY.to {l:Lv}(L:UY n j l)(a:p∈l.orb): ∃y,l.to p=some y:=Option.isSome_iff_exists.1 ((L.iff p).1 a)
theorem UY.mem {l:Lv}(L:UY n j l){y:List Nat}(h:l.to p=some y):p∈l.orb:=(L.iff p).2 (by rw[h];rfl)
def Cl (n j:Nat)(τ:qD):Prop:= ∀q y,(τ j).to q=some y-> ∀k s,k<(τ j).tr q->(τ j).gens[k]? =some s->
 ∃u,(τ j).to ((aM y s).getD j 0)=some u/\S n τ (j+1) (aM (aM y s) (bZ u))
def Full (l:Lv):Prop:= ∀q∈l.orb,l.tr q=l.gens.length
def Dn (n j:Nat)(τ:qD):Prop:=j+1<n-> ∀s∈(τ (j+1)).gens,bM n (· ∈(τ j).gens) s
def pX (n i:Nat)(τ:qD):Prop:= ∀j,i<=j->j<n->UY n j (τ j)/\Cl n j τ/\Full (τ j)/\Dn n j τ
theorem pX.mono (t:pX n i τ){k:Nat}(h:i<=k):pX n k τ:=λj b a=>t j oq a
theorem pX.congr (t:pX n i τ)(h: ∀j,i<=j->j<n->τ j=τ' j):pX n i τ':=λj l o=>by
 obtain⟨a,b,c,d⟩:=t j l o;have e:=h j l o;refine⟨e▸a,λq y r k s m f=>?_,e▸c,λv s f=>?_⟩
 ·rw[←e] at r m f ⊢
  obtain⟨u,B,w⟩:=b q y r k s m f;exact⟨u,B,(HH λk F A=>h k oq A).1 w⟩
 ·rw[←h (j+1) oq v] at f
  rw[←e];exact d v s f
theorem Fix.one (n i:Nat)(hi:i<=n):Fix i (aX n):=λk a=>fM oq
theorem Fix.mul (X:aY n x)(hi:i<=n)(a:Fix i x)(b:Fix i y):Fix i (aM x y):=λk c=>by
 rw[dE (by rw[X.len];omega),a k c,b k c]
theorem Fix.inv (X:aY n x)(hi:i<=n)(a:Fix i x):Fix i (bZ x):=λk b=>by
 have:=wY X (show k<n by omega);rwa [a k b] at this
theorem Fix.mono (a:Fix j x)(h:i<=j):Fix i x:=λk b=>a k oq
theorem Fix.succ (a:Fix i x)(h:x.getD i 0=i):Fix (i+1) x:=λk b=>by
 by_cases e:k=i
 ·rw[e];exact h
 ·exact a k oq
theorem Fix.all (X:aY n x)(a:Fix n x):x=aX n:=by
 refine uZ (by rw[X.len,iH]) λk b=>?_
 rw[X.len] at b;rw[a k b,fM b]
theorem bM.fix {L:List Nat->Prop}(b: ∀g,L g->aY n g)(hi:i<=n)(a: ∀g,L g->Fix i g)(h:bM n L x):Fix i x:=by
 induction h with
 |one=>exact Fix.one n i hi
 |mul hx hg ih=>exact Fix.mul (hx.bF b) hi ih (a _ hg)
theorem pX.IN: ∀(d i:Nat),i+d=n->pX n i τ-> ∀x,(S n τ i x->aY n x/\Fix i x)/\(i<n->(S n τ i x↔bM n (· ∈(τ i).gens) x))
 |0,i,h,_,x=>by
  obtain rfl:i=n:=oq
  refine⟨λa=>?_,λh=>oq⟩;rw[wC] at a;subst a;exact⟨aY.one i,Fix.one i i (Nat.le_refl _)⟩
 |d+1,i,h,t,x=>by
  have hi:i<n:=oq
  have l:=pX.IN d (i+1) oq (t.mono oq);obtain⟨L,C,F,D⟩:=t i (Nat.le_refl _) hi;have v: ∀g,g∈(τ i).gens->aY n g:=L.gP
  have Q: ∀z,S n τ (i+1) z->bM n (· ∈(τ i).gens) z:=by
   intro z f
   by_cases c:i+1<n
   ·exact ((l z).2 c|>.1 f).le (bM.cY v) (D c)
   ·obtain rfl:i+1=n:=oq
    rw[wC] at f;subst f;exact .one
  have r: ∀u z,S n τ (i+1) u->S n τ (i+1) z->S n τ (i+1) (aM u z):=by
   intro u z m f
   by_cases c:i+1<n
   ·obtain⟨N,_⟩:=t (i+1) oq c
    exact ((l _).2 c).2 ((((l u).2 c).1 m).app N.gP (((l z).2 c).1 f))
   ·obtain rfl:i+1=n:=oq
    rw[wC] at m f ⊢;subst m f;exact aZ (aY.one _)
  have w:S n τ (i+1) (aX n):=by
   by_cases c:i+1<n
   ·exact ((l _).2 c).2 .one
   ·obtain rfl:i+1=n:=oq
    exact wC.2 rfl
  have b:S n τ i x->bM n (· ∈(τ i).gens) x:=by
   intro a;obtain⟨p,y,g,o,B,rfl⟩:=(qQ hi).1 a;exact (Q g B).app v (L.gen p y o)
  refine⟨λa=>⟨(b a).bF v,(b a).fix v oq L.gF⟩,λ_=>⟨b,λO=>?_⟩⟩;clear b
  induction O with
  |one=>exact (qQ hi).2 ⟨i,aX n,aX n,L.one,w,(aZ (aY.one n)).symm⟩
  |mul hx a hind=>
   rename_i R s;obtain⟨q,y,g,o,B,e⟩:=(qQ hi).1 hind;obtain⟨k,K,J⟩:=List.mem_iff_getElem.1 a;obtain⟨u,m,P⟩:=C q y o k s (by rw[F q (L.mem o)];exact K) (by rw[List.getElem?_eq_getElem K,J]);refine (qQ hi).2 ⟨_,u,aM g (aM (aM y s) (bZ u)),m,r _ _ B P,?_⟩;have G:=((l g).1 B).1;have Y:=L.bF q y o;have U:=L.bF _ u m;have A:=v s a;rw[e,aG G Y A,aG G ((Y.mul A).mul U.inv) U,aG (Y.mul A) U.inv U,dL U,aZ (Y.mul A)]
theorem pX.gen (t:pX n i τ)(hi:i<n):S n τ i x↔bM n (· ∈(τ i).gens) x:=(pX.IN (n-i) i oq t x).2 hi
theorem pX.bF (t:pX n i τ)(hi:i<=n)(h:S n τ i x):aY n x:=((pX.IN (n-i) i oq t x).1 h).1
theorem pX.fix (t:pX n i τ)(hi:i<=n)(h:S n τ i x):Fix i x:=((pX.IN (n-i) i oq t x).1 h).2
theorem pX.cY (t:pX n i τ)(hi:i<=n):dO n (S n τ i):=by
 by_cases h:i<n
 ·have g:=bM.cY (n:=n) (L:=(· ∈(τ i).gens)) (t i (Nat.le_refl _) h).1.gP
  exact⟨λa=>t.bF hi a,(t.gen h).2 g.one,λa b=>(t.gen h).2 (g.mul ((t.gen h).1 a) ((t.gen h).1 b)),λa=>(t.gen h).2 (g.inv ((t.gen h).1 a))⟩
 ·obtain rfl:i=n:=oq
  refine⟨λa=>t.bF hi a,wC.2 rfl,λa b=>?_,λa=>?_⟩
  ·rw[wC] at a b ⊢;subst a b;exact aZ (aY.one _)
  ·rw[wC] at a ⊢;subst a;exact oX _
theorem pX.sift (t:pX n i τ)(hi:i<n)(h:S n τ i x): ∃y,(τ i).to (x.getD i 0)=some y/\S n τ (i+1) (aM x (bZ y)):=by
 obtain⟨p,y,g,a,b,rfl⟩:=(qQ hi).1 h;have L:=(t i (Nat.le_refl _) hi).1;have c:=t.mono (Nat.le_succ i);have G:=c.bF hi b;have Y:=L.bF p y a
 have e:(aM g y).getD i 0=p:=by
  rw[dE (by rw[G.len];exact hi),c.fix hi b i oq,L.maps p y a]
 refine⟨y,by rw[e];exact a,?_⟩;rw[aG G Y Y.inv,cG Y,aZ G];exact b
theorem pX.back (t:pX n i τ)(hi:i<n){y:List Nat}(a:aY n x)(b:(τ i).to (x.getD i 0)=some y)(h2:S n τ (i+1) (aM x (bZ y))):S n τ i x:=by
 have Y:=(t i (Nat.le_refl _) hi).1.bF _ y b;refine (qQ hi).2 ⟨_,y,_,b,h2,?_⟩;rw[aG a Y.inv Y,dL Y,aZ a]
theorem pX.akA (t:pX n i τ)(hi:i<n):S n τ (i+1) x↔S n τ i x/\x.getD i 0=i:=by
 have L:=(t i (Nat.le_refl _) hi).1;have b:=t.mono (Nat.le_succ i);constructor
 ·intro h
  have e:=b.fix hi h i oq;have X:=b.bF hi h;refine⟨t.back hi X (y:=aX n) (by rw[e];exact L.one) ?_,e⟩;rw[oX,aZ X];exact h
 ·rintro⟨h,e⟩
  obtain⟨y,a,c⟩:=t.sift hi h;rw[e,L.one] at a;cases a;rwa [oX,aZ (t.bF oq h)] at c
theorem pX.Xc (t:pX n i τ): ∀{k:Nat},i<=k->k<=n->(S n τ k x↔S n τ i x/\Fix k x):=by
 intro k
 induction k with
 |zero=>
  intro h _;obtain rfl:i=0:=oq
  exact⟨λh=>⟨h,λ_ h=>oq⟩,λh=>h.1⟩
 |succ k ih=>
  intro l f
  by_cases e:i=k+1
  ·subst e
   exact⟨λh=>⟨h,t.fix f h⟩,λh=>h.1⟩
  ·have a:=ih oq oq
   rw[(t.mono oq).akA (i:=k) f,a];constructor
   ·rintro⟨⟨b,c⟩,d⟩;exact⟨b,c.succ d⟩
   ·rintro⟨b,c⟩;exact⟨⟨b,c.mono oq⟩,c k oq⟩
end
end
section
variable {j k q:Nat}
def wM (τ:qD)(i:Nat)(l:Lv):qD:=λj=>if j=i then l else τ j
theorem cM (τ:qD)(i:Nat)(l:Lv):wM τ i l i=l:=by simp [wM]
theorem fD (τ:qD){i:Nat}(l:Lv)(h:j≠i):wM τ i l j=τ j:=by simp [wM,h]
def Lv.tick (l:Lv)(q:Nat):Lv:={l with tr:=λr=>if r=q then l.tr q+1 else l.tr r}
def Lv.reach (l:Lv)(p:Nat)(y:List Nat):Lv:={l with orb:=l.orb++ [p],to:=λr=>if r=p then some y else l.to r}
def Lv.more (l:Lv)(r:List Nat):Lv:={l with gens:=l.gens++ [r]}
structure CI (n i:Nat)(τ:qD):Prop where
 nG:UY n i (τ i)
 cl:Cl n i τ
 dn:Dn n i τ
 up:pX n (i+1) τ
section
variable {n:Nat} {τ τ':qD} {x y z s u w:List Nat} {i:Nat}
theorem CI.full (c:CI n i τ)(a:Full (τ i)):pX n i τ:=λj d b=>by
 by_cases e:j=i
 ·subst e;exact⟨c.nG,c.cl,a,c.dn⟩
 ·exact c.up j oq b
theorem aeO {l:Lv}(h:i<k):S n (wM τ i l) k x↔S n τ k x:=HH λj a _=>fD τ l oq
theorem pX.ahL {l:Lv}(h:i<k)(t:pX n k τ):pX n k (wM τ i l):=t.congr λj a _=>(fD τ l oq).symm
theorem CI.Od (c:CI n i τ)(hi:i<n)(f:(τ i).to q=some y)(b:s∈(τ i).gens)(a:(τ i).to ((aM y s).getD i 0)=some u):
  aY n (aM (aM y s) (bZ u))/\Fix (i+1) (aM (aM y s) (bZ u))/\bM n (· ∈(τ i).gens) (aM (aM y s) (bZ u)):=by
 have L:=c.nG
 have Y:=L.bF q y f
 have U:=L.bF _ u a
 have l:=L.gP s b
 have h:=Y.mul l
 have d:bM n (· ∈(τ i).gens) (aM (aM y s) (bZ u)):=((L.gen q y f).mul b).app L.gP ((L.gen _ u a).inv L.gP)
 refine⟨h.mul U.inv,Fix.succ (d.fix L.gP oq L.gF) ?_,d⟩
 rw[dE (by rw[h.len];exact hi)]
 have:=wY U hi
 rwa [L.maps _ u a] at this
theorem CI.tick (c:CI n i τ)(B:(τ i).to q=some y)(F:(τ i).tr q=k)(o:(τ i).gens[k]? =some s)(G:(τ i).to ((aM y s).getD i 0)=some u)
  (K:S n τ (i+1) (aM (aM y s) (bZ u))):CI n i (wM τ i ((τ i).tick q)):=by
 have L:=c.nG
 have h:k<(τ i).gens.length:=(List.getElem?_eq_some_iff.1 o).1
 refine⟨?_,?_,?_,c.up.ahL oq⟩
 ·rw[cM]
  refine⟨L.nd,L.base,L.one,L.iff,L.bF,L.fix,L.maps,L.gen,L.gP,L.gF,L.gN,λr=>?_,λr m=>?_⟩
  ·show (if r=q then (τ i).tr q+1 else (τ i).tr r)<=_
   split
   ·rw[F];exact h
   ·exact L.le r
  ·show (if r=q then (τ i).tr q+1 else (τ i).tr r)=0
   have:r≠q:=λe=>m (by rw[e];exact L.mem B)
   rw[if_neg this];exact L.zero r m
 ·intro r v l j t A f
  rw[cM] at l A f ⊢
  simp only[aeO (Nat.lt_succ_self i)]
  have b:j<(if r=q then (τ i).tr q+1 else (τ i).tr r):=A
  by_cases e:r=q/\j=k
  ·obtain⟨rfl,rfl⟩:=e
   have d:(τ i).to r=some v:=l
   have a:(τ i).gens[j]? =some t:=f
   rw[B] at d;cases d
   rw[o] at a;cases a
   exact⟨u,G,K⟩
  ·refine c.cl r v l j t ?_ f
   split at b
   ·rename_i O;subst O
    have:j≠k:=λN=>e ⟨rfl,N⟩
    omega
   ·exact b
 ·intro J g p
  rw[fD τ _ oq] at p
  rw[cM]
  exact c.dn J g p
theorem CI.reach (c:CI n i τ)(hi:i<n){p:Nat}(G:(τ i).to p=none)(Y:aY n y)(F:Fix i y)(Z:y.getD i 0=p)(U:bM n (· ∈(τ i).gens) y):CI n i (wM τ i ((τ i).reach p y)):=by
 have L:=c.nG;have m:p∉(τ i).orb:=λh=>by have:=(L.iff p).1 h;rw[G] at this;cases this
 have d: ∀r v,((τ i).reach p y).to r=some v->(r=p/\v=y)∨(r≠p/\(τ i).to r=some v):=by
  intro r v h;have o:(if r=p then some y else (τ i).to r)=some v:=h;split at o
  ·rename_i e;cases o;exact .inl ⟨e,rfl⟩
  ·rename_i e;exact .inr ⟨e,o⟩
 have f: ∀r v,(τ i).to r=some v->((τ i).reach p y).to r=some v:=by
  intro r v h;have:r≠p:=λe=>by rw[e,G] at h;cases h
  show (if r=p then some y else (τ i).to r)=some v;rw[if_neg this];exact h
 refine⟨?_,?_,?_,c.up.ahL oq⟩
 ·rw[cM]
  refine⟨?_,List.mem_append_left _ L.base,f _ _ L.one,λr=>?_,λr v h=>?_,λr v h=>?_,λr v h=>?_,λr v h=>?_,L.gP,L.gF,L.gN,L.le,λr P=>?_⟩
  ·show ((τ i).orb++ [p]).Nodup
   rw[List.nodup_append];exact⟨L.nd,by simp,λa Q b J=>by simp at J;subst J;exact λe=>m (e▸Q)⟩
  ·show r∈(τ i).orb++ [p]↔(if r=p then some y else (τ i).to r).isSome
   by_cases e:r=p
   ·subst e;simp
   ·rw[if_neg e,←L.iff r];simp [e]
  ·rcases d r v h with ⟨_,rfl⟩|⟨_,h⟩
   ·exact Y
   ·exact L.bF r v h
  ·rcases d r v h with ⟨_,rfl⟩|⟨_,h⟩
   ·exact F
   ·exact L.fix r v h
  ·rcases d r v h with ⟨rfl,rfl⟩|⟨_,h⟩
   ·exact Z
   ·exact L.maps r v h
  ·rcases d r v h with ⟨_,rfl⟩|⟨_,h⟩
   ·exact U
   ·exact L.gen r v h
  ·exact L.zero r λh=>P (List.mem_append_left _ h)
 ·intro r v B j t A K
  rw[cM] at B A K ⊢;simp only[aeO (Nat.lt_succ_self i)];rcases d r v B with ⟨rfl,rfl⟩|⟨_,h⟩
  ·have hz:(τ i).tr r=0:=L.zero r m
   have W:j<(τ i).tr r:=A;omega
  ·obtain⟨a,N,R⟩:=c.cl r v h j t A K
   exact⟨a,f _ _ N,R⟩
 ·intro O g l
  rw[fD τ _ oq] at l;rw[cM];exact c.dn O g l
theorem CI.found (c:CI n i τ)(hi:i<n){p:Nat}(b:(τ i).to q=some y)(A:(τ i).tr q=k)(m:(τ i).gens[k]? =some s)(r:(aM y s).getD i 0=p)(l:(τ i).to p=none):
  CI n i (wM τ i (((τ i).tick q).reach p (aM y s))):=by
 have L:=c.nG
 have a:s∈(τ i).gens:=List.mem_of_getElem? m
 have Y:=L.bF q y b
 have o:=L.gP s a
 have t:=c.reach hi l (Y.mul o) (Fix.mul Y oq (L.fix q y b) (L.gF s a)) r ((L.gen q y b).mul a)
 have f:q≠p:=λe=>by rw[e,l] at b;cases b
 have d:(wM τ i ((τ i).reach p (aM y s)) i).to p=some (aM y s):=by
  rw[cM];show (if p=p then some (aM y s) else (τ i).to p)=_;rw[if_pos rfl]
 have v:S n (wM τ i ((τ i).reach p (aM y s))) (i+1) (aM (aM y s) (bZ (aM y s))):=by
  rw[cG (Y.mul o)];exact (t.up.cY oq).one
 have B:=t.tick (q:=q) (k:=k) (y:=y) (s:=s) (u:=aM y s) (by
  rw[cM];show (if q=p then some (aM y s) else (τ i).to q)=_
  rw[if_neg f];exact b) (by rw[cM];exact A) (by rw[cM];exact m) (by rw[r];exact d) v
 have e:wM (wM τ i ((τ i).reach p (aM y s))) i ((wM τ i ((τ i).reach p (aM y s)) i).tick q)=wM τ i (((τ i).tick q).reach p (aM y s)):=by
  funext j
  by_cases h:j=i
  ·subst h;rw[cM,cM,cM];rfl
  ·rw[fD _ _ h,fD _ _ h,fD _ _ h]
 rwa [e] at B
structure Ks (n i:Nat)(x:List Nat)(τ τ':qD):Prop where
 low: ∀j,j<i->τ' j=τ j
 tw:pX n i τ'
 old: ∀s∈(τ i).gens,s∈(τ' i).gens
 new: ∀s∈(τ' i).gens,bM n (λg=>g∈(τ i).gens∨g=x) s
 has:bM n (· ∈(τ' i).gens) x
theorem Ks.S (a:Ks n i x τ τ')(t:pX n i τ)(hi:i<n)(h:Go.Pm.S n τ i z):Go.Pm.S n τ' i z:=
 (a.tw.gen hi).2 (((t.gen hi).1 h).mono a.old)
theorem CI.added (c:CI n i τ)(d:i+1<n)(a:Ks n (i+1) z τ τ')(p:bM n (· ∈(τ i).gens) z):CI n i τ'/\Go.Pm.S n τ' (i+1) z:=by
 have e:=a.low i oq;refine⟨⟨e▸c.nG,λq y m k s l f=>?_,λh g b=>?_,a.tw⟩,(a.tw.gen d).2 a.has⟩
 ·rw[e] at m l f ⊢
  obtain⟨u,o,r⟩:=c.cl q y m k s l f;exact⟨u,o,a.S c.up d r⟩
 ·rw[e]
  refine (a.new g b).le (bM.cY c.nG.gP) λg b=>?_
  rcases b with b|rfl
  ·exact c.dn d g b
  ·exact p
def Yo (n:Nat)(τ:qD):Nat->Nat->List Nat->Nat×List Nat
 |0,i,x=>(i,x)
 |d+1,i,x=>match (τ i).to (x.getD i 0) with
  |none=>(i,x)
  |some y=>Yo n τ d (i+1) (if x.getD i 0=i then x else aM x (bZ y))
structure SfP (n i:Nat)(τ:qD)(x:List Nat)(k:Nat)(r:List Nat):Prop where
 ge:i<=k
 le:k<=n
 bF:aY n r
 fix:Fix k r
 out:k<n->(τ k).to (r.getD k 0)=none
 rest:i<n-> ∃w,bM n (· ∈(τ i).gens) w/\x=aM r w
theorem UB: ∀(d i:Nat) (x:List Nat),i+d=n->pX n i τ->aY n x->Fix i x->SfP n i τ x (Yo n τ d i x).1 (Yo n τ d i x).2
 |0,i,x,h,_,X,F=>⟨Nat.le_refl _,by show i<=n;omega,X,F,λb=>by have:i<n:=b;omega,λb=>oq⟩
 |d+1,i,x,h,t,X,F=>by
  have hi:i<n:=oq
  obtain⟨L,C,B,D⟩:=t i (Nat.le_refl _) hi;unfold Yo
  cases e:(τ i).to (x.getD i 0) with
  |none=>exact⟨Nat.le_refl _,by show i<=n;omega,X,F,λ_=>e,λ_=>⟨aX n,.one,(aZ X).symm⟩⟩
  |some y=>
   simp only;have Y:=L.bF _ y e
   have m: ∀f,f=(if x.getD i 0=i then x else aM x (bZ y))->aY n f/\Fix (i+1) f/\x=aM f y:=by
    intro f b
    by_cases l:x.getD i 0=i
    ·rw[if_pos l] at b
     subst b;rw[l,L.one] at e;cases e;exact⟨X,F.succ l,(aZ X).symm⟩
    ·rw[if_neg l] at b
     subst b;refine⟨X.mul Y.inv,(Fix.mul X oq F (Fix.inv Y oq (L.fix _ y e))).succ ?_,by rw[aG X Y.inv Y,dL Y,aZ X]⟩;rw[dE (by rw[X.len];exact hi)];have:=wY Y hi;rwa [L.maps _ y e] at this
   obtain⟨v,F2,ex⟩:=m _ rfl;have a:=UB d (i+1) _ oq (t.mono oq) v F2;refine⟨by have:=a.ge;omega,a.le,a.bF,a.fix,a.out,λ_=>?_⟩
   by_cases o:i+1<n
   ·obtain⟨w,A,r⟩:=a.rest o
    have c:bM n (· ∈(τ i).gens) w:=A.le (bM.cY L.gP) (D o);refine⟨aM w y,c.app L.gP (L.gen _ y e),?_⟩;rw[←aG a.bF (c.bF L.gP) Y,←r];exact ex
   ·have p:d=0:=oq
    subst p;exact⟨y,L.gen _ y e,ex⟩
theorem SfP.in (f:SfP n i τ x n w)(t:pX n i τ)(hi:i<n):S n τ i x:=by
 obtain⟨v,a,e⟩:=f.rest hi;have:=f.fix.all f.bF;rw[this,bX (a.bF (t i (Nat.le_refl _) hi).1.gP)] at e;subst e;exact (t.gen hi).2 a
theorem SfP.ajJ (f:SfP n i τ x k w)(t:pX n i τ)(b:k<n)(c:i<=j)(h2:j<=k): ¬S n τ j w:=by
 intro h;have d:=t.mono c;have l:=(d.Xc h2 oq).2 ⟨h,f.fix⟩;obtain⟨y,a,_⟩:=(t.mono f.ge).sift b l;rw[f.out b] at a;cases a
def push (τ:qD)(i k:Nat)(r:List Nat):qD:=λj=>if i<=j/\j<=k then (τ j).more r else τ j
theorem JA (τ:qD){i:Nat}(r:List Nat)(a:i<=j)(h2:j<=k):push τ i k r j=(τ j).more r:=by simp [push,a,h2]
theorem Ni (τ:qD){i:Nat}(r:List Nat)(h:j<i∨k<j):push τ i k r j=τ j:=by
 unfold push;rw[if_neg oq]
structure Nv (n i k:Nat)(r:List Nat)(τ τ':qD)(j:Nat):Prop where
 low: ∀m,m<j->τ' m=push τ i k r m
 tw:pX n j τ'
 gens:j<=k->(τ' j).gens=(τ j).gens++ [r]
 same:k<j->τ' j=τ j
theorem Nv.start (f:SfP n i τ x k w)(t:pX n i τ)(_:k<n):Nv n i k w τ (push τ i k w) (k+1):=
 ⟨λ_ _=>rfl,(t.mono (by have:=f.ge;omega)).congr λj a _=>(Ni τ w (.inr oq)).symm,λh=>oq,λ_=>Ni τ w (.inr oq)⟩
theorem Nv.ci (f:SfP n i τ x k w)(t:pX n i τ)(Y:k<n)(a:Nv n i k w τ τ' (j+1))(B:i<=j)(h2:j<=k):CI n j τ':=by
 have P:j<n:=oq
 obtain⟨L,C,Fu,D⟩:=t j B P;have e:τ' j=(τ j).more w:=(a.low j oq).trans (JA τ w B h2);have U:=t.mono B;have F:w∉(τ j).gens:=λW=>f.ajJ t Y B h2 ((U.gen P).2 (bM.of L.gP W))
 have G: ∀z,S n τ (j+1) z->S n τ' (j+1) z:=by
  intro z K
  by_cases r:j+1<n
  ·have J:=t.mono (show i<=j+1 by omega)
   refine (a.tw.gen r).2 (((J.gen r).1 K).mono λg c=>?_)
   by_cases o:j+1<=k
   ·rw[a.gens o];exact List.mem_append_left _ c
   ·rw[a.same oq];exact c
  ·obtain rfl:j+1=n:=oq
   rw[wC] at K ⊢;exact K
 have l: ∀g,g∈(τ j).gens->g∈(τ j).gens++ [w]:=λg c=>List.mem_append_left _ c
 have v: ∀g,g∈(τ j).gens++ [w]->aY n g:=λg c=>by
  rcases List.mem_append.1 c with c|c
  ·exact L.gP g c
  ·simp at c;subst c;exact f.bF
 refine⟨?_,λq y R m s Q d=>?_,λr s d=>?_,a.tw⟩
 ·rw[e]
  refine⟨L.nd,L.base,L.one,L.iff,L.bF,L.fix,L.maps,λp y h=>(L.gen p y h).mono l,v,λg c=>?_,?_,λq=>?_,L.zero⟩
  ·rcases List.mem_append.1 c with c|c
   ·exact L.gF g c
   ·simp at c;subst c;exact f.fix.mono h2
  ·show ((τ j).gens++ [w]).Nodup
   rw[List.nodup_append];exact⟨L.gN,by simp,λa ha b O=>by simp at O;subst O;exact λe=>F (e▸ha)⟩
  ·show (τ j).tr q<=((τ j).gens++ [w]).length
   have:=L.le q;simp;omega
 ·rw[e] at R Q d ⊢
  have N:m<(τ j).tr q:=Q;have A:((τ j).gens++ [w])[m]? =some s:=d;rw[List.getElem?_append_left (by have:=L.le q;omega)] at A;obtain⟨u,Z,g2⟩:=C q y R m s N A;exact⟨u,Z,G _ g2⟩
 ·rw[e]
  show bM n (· ∈(τ j).gens++ [w]) s
  by_cases o:j+1<=k
  ·rw[a.gens o] at d
   rcases List.mem_append.1 d with d|d
   ·exact (D r s d).mono l
   ·simp at d;subst d
    exact bM.of v (List.mem_append_right _ (by simp))
  ·rw[a.same oq] at d
   exact (D r s d).mono l
theorem Nv.next {b:qD}(a:Nv n i k w τ τ' (j+1))(c:i<=j)(h2:j<=k)(low: ∀m,m<j->b m=τ' m)(g:(b j).gens=(τ' j).gens)(t:pX n j b):Nv n i k w τ b j:=
 ⟨λm d=>(low m d).trans (a.low m oq),t,λ_=>by rw[g,a.low j oq,JA τ w c h2];rfl,λh=>oq⟩
theorem Nv.done (f:SfP n i τ x k w)(t:pX n i τ)(X:aY n x)(p:k<n)(a:Nv n i k w τ τ' i):Ks n i x τ τ':=by
 have hi:i<n:=by have:=f.ge;omega
 have L:=(t i (Nat.le_refl _) hi).1;have c:=a.gens f.ge;obtain⟨v,h,e⟩:=f.rest hi;have V:=h.bF L.gP;refine⟨λj m=>(a.low j m).trans (Ni τ w (.inl m)),a.tw,λs d=>?_,λs d=>?_,?_⟩
 ·rw[c];exact List.mem_append_left _ d
 ·have b: ∀g,(g∈(τ i).gens∨g=x)->aY n g:=λg c=>by
   rcases c with c|rfl
   ·exact L.gP g c
   ·exact X
  rw[c] at d;rcases List.mem_append.1 d with d|d
  ·exact bM.of b (.inl d)
  ·simp at d;subst d
   have o:s=aM x (bZ v):=by rw[e,aG f.bF V V.inv,cG V,aZ f.bF]
   rw[o];exact (bM.of b (.inr rfl)).app b ((h.mono λg c=>Or.inl c).inv b)
 ·have b: ∀g,g∈(τ' i).gens->aY n g:=(a.tw i (Nat.le_refl _) hi).1.gP
  rw[e];exact (bM.of b (by rw[c];exact List.mem_append_right _ (by simp))).app b (h.mono λg l=>by rw[c];exact List.mem_append_left _ l)
theorem Ks.none (t:pX n i τ)(hi:i<n)(h:Go.Pm.S n τ i x):Ks n i x τ τ:=by
 have L:=(t i (Nat.le_refl _) hi).1
 have c: ∀g,(g∈(τ i).gens∨g=x)->aY n g:=λg b=>by
  rcases b with b|rfl
  ·exact L.gP g b
  ·exact t.bF oq h
 exact⟨λ_ _=>rfl,t,λ_ a=>a,λs a=>bM.of c (.inl a),(t.gen hi).1 h⟩
theorem UY.many {l:Lv}(L:UY n j l):l.gens.length<=n^n:=Cu L.gN L.gP
def VB (n:Nat):qD:=λj=>⟨[], [j],λp=>if p=j then some (aX n) else none,λ_=>0⟩
theorem XV (n:Nat):pX n 0 (VB n):=λj _ f=>by
 refine⟨⟨by simp [VB],by simp [VB],by simp [VB],λp=>?_,λp y h=>?_,λp y h=>?_,λp y h=>?_,λp y h=>?_,λs a=>?_,λs a=>?_,by simp [VB],λq=>Nat.le_refl _,λ_ _=>rfl⟩,λq y l k s c=>?_,λq _=>rfl,λ_ s a=>?_⟩
 ·show p∈ [j]↔(if p=j then some (aX n) else none).isSome
  by_cases e:p=j<;>simp [e]
 all_goals first
  |(have b:(if p=j then some (aX n) else none)=some y:=h
    split at b
    ·rename_i e
     cases b
     first
      |exact aY.one n
      |exact Fix.one n j oq
      |(rw[e];exact fM f)
      |exact .one
    ·cases b)
  |(cases a;done)
  |(have d:k<0:=c;omega)
end
end
end Go.Pm
namespace Go.Proofs.YtcdbmkidaecdiaaGreat
open Go Go.Ay Go.Pm
set_option maxRecDepth 100000
def Slot (W:Nat->Prop)(h:H)(v:V):Option (List Nat)->Prop
 |none=>v= .aD
 |some y=>PV W h v y
def uU (F:Nat->V)(s:Nat):V:=F (s/2*194+s%2)
def WT (n L:Nat)(F:Nat->V)(id:Nat):Prop:=id=L∨ ∃s,s<2*n/\ ∃off len c,uU F s= .sl id off len c
structure tC (h:H)(n tid L:Nat)(F:Nat->V)(τ:qD):Prop where
 t:h.get tid=some (.cells false [aC n,.sl L 0 n (.kn n)])
 l:h.get L=some (.cells false (rc (n*194) F))
 tn:tid<h.next
 ln:L<h.next
 tw: ¬WT n L F tid
 to: ∀j p,j<n->p<64->Slot (WT n L F) h (F (j*194+2+p)) ((τ j).to p)
 iv: ∀j p,j<n->p<64->Slot (WT n L F) h (F (j*194+66+p)) (((τ j).to p).map bZ)
 tr: ∀j p,j<n->p<64->F (j*194+130+p)= aC ((τ j).tr p:Nat)
 gens: ∀j,j<n-> ∃vs,dH h (F (j*194)) 1 vs 0/\dZ (WT n L F) h vs (τ j).gens
 orb: ∀j,j<n->dH h (F (j*194+1)) 1 (ints (zi (τ j).orb)) 0
 Rh: ∀s s',s<2*n->s'<2*n->s≠s'->Dis (uU F s) (uU F s')
 ap: ∀s,s<2*n->dR (uU F s) L
section
variable {h h':H} {n tid L:Nat} {F:Nat->V} {τ:qD}
theorem Slot.fx {W:Nat->Prop}{v:V}{o:Option (List Nat)}(s:Slot W h v o)(f:Fx W h h'):Slot W h' v o:=by
 cases o with
 |none=>exact s
 |some y=>exact PV.fx s f
theorem Slot.kO {W W':Nat->Prop}{v:V}{o:Option (List Nat)}(s:Slot W h v o)(a: ∀id,id<h.next->W' id->W id):Slot W' h v o:=by
 cases o with
 |none=>exact s
 |some y=>exact PV.kO s a
theorem Ip (F:Nat->V)(j:Nat):uU F (2*j)=F (j*194):=by
 unfold uU;congr 1;omega
theorem Lb (F:Nat->V)(j:Nat):uU F (2*j+1)=F (j*194+1):=by
 unfold uU;congr 1;omega
theorem tC.own (R:tC h n tid L F τ){s:Nat}(c:s<2*n): ∃ws,dH h (uU F s) 1 ws 0:=by
 rcases Nat.mod_two_eq_zero_or_one s with e|e
 ·obtain⟨b,a,_⟩:=R.gens (s/2) om
  exact⟨b,by unfold uU;rw[e];exact a⟩
 ·exact⟨_,by unfold uU;rw[e];exact R.orb (s/2) om⟩
theorem tC.Pg (R:tC h n tid L F τ){id:Nat}(d:WT n L F id):id<h.next:=by
 rcases d with rfl|⟨s,a,b,len,c,e⟩
 ·exact R.ln
 ·obtain⟨f,o⟩:=R.own a
  exact (o.in _ _ _ _ e).1
theorem tC.mono (R:tC h n tid L F τ)(f:Fr h h'):tC h' n tid L F τ:=by
 refine⟨by rw[f.get _ R.tn];exact R.t,by rw[f.get _ R.ln];exact R.l,jM R.tn f.next,jM R.ln f.next,R.tw,
  λj p a b=>(R.to j p a b).fx (Fx.of f),λj p a b=>(R.iv j p a b).fx (Fx.of f),R.tr,λj c=>?_,λj c=>(R.orb j c).fr f,R.Rh,R.ap⟩
 obtain⟨d,a,b⟩:=R.gens j c;exact⟨d,a.fr f,b.fx (Fx.of f)⟩
theorem tC.cell (R:tC h n tid L F τ){j c:Nat}(a:j<n)(b:c<194):h.cell L (j*194+c)=some (F (j*194+c)):=
 tF R.l (by
         have:(j+1)*194<=n*194:=Nat.mul_le_mul_right _ a
         omega)
theorem tC.Si (R:tC h n tid L F τ){j c p:Nat}(b:j<n)(a:c+p<194):h.cell L (j*194+c+p)=some (F (j*194+c+p)):=by
 rw[Nat.add_assoc];exact R.cell b a
end
theorem WW {n:Nat}{τ:qD}{d i:Nat}{x:List Nat}(h:(τ i).to (x.getD i 0)=none):Yo n τ (d+1) i x=(i,x):=by
 rw[Yo,h]
theorem UK {n:Nat}{τ:qD}{d i:Nat}{x z:List Nat}(h:(τ i).to (x.getD i 0)=some z):Yo n τ (d+1) i x=Yo n τ d (i+1) (if x.getD i 0=i then x else aM x (bZ z)):=by
 rw[Yo,h]
theorem ZS (h:H)(n tid L:Nat)(F:Nat->V)(τ:qD)(vx:V)(x:List Nat)(a:Nat)(hn:n<=64)(h0:0<n)(R:tC h n tid L F τ)(hx:PV (WT n L F) h vx x)(X:aY n x)(a2:a<=n)(t:pX n a τ):
  Ev T 229 [.ptr tid 0,vx,aC a] h (λv h'=> ∃vr,v= .tup [aC (((Yo n τ (n-a) a x).1:Nat):Int),vr]/\PV (WT n L F) h' vr (Yo n τ (n-a) a x).2/\aY n (Yo n τ (n-a) a x).2/\Fr h h'):=by
 refine dW uW rfl ?_
 simp(disch:=omega)only[go_sem,uW,aE]
 refine aI (λk' o hh=> ∃(i:Nat) (y:List Nat) (s:V),(∃g:Nat->V,o= [.ptr tid 0,s,g 2,g 3,g 4,aC i,g 6,g 7,g 8,g 9])/\a<=i/\i<=n/\Yo n τ (n-i) i y=Yo n τ (n-a) a x/\
   PV (WT n L F) hh s y/\aY n y/\Fr h hh/\k'=n-i) (n-a)
  ⟨a,x,vx,aB rfl,fN _,a2,rfl,hx,X,Fr.refl h,rfl⟩ ?_
 rintro k' o d ⟨i,y,s,⟨g,rfl⟩,a0,a4,l,G,Y,f,rfl⟩
 have J:=R.mono f
 have P:d.cell tid 0=some (aC n):=by rw[H.aF J.t];rfl
 have cl:d.cell tid 1=some (.sl L 0 n (.kn n)):=by rw[H.aF J.t];rfl
 simp(disch:=omega)only[go_sem,P,cl]
 by_cases B:(i:Int)<(n:Int)
 ·have b:i<n:=om
  rw[cI B]
  obtain⟨id,N,K,O,hc⟩:=G.si.open
  rw[aS,Y.len] at K O hc
  have ci:d.cell id (N+i)=some (aC (y.getD i 0:Nat)):=by rw[hc i b];congr 2;simp [zi,Y.len,b]
  have r:=Y.fX b
  have lv:=(t i a0 b).1
  generalize W:y.getD i 0=k at ci r
  have cb:=J.Si (c:=66) (p:=k) b om
  have A:=J.iv i k b om
  simp(disch:=omega)only[go_sem,P,cl,K.ixa,ci,cb]
  generalize F (i*194+66+k)=vb at A cb
  have q:n-i=(n-(i+1))+1:=om
  rw[q] at l
  cases hto:(τ i).to k with
  |none=>
   rw[hto] at A;rw[WW (by rw[W];exact hto)] at l;have m:vb= .aD:=A;subst m;simp(disch:=omega)only[go_sem];rw[←l];exact⟨s,rfl,G.fx (Fx.of ((Fr.refl d).bH om)),Y,f.bH om⟩
  |some z=>
   rw[hto] at A;rw[UK (by rw[W];exact hto),W] at l;have Z:=lv.bF _ _ hto;have m:PV (WT n L F) d vb (bZ z):=A;have sn:=Hr m (aY.ne h0 Z.inv) false;have u:Fr d (H.mk d.tr (d.next+14)):=(Fr.refl d).bH om
   by_cases w:k=i
   ·have Q:decide ((k:Int)≠(i:Int))=false:=bI om
    rw[bJ w] at l;simp(disch:=omega)only[go_sem,sn,K.ixa,ci,Q];rw[fJ i];exact⟨n-(i+1),om,i+1,y,s,aB rfl,om,om,l,G.fx (Fx.of u),Y,f.trans u,rfl⟩
   ·have Q:decide ((k:Int)≠(i:Int))=true:=cI om
    rw[bU w] at l;simp(disch:=omega)only[go_sem,sn,K.ixa,ci,Q];have a1:=G.fx (Fx.of u);have U:=m.fx (Fx.of u);have f':=f.trans u;generalize H.mk d.tr (d.next+14)=h3 at*;refine (nZ oM.ok s vb y (bZ z) h3 (by rw[Y.len];omega) a1.si U.si (λj hj=>by rw[jU,Z.len];exact Y.fX (by rw[←Y.len];exact hj))).mono ?_;rintro v h4 nw;have f4:=f'.trans nw.fr;simp(disch:=omega)only[go_sem];rw[fJ i];refine⟨n-(i+1),om,i+1,_,v,aB rfl,om,om,l,nw.pv (λhw=>?_),Y.mul Z.inv,f4,rfl⟩;have:=R.Pg hw;have:=f'.next;omega
 ·rw[bI B]
  obtain rfl:i=n:=om
  simp(disch:=omega)only[go_sem,P,cl]
  rw[Nat.sub_self] at l
  have a3:Yo i τ (i-a) a x=(i,y):=l.symm
  rw[a3]
  exact⟨s,rfl,G,Y,f⟩
section
variable {h h' h2:H} {n tid L i:Nat} {F F':Nat->V} {τ τ':qD}
theorem WC (b: ∀s,s<2*n->uU F' s=uU F s)(id:Nat):WT n L F' id↔WT n L F id:=by
 unfold WT;constructor
 ·rintro (e|⟨s,a,h2⟩)
  ·exact .inl e
  ·exact .inr ⟨s,a,by rw[←b s a];exact h2⟩
 ·rintro (e|⟨s,a,h2⟩)
  ·exact .inl e
  ·exact .inr ⟨s,a,by rw[b s a];exact h2⟩
theorem QJ {j:Nat}(P: ∀s,s<2*n->uU F' s=uU F s)(a:j<n):F' (j*194)=F (j*194)/\F' (j*194+1)=F (j*194+1):=
 ⟨(Ip F' j).symm.trans ((P _ om).trans (Ip F j)),(Lb F' j).symm.trans ((P _ om).trans (Lb F j))⟩
theorem PV.go {W W':Nat->Prop}{v:V}{l:List Nat}(p:PV W h v l)(f:Fx W h h')(a: ∀id,id<h.next->W' id->W id):PV W' h' v l:=⟨p.si.fx p.off f,p.off.kO p.si a⟩
theorem Slot.go {W W':Nat->Prop}{v:V}{o:Option (List Nat)}(s:Slot W h v o)(f:Fx W h h')(a: ∀id,id<h.next->W' id->W id):Slot W' h' v o:=by
 cases o with
 |none=>exact s
 |some y=>exact PV.go s f a
theorem dZ.go {W W':Nat->Prop}{vs:List V}{ls:LN}(s:dZ W h vs ls)(f:Fx W h h')(a: ∀id,id<h.next->W' id->W id):dZ W' h' vs ls:=s.mono λ_ _ x=>PV.go x f a
theorem tC.cells (R:tC h n tid L F τ)(l:h.next<=h'.next)(x: ∀id,id≠L->id<h.next->h'.get id=h.get id)(G:h'.get L=some (.cells false (rc (n*194) F')))
  (k: ∀s,s<2*n->uU F' s=uU F s) (A: ∀j,j<n->(τ' j).gens=(τ j).gens/\(τ' j).orb=(τ j).orb)
  (r: ∀j p,j<n->p<64->Slot (WT n L F) h' (F' (j*194+2+p)) ((τ' j).to p)) (v: ∀j p,j<n->p<64->Slot (WT n L F) h' (F' (j*194+66+p)) (((τ' j).to p).map bZ))
  (u: ∀j p,j<n->p<64->F' (j*194+130+p)= aC ((τ' j).tr p:Nat)):tC h' n tid L F' τ'/\Fx (WT n L F) h h'/\ ∀id,WT n L F' id↔WT n L F id:=by
 have f:Fx (WT n L F) h h':=⟨l,λid b h2=>x id (λe=>h2 (.inl e)) b⟩
 have y:=WC (L:=L) k
 have q:WT n L F'=WT n L F:=funext λid=>propext (y id)
 have w: ∀s,s<2*n-> ∀id a len c,uU F s= .sl id a len c->id<h.next->h'.get id=h.get id:=λs b id a len c e h2=>x id (λB=>(R.ap s b _ _ _ _ e) B.symm) h2
 refine⟨⟨?_,G,jM R.tn l,jM R.ln l,by rw[q];exact R.tw,by rw[q];exact r,by rw[q];exact v,u,λj d=>?_,λj d=>?_,λs z b h2 o=>by rw[k s b,k z h2];exact R.Rh s z b h2 o,λs b=>by rw[k s b];exact R.ap s b⟩,f,y⟩
 ·rw[f.get tid R.tn R.tw];exact R.t
 ·obtain⟨J,b,h2⟩:=R.gens j d
  rw[(QJ k d).1,q,(A j d).1]
  exact⟨J,b.tU l λid a m c e o=>w (2*j) om id a m c (by rw[Ip];exact e) o,h2.fx f⟩
 ·rw[(QJ k d).2,(A j d).2]
  exact (R.orb j d).tU l λid a m c e o=>w (2*j+1) om id a m c (by rw[Lb];exact e) o
structure ajU (h h':H)(n tid L:Nat)(F F':Nat->V)(s0:Nat):Prop where
 fx:Fx (WT n L F) h h'
 wt: ∀id,id<h.next->WT n L F' id->WT n L F id
 Rh: ∀s s',s<2*n->s'<2*n->s≠s'->Dis (uU F' s) (uU F' s')
 ap: ∀s,s<2*n->dR (uU F' s) L
 own: ∀s,s<2*n->s≠s0->uU F' s=uU F s/\ ∀ws,dH h (uU F s) 1 ws 0->dH h' (uU F s) 1 ws 0
theorem tC.ajY (R:tC h n tid L F τ){s0 z m:Nat}(x:s0<2*n){ws us:List V}(p:vG h (uU F s0) z m 1 ws us h2)(j: ∀s,s<2*n->s≠s0->uU F' s=uU F s){P:pY}(f:uU F' s0= .sl h.next 0 (z+m) P)(o:Option Ob):
  ajU h (h2.set L o) n tid L F F' s0:=by
 have l: ∀s,s<2*n-> ∀id a len c,uU F s= .sl id a len c->id<h.next:=λs r id a len c e=>by
  obtain⟨ws,o⟩:=R.own r;exact (o.in _ _ _ _ e).1
 have B:Fx (WT n L F) h h2:=p.fx λid a len c e=> .inr ⟨s0,x,a,len,c,e⟩
 refine⟨B.trans (Fx.set h2 (.inl rfl:WT n L F L) o) (λ_ _ h=>h),λid d G=>?_,λs q d h2 t=>?_,λs d=>?_,λs d t=>⟨j s d t,λws K=>?_⟩⟩
 ·rcases G with e|⟨s,r,a,len,c,e⟩
  ·exact .inl e
  ·by_cases b:s=s0
   ·rw[b,f] at e;cases e;omega
   ·exact .inr ⟨s,r,a,len,c,by rw[←j s r b];exact e⟩
 ·by_cases b:s=s0
  ·rw[b,f,j q h2 om]
   intro i o n c e N J u w k
   cases e
   have:=l q h2 _ _ _ _ k
   omega
  ·rw[j s d b]
   by_cases y:q=s0
   ·rw[y,f]
    intro i o n c e N J u w k
    cases k
    have:=l s d _ _ _ _ e
    omega
   ·rw[j q h2 y];exact R.Rh s q d h2 t
 ·by_cases b:s=s0
  ·rw[b,f]
   exact dR.sl (by have:=R.ln;omega)
  ·rw[j s d b];exact R.ap s d
 ·refine K.tU (show h.next<=h2.next by rw[p.next];omega) λid a m c e A=>?_
  rw[H.aH h2 (λb:id=L=>(R.ap s d _ _ _ _ e) b.symm)]
  refine p.old id om λO v u w k b=>?_
  exact R.Rh s s0 d x t _ _ _ _ e _ _ _ _ k b
def F1 (F:Nat->V)(k:Nat)(v:V):Nat->V:=λc=>if c=k then v else F c
theorem tC.slot (R:tC h n tid L F τ){e k m:Nat}(hi:i<n)(W:e<2){ws us:List V}(p:vG h (F (i*194+e)) k m 1 ws us h2){h3:H}{v:V}{q:pY}(y:q= .un 1∨q= .kn (k+m))(A:v= .sl h.next 0 (k+m) q)(l:h3=h2.set L (some (.cells false (rc (n*194) (F1 F (i*194+e) v)))))
  (a: ∀j,j<n->(τ' j).to=(τ j).to/\(τ' j).tr=(τ j).tr)
  (Q:Fx (WT n L F) h h3->(∀id,id<h.next->WT n L (F1 F (i*194+e) v) id->WT n L F id)->(∀s,s<2*n->s≠2*i+e-> ∀ws,dH h (uU F s) 1 ws 0->dH h3 (uU F s) 1 ws 0)->dH h3 v 1 (ws++us) 0->ws.length=k*1/\us.length=m*1->
   (∀j,j<n-> ∃vs,dH h3 (F1 F (i*194+e) v (j*194)) 1 vs 0/\dZ (WT n L (F1 F (i*194+e) v)) h3 vs (τ' j).gens)/\ ∀j,j<n->dH h3 (F1 F (i*194+e) v (j*194+1)) 1 (ints (zi (τ' j).orb)) 0)
  (w:ws.length=k*1/\us.length=m*1):
  tC h3 n tid L (F1 F (i*194+e) v) τ'/\Fx (WT n L F) h h3/\ ∀id,id<h.next->WT n L (F1 F (i*194+e) v) id->WT n L F id:=by
 have u: ∀s,s<2*n->s≠2*i+e->uU (F1 F (i*194+e) v) s=uU F s:=λs d h2=>by
  unfold uU F1;rw[bU om]
 have f:(2*i+e)/2*194+(2*i+e)%2=i*194+e:=om
 have z:uU F (2*i+e)=F (i*194+e):=by unfold uU;rw[f]
 have x:uU (F1 F (i*194+e) v) (2*i+e)= .sl h.next 0 (k+m) q:=by unfold uU F1;rw[f,bJ rfl,A]
 have G:=R.ajY (F':=F1 F (i*194+e) v) (s0:=2*i+e) om (by rw[z];exact p) u x (some (.cells false (rc (n*194) (F1 F (i*194+e) v))))
 rw[←l] at G
 obtain⟨J,U⟩:=Q G.fx G.wt (λs d h2=>(G.own s d h2).2) (by
  rw[A,l];have K:dH h2 (.sl h.next 0 (k+m) q) 1 (ws++us) 0:= .inr ⟨h.next,k+m,q, [],rfl,by rw[iV,w.1,w.2];omega,by rcases y with e|e;exact .inl e;exact .inr ⟨e,rfl⟩,iB _,by rw[p.next];omega,by rw[tZ];exact p.get⟩;refine K.tU (fN _) λid B m c e N=>?_
  cases e
  exact H.aH h2 (by have:=R.ln;omega) _) w
 have P: ∀j c,2<=c->c<194->F1 F (i*194+e) v (j*194+c)=F (j*194+c):=λj c d h2=>by
  unfold F1;rw[bU om]
 have o: ∀j b c,2<=b->b+c<194->F1 F (i*194+e) v (j*194+b+c)=F (j*194+b+c):=λj b c d h2=>by
  rw[Nat.add_assoc];exact P j (b+c) om h2
 have r:=G.fx.next
 refine⟨⟨?_,by rw[l,H.aU],jM R.tn r,jM R.ln r,λO=>R.tw (G.wt _ R.tn O),λj p d h2=>?_,λj p d h2=>?_,λj p d h2=>?_,J,U,G.Rh,G.ap⟩,G.fx,G.wt⟩
 ·rw[G.fx.get tid R.tn R.tw];exact R.t
 ·rw[o j 2 p om om,(a j d).1];exact (R.to j p d h2).go G.fx G.wt
 ·rw[o j 66 p om om,(a j d).1];exact (R.iv j p d h2).go G.fx G.wt
 ·rw[o j 130 p om om,(a j d).2];exact R.tr j p d h2
theorem tC.more (R:tC h n tid L F τ)(hi:i<n){vs:List V}{d:V}{r:List Nat}(pv:dZ (WT n L F) h vs (τ i).gens)(o:PV (WT n L F) h d r)(p:vG h (F (i*194)) (τ i).gens.length 1 1 vs [d] h2){h3:H}{v:V}(s:v= .sl h.next 0 ((τ i).gens.length+1) (.un 1))(b:h3=h2.set L (some (.cells false (rc (n*194) (F1 F (i*194) v))))):
  tC h3 n tid L (F1 F (i*194) v) (wM τ i ((τ i).more r))/\Fx (WT n L F) h h3/\ ∀id,id<h.next->WT n L (F1 F (i*194) v) id->WT n L F id:=by
 refine R.slot (e:=0) hi om p (.inl rfl) s b (λj a=>?_) (λf c l q t=>⟨λj a=>?_,λj a=>?_⟩) ⟨by have:=aN.length pv;omega,rfl⟩
 ·by_cases e:j=i
  ·subst e;rw[cM];exact⟨rfl,rfl⟩
  ·rw[fD _ _ e];exact⟨rfl,rfl⟩
 ·by_cases e:j=i
  ·subst e
   rw[cM]
   refine⟨vs++ [d],?_,(dZ.go pv f c).append (dZ.one (PV.go o f c))⟩
   unfold F1;rw[bJ (Nat.add_zero _).symm];exact q
  ·rw[fD _ _ e]
   obtain⟨k,m,h2⟩:=R.gens j a
   refine⟨k,?_,dZ.go h2 f c⟩
   have:=l (2*j) om om k (by rw[Ip];exact m)
   rw[Ip] at this
   unfold F1;rw[bU om];exact this
 ·have:=l (2*j+1) om om _ (by rw[Lb];exact R.orb j a)
  rw[Lb] at this
  unfold F1;rw[bU om]
  by_cases e:j=i
  ·subst e;rw[cM];exact this
  ·rw[fD _ _ e];exact this
theorem tC.SX (R:tC h n tid L F τ)(hi:i<n){q:Nat}(p:vG h (F (i*194+1)) (τ i).orb.length 1 1 (ints (zi (τ i).orb)) [aC q] h2){h3:H}{v:V}{b:pY}(d:b= .un 1∨b= .kn ((τ i).orb.length+1))(t:v= .sl h.next 0 ((τ i).orb.length+1) b)(c:h3=h2.set L (some (.cells false (rc (n*194) (F1 F (i*194+1) v))))):
  tC h3 n tid L (F1 F (i*194+1) v) (wM τ i {τ i with orb:=(τ i).orb++ [q]})/\Fx (WT n L F) h h3/\ ∀id,id<h.next->WT n L (F1 F (i*194+1) v) id->WT n L F id:=by
 refine R.slot (e:=1) hi om p d t c (λj a=>?_) (λf m l s u=>⟨λj a=>?_,λj a=>?_⟩) ⟨by rw[aP,aS,tW],rfl⟩
 ·by_cases e:j=i
  ·subst e;rw[cM];exact⟨rfl,rfl⟩
  ·rw[fD _ _ e];exact⟨rfl,rfl⟩
 ·obtain⟨k,o,h2⟩:=R.gens j a
  have:=l (2*j) om om k (by rw[Ip];exact o)
  rw[Ip] at this
  refine⟨k,?_,?_⟩
  ·unfold F1;rw[bU om];exact this
  ·by_cases e:j=i
   ·subst e;rw[cM];exact dZ.go h2 f m
   ·rw[fD _ _ e];exact dZ.go h2 f m
 ·by_cases e:j=i
  ·subst e
   rw[cM]
   have r:ints (zi ((τ j).orb++ [q]))=ints (zi (τ j).orb)++ [aC q]:=by simp [zi,ints]
   show dH h3 _ 1 (ints (zi ((τ j).orb++ [q]))) 0
   rw[r]
   unfold F1;rw[bJ rfl];exact s
  ·rw[fD _ _ e]
   have:=l (2*j+1) om om _ (by rw[Lb];exact R.orb j a)
   rw[Lb] at this
   unfold F1;rw[bU om];exact this
theorem tC.tick (R:tC h n tid L F τ)(hi:i<n){q:Nat}(m:q<64){z:Int}(k:z=((τ i).tr q:Nat)+1){h3:H}(c:h3=h.set L (some (.cells false (rc (n*194) (F1 F (i*194+130+q) (aC z)))))):
  tC h3 n tid L (F1 F (i*194+130+q) (aC z)) (wM τ i ((τ i).tick q))/\Fx (WT n L F) h h3/\ ∀id,WT n L (F1 F (i*194+130+q) (aC z)) id↔WT n L F id:=by
 subst c
 have f:Fx (WT n L F) h (h.set L (some (.cells false (rc (n*194) (F1 F (i*194+130+q) (aC z)))))):=Fx.set h (.inl rfl) _
 have a: ∀j,(wM τ i ((τ i).tick q) j).to=(τ j).to/\(wM τ i ((τ i).tick q) j).gens=(τ j).gens/\(wM τ i ((τ i).tick q) j).orb=(τ j).orb:=λj=>by
  by_cases e:j=i
  ·subst e;rw[cM];exact⟨rfl,rfl,rfl⟩
  ·rw[fD _ _ e];exact⟨rfl,rfl,rfl⟩
 refine R.cells (fN _) (λid b _=>H.aH h b _) (H.aU ..) (λs l=>?_) (λj _=>(a j).2) (λj p b h2=>?_) (λj p b h2=>?_) (λj p b h2=>?_)
 ·unfold uU F1;rw[bU om]
 ·rw[(a j).1]
  have:=(R.to j p b h2).fx f
  unfold F1;rw[bU om];exact this
 ·rw[(a j).1]
  have:=(R.iv j p b h2).fx f
  unfold F1;rw[bU om];exact this
 ·have:=R.tr j p b h2
  unfold F1
  by_cases e:j=i
  ·subst e
   rw[cM]
   show _=aC (if p=q then (τ j).tr q+1 else (τ j).tr p:Nat)
   by_cases d:p=q
   ·subst d;rw[bJ rfl,bJ rfl,k];rfl
   ·rw[bU om,bU d];exact this
  ·rw[bU om,fD _ _ e];exact this
theorem tC.way (R:tC h n tid L F τ)(hi:i<n){q:Nat}(w:q<64){k d:V}{y:List Nat}(u:PV (WT n L F) h k y)(o:PV (WT n L F) h d (bZ y)){h3:H}(m:h.next<=h3.next)(l: ∀id,id≠L->id<h.next->h3.get id=h.get id)
  (t:h3.get L=some (.cells false (rc (n*194) (F1 (F1 F (i*194+2+q) k) (i*194+66+q) d)))):
  tC h3 n tid L (F1 (F1 F (i*194+2+q) k) (i*194+66+q) d) (wM τ i {τ i with to:=λr=>if r=q then some y else (τ i).to r})/\Fx (WT n L F) h h3/\ ∀id,WT n L (F1 (F1 F (i*194+2+q) k) (i*194+66+q) d) id↔WT n L F id:=by
 have f:Fx (WT n L F) h h3:=⟨m,λid a h2=>l id (λe=>h2 (.inl e)) a⟩
 have b: ∀j,(wM τ i {τ i with to:=λr=>if r=q then some y else (τ i).to r} j).tr=(τ j).tr/\(wM τ i {τ i with to:=λr=>if r=q then some y else (τ i).to r} j).gens=(τ j).gens/\(wM τ i {τ i with to:=λr=>if r=q then some y else (τ i).to r} j).orb=(τ j).orb:=λj=>by
  by_cases e:j=i
  ·subst e;rw[cM];exact⟨rfl,rfl,rfl⟩
  ·rw[fD _ _ e];exact⟨rfl,rfl,rfl⟩
 refine R.cells m l t (λs v=>?_) (λj _=>(b j).2) (λj p a h2=>?_) (λj p a h2=>?_) (λj p a h2=>?_)
 ·unfold uU F1;rw[bU om,bU om]
 ·have:=(R.to j p a h2).fx f
  unfold F1
  by_cases e:j=i
  ·subst e
   rw[cM]
   show Slot _ _ _ (if p=q then some y else (τ j).to p)
   by_cases c:p=q
   ·subst c;rw[bU om,bJ rfl,bJ rfl];exact PV.fx u f
   ·rw[bU om,bU om,bU c];exact this
  ·rw[bU om,bU om,fD _ _ e];exact this
 ·have:=(R.iv j p a h2).fx f
  unfold F1
  by_cases e:j=i
  ·subst e
   rw[cM]
   show Slot _ _ _ ((if p=q then some y else (τ j).to p).map bZ)
   by_cases c:p=q
   ·subst c;rw[bJ rfl,bJ rfl];exact PV.fx o f
   ·rw[bU om,bU om,bU c];exact this
  ·rw[bU om,bU om,fD _ _ e];exact this
 ·rw[(b j).1]
  have:=R.tr j p a h2
  unfold F1;rw[bU om,bU om];exact this
end
theorem DC {l:List Nat}(nd:l.Nodup){k:Nat}(a:k<l.length):l.getD k 0∉l.take k:=by
 intro h;obtain⟨m,d,e⟩:=Ad.1 h;have c:m<k:=by simp at d;omega
 rw[List.getElem_take,cW a] at e;have b:=nd.idxOf_getElem m om;have f:=nd.idxOf_getElem k a;rw[e] at b;omega
theorem agL {n i:Nat}{τ b:qD}{y s u z:List Nat}{q k:Nat}(c:CI n i τ)(K:i+1<n)(v:(τ i).to q=some y)(G:(τ i).tr q=k)(l:(τ i).gens[k]? =some s)(w:(τ i).to ((aM y s).getD i 0)=some u)
  (B:z=aM (aM y s) (bZ u)) (a:Ks n (i+1) z (wM τ i ((τ i).tick q)) b):CI n i b/\b i=(τ i).tick q/\ ∀j,j<i->b j=τ j:=by
 have F:b i=(τ i).tick q:=(a.low i om).trans (cM ..)
 have f: ∀j,j<i->b j=τ j:=λj r=>(a.low j om).trans (fD _ _ om)
 have L:Ks n (i+1) z τ (wM b i (τ i)):=by
  have A: ∀j,i<j->wM τ i ((τ i).tick q) j=τ j:=λj r=>fD _ _ om
  have d: ∀j,i<j->wM b i (τ i) j=b j:=λj r=>fD _ _ om
  refine⟨λj r=>?_,a.tw.congr λj N _=>(d j om).symm,λs l=>?_,λs l=>?_,?_⟩
  ·by_cases e:j=i
   ·subst e;exact cM ..
   ·rw[fD _ _ e];exact f j om
  ·rw[d _ om];exact a.old s (by rw[A _ om];exact l)
  ·rw[d _ om] at l
   have:=a.new s l;rwa [A _ om] at this
  ·rw[d _ om];exact a.has
 have m:s∈(τ i).gens:=Xu l
 obtain⟨_,_,p⟩:=c.Od om v m w
 obtain⟨J,t⟩:=c.added K L (by rw[B];exact p)
 have o:wM b i (τ i) i=τ i:=cM ..
 have x:=J.tick (q:=q) (k:=k) (y:=y) (s:=s) (u:=u) (by rw[o];exact v) (by rw[o];exact G) (by rw[o];exact l) (by rw[o];exact w) (by rw[←B];exact t)
 have e:wM (wM b i (τ i)) i ((wM b i (τ i) i).tick q)=b:=by
  funext j
  by_cases h:j=i
  ·subst h;rw[cM,cM,F]
  ·rw[fD _ _ h,fD _ _ h]
 rw[e] at x
 exact⟨x,F,f⟩
theorem dH.lens {h:H}{v:V}{ws:List V}{b n:Nat}(o:dH h v 1 ws b)(a:ws.length=n):bL v=some (aC n):=by
 unfold bL;rw[o.sv.len (n:=n) om om];rfl
theorem FU {F:Nat->V}{k c:Nat}{v:V}(h:c≠k):F1 F k v c=F c:=bU h
theorem Kb {N k:Nat}{F:Nat->V}(b:k<N)(a:H)(L:Nat)(v:V):eU (some (.cells false (rc N F))) a L k [v]=some (a.set L (some (.cells false (rc N (F1 F k v))))):=by
 rw[bT (by rw[iQ];exact b),lH];rfl
def acJ (h:H)(n tid L:Nat)(F:Nat->V)(τ:qD)(i:Nat)(x:List Nat):V->H->Prop:=λ_ h'=> ∃F' τ',tC h' n tid L F' τ'/\Ks n i x τ τ'/\Fx (WT n L F) h h'/\ ∀id,id<h.next->WT n L F' id->WT n L F id
def LA (h:H)(n tid L:Nat)(F:Nat->V)(τ:qD)(i:Nat):V->H->Prop:=λ_ h'=> ∃F' τ',tC h' n tid L F' τ'/\pX n i τ'/\(∀j,j<i->τ' j=τ j)/\(τ' i).gens=(τ i).gens/\Fx (WT n L F) h h'/\ ∀id,id<h.next->WT n L F' id->WT n L F id
def ZL (n i:Nat):Prop:= ∀(h:H) (tid L:Nat) (F:Nat->V) (τ:qD) (vx:V) (x:List Nat),tC h n tid L F τ->PV (WT n L F) h vx x->aY n x->Fix i x->pX n i τ->Ev T 193 [.ptr tid 0,vx,aC i] h (acJ h n tid L F τ i x)
def Vg (n i:Nat):Prop:= ∀(h:H) (tid L:Nat) (F:Nat->V) (τ:qD),tC h n tid L F τ->CI n i τ->Ev T 230 [.ptr tid 0,aC i] h (LA h n tid L F τ i)
structure ClS (h:H)(n tid L:Nat)(F:Nat->V)(τ:qD)(i:Nat)(h':H)(F':Nat->V)(τ':qD)(k:Nat):Prop where
 R:tC h' n tid L F' τ'
 c:CI n i τ'
 hk:k<=(τ' i).orb.length
 done: ∀r∈(τ' i).orb.take k,(τ' i).tr r=(τ' i).gens.length
 low: ∀j,j<i->τ' j=τ j
 gens:(τ' i).gens=(τ i).gens
 fx:Fx (WT n L F) h h'
 wt: ∀id,id<h.next->WT n L F' id->WT n L F id
theorem YF {n j:Nat}{l:Lv}(V:UY n j l)(b:j<n):l.orb.length<=n:=by
 have:=List.Nodup.length_le_of_subset V.nd (l₂:=List.range n) λx a=>Dj.2 (V.lt b a)
 simpa using this
theorem Vv (n i:Nat)(hn:n<=7)(hi:i<n)(A:i+1<n->ZL n (i+1)):Vg n i:=by
 intro h a2 L F τ R c;refine dW sH rfl ?_;have cl:h.cell a2 1=some (.sl L 0 n (.kn n)):=by rw[H.aF R.t];rfl
 simp(disch:=omega)only[go_sem,sH,aE,cl];refine aI (λm N hh=> ∃(k:Nat) (F':Nat->V) (a1:qD),(∃g:Nat->V,N= [.ptr a2 0,aC i,.ptr L (i*194),aC k,g 4,g 5,g 6,g 7,g 8,g 9,g 10,g 11])/\ClS h n a2 L F τ i hh F' a1 k/\m=n-k) n
  ⟨0,F,τ,aB rfl,⟨R,c,iB _,λr d=>by simp at d,λ_ _=>rfl,rfl,Fx.refl _ h,λ_ _ h=>h⟩,rfl⟩ ?_
 rintro m N x ⟨k,a7,f,⟨g,rfl⟩,S,rfl⟩;have co:x.cell L (i*194+1)=some (a7 (i*194+1)):=S.R.cell hi om;have oo:=S.R.orb i hi;have lo:=dH.lens oo (by rw[aP,aS]);have d4:=YF S.c.nG hi;simp(disch:=omega)only[go_sem,co,lo]
 by_cases a0:(k:Int)<((f i).orb.length:Int)
 case neg=>
  rw[bI a0];simp(disch:=omega)only[go_sem];refine⟨a7,f,S.R,S.c.full λq hq=>S.done q ?_,S.low,S.gens,S.fx,S.wt⟩;rw[Ro om];exact hq
 rw[cI a0];have b:k<(f i).orb.length:=om
 obtain⟨id,d6,sh,d1,hc⟩:=(show SI x (a7 (i*194+1)) (zi (f i).orb) from oo.sv).open;rw[aS] at sh d1 hc;obtain⟨q,hq⟩:=exI ((f i).orb.getD k 0);have ck:x.cell id (d6+k)=some (aC q):=by rw[hc k b];congr 2;simp [zi,b,←hq]
 simp(disch:=omega)only[go_sem,co,sh.ixa,ck];have b3:q∈(f i).orb:=by rw[←hq,cW b];exact xG b
 have f0:q<n:=S.c.nG.lt hi b3;clear sh d1 hc ck co lo oo d4 b3
 refine aI (λm N hh=> ∃(F':Nat->V) (a1:qD),(∃g:Nat->V,N= [.ptr a2 0,aC i,.ptr L (i*194),aC k,aC q,g 5,g 6,g 7,g 8,g 9,g 10,g 11])/\ClS h n a2 L F τ i hh F' a1 k/\
   k<(a1 i).orb.length/\(a1 i).orb.getD k 0=q/\m=(a1 i).gens.length-(a1 i).tr q) ((f i).gens.length-(f i).tr q)
  ⟨a7,f,aB rfl,S,b,hq,rfl⟩ ?_
 clear a0 b hq S f a7;rintro m N K ⟨F2,a,⟨g2,rfl⟩,S,b,hq,rfl⟩;have R2:=S.R;have nG:=S.c.nG;have b3:q∈(a i).orb:=by rw[←hq,cW b];exact xG b
 obtain⟨y,hy⟩:=nG.to b3;have Y:=nG.bF _ _ hy;have b6:K.cell L (i*194+130+q)=some (aC ((a i).tr q:Nat)):=by rw[R2.Si hi om,R2.tr i q hi om]
 have cg:K.cell L (i*194)=some (F2 (i*194)):=by
  have:=R2.cell (c:=0) hi om;rwa [Nat.add_zero] at this
 obtain⟨vs,og,b0⟩:=R2.gens i hi;have lg:=dH.lens og (aN.length b0);have d4:=YF nG hi;simp(disch:=omega)only[go_sem,b6,cg,lg]
 by_cases a0:(((a i).tr q:Nat):Int)<((a i).gens.length:Int)
 case neg=>
  rw[bI a0];simp(disch:=omega)only[go_sem];rw[fJ k];have fb:Fr K (H.mk K.tr (K.next+12)):=(Fr.refl K).bH om;have e8:=nG.le q;refine⟨n-(k+1),om,k+1,F2,a,aB rfl,⟨R2.mono fb,S.c,b,λr d=>?_,S.low,S.gens,⟨mY S.fx.next fb.next,S.fx.get⟩,S.wt⟩,rfl⟩;rw[List.take_add_one,dD b,←cW b,hq] at d;rcases oD.1 d with d|d
  ·exact S.done r d
  ·simp at d;subst d;omega
 rw[cI a0];obtain⟨t,ht⟩:=exI ((a i).tr q);rw[ht] at a0 b6;have e9:(a i).gens.length<=1000000:=mY nG.many (mY (Nat.pow_le_pow_left hn n) (mY (Nat.pow_le_pow_right om hn) (by decide)));obtain⟨e2,d0,d5,c5,c4⟩:=og.sv.shape (a i).gens.length (by have:=aN.length b0;omega) om;obtain⟨vS,c7,pS⟩:=b0.at (i:=t) om;obtain⟨s,hs⟩:=exI ((a i).gens.getD t []);rw[hs] at pS
 have a4:(a i).gens[t]? =some s:=by
  rw[←hs,List.getD,dD om];rfl
 have Sp:=nG.gP s (Xu a4);have cS:K.cell e2 (d0+t)=some vS:=by rw[c4 t (by have:=aN.length b0;omega)];exact c7
 have pT:PV (WT n L F2) K (F2 (i*194+2+q)) y:=by
  have:=R2.to i q hi om;rw[hy] at this;exact this
 have hN:i*194+194<=n*194:=om
 simp(disch:=omega)only[go_sem,b6,cg,lg,d5.ixa,cS,R2.l,Kb,Nk,FU];have fb:Fr K (H.mk K.tr (K.next+12+13+11)):=(Fr.refl K).bH om
 obtain⟨h3,c2⟩: ∃h3,h3=(H.mk K.tr (K.next+12+13+11)).set L (some (.cells false (rc (n*194) (F1 F2 (i*194+130+q) (aC ((t:Int)+1)))))):=⟨_,rfl⟩
 rw[←c2];obtain⟨R3,f3,w3⟩:=(R2.mono fb).tick hi (q:=q) om (z:=(t:Int)+1) (by rw[ht]) c2;have c0:=(Fx.of (W:=WT n L F2) fb).trans f3 (λ_ _ h=>h);have b9:=PV.go pT c0 (λid _ h=>(w3 id).1 h);have c8:=PV.go pS c0 (λid _ h=>(w3 id).1 h);generalize F2 (i*194+2+q)=vt at pT b9;clear c2 pT pS b6 cg lg d5 c5 c4 cS c7 b0 og
 obtain⟨J,d7⟩: ∃J,J=F1 F2 (i*194+130+q) (aC ((t:Int)+1)):=⟨_,rfl⟩
 rw[←d7] at R3 w3 b9 c8
 obtain⟨B,w⟩: ∃B,B=wM a i ((a i).tick q):=⟨_,rfl⟩
 rw[←w] at R3;have e3:B i=(a i).tick q:=by rw[w];exact cM ..
 refine (nZ oM.ok vt vS y s h3 (by rw[Y.len];omega) b9.si c8.si (λj hj=>by rw[Sp.len];exact Y.fX (by rw[←Y.len];exact hj))).mono ?_;rintro v O nw;have P:=Y.mul Sp;obtain⟨p,hp⟩:=exI ((aM y s).getD i 0);have f1:p<n:=by rw[←hp];exact P.fX hi
 have R4:=R3.mono nw.fr;have pv:=nw.pv (W:=WT n L J) (λG=>by have:=R3.Pg G;omega)
 have cp:O.cell h3.next i=some (aC p):=by
  rw[H.aF nw.get,Ff (by rw[P.len];exact hi),hp]
 have e1:O.cell L (i*194+2+p)=some (J (i*194+2+p)):=R4.Si hi om;have o:=R4.to i p hi om;have ev:=nw.val;rw[P.len] at ev;have f4:Fx (WT n L F2) K O:=c0.trans (Fx.of (W:=WT n L F2) nw.fr) (λ_ _ h=>h);simp(disch:=omega)only[go_sem,ev,cp,e1];rw[←ev];have a3: ∀r∈(a i).orb.take k,r≠q:=λr d e=>DC nG.nd b (by rw[hq,←e];exact d)
 cases hpo:(a i).to p with
 |none=>
  have a9:J (i*194+2+p)= .aD:=by
   rw[e3] at o;have o:Slot _ _ _ ((a i).to p):=o;rw[hpo] at o;exact o
  simp(disch:=omega)only[go_sem,a9];refine (Df Cj.ok v n (aM y s) (H.mk O.tr (O.next+15)) om P (pv.mono ((Fr.refl O).bH om)).si).mono ?_;rintro vu h5 nu;have f5:Fr O h5:=((Fr.refl O).bH om:Fr O (H.mk O.tr (O.next+15))).trans nu.fr;have R5:=R4.mono f5;have c3:=pv.mono f5;have c1:=nu.pv (W:=WT n L J) (λG=>by have:=R4.Pg G;simp at this;omega);simp(disch:=omega)only[go_sem,R5.l,kP c3.fG.1 c3.fG.2,kP c1.fG.1 c1.fG.2,Kb,Nk,FU]
  obtain⟨F6,d3⟩: ∃F6,F6=F1 (F1 J (i*194+2+p) v) (i*194+66+p) vu:=⟨_,rfl⟩
  obtain⟨h6,b1⟩: ∃h6,h6=(h5.set L (some (Ob.cells false (rc (n*194) (F1 J (i*194+2+p) v))))).set L (some (Ob.cells false (rc (n*194) (F1 (F1 J (i*194+2+p) v) (i*194+66+p) vu)))):=⟨_,rfl⟩
  rw[←b1];obtain⟨R6,f6,w6⟩:=R5.way hi (q:=p) om c3 c1 (h3:=h6) (by rw[b1];exact fN _) (λid x _=>by rw[b1,H.aH _ x,H.aH _ x]) (by rw[b1,H.aU]);have eO:J (i*194+1)=F6 (i*194+1):=by rw[d3,FU om,FU om]
  rw[←d3] at R6 w6
  obtain⟨Q,a5⟩: ∃Q,Q=wM B i {B i with to:=λr=>if r=p then some (aM y s) else (B i).to r}:=⟨_,rfl⟩
  rw[←a5] at R6;have e6:Q i={B i with to:=λr=>if r=p then some (aM y s) else (B i).to r}:=by rw[a5];exact cM ..
  have b5:(Q i).orb=(a i).orb:=by rw[e6,e3];rfl
  simp(disch:=omega)only[go_sem,cK h6 (z:= aC 0) (v:= aC p) rfl rfl,eO]
  obtain⟨h7,b7⟩: ∃h7,h7=h6.new (.cells false [aC p]):=⟨_,rfl⟩
  have f7:Fr h6 h7:=by rw[b7];exact (Fr.refl h6).new _
  have n7:h7.next=h6.next+1:=by rw[b7];exact H.aW ..
  have g7:h7.get h6.next=some (.cells false [aC p]):=by rw[b7];exact H.aL ..
  rw[←b7];have R7:=R6.mono f7;have o7:=R7.orb i hi;rw[b5] at o7;obtain⟨h8,a8,p8⟩:=o7.push (bytes:=8) (SV.one om g7 (.kn 1)) (n:=(a i).orb.length) (m:=1) (by rw[aP,aS,tW]) rfl om om om
  have gL:h8.get L=some (.cells false (rc (n*194) F6)):=by
   rw[p8.old L (by have:=R7.ln;omega) (by have:=R7.ap (2*i+1) om;rw[Lb] at this;exact this)];exact R7.l
  simp(disch:=omega)only[go_sem,a8,gL,Kb]
  obtain⟨h9,d2⟩: ∃h9,h9=h8.set L (some (.cells false (rc (n*194) (F1 F6 (i*194+1) (.sl h7.next 0 ((a i).orb.length+1) (.un 1)))))):=⟨_,rfl⟩
  rw[←d2];obtain⟨R9,f9,w9⟩:=R7.SX hi (q:=p) (by rw[b5];exact p8) (.inl rfl) (by rw[b5]) d2;rw[b5] at R9
  have eT:wM Q i {Q i with orb:=(a i).orb++ [p]}=wM a i (((a i).tick q).reach p (aM y s)):=by
   funext j
   by_cases e:j=i
   ·subst e
    rw[cM,cM,e6,e3];rfl
   ·rw[fD _ _ e,fD _ _ e,a5,fD _ _ e,w,fD _ _ e]
  rw[eT] at R9;have c9:=S.c.found hi hy ht a4 hp hpo;have ei:wM a i (((a i).tick q).reach p (aM y s)) i=((a i).tick q).reach p (aM y s):=cM ..
  have W9: ∀id,id<K.next->WT n L (F1 F6 (i*194+1) (.sl h7.next 0 ((a i).orb.length+1) (.un 1))) id->WT n L F2 id:=λid x G=>
   (w3 id).1 ((w6 id).1 (w9 id (by have:=f4.next;have:=f5.next;have:=f6.next;have:=f7.next;omega) G))
  have b4:WT n L J=WT n L F2:=funext λid=>propext (w3 id)
  have e5:WT n L F6=WT n L F2:=(funext λid=>propext (w6 id)).trans b4;rw[b4] at f6;rw[e5] at f9;have e4:Fx (WT n L F2) K h9:=f4.trans ((Fx.of f5).trans (f6.trans ((Fx.of f7).trans f9 (λ_ _ h=>h)) (λ_ _ h=>h)) (λ_ _ h=>h)) (λ_ _ h=>h);refine⟨(a i).gens.length-(t+1),om,_,_,aB rfl,⟨R9,c9,?_,?_,λj hj=>(fD _ _ om).trans (S.low j hj),?_,S.fx.trans e4 λid x G=>S.wt id x G,λid x G=>S.wt id x (W9 id (by have:=S.fx.next;omega) G)⟩,?_,?_,?_⟩
  all_goals rw[ei]
  ·show k<=((a i).orb++ [p]).length
   rw[iV];omega
  ·intro r d
   have d:r∈((a i).orb++ [p]).take k:=d;rw[List.take_append_of_le_length om] at d;show (if r=q then (a i).tr q+1 else (a i).tr r)=(a i).gens.length;rw[bU (a3 r d)];exact S.done r d
  ·exact S.gens
  ·show k<((a i).orb++ [p]).length
   rw[iV];omega
  ·show ((a i).orb++ [p]).getD k 0=q
   rw[←hq,List.getD,List.getD,Dt b]
  ·show _=(a i).gens.length-(if q=q then (a i).tr q+1 else (a i).tr q)
   rw[bJ rfl,ht]
 |some u=>
  have U:=nG.bF _ _ hpo
  have a9:PV (WT n L J) O (J (i*194+2+p)) u:=by
   rw[e3] at o;have o:Slot _ _ _ ((a i).to p):=o;rw[hpo] at o;exact o
  have sn:=Hr a9 (aY.ne om U) false;have ct:O.cell a2 0=some (aC n):=by rw[H.aF R4.t];rfl
  have d9:O.cell L (i*194+66+p)=some (J (i*194+66+p)):=R4.Si hi om
  have e7:PV (WT n L J) O (J (i*194+66+p)) (bZ u):=by
   have:=R4.iv i p hi om;rw[e3] at this;have this:Slot _ _ _ (((a i).to p).map bZ):=this;rw[hpo] at this;exact this
  simp(disch:=omega)only[go_sem,sn,ct]
  by_cases b8:(i:Int)+1<(n:Int)
  ·rw[cI b8]
   simp(disch:=omega)only[go_sem,d9];refine (nZ oM.ok v _ (aM y s) (bZ u) O (by rw[P.len];omega) pv.si e7.si (λj hj=>by rw[jU,U.len];exact P.fX (by rw[←P.len];exact hj))).mono ?_;rintro v2 h5 nu;have R5:=R4.mono nu.fr;have Z:=P.mul U.inv;have pz:=nu.pv (W:=WT n L J) (λG=>by have:=R4.Pg G;omega);obtain⟨_,b2,_⟩:=S.c.Od hi hy (Xu a4) (by rw[hp];exact hpo);simp(disch:=omega)only[go_sem];rw[fJ i];refine (A om h5 a2 L J B v2 _ R5 pz Z b2 ?_).mono ?_
   ·rw[w];exact S.c.up.ahL om
   rintro vv h6 ⟨F6,Q,R6,a6,f6,w6⟩;rw[w] at a6;obtain⟨c6,e6,l6⟩:=agL S.c om hy ht a4 (by rw[hp];exact hpo) rfl a6;have b4:WT n L J=WT n L F2:=funext λid=>propext (w3 id)
   rw[b4] at f6 w6;have d8:Fx (WT n L F2) K h6:=f4.trans ((Fx.of nu.fr).trans f6 (λ_ _ h=>h)) (λ_ _ h=>h);simp(disch:=omega)only[go_sem];refine⟨(a i).gens.length-(t+1),om,_,_,aB rfl,⟨R6,c6,?_,?_,λj hj=>(l6 j hj).trans (S.low j hj),?_,S.fx.trans d8 λid x G=>S.wt id x G,λid x G=>S.wt id x (w6 id (by have:=S.fx.next;have:=f4.next;have:=nu.fr.next;omega) G)⟩,?_,?_,?_⟩
   all_goals rw[e6]
   ·exact Nat.le_of_lt b
   ·intro r d
    have d:r∈(a i).orb.take k:=d;show (if r=q then (a i).tr q+1 else (a i).tr r)=(a i).gens.length;rw[bU (a3 r d)];exact S.done r d
   ·exact S.gens
   ·exact b
   ·exact hq
   ·show _=(a i).gens.length-(if q=q then (a i).tr q+1 else (a i).tr q)
    rw[bJ rfl,ht]
  ·rw[bI b8]
   obtain⟨e0,b2,_⟩:=S.c.Od hi hy (Xu a4) (by rw[hp];exact hpo);have en:i+1=n:=om
   have c6:=S.c.tick hy ht a4 (by rw[hp];exact hpo) (by
    rw[en];rw[en] at b2
    exact wC.2 (b2.all e0))
   simp(disch:=omega)only[go_sem];rw[w] at R4;have e6:wM a i ((a i).tick q) i=(a i).tick q:=cM ..;refine⟨(a i).gens.length-(t+1),om,_,_,aB rfl,⟨R4,c6,?_,?_,λj hj=>(fD _ _ om).trans (S.low j hj),?_,S.fx.trans f4 λid x G=>S.wt id x G,λid x G=>S.wt id x ((w3 id).1 G)⟩,?_,?_,?_⟩
   all_goals rw[e6]
   ·exact Nat.le_of_lt b
   ·intro r d
    have d:r∈(a i).orb.take k:=d;show (if r=q then (a i).tr q+1 else (a i).tr r)=(a i).gens.length;rw[bU (a3 r d)];exact S.done r d
   ·exact S.gens
   ·exact b
   ·exact hq
   ·show _=(a i).gens.length-(if q=q then (a i).tr q+1 else (a i).tr q)
    rw[bJ rfl,ht]
def zW (τ:qD)(i m:Nat)(r:List Nat):qD:=λj=>if i<=j/\j<m then (τ j).more r else τ j
theorem DR (τ:qD)(i:Nat)(r:List Nat):zW τ i i r=τ:=by
 funext j;unfold zW;rw[bU om]
theorem CY (τ:qD){i m:Nat}(r:List Nat)(h:i<=m):wM (zW τ i m r) m ((zW τ i m r m).more r)=zW τ i (m+1) r:=by
 funext j
 by_cases e:j=m
 ·subst e
  rw[cM];unfold zW;rw[bU om,bJ om]
 ·rw[fD _ _ e]
  unfold zW
  by_cases a:i<=j/\j<m
  ·rw[bJ a,bJ om]
  ·rw[bU a,bU om]
theorem CH (τ:qD)(i k:Nat)(r:List Nat):zW τ i (k+1) r=push τ i k r:=by
 funext j;unfold zW push
 by_cases h:i<=j/\j<=k
 ·rw[bJ h,bJ om]
 ·rw[bU h,bU om]
theorem agA (a b c:Nat)(d:pY):dI (.sl a b c d) (.sl a b c d)=true:=by simp [dI]
theorem Ws (n b:Nat)(hn:n<=7)(hi:b<n)(C: ∀j,b<=j->j<n->Vg n j):ZL n b:=by
 intro h a L F τ vx x R hx X Fi t;refine dW wJ rfl ?_;simp(disch:=omega)only[go_sem,wJ,aE];refine (ZS h n a L F τ vx x b om om R hx X om t).mono ?_;have G:=UB (n-b) b x om t X Fi;obtain⟨k,hk⟩:=exI ((Yo n τ (n-b) b x).1);obtain⟨r,hr⟩:=exI ((Yo n τ (n-b) b x).2);rw[hk,hr] at G ⊢;rintro _ p ⟨vr,rfl,B,Rr,f1⟩;have R1:=R.mono f1;have ct:p.cell a 0=some (aC n):=by rw[H.aF R1.t];rfl
 simp(disch:=omega)only[go_sem,ct]
 by_cases a0:(k:Int)=(n:Int)
 ·rw[cI a0]
  have e:k=n:=om
  subst e;simp(disch:=omega)only[go_sem];exact⟨F,τ,R1,Ks.none t hi (G.in t hi),Fx.of f1,λ_ _ h=>h⟩
 rw[bI a0];have o:k<n:=by have:=G.le;omega
 have a9:=G.ge;simp(disch:=omega)only[go_sem]
 refine aI (λv d P=> ∃(m:Nat) (O:Nat->V),(∃g:Nat->V,d= [.ptr a 0,g 1,aC b,aC k,vr,aC m,g 6,g 7,g 8,g 9])/\b<=m/\m<=k+1/\tC P n a L O (zW τ b m r)/\PV (WT n L O) P vr r/\
   Fx (WT n L F) h P/\(∀id,id<h.next->WT n L O id->WT n L F id)/\v=k+1-m) (k+1-b)
  ⟨b,F,aB rfl,fN _,om,by rw[DR];exact R1,B,Fx.of f1,λ_ _ h=>h,rfl⟩ ?_
 clear R1 ct B f1;rintro v d i ⟨m,F2,⟨g,rfl⟩,w,Q,A,B,f2,w2,rfl⟩;simp(disch:=omega)only[go_sem]
 by_cases f:(m:Int)<=(k:Int)
 ·rw[cI f]
  have q:m<n:=om
  have cl:i.cell a 1=some (.sl L 0 n (.kn n)):=by rw[H.aF A.t];rfl
  have cg:i.cell L (m*194)=some (F2 (m*194)):=by
   have:=A.cell (c:=0) q om;rwa [Nat.add_zero] at this
  have z:zW τ b m r m=τ m:=by unfold zW;rw[bU om]
  have ln:=A.ln;have tn:=A.tn;simp(disch:=omega)only[go_sem,cl,cg,cK _ B.fG.1 B.fG.2]
  obtain⟨y,u⟩: ∃y:H,y=H.mk ((H.mk i.tr (i.next+14)).new (Ob.cells false [vr])).tr (i.next+19):=⟨_,rfl⟩
  rw[←u];have g3:y.get (i.next+14)=bB [vr]:=by rw[u];exact H.aL (H.mk i.tr (i.next+14)) _
  have n3:y.next=i.next+19:=by rw[u]
  have N:Fr i y:=⟨om,λid a8=>by rw[u];exact H.bG (H.mk i.tr (i.next+14)) (by simp;omega) _⟩
  have s:=A.mono N;have a2:=B.mono N;obtain⟨vs,o3,K⟩:=s.gens m q;rw[z] at K;have nG:=(t m w q).1;have b0:(τ m).gens.length<=1000000:=mY nG.many (mY (Nat.pow_le_pow_left hn n) (mY (Nat.pow_le_pow_right om hn) (by decide)));obtain⟨Y,a4,p4⟩:=o3.push (bytes:=24) (SV.one om g3 (.kn 1)) (n:=(τ m).gens.length) (m:=1) (by have:=aN.length K;omega) rfl om om om;have gt:Y.get a=y.get a:=p4.old a om (λid a5 nn c e e2=>s.tw (.inr ⟨2*m,om,a5,nn,c,by rw[Ip,e2];exact e⟩))
  have gL:Y.get L=bB (rc (n*194) F2):=by
   rw[p4.old L om (by have:=s.ap (2*m) om;rw[Ip] at this;exact this)];exact s.l
  have a6:Y.cell a 1=some (.sl L 0 n (.kn n)):=by unfold H.cell;rw[gt,s.t];rfl
  have hN:m*194+194<=n*194:=om
  simp(disch:=omega)only[go_sem,a4,a6,agA,gL,Kb]
  obtain⟨h5,a3⟩: ∃h5,h5=Y.set L (bB (rc (n*194) (F1 F2 (m*194) (.sl y.next 0 ((τ m).gens.length+1) (.un 1))))):=⟨_,rfl⟩
  rw[←a3];obtain⟨R5,f5,w5⟩:=s.more q (by rw[z];exact K) a2 (by rw[z];exact p4) (by rw[z]) a3;rw[CY τ r w] at R5;rw[fJ m];refine⟨k+1-(m+1),om,m+1,_,aB rfl,om,om,R5,PV.go a2 f5 w5,f2.trans ((Fx.of (W:=WT n L F2) N).trans f5 (λ_ _ h=>h)) (λid p J=>w2 id p J),λid p J=>w2 id p (w5 id (by have:=f2.next;omega) J),rfl⟩
 rw[bI f];have z:m=k+1:=om
 subst z;rw[CH] at A;simp(disch:=omega)only[go_sem];have a1:=Nv.start G t o
 refine aI (λv d P=> ∃(m:Nat) (O:Nat->V) (U:qD),(∃g:Nat->V,d= [.ptr a 0,g 1,aC b,g 3,g 4,g 5,aC ((m:Int)- 1),g 7,g 8,g 9])/\b<=m/\m<=k+1/\tC P n a L O U/\Nv n b k r τ U m/\
   Fx (WT n L F) h P/\(∀id,id<h.next->WT n L O id->WT n L F id)/\v=m) (k+1)
  ⟨k+1,F2,_,aB (by rw[show ((k+1:Nat):Int)- 1=(k:Int) from om];rfl),om,om,A,a1,f2,w2,rfl⟩ ?_
 clear A a1 f2 w2 B f w Q;rintro v d y ⟨m,F3,Z,⟨g3,rfl⟩,w,Q,s,AI,N,w3,hm⟩;subst hm;simp(disch:=omega)only[go_sem]
 by_cases f:(b:Int)<=(v:Int)- 1
 ·rw[cI f]
  obtain⟨j,rfl⟩: ∃j,v=j+1:=⟨v- 1,om⟩
  have ci:=AI.ci G t o om om;simp(disch:=omega)only[go_sem];rw[show ((j+1:Nat):Int)- 1=(j:Int) from om];refine (C j om om y a L F3 Z s ci).mono ?_;rintro _ Y ⟨F4,a7,R4,t4,l4,g4,f4,w4⟩;simp(disch:=omega)only[go_sem];refine⟨j,om,j,F4,a7,aB rfl,om,om,R4,AI.next om om l4 g4 t4,N.trans f4 (λid p J=>w3 id p J),λid p J=>w3 id p (w4 id (by have:=N.next;omega) J),rfl⟩
 rw[bI f];have z:v=b:=om
 rw[z] at AI;simp(disch:=omega)only[go_sem];exact⟨F3,Z,s,AI.done G t X o,N,w3⟩
theorem Wk (n:Nat)(b:n<=7): ∀d i,i+d=n->(i<n->ZL n i)/\(i<n->Vg n i)
 |0,i,h=>⟨λa=>om,λa=>om⟩
 |d+1,i,h=>by
  have k:=Wk n b d (i+1) om
  have c: ∀j,i<=j->j<n->Vg n j:=λj l a=>by
   by_cases e:j=i
   ·subst e;exact Vv n j b a λf=>k.1 f
   ·exact (Wk n b (n-j) j om).2 a
  exact⟨λa=>Ws n i b a c,λa=>c i (fN _) a⟩
termination_by d=>d
theorem ahX (n:Nat)(b:n<=7)(a:0<n):ZL n 0:=(Wk n b n 0 om).1 a
end Go.Proofs.YtcdbmkidaecdiaaGreat
namespace Go.Pm
set_option maxRecDepth 100000
section
variable {x y:List Nat} {O:Al} {R:TH}
def Lt (x y:List Nat):Prop:= ∃k,k<x.length/\(∀j,j<k->x.getD j 0=y.getD j 0)/\x.getD k 0<y.getD k 0
def Le (x y:List Nat):Prop:=x=y∨Lt x y
theorem Lt.asymm (a:Lt x y)(b:Lt y x):False:=by
 obtain⟨k,_,c,f⟩:=a;obtain⟨m,_,d,i⟩:=b;rcases Nat.lt_trichotomy k m with h|h|h
 ·have:=d k h;omega
 ·subst h;omega
 ·have:=c m h;omega
theorem Le.antisymm (a:Le x y)(b:Le y x):x=y:=by
 rcases a with a|a
 ·exact a
 ·rcases b with b|b
  ·exact b.symm
  ·exact (a.asymm b).elim
def pG (x:List Nat):Nat->List Nat->Nat
 |b, []=>b
 |b,q::l=>pG x (if x.getD q 0<x.getD b 0 then q else b) l
theorem JC (x:List Nat): ∀(l:List Nat) (b:Nat),pG x b l∈b::l/\ ∀q∈b::l,x.getD (pG x b l) 0<=x.getD q 0
 | [],b=>⟨by simp [pG],λq f=>by simp at f;subst f;exact Nat.le_refl _⟩
 |q::l,b=>by
  have c:=JC x l (if x.getD q 0<x.getD b 0 then q else b);unfold pG;refine⟨?_,λr a=>?_⟩
  ·rcases List.mem_cons.1 c.1 with h|h
   ·rw[h];split<;>simp
   ·exact List.mem_cons_of_mem _ (List.mem_cons_of_mem _ h)
  ·have d:=c.2 _ (List.mem_cons_self ..)
   rcases List.mem_cons.1 a with rfl|a
   ·split at d<;>(split<;>omega)
   ·rcases List.mem_cons.1 a with rfl|a
    ·split at d<;>(split<;>omega)
    ·exact c.2 r (List.mem_cons_of_mem _ a)
def Lx (τ:qD):Nat->Nat->List Nat->List Nat
 |0,_,x=>x
 |d+1,k,x=>Lx τ d (k+1) (if pG x k (τ k).orb=k then x else aM (((τ k).to (pG x k (τ k).orb)).getD []) x)
section
variable {n:Nat} {τ:qD} {G:List Nat->Prop}
theorem TQ: ∀(d k:Nat) (x:List Nat),k+d=n->pX n k τ->aY n x-> ∃h,S n τ k h/\Lx τ d k x=aM h x/\ ∀g,S n τ k g->Le (Lx τ d k x) (aM g x)
 |0,k,x,h,_,X=>by
  obtain rfl:k=n:=oq
  refine⟨aX k,wC.2 rfl,(bX X).symm,λg f=> .inl ?_⟩;rw[wC] at f;subst f;exact (bX X).symm
 |d+1,k,x,h,t,X=>by
  have a:k<n:=oq
  have L:=(t k (Nat.le_refl _) a).1;have i:=t.mono (Nat.le_succ k);obtain⟨F,J⟩:=JC x (τ k).orb k
  have B:pG x k (τ k).orb∈(τ k).orb:=by
   rcases List.mem_cons.1 F with h|h
   ·rw[h];exact L.base
   ·exact h
  obtain⟨y,c⟩:=L.to B;have Y:=L.bF _ y c
  have z:(if pG x k (τ k).orb=k then x else aM (((τ k).to (pG x k (τ k).orb)).getD []) x)=aM y x:=by
   split
   ·rename_i e
    rw[e,L.one] at c;cases c;exact (bX X).symm
   ·rw[c];rfl
  unfold Lx;rw[z];obtain⟨g,f,e,r⟩:=TQ d (k+1) (aM y x) oq i (Y.mul X);have l:=i.bF a f;have s:S n τ k (aM g y):=(qQ a).2 ⟨_,y,g,c,f,rfl⟩;refine⟨aM g y,s,by rw[e,aG l Y X],λu o=>?_⟩;have U:=t.bF oq o;obtain⟨v,m,q⟩:=t.sift a o;have b:=L.mem m;have V:=L.bF _ v m;have N:(aM u x).getD k 0=x.getD (u.getD k 0) 0:=dE (by rw[U.len];exact a)
  have K:(aM g (aM y x)).getD k 0=x.getD (pG x k (τ k).orb) 0:=by
   rw[dE (by rw[l.len];exact a),i.fix a f k oq,dE (by rw[Y.len];exact a),L.maps _ y c]
  have P:=J _ (List.mem_cons_of_mem _ b)
  by_cases w:x.getD (pG x k (τ k).orb) 0<x.getD (u.getD k 0) 0
  ·rw[e]
   refine .inr ⟨k,by rw[fQ,l.len];exact a,λj A=>?_,by rw[N,K];exact w⟩;rw[dE (by rw[l.len];omega),i.fix a f j oq,dE (by rw[Y.len];omega),L.fix _ y c j A,dE (by rw[U.len];omega),t.fix oq o j A]
  ·have p:pG x k (τ k).orb=u.getD k 0:=X.inj (L.lt a B) (L.lt a b) oq
   rw[←p,c] at m;cases m;have:=r _ q;rwa [aG U Y.inv (Y.mul X),←aG Y.inv Y X,dL Y,bX X] at this
structure Yl (n:Nat)(G:List Nat->Prop)(i p:Nat)(x:List Nat):Prop where
 mem:G x
 fix:Fix i x
 maps:x.getD i 0=p
 least: ∀y,G y->Fix i y->y.getD i 0=p->Le x y
theorem Yl.uniq {i p:Nat}(a:Yl n G i p x)(b:Yl n G i p y):x=y:=
 (a.least y b.mem b.fix b.maps).antisymm (b.least x a.mem a.fix a.maps)
structure aV (n:Nat)(G:List Nat->Prop)(O:Al)(R:TH):Prop where
 lo:O.length=n
 lr:R.length=n
 asc: ∀i,i<n->(O.getD i []).Pairwise (· < ·)
 mem: ∀i,i<n-> ∀p,p∈O.getD i []↔ ∃x,G x/\Fix i x/\x.getD i 0=p
 rl: ∀i,i<n->(R.getD i []).length=(O.getD i []).length
 rep: ∀i,i<n-> ∀k,k<(O.getD i []).length->Yl n G i ((O.getD i []).getD k 0) ((R.getD i []).getD k [])
theorem pL: ∀{a b:List Nat},a.Pairwise (· < ·)->b.Pairwise (· < ·)->(∀p,p∈a↔p∈b)->a=b
 | [], [],_,_,_=>rfl
 | [],y::b,_,_,h=>by have:=(h y).2 (by simp);simp at this
 |x::a, [],_,_,h=>by have:=(h x).1 (by simp);simp at this
 |x::a,y::b,ha,hb,h=>by
  obtain⟨k,m⟩:=List.pairwise_cons.1 ha;obtain⟨j,l⟩:=List.pairwise_cons.1 hb
  have e:x=y:=by
   have c:=(h x).1 (by simp);have d:=(h y).2 (by simp);rcases List.mem_cons.1 c with c|c
   ·exact c
   ·rcases List.mem_cons.1 d with d|d
    ·exact d.symm
    ·have:=j x c;have:=k y d;omega
  subst e;congr 1
  refine pL m l λp=>⟨λf=>?_,λf=>?_⟩
  ·rcases List.mem_cons.1 ((h p).1 (List.mem_cons_of_mem _ f)) with e|i
   ·subst e;have:=k p f;omega
   ·exact i
  ·rcases List.mem_cons.1 ((h p).2 (List.mem_cons_of_mem _ f)) with e|i
   ·subst e;have:=j p f;omega
   ·exact i
theorem Hf {α:Type}{d:α}{a b:List α}(f:a.length=b.length)(h: ∀i,i<a.length->a.getD i d=b.getD i d):a=b:=by
 refine List.ext_getElem f λi c j=>?_
 have:=h i c;simpa [List.getD,c,j] using this
theorem aV.uniq {c:Al}{h:TH}(a:aV n G O R)(b:aV n G c h):O=c/\R=h:=by
 have e:O=c:=Hf (d:= []) (by rw[a.lo,b.lo]) λi hi=>by
  rw[a.lo] at hi;exact pL (a.asc i hi) (b.asc i hi) λp=>(a.mem i hi p).trans (b.mem i hi p).symm
 subst e;refine⟨rfl,Hf (d:= []) (by rw[a.lr,b.lr]) λi hi=>?_⟩;rw[a.lr] at hi;refine Hf (d:= []) (by rw[a.rl i hi,b.rl i hi]) λk f=>?_
 rw[a.rl i hi] at f;exact (a.rep i hi k f).uniq (b.rep i hi k f)
theorem aV.congr {H:List Nat->Prop}(a:aV n G O R)(h: ∀x,G x↔H x):aV n H O R:=by
 have:G=H:=funext λx=>propext (h x)
 exact this▸a
theorem pX.chain (t:pX n 0 τ)(K:O.length=n)(N:R.length=n)
  (j: ∀i,i<n->(O.getD i []).Pairwise (· < ·)) (mem: ∀i,i<n-> ∀p,p∈O.getD i []↔p∈(τ i).orb) (J: ∀i,i<n->(R.getD i []).length=(O.getD i []).length)
  (q: ∀i,i<n-> ∀k,k<(O.getD i []).length-> ∀y,(τ i).to ((O.getD i []).getD k 0)=some y->(R.getD i []).getD k []=Lx τ (n-(i+1)) (i+1) y):aV n (S n τ 0) O R:=by
 refine⟨K,N,j,λi hi p=>?_,J,λi hi k f=>?_⟩
 ·have L:=(t i (Nat.zero_le _) hi).1
  have d:=t.mono (Nat.zero_le i)
  rw[mem i hi p]
  constructor
  ·intro l
   obtain⟨y,a⟩:=L.to l
   have B:S n τ i y:=(d.gen hi).2 (L.gen p y a)
   have:=(t.Xc (Nat.zero_le i) oq).1 B
   exact⟨y,this.1,this.2,L.maps p y a⟩
  ·rintro⟨x,c,s,rfl⟩
   obtain⟨y,a,_⟩:=d.sift hi ((t.Xc (Nat.zero_le i) oq).2 ⟨c,s⟩)
   exact L.mem a
 ·have L:=(t i (Nat.zero_le _) hi).1
  have d:=t.mono (Nat.zero_le i)
  have m:=t.mono (Nat.zero_le (i+1))
  have l:(O.getD i []).getD k 0∈O.getD i []:=by
   rw[cW f];exact List.getElem_mem f
  obtain⟨y,a⟩:=L.to ((mem i hi _).1 l)
  rw[q i hi k f y a]
  generalize (O.getD i []).getD k 0=p at a
  have Y:=L.bF p y a
  obtain⟨h,u,e,b⟩:=TQ (n-(i+1)) (i+1) y oq m Y
  have H:=m.bF hi u
  have o:S n τ i (aM h y):=(qQ hi).2 ⟨p,y,h,a,u,rfl⟩
  have w:=(t.Xc (Nat.zero_le i) oq).1 o
  rw[e] at b ⊢
  refine⟨w.1,w.2,?_,λz c s F=>?_⟩
  ·rw[dE (by rw[H.len];exact hi),m.fix hi u i oq,L.maps p y a]
  ·obtain⟨v,A,r⟩:=d.sift hi ((t.Xc (Nat.zero_le i) oq).2 ⟨c,s⟩)
   rw[F,a] at A
   cases A
   have Z:=t.bF (Nat.zero_le _) c
   have:=b _ r
   rwa [aG Z Y.inv Y,dL Y,aZ Z] at this
theorem Ks.group {i:Nat}{c:qD}(a:Ks n i x τ c)(t:pX n i τ)(hi:i<n)(X:aY n x)(z:List Nat):Go.Pm.S n c i z↔bM n (λg=>Go.Pm.S n τ i g∨g=x) z:=by
 have L:=(t i (Nat.le_refl _) hi).1
 have f: ∀g,(Go.Pm.S n τ i g∨g=x)->aY n g:=λg b=>by
  rcases b with b|rfl
  ·exact t.bF oq b
  ·exact X
 rw[a.tw.gen hi];constructor
 ·intro h
  refine h.le (bM.cY f) λg b=>(a.new g b).mono λu d=>?_
  rcases d with d|d
  ·exact .inl ((t.gen hi).2 (bM.of L.gP d))
  ·exact .inr d
 ·intro h
  refine h.le (bM.cY (a.tw i (Nat.le_refl _) hi).1.gP) λg b=>?_
  rcases b with b|rfl
  ·exact ((t.gen hi).1 b).mono a.old
  ·exact a.has
end
end
section
variable {j:Nat} {y:List Nat}
abbrev rX:=Nat->Nat->Option (List Nat)
def ins (t:rX):Nat->Nat->List Nat->Option (Nat×List Nat)
 |0,_,_=>none
 |d+1,i,x=>if x.getD i 0=i then ins t d (i+1) x else
  match t i (x.getD i 0) with
  |none=>some (i,x)
  |some y=>ins t d (i+1) (aM x (bZ y))
def dd:Al->Al
 | []=> []
 |a::l=>if a∈dd l then dd l else a::dd l
theorem Ur {a:List Nat}: ∀{l:Al},a∈dd l↔a∈l
 | []=>Iff.rfl
 |b::l=>by
  unfold dd;have c:=Ur (a:=a) (l:=l);split
  ·rename_i h
   rw[c];constructor
   ·exact List.mem_cons_of_mem _
   ·intro d
    rcases List.mem_cons.1 d with rfl|d
    ·exact c.1 h
    ·exact d
  ·simp [c]
theorem Qw: ∀l:Al,(dd l).Nodup
 | []=>List.nodup_nil
 |b::l=>by
  unfold dd;split
  ·exact Qw l
  ·rename_i h;exact List.nodup_cons.2 ⟨h,Qw l⟩
def fZ (n:Nat)(t:rX)(j:Nat):Al:=(List.range n).flatMap λi=>if j<=i then (List.range n).filterMap λp=>t i p else []
theorem gO {n:Nat}{t:rX}:y∈fZ n t j↔ ∃i p,j<=i/\i<n/\p<n/\t i p=some y:=by
 simp only[fZ,List.mem_flatMap,List.mem_range];constructor
 ·rintro⟨i,hi,h⟩
  split at h
  ·rename_i b
   obtain⟨p,a,e⟩:=List.mem_filterMap.1 h;exact⟨i,p,b,hi,List.mem_range.1 a,e⟩
  ·simp at h
 ·rintro⟨i,p,b,hi,a,e⟩
  refine⟨i,hi,?_⟩;rw[if_pos b];exact List.mem_filterMap.2 ⟨p,List.mem_range.2 a,e⟩
def lF (n:Nat)(t:rX):qD:=λj=>
 {gens:=dd (fZ n t j)
  orb:=(List.range n).filter λp=>p==j||(t j p).isSome
  to:=λp=>if p=j then some (aX n) else t j p
  tr:=λq=>if q=j∨(t j q).isSome then (dd (fZ n t j)).length else 0}
structure pQ (n:Nat)(t:rX):Prop where
 lt: ∀i p y,t i p=some y->i<n/\p<n/\p≠i
 bF: ∀i p y,t i p=some y->aY n y
 fix: ∀i p y,t i p=some y->Fix i y
 maps: ∀i p y,t i p=some y->y.getD i 0=p
def Km (n:Nat)(t:rX):Prop:= ∀a b,a∈fZ n t 0->b∈fZ n t 0->ins t n 0 (aM a b)=none
section
variable {n:Nat} {t:rX}
theorem vX {p:Nat}(T:pQ n t)(b:j<n)(h:(lF n t j).to p=some y):aY n y/\Fix j y/\y.getD j 0=p/\(p=j/\y=aX n∨t j p=some y):=by
 have a:(if p=j then some (aX n) else t j p)=some y:=h;split at a
 ·rename_i e
  cases a;exact⟨aY.one n,Fix.one n j oq,by rw[e];exact fM b,.inl ⟨e,rfl⟩⟩
 ·exact⟨T.bF _ _ _ a,T.fix _ _ _ a,T.maps _ _ _ a,.inr a⟩
theorem RC (T:pQ n t): ∀(d j:Nat) (x:List Nat),j+d=n->S n (lF n t) j x->aY n x/\Fix j x
 |0,j,x,h,hs=>by
  obtain rfl:j=n:=oq
  rw[wC] at hs;subst hs;exact⟨aY.one j,Fix.one j j (Nat.le_refl _)⟩
 |d+1,j,x,h,hs=>by
  obtain⟨p,y,g,a,b,rfl⟩:=(qQ oq).1 hs;obtain⟨G,F⟩:=RC T d (j+1) g oq b;obtain⟨Y,F2,_⟩:=vX T oq a;exact⟨G.mul Y,Fix.mul G oq (F.mono oq) F2⟩
theorem Qo (j:Nat)(a:j<n){x:List Nat}(X:aY n x)(h:S n (lF n t) (j+1) x):S n (lF n t) j x:=
 (qQ a).2 ⟨j,aX n,x,by show (if j=j then some (aX n) else t j j)=_;rw[if_pos rfl],h,(aZ X).symm⟩
theorem Zk: ∀(d j:Nat),j+d=n->S n (lF n t) j (aX n)
 |0,j,h=>by
         obtain rfl:j=n:=oq
         exact wC.2 rfl
 |d+1,j,h=>Qo j oq (aY.one n) (Zk d (j+1) oq)
theorem Qa (T:pQ n t): ∀(d j:Nat) (x:List Nat),j+d=n->aY n x->Fix j x->ins t d j x=none->S n (lF n t) j x
 |0,j,x,h,X,F,_=>by
  obtain rfl:j=n:=oq
  exact wC.2 (F.all X)
 |d+1,j,x,h,X,F,hi=>by
  unfold ins at hi;split at hi
  ·rename_i e
   exact Qo j oq X (Qa T d (j+1) x oq X (F.succ e) hi)
  ·rename_i e
   split at hi
   ·cases hi
   ·rename_i y a
    have Y:=T.bF _ _ _ a;have F2:=T.fix _ _ _ a;refine (qQ oq).2 ⟨x.getD j 0,y,aM x (bZ y),?_,?_,by rw[aG X Y.inv Y,dL Y,aZ X]⟩
    ·show (if x.getD j 0=j then some (aX n) else t j (x.getD j 0))=_
     rw[if_neg e];exact a
    ·refine Qa T d (j+1) _ oq (X.mul Y.inv) ((Fix.mul X oq F (Fix.inv Y oq F2)).succ ?_) hi
     rw[dE (by rw[X.len];omega)];have:=wY Y (show j<n by omega);rwa [T.maps _ _ _ a] at this
theorem Yt: ∀(k d j:Nat) (x:List Nat),Fix (j+k) x->ins t (d+k) j x=ins t d (j+k) x
 |0,_,_,_,_=>rfl
 |k+1,d,j,x,F=>by
  have e:ins t (d+k+1) j x=ins t (d+k) (j+1) x:=by
   show (if x.getD j 0=j then ins t (d+k) (j+1) x else _)=_;rw[if_pos (F j oq)]
  rw[show d+(k+1)=(d+k)+1 from rfl,e,Yt k d (j+1) x (by rw[show j+1+k=j+(k+1) from oq];exact F),show j+1+k=j+(k+1) from oq]
theorem TT (T:pQ n t)(c:Km n t){a b:List Nat}(k:j<=n)(i:a∈fZ n t 0)(l:b∈fZ n t 0)(A:aY n a)(B:aY n b)(f:Fix j a)(d:Fix j b):S n (lF n t) j (aM a b):=by
 have F:=Fix.mul A k f d;have h:=c a b i l;rw[show n=(n-j)+j from oq,Yt j (n-j) 0 _ (by rw[Nat.zero_add];exact F),Nat.zero_add] at h;exact Qa T (n-j) j _ oq (A.mul B) F h
theorem aiQ (T:pQ n t)(h:y∈fZ n t j):S n (lF n t) j y:=by
 obtain⟨i,p,c,b,f,e⟩:=gO.1 h;have Y:=T.bF _ _ _ e
 have a:S n (lF n t) i y:=by
  refine (qQ b).2 ⟨p,y,aX n,?_,Zk (n-(i+1)) (i+1) oq,(bX Y).symm⟩;show (if p=i then some (aX n) else t i p)=_;rw[if_neg (T.lt _ _ _ e).2.2];exact e
 have: ∀k,k<=i->S n (lF n t) (i-k) y:=by
  intro k
  induction k with
  |zero=>intro _;exact a
  |succ k ih=>
   intro d;refine Qo (i-(k+1)) oq Y ?_;rw[show i-(k+1)+1=i-k from oq];exact ih oq
 have:=this (i-j) oq;rwa [show i-(i-j)=j from oq] at this
theorem HY (T:pQ n t)(c:Km n t):pX n 0 (lF n t):=λj _ f=>by
 have d: ∀p,p∈(lF n t j).orb↔((lF n t j).to p).isSome:=by
  intro p;show p∈(List.range n).filter (λp=>p==j||(t j p).isSome)↔(if p=j then some (aX n) else t j p).isSome;rw[List.mem_filter,List.mem_range]
  by_cases e:p=j
  ·subst e;simp [f]
  ·simp only[beq_iff_eq,e,if_neg,Bool.or_eq_true,false_or]
   constructor
   ·exact λh=>h.2
   ·intro h
    obtain⟨y,B⟩:=Option.isSome_iff_exists.1 h;exact⟨(T.lt _ _ _ B).2.1,h⟩
 have a: ∀s,s∈(lF n t j).gens↔s∈fZ n t j:=λs=>Ur
 have b: ∀s,s∈fZ n t j->aY n s/\Fix j s/\s∈fZ n t 0:=λs l=>by
  obtain⟨i,p,v,o,r,e⟩:=gO.1 l;exact⟨T.bF _ _ _ e,(T.fix _ _ _ e).mono v,gO.2 ⟨i,p,Nat.zero_le _,o,r,e⟩⟩
 refine⟨⟨List.nodup_range.filter _,(d j).2 ?_,?_,d,λp y h=>(vX T f h).1,λp y h=>(vX T f h).2.1,λp y h=>(vX T f h).2.2.1,λp y h=>?_,λs l=>(b s ((a s).1 l)).1,λs l=>(b s ((a s).1 l)).2.1,Qw _,λq=>?_,λq x=>?_⟩,λq y B k s hk l=>?_,λq x=>?_,λh s l=>?_⟩
 ·show (if j=j then some (aX n) else t j j).isSome
  rw[if_pos rfl];rfl
 ·show (if j=j then some (aX n) else t j j)=_
  rw[if_pos rfl]
 ·rcases (vX T f h).2.2.2 with ⟨_,rfl⟩|e
  ·exact .one
  ·refine bM.of (λg z=>(b g ((a g).1 z)).1) ((a y).2 (gO.2 ⟨j,p,Nat.le_refl _,f,(T.lt _ _ _ e).2.1,e⟩))
 ·show (if q=j∨(t j q).isSome then (dd (fZ n t j)).length else 0)<=_
  split
  ·exact Nat.le_refl _
  ·exact Nat.zero_le _
 ·show (if q=j∨(t j q).isSome then (dd (fZ n t j)).length else 0)=0
  rw[if_neg];rintro (e|e)
  ·exact x ((d q).2 (by show (if q=j then some (aX n) else t j q).isSome;rw[if_pos e];rfl))
  ·refine x ((d q).2 ?_)
   show (if q=j then some (aX n) else t j q).isSome;split
   ·rfl
   ·exact e
 ·--closure
  have w:s∈fZ n t j:=(a s).1 (List.mem_of_getElem? l);obtain⟨J,L,A⟩:=b s w;obtain⟨Y,P,Z,m⟩:=vX T f B
  have Q:S n (lF n t) j (aM y s):=by
   rcases m with ⟨_,rfl⟩|e
   ·rw[bX J];exact aiQ T w
   ·exact TT T c oq (gO.2 ⟨j,q,Nat.zero_le _,f,(T.lt _ _ _ e).2.1,e⟩) A Y J P L
  obtain⟨p,u,g,v,o,r⟩:=(qQ f).1 Q;obtain⟨U,W,R,_⟩:=vX T f v;obtain⟨F,N⟩:=RC T (n-(j+1)) (j+1) g oq o
  have O:(aM y s).getD j 0=p:=by
   rw[r,dE (by rw[F.len];exact f),N j oq,R]
  refine⟨u,by rw[O];exact v,?_⟩;rw[r,aG F U U.inv,cG U,aZ F];exact o
 ·show (if q=j∨(t j q).isSome then (dd (fZ n t j)).length else 0)=(dd (fZ n t j)).length
  rw[if_pos];have:=(d q).1 x;have K:(if q=j then some (aX n) else t j q).isSome:=this;split at K
  ·rename_i e;exact .inl e
  ·exact .inr K
 ·have G:s∈fZ n t (j+1):=Ur.1 l
  obtain⟨i,p,v,o,r,e⟩:=gO.1 G;exact bM.of (λg z=>(b g ((a g).1 z)).1) ((a s).2 (gO.2 ⟨i,p,oq,o,r,e⟩))
theorem ED (T:pQ n t)(c:Km n t)(a:0<n)(x:List Nat):S n (lF n t) 0 x↔bM n (· ∈fZ n t 0) x:=by
 rw[(HY T c).gen a];have:(λg=>g∈(lF n t 0).gens)=λg=>g∈fZ n t 0:=funext λg=>propext Ur
 rw[this]
def put (t:rX)(i p:Nat)(x:List Nat):rX:=λj q=>if j=i/\q=p then some x else t j q
def jK (t:rX)(n:Nat)(x:List Nat):rX:=match ins t n 0 x with
 |none=>t
 |some (i,r)=>put t i (r.getD i 0) r
theorem Ax (T:pQ n t): ∀(d j:Nat) (x:List Nat) (i:Nat) (r:List Nat),j+d=n->aY n x->Fix j x->ins t d j x=some (i,r)->
  j<=i/\i<n/\aY n r/\Fix i r/\r.getD i 0≠i/\t i (r.getD i 0)=none/\ ∃w,bM n (· ∈fZ n t 0) w/\x=aM r w
 |0,_,_,_,_,_,_,_,h=>by cases h
 |d+1,j,x,i,r,h,X,F,hi=>by
  unfold ins at hi;split at hi
  ·rename_i e
   obtain⟨m,c⟩:=Ax T d (j+1) x i r oq X (F.succ e) hi;exact⟨oq,c⟩
  ·rename_i e
   split at hi
   ·rename_i s
    cases hi;exact⟨Nat.le_refl _,oq,X,F,e,s,aX n,.one,(aZ X).symm⟩
   ·rename_i y a
    have Y:=T.bF _ _ _ a
    have l: ∀g,g∈fZ n t 0->aY n g:=λg v=>by
     obtain⟨_,_,_,_,_,e⟩:=gO.1 v;exact T.bF _ _ _ e
    obtain⟨m,c,k,p,u,o,w,f,q⟩:=Ax T d (j+1) _ i r oq (X.mul Y.inv) ((Fix.mul X oq F (Fix.inv Y oq (T.fix _ _ _ a))).succ (by
     rw[dE (by rw[X.len];omega)];have:=wY Y (show j<n by omega)
     rwa [T.maps _ _ _ a] at this)) hi
    have b:y∈fZ n t 0:=gO.2 ⟨j,_,Nat.zero_le _,oq,(T.lt _ _ _ a).2.1,a⟩;refine⟨oq,c,k,p,u,o,aM w y,f.mul b,?_⟩;rw[←aG k (f.bF l) Y,←q,aG X Y.inv Y,dL Y,aZ X]
theorem yU (T:pQ n t): ∀(d j:Nat) (x:List Nat),j+d=n->aY n x->Fix j x->ins t d j x=none->bM n (· ∈fZ n t 0) x
 |0,j,x,h,X,F,_=>by
  obtain rfl:j=n:=oq
  rw[F.all X];exact .one
 |d+1,j,x,h,X,F,hi=>by
  unfold ins at hi;split at hi
  ·rename_i e
   exact yU T d (j+1) x oq X (F.succ e) hi
  ·rename_i e
   split at hi
   ·cases hi
   ·rename_i y a
    have Y:=T.bF _ _ _ a
    have b:=yU T d (j+1) _ oq (X.mul Y.inv) ((Fix.mul X oq F (Fix.inv Y oq (T.fix _ _ _ a))).succ (by
     rw[dE (by rw[X.len];omega)];have:=wY Y (show j<n by omega)
     rwa [T.maps _ _ _ a] at this)) hi
    have:=b.mul (gO.2 ⟨j,_,Nat.zero_le _,oq,(T.lt _ _ _ a).2.1,a⟩);rwa [aG X Y.inv Y,dL Y,aZ X] at this
def Sub (t t':rX):Prop:= ∀i p y,t i p=some y->t' i p=some y
theorem Gz {a:rX}(s:Sub t a): ∀(d j:Nat) (x:List Nat),ins t d j x=none->ins a d j x=none
 |0,_,_,_=>rfl
 |d+1,j,x,h=>by
  unfold ins at h ⊢;split at h
  ·rename_i e;rw[if_pos e];exact Gz s d _ _ h
  ·rename_i e
   rw[if_neg e];split at h
   ·cases h
   ·rename_i y b
    rw[s _ _ _ b];exact Gz s d _ _ h
theorem FR {i p:Nat}{x:List Nat}(h:t i p=none):Sub t (put t i p x):=λj q y a=>by
 unfold put;rw[if_neg (λe=>by rw[e.1,e.2,h] at a;cases a)];exact a
theorem Vr (T:pQ n t): ∀(d j:Nat) (x:List Nat) (i:Nat) (r:List Nat),j+d=n->aY n x->Fix j x->ins t d j x=some (i,r)->ins (put t i (r.getD i 0) r) d j x=none
 |0,_,_,_,_,_,_,_,h=>by cases h
 |d+1,j,x,i,r,h,X,F,hi=>by
  obtain⟨m,p,k,f,l,c,_⟩:=Ax T (d+1) j x i r h X F hi;have sub:=FR (t:=t) (x:=r) c;unfold ins at hi ⊢;split at hi
  ·rename_i e;rw[if_pos e];exact Vr T d (j+1) x i r oq X (F.succ e) hi
  ·rename_i e
   rw[if_neg e];split at hi
   ·cases hi
    have:put t j (x.getD j 0) x j (x.getD j 0)=some x:=by unfold put;rw[if_pos ⟨rfl,rfl⟩]
    rw[this];simp only;rw[cG X]
    have: ∀(d j:Nat),j+d=n-> ∀b:rX,ins b d j (aX n)=none:=by
     intro d
     induction d with
     |zero=>intro _ _ _;rfl
     |succ d ih=>intro j o b;unfold ins;rw[if_pos (fM oq)];exact ih (j+1) oq b
    exact this d (j+1) oq _
   ·rename_i y a
    have Y:=T.bF _ _ _ a;rw[sub _ _ _ a]
    exact Vr T d (j+1) _ i r oq (X.mul Y.inv) ((Fix.mul X oq F (Fix.inv Y oq (T.fix _ _ _ a))).succ (by
     rw[dE (by rw[X.len];omega)];have:=wY Y (show j<n by omega)
     rwa [T.maps _ _ _ a] at this)) hi
end
end
section
variable {x:List Nat}
section
variable {n:Nat} {t:rX}
theorem pQ.OK (T:pQ n t){j:Nat}: ∀g,g∈fZ n t j->aY n g:=λg a=>by
 obtain⟨_,_,_,_,_,e⟩:=gO.1 a;exact T.bF _ _ _ e
theorem Sub.refl (t:rX):Sub t t:=λ_ _ _ h=>h
theorem Sub.trans {a b c:rX}(x:Sub a b)(y:Sub b c):Sub a c:=λi p z h=>y i p z (x i p z h)
theorem pQ.empty (n:Nat):pQ n (λ_ _=>none):=⟨λ_ _ _ h=>(by cases h),λ_ _ _ h=>(by cases h),λ_ _ _ h=>(by cases h),λ_ _ _ h=>(by cases h)⟩
theorem abA (T:pQ n t)(X:aY n x):pQ n (jK t n x)/\Sub t (jK t n x)/\ins (jK t n x) n 0 x=none/\ ∀g,g∈fZ n (jK t n x) 0->bM n (λu=>u∈fZ n t 0∨u=x) g:=by
 unfold jK
 cases h:ins t n 0 x with
 |none=>exact⟨T,Sub.refl t,h,λg l=>bM.of (λu c=>by rcases c with c|rfl;exact T.OK u c;exact X) (.inl l)⟩
 |some q=>
  obtain⟨i,r⟩:=q;have o:Fix 0 x:=λk L=>oq
  obtain⟨K,p,d,v,B,A,w,m,z⟩:=Ax T n 0 x i r oq X o h
  have a: ∀j q y,put t i (r.getD i 0) r j q=some y->(j=i/\q=r.getD i 0/\y=r)∨t j q=some y:=λj q y b=>by
   unfold put at b;split at b
   ·rename_i e;cases b;exact .inl ⟨e.1,e.2,rfl⟩
   ·exact .inr b
  refine⟨⟨λj q y b=>?_,λj q y b=>?_,λj q y b=>?_,λj q y b=>?_⟩,FR A,Vr T n 0 x i r oq X o h,λg l=>?_⟩
  ·rcases a j q y b with ⟨rfl,rfl,rfl⟩|h
   ·exact⟨p,d.fX p,B⟩
   ·exact T.lt _ _ _ h
  ·rcases a j q y b with ⟨rfl,rfl,rfl⟩|h
   ·exact d
   ·exact T.bF _ _ _ h
  ·rcases a j q y b with ⟨rfl,rfl,rfl⟩|h
   ·exact v
   ·exact T.fix _ _ _ h
  ·rcases a j q y b with ⟨rfl,rfl,rfl⟩|h
   ·rfl
   ·exact T.maps _ _ _ h
  ·have f: ∀u,(u∈fZ n t 0∨u=x)->aY n u:=λu c=>by
    rcases c with c|rfl
    ·exact T.OK u c
    ·exact X
   obtain⟨j,q,s,F,G,e⟩:=gO.1 l;rcases a j q g e with ⟨_,_,rfl⟩|h
   ·have W:=m.bF T.OK
    have J:g=aM x (bZ w):=by rw[z,aG d W W.inv,cG W,aZ d]
    rw[J];exact (bM.of f (.inr rfl)).app f ((m.mono λu c=>Or.inl c).inv f)
   ·exact bM.of f (.inl (gO.2 ⟨j,q,s,F,G,h⟩))
structure Na (n:Nat)(L:List Nat->Prop)(t:rX):Prop where
 tab:pQ n t
 gen: ∀g,g∈fZ n t 0->bM n L g
variable {L:List Nat->Prop}
theorem Na.ins (a:Na n L t)(d: ∀g,L g->aY n g)(c:bM n L x):Na n L (jK t n x)/\Sub t (jK t n x)/\Go.Pm.ins (jK t n x) n 0 x=none:=by
 obtain⟨f,h,k,j⟩:=abA a.tab (c.bF d);refine⟨⟨f,λg i=>(j g i).le (bM.cY d) λu b=>?_⟩,h,k⟩;rcases b with b|rfl
 ·exact a.gen u b
 ·exact c
theorem Na.group (a:Na n L t)(d: ∀g,L g->aY n g)(f:0<n)(c:Km n t)(hi: ∀g,L g->Go.Pm.ins t n 0 g=none)(x:List Nat):S n (lF n t) 0 x↔bM n L x:=by
 rw[ED a.tab c f];constructor
 ·exact λh=>h.le (bM.cY d) a.gen
 ·exact λh=>h.le (bM.cY a.tab.OK) λg b=>yU a.tab n 0 g oq (d g b) (λk i=>oq) (hi g b)
structure PE (n:Nat)(L:List Nat->Prop)(τ:qD):Prop where
 tw:pX n 0 τ
 group: ∀x,S n τ 0 x↔bM n L x
theorem PE.start (a:0<n):PE n (λ_=>False) (VB n):=by
 refine⟨XV n,λx=>?_⟩;rw[(XV n).gen a];have:(λg=>g∈(VB n 0).gens)=λ_=>False:=funext λg=>propext ⟨λh=>(by cases h),λh=>h.elim⟩
 rw[this]
theorem PE.add {τ d:qD}(a:PE n L τ)(j:0<n)(f: ∀g,L g->aY n g)(X:aY n x)(b:Ks n 0 x τ d):PE n (λg=>L g∨g=x) d:=by
 refine⟨b.tw,λz=>?_⟩
 have i: ∀g,(L g∨g=x)->aY n g:=λg c=>by
  rcases c with c|rfl
  ·exact f g c
  ·exact X
 rw[b.group a.tw j X z];constructor
 ·intro h
  refine h.le (bM.cY i) λg c=>?_
  rcases c with c|rfl
  ·exact ((a.group g).1 c).mono λu k=> .inl k
  ·exact bM.of i (.inr rfl)
 ·intro h
  refine h.mono λg c=>?_
  rcases c with c|rfl
  ·exact .inl ((a.group g).2 (bM.of f c))
  ·exact .inr rfl
theorem PE.congr {M:List Nat->Prop}{τ:qD}(a:PE n L τ)(h: ∀g,L g↔M g):PE n M τ:=by
 have:L=M:=funext λg=>propext (h g)
 exact this▸a
end
def BZ (n:Nat)(R:TH):List Nat->Prop:=bM n λg=>g∈R.flatten
def Valid (n:Nat)(O:Al)(R:TH):Prop:=(∀g∈R.flatten,aY n g)/\aV n (BZ n R) O R
theorem Valid.iff {n:Nat}{O b:Al}{R a:TH}(d: ∀g∈R.flatten,aY n g)(c:aV n (BZ n R) b a):Valid n O R↔O=b/\R=a:=by
 constructor
 ·rintro⟨_,h⟩;exact h.uniq c
 ·rintro⟨rfl,rfl⟩;exact⟨d,c⟩
theorem Valid.cY {n:Nat}{O:Al}{R:TH}(v:Valid n O R):dO n (BZ n R):=bM.cY v.1
end
end Go.Pm
namespace Go.Proofs.YtcdbmkidaecdiaaGreat
open Go Go.Ay Go.Pm
set_option maxRecDepth 100000
def Me (c:Nat):V:=if c<130 then .aD else aC 0
def lv0:Lv:=⟨[], [],λ_=>none,λ_=>0⟩
theorem abW: [V.aD,V.aD,V.aD,V.aD,V.aD,V.aD,V.aD,V.aD,V.aD,V.aD,V.aD,V.aD,V.aD,V.aD,V.aD,V.aD,V.aD,V.aD,V.aD,V.aD,V.aD,V.aD,V.aD,V.aD,V.aD,V.aD,V.aD,V.aD,V.aD,V.aD,V.aD,V.aD,V.aD,V.aD,V.aD,V.aD,V.aD,V.aD,V.aD,V.aD,V.aD,V.aD,V.aD,V.aD,V.aD,V.aD,V.aD,V.aD,V.aD,V.aD,V.aD,V.aD,V.aD,V.aD,V.aD,V.aD,V.aD,V.aD,V.aD,V.aD,V.aD,V.aD,V.aD,V.aD,V.aD,V.aD,V.aD,V.aD,V.aD,V.aD,V.aD,V.aD,V.aD,V.aD,V.aD,V.aD,V.aD,V.aD,V.aD,V.aD,V.aD,V.aD,V.aD,V.aD,V.aD,V.aD,V.aD,V.aD,V.aD,V.aD,V.aD,V.aD,V.aD,V.aD,V.aD,V.aD,V.aD,V.aD,V.aD,V.aD,V.aD,V.aD,V.aD,V.aD,V.aD,V.aD,V.aD,V.aD,V.aD,V.aD,V.aD,V.aD,V.aD,V.aD,V.aD,V.aD,V.aD,V.aD,V.aD,V.aD,V.aD,V.aD,V.aD,V.aD,V.aD,V.aD,V.aD,V.aD,V.aD,V.aD,(aC 0),(aC 0),(aC 0),(aC 0),(aC 0),(aC 0),(aC 0),(aC 0),(aC 0),(aC 0),(aC 0),(aC 0),(aC 0),(aC 0),(aC 0),(aC 0),(aC 0),(aC 0),(aC 0),(aC 0),(aC 0),(aC 0),(aC 0),(aC 0),(aC 0),(aC 0),(aC 0),(aC 0),(aC 0),(aC 0),(aC 0),(aC 0),(aC 0),(aC 0),(aC 0),(aC 0),(aC 0),(aC 0),(aC 0),(aC 0),(aC 0),(aC 0),(aC 0),(aC 0),(aC 0),(aC 0),(aC 0),(aC 0),(aC 0),(aC 0),(aC 0),(aC 0),(aC 0),(aC 0),(aC 0),(aC 0),(aC 0),(aC 0),(aC 0),(aC 0),(aC 0),(aC 0),(aC 0),(aC 0)]=rc 194 Me:=rfl
theorem MM (n:Nat):dP (rc 194 Me) (n*194)=rc (n*194) λc=>Me (c%194):=by
 refine List.ext_getElem (by simp [dP,iQ]) λi a b=>?_
 simp [dP,rc];rw[List.getElem?_range (Nat.mod_lt _ om)];rfl
def QQ (n i:Nat):qD:=λj=>if j<i then VB n j else lv0
theorem tC.congr {h:H}{n c L:Nat}{F:Nat->V}{τ f:qD}(R:tC h n c L F τ)(e: ∀j,j<n->τ j=f j):tC h n c L F f:=
 ⟨R.t,R.l,R.tn,R.ln,R.tw,λj p a b=>by rw[←e j a];exact R.to j p a b,λj p a b=>by rw[←e j a];exact R.iv j p a b,λj p a b=>by rw[←e j a];exact R.tr j p a b,
  λj d=>by rw[←e j d];exact R.gens j d,λj d=>by rw[←e j d];exact R.orb j d,R.Rh,R.ap⟩
theorem Zd (n:Nat)(h:H)(h0:0<n)(hn:n<=7):
  Ev T 192 [aC n] h (λv h'=> ∃tid L F,v= .ptr tid 0/\tC h' n tid L F (VB n)/\Fr h h'/\ ∀id,WT n L F id->h.next<=id):=by
 refine dW xY rfl ?_
 have hm:Jz h 194 3632 (rc 194 Me) (aC n) (aC n)=some (.sl h.next 0 n (.kn n),h.new (.cells false (rc (n*194) λc=>Me (c%194)))):=by
  rw[uM om (Int.le_refl _) om om,DK,MM]
 obtain⟨w,K⟩: ∃w:Nat->V,w=λc=>Me (c%194):=⟨_,rfl⟩
 obtain⟨L,P⟩:=exI h.next
 rw[P,←K] at hm
 simp(disch:=omega)only[go_sem,xY,aE,abW,hm,WZ (z1:= aC 0) (z2:= .aD) (v:= aC n) (u:= .sl L 0 n (.kn n)) rfl rfl rfl rfl,qP _ (v:= aC n) (u:= .sl L 0 n (.kn n)) rfl rfl,P]
 obtain⟨d,m⟩: ∃d,d=(h.new (.cells false (rc (n*194) w))).new (.cells false [aC n,.sl L 0 n (.kn n)]):=⟨_,rfl⟩
 rw[←m]
 have g1:d.get L=some (.cells false (rc (n*194) w)):=by rw[m,H.bG _ (by rw[H.aW];omega),←P,H.aL]
 have g2:d.get (L+1)=some (.cells false [aC n,.sl L 0 n (.kn n)]):=by
  rw[m];have:=H.aL (h.new (.cells false (rc (n*194) w))) (.cells false [aC n,.sl L 0 n (.kn n)]);rwa [H.aW,P] at this
 have n2:d.next=L+2:=by rw[m,H.aW,H.aW,P]
 have f2:Fr h d:=by rw[m];exact ((Fr.refl h).new _).new _
 clear m hm
 have Z: ∀s,s<2*n->uU w s= .aD:=λs _=>by
  unfold uU Me at*;rw[K];simp only;rw[bJ om]
 have w0: ∀id,WT n L w id->id=L:=λid y=>by
  rcases y with e|⟨s,hs,a4,len,c,e⟩
  ·exact e
  ·rw[Z s hs] at e;cases e
 have z0: ∀j c,c<194->w (j*194+c)=Me c:=λj c hc=>by
  rw[K];simp only;rw[Nat.mul_comm,Nat.mul_add_mod,Nat.mod_eq_of_lt hc]
 have z1: ∀j b c,b+c<194->w (j*194+b+c)=Me (b+c):=λj b c hc=>by rw[Nat.add_assoc];exact z0 j (b+c) hc
 have R:tC d n (L+1) L w (QQ n 0):=by
  refine⟨g2,g1,om,om,λy=>by have:=w0 _ y;omega,λj p a d=>?_,λj p a d=>?_,λj p a d=>?_,λj hj=>⟨[],?_,trivial⟩,λj hj=>?_,λs s' a d _=>?_,λs a=>?_⟩
  ·rw[z1 j 2 p om];unfold Me;rw[bJ om];rfl
  ·rw[z1 j 66 p om];unfold Me;rw[bJ om];rfl
  ·rw[z1 j 130 p om];unfold Me;rw[bU om];rfl
  ·have:=z0 j 0 om
   rw[Nat.add_zero] at this;rw[this];exact dH.aD ..
  ·rw[z0 j 1 om];exact dH.aD ..
  ·rw[Z s a];intro i o n c e;cases e
  ·rw[Z s a];exact dR.aD _
 have a3:d.cell (L+1) 1=some (.sl L 0 n (.kn n)):=by rw[H.aF g2];rfl
 simp(disch:=omega)only[go_sem,a3]
 refine aI (λk' J hh=> ∃(i:Nat) (F:Nat->V),(∃g:Nat->V,J= [aC n,g 1,.ptr (L+1) 0,g 3,g 4,aC n,aC i,g 7])/\i<=n/\tC hh n (L+1) L F (QQ n i)/\Fr h hh/\(∀id,WT n L F id->h.next<=id)/\k'=n-i) n
  ⟨0,w,aB rfl,iB _,R,f2,λid y=>by rw[w0 id y];omega,rfl⟩ ?_
 clear R g1 g2 n2 f2 Z w0 z0 z1
 rintro k' J h3 ⟨i,F,⟨g,rfl⟩,hi,R,f,y,rfl⟩
 simp(disch:=omega)only[go_sem]
 by_cases Q:(i:Int)<(n:Int)
 ·rw[cI Q]
  have N:i<n:=om
  have cl:h3.cell (L+1) 1=some (.sl L 0 n (.kn n)):=by rw[H.aF R.t];rfl
  have ln:=R.ln
  have hN:i*194+194<=n*194:=om
  have e0:QQ n i i=lv0:=by unfold QQ;rw[bU om]
  simp(disch:=omega)only[go_sem,cl,cK h3 (z:= aC 0) (v:= aC i) rfl rfl,R.l,Kb]
  obtain⟨x,A⟩: ∃x,x=(h3.new (.cells false [aC i])).set L (some (.cells false (rc (n*194) (F1 F (i*194+1) (.sl h3.next 0 1 (.kn 1)))))):=⟨_,rfl⟩
  rw[←A]
  have p4:vG h3 (F (i*194+1)) 0 1 1 [] [aC i] (h3.new (.cells false [aC i])):=⟨H.aL ..,H.aW ..,λk hk _=>H.bG h3 hk _⟩
  obtain⟨Y,f4,w4⟩:=R.SX N (q:=i) (v:= .sl h3.next 0 1 (.kn 1)) (by rw[e0];exact p4) (.inr rfl) (by rw[e0];rfl) A
  obtain⟨G,a0⟩: ∃G,G=F1 F (i*194+1) (.sl h3.next 0 1 (.kn 1)):=⟨_,rfl⟩
  rw[←a0] at Y w4
  have n4:x.next=h3.next+1:=by rw[A,H.cV,H.aW]
  have O: ∀id,WT n L G id->h.next<=id:=λid a=>by
   by_cases d:id<h3.next
   ·exact y id (w4 id d a)
   ·have:=f.next;omega
  have a2:Fr h x:=⟨mY f.next f4.next,λid a=>(f4.get id (jM a f.next) λd=>by have:=y id d;omega).trans (f.get id a)⟩
  clear A
  generalize U:wM (QQ n i) i {QQ n i i with orb:=(QQ n i i).orb++ [i]}=B at Y
  have e4:B i={lv0 with orb:= [i]}:=by rw[←U,cM,e0];rfl
  refine (Uk wG.ok n (H.mk x.tr (h3.next+1+16)) om).mono ?_
  rintro va h5 na
  simp(disch:=omega)only[go_sem]
  refine (Uk wG.ok n h5 om).mono ?_
  rintro vb h6 nb
  have f5:Fr x h5:=((Fr.refl x).bH om:Fr x (H.mk x.tr (h3.next+1+16))).trans na.fr
  have R6:=Y.mono (f5.trans nb.fr)
  have pa:=(na.pv (W:=WT n L G) (λa=>by have:=Y.Pg a;simp at this;omega)).mono nb.fr
  have pb:=nb.pv (W:=WT n L G) (λa=>by have:=Y.Pg a;have:=f5.next;omega)
  have a1:PV (WT n L G) h6 vb (bZ (aX n)):=by rw[oX];exact pb
  simp(disch:=omega)only[go_sem,R6.l,kP pa.fG.1 pa.fG.2,kP pb.fG.1 pb.fG.2,Kb]
  obtain⟨R7,f7,w7⟩:=R6.way N (q:=i) om pa a1 (h3:=(h6.set L (some (Ob.cells false (rc (n*194) (F1 G (i*194+2+i) va))))).set L (some (Ob.cells false (rc (n*194) (F1 (F1 G (i*194+2+i) va) (i*194+66+i) vb))))) (fN _) (λid a _=>by rw[H.aH _ a,H.aH _ a]) (by rw[H.aU])
  have eT:wM B i {B i with to:=λr=>if r=i then some (aX n) else (B i).to r}=QQ n (i+1):=by
   funext j
   by_cases e:j=i
   ·subst e
    rw[cM,e4];unfold QQ;rw[bJ om]
    rfl
   ·rw[fD _ _ e,←U,fD _ _ e]
    unfold QQ
    by_cases e2:j<i
    ·rw[bJ e2,bJ om]
    ·rw[bU e2,bU om]
  rw[eT] at R7
  have f6:=a2.trans (f5.trans nb.fr)
  rw[fJ i]
  refine⟨n-(i+1),om,i+1,_,aB rfl,om,R7,⟨mY f6.next f7.next,λid a=>(f7.get id (jM a f6.next) λd=>by have:=O id d;omega).trans (f6.get id a)⟩,λid a=>O id ((w7 id).1 a),rfl⟩
 rw[bI Q]
 obtain rfl:i=n:=om
 simp(disch:=omega)only[go_sem]
 have eT:tC h3 i (L+1) L F (VB i):=R.congr λj hj=>by unfold QQ;rw[bJ hj]
 exact⟨L+1,L,F,rfl,eT,f,λid a=>by have:=y id a;omega⟩
abbrev SP (h:H)(v:V)(l:LN):Prop:=SR h v (l.map zi)
theorem xJ {h:H}{ws:List V}{l:LN}(a:aN (SI h) ws (l.map zi)){i:Nat}(hi:i<l.length):SI h (ws.getD i .undef) (zi (l.getD i [])):=by
 have:=FJ a (i:=i) (by simpa using hi);rwa [show (l.map zi).getD i []=zi (l.getD i []) by simp [List.getD,hi]] at this
theorem HN {W:Nat->Prop}{h:H}{b:Nat}{v:V}{l:List Int}(s:SI h v l)(d:h.next<=b)(a: ∀id,W id->b<=id):Oa W v:=by
 cases v with
 |sl id off len cap=>exact λc=>by have:=s.in _ _ _ _ rfl;have:=a id c;omega
 |_=>trivial
theorem MO {l:LN}{i:Nat}(hi:i<l.length)(g:List Nat):g∈l.take (i+1)↔g∈l.take i∨g=l.getD i []:=by
 rw[List.take_add_one,dD hi,oD];simp [List.getD,hi]
theorem BD (n:Nat)(r:V)(l:LN)(h:H)(p:0<n)(N:n<=7)(hl:l.length<1000000)(Q:SP h r l)(K: ∀g∈l,aY n g):
  Ev T 141 [aC n,r] h (λv h'=> ∃tid L F τ,v= .ptr tid 0/\tC h' n tid L F τ/\PE n (· ∈l) τ/\Fr h h'/\ ∀id,WT n L F id->h.next<=id):=by
 refine dW Eg rfl ?_
 simp(disch:=omega)only[go_sem,Eg,aE]
 refine (Zd n h p N).mono ?_
 rintro _ d ⟨tid,L,F,rfl,R,f,c⟩
 have O:=Q.lens
 rw[iA] at O
 obtain⟨id,s,G,P,j,x,A,o⟩:=Q.open
 rw[iA] at P j x A
 simp(disch:=omega)only[go_sem,O]
 refine aI (λz b B=> ∃(i:Nat) (F:Nat->V) (τ:qD),(∃g:Nat->V,b= [aC n,r,g 2,.ptr tid 0,g 4,r,aC (l.length:Int),aC i,g 8])/\i<=l.length/\tC B n tid L F τ/\PE n (· ∈l.take i) τ/\Fr h B/\(∀id,WT n L F id->h.next<=id)/\z=l.length-i) l.length
  ⟨0,F,VB n,aB rfl,iB _,R,(PE.start p).congr (by simp),f,c,rfl⟩ ?_
 clear R f c F
 rintro z b q ⟨i,F,τ,⟨g,rfl⟩,hi,R,t,f,c,rfl⟩
 simp(disch:=omega)only[go_sem]
 by_cases m:(i:Int)<(l.length:Int)
 ·rw[cI m]
  have a:i<l.length:=om
  have ci:q.cell id (s+i)=some (G.getD i .undef):=by rw[f.cell (j om),A i a]
  have y:=xJ o a
  have pv:PV (WT n L F) q (G.getD i .undef) (l.getD i []):=⟨y.mono f,HN y (fN _) c⟩
  have X:aY n (l.getD i []):=K _ (by simp [List.getD,a])
  simp(disch:=omega)only[go_sem,P.ixa,ci]
  refine (ahX n N p q tid L F τ _ _ R pv X (λk hk=>om) t.tw).mono ?_
  rintro vv h3 ⟨U,w,R3,Z,J,w3⟩
  have W:=(t.add p (λg Y=>K g (List.mem_of_mem_take Y)) X Z).congr λg=>(MO a g).symm
  simp(disch:=omega)only[go_sem]
  rw[fJ i]
  refine⟨l.length-(i+1),om,i+1,U,w,aB rfl,om,R3,W,⟨mY f.next J.next,λid d=>(J.get id (jM d f.next) λu=>by have:=c id u;omega).trans (f.get id d)⟩,λid d=>?_,rfl⟩
  by_cases u:id<q.next
  ·exact c id (w3 id u d)
  ·have:=f.next;omega
 rw[bI m]
 obtain rfl:i=l.length:=om
 simp(disch:=omega)only[go_sem]
 exact⟨tid,L,F,τ,rfl,R,t.congr λg=>by rw[List.take_length],f,c⟩
theorem Sf (x:List Nat)(l:List Nat){i:Nat}(hi:i<l.length)(b:Nat):pG x b (l.drop i)=pG x (if x.getD (l.getD i 0) 0<x.getD b 0 then l.getD i 0 else b) (l.drop (i+1)):=by
 rw[Zh hi,cW hi];rfl
theorem XQ (h:H)(n l L:Nat)(F:Nat->V)(τ:qD)(vx:V)(x:List Nat)(i:Nat)(hn:n<=7)(R:tC h n l L F τ)(hx:PV (WT n L F) h vx x)(X:aY n x)(b2:i<n)(t:pX n (i+1) τ):
  Ev T 196 [.ptr l 0,vx,aC i] h (λv h'=>PV (WT n L F) h' v (Lx τ (n-(i+1)) (i+1) x)/\aY n (Lx τ (n-(i+1)) (i+1) x)/\Fr h h'):=by
 refine dW sJ rfl ?_
 simp(disch:=omega)only[go_sem,sJ,aE]
 rw[fJ i]
 refine aI (λk' c hh=> ∃(k:Nat) (y:List Nat) (P:V),(∃g:Nat->V,c= [.ptr l 0,P,g 2,g 3,aC k,g 5,g 6,g 7,g 8,g 9,g 10,g 11,g 12,g 13])/\i<k/\k<=n/\Lx τ (n-k) k y=Lx τ (n-(i+1)) (i+1) x/\
   PV (WT n L F) hh P y/\aY n y/\Fr h hh/\k'=n-k) (n-(i+1))
  ⟨i+1,x,vx,aB rfl,om,om,rfl,hx,X,Fr.refl h,rfl⟩ ?_
 rintro k' c O ⟨k,y,P,⟨g,rfl⟩,b1,a9,o,hy,Y,f,rfl⟩
 have R2:=R.mono f
 have ct:O.cell l 0=some (aC n):=by rw[H.aF R2.t];rfl
 have cl:O.cell l 1=some (.sl L 0 n (.kn n)):=by rw[H.aF R2.t];rfl
 simp(disch:=omega)only[go_sem,ct,cl]
 by_cases a1:(k:Int)<(n:Int)
 case neg=>
  rw[bI a1];obtain rfl:k=n:=om
  rw[Nat.sub_self] at o;simp(disch:=omega)only[go_sem];rw[←o];exact⟨hy,Y,f⟩
 have d:k<n:=om
 rw[cI a1]
 have co:O.cell L (k*194+1)=some (F (k*194+1)):=R2.cell d om
 have oo:=R2.orb k d
 have lo:=dH.lens oo (by rw[aP,aS])
 have nG:=(t k om d).1
 have b0:=YF nG d
 simp(disch:=omega)only[go_sem,cl,co,lo]
 obtain⟨id,a4,sh,Z,hc⟩:=(show SI O (F (k*194+1)) (zi (τ k).orb) from oo.sv).open
 rw[aS] at sh Z hc
 obtain⟨W,A,a3,p,N⟩:=hy.si.open
 rw[aS,Y.len] at a3 p N
 refine aI (λm' c hh=> ∃(m b:Nat),(∃g:Nat->V,c= [.ptr l 0,P,g 2,g 3,aC k,aC b,g 6,g 7,F (k*194+1),aC ((τ k).orb.length:Int),aC m,g 11,g 12,g 13])/\m<=(τ k).orb.length/\b<n/\b∈k::(τ k).orb/\
   pG y b ((τ k).orb.drop m)=pG y k (τ k).orb/\Fr O hh/\m'=(τ k).orb.length-m) (τ k).orb.length
  ⟨0,k,aB rfl,iB _,d,tQ ..,rfl,Fr.refl O,rfl⟩ ?_
 rintro m' c w ⟨m,b,⟨g3,rfl⟩,hm,hb,a0,a,B,rfl⟩
 simp(disch:=omega)only[go_sem]
 by_cases z:(m:Int)<((τ k).orb.length:Int)
 ·rw[cI z]
  have r:m<(τ k).orb.length:=om
  rw[Sf _ _ r] at a
  have cq:w.cell id (a4+m)=some (aC ((τ k).orb.getD m 0:Nat)):=by rw[B.cell (Z om),hc m r];congr 2;simp [zi,r]
  have K:(τ k).orb.getD m 0∈(τ k).orb:=by rw[cW r];exact xG r
  have s:=nG.lt d K
  generalize (τ k).orb.getD m 0=q at cq K s a
  have c1:w.cell W (A+q)=some (aC (y.getD q 0:Nat)):=by rw[B.cell (p om),N q s];congr 2;simp [zi,Y.len,s]
  have c2:w.cell W (A+b)=some (aC (y.getD b 0:Nat)):=by rw[B.cell (p om),N b hb];congr 2;simp [zi,Y.len,hb]
  simp(disch:=omega)only[go_sem,sh.ixa,cq,a3.ixa,c1,c2]
  have fb:Fr O (H.mk w.tr (w.next+9)):=B.bH om
  by_cases a2:((y.getD q 0:Nat):Int)<((y.getD b 0:Nat):Int)
  ·rw[cI a2]
   rw[bJ om] at a
   simp(disch:=omega)only[go_sem]
   rw[fJ m]
   exact⟨(τ k).orb.length-(m+1),om,m+1,q,aB rfl,om,s,wI _ K,a,fb,rfl⟩
  ·rw[bI a2]
   rw[bU om] at a
   simp(disch:=omega)only[go_sem]
   rw[fJ m]
   exact⟨(τ k).orb.length-(m+1),om,m+1,b,aB rfl,om,hb,a0,a,fb,rfl⟩
 rw[bI z]
 have em:m=(τ k).orb.length:=om
 rw[em,List.drop_length] at a
 have a:b=pG y k (τ k).orb:=a
 have J:n-k=(n-(k+1))+1:=om
 rw[J] at o
 have o:Lx τ (n-(k+1)) (k+1) (if pG y k (τ k).orb=k then y else aM (((τ k).to (pG y k (τ k).orb)).getD []) y)=Lx τ (n-(i+1)) (i+1) x:=o
 rw[←a] at o
 have R3:=R2.mono B
 have Q:=hy.mono B
 simp(disch:=omega)only[go_sem]
 by_cases G:b=k
 ·rw[bJ G] at o
  have e0:decide ((b:Int)≠(k:Int))=false:=bI om
  simp(disch:=omega)only[go_sem,e0]
  rw[fJ k]
  exact⟨n-(k+1),om,k+1,y,P,aB rfl,om,om,o,Q,Y,f.trans B,rfl⟩
 rw[bU G] at o
 have e0:decide ((b:Int)≠(k:Int))=true:=cI om
 have a8:w.cell l 1=some (.sl L 0 n (.kn n)):=by rw[H.aF R3.t];rfl
 have a6:b∈(τ k).orb:=by
  rcases vI.1 a0 with e|e
  ·exact absurd e G
  ·exact e
 obtain⟨u,hu⟩:=nG.to a6
 have U:=nG.bF _ _ hu
 have a7:w.cell L (k*194+2+b)=some (F (k*194+2+b)):=R3.Si d om
 have a5:PV (WT n L F) w (F (k*194+2+b)) u:=by
  have:=R3.to k b d om;rw[hu] at this;exact this
 rw[hu] at o
 simp(disch:=omega)only[go_sem,e0,a8,a7]
 refine (nZ oM.ok _ P u y w (by rw[U.len];omega) a5.si Q.si (λj hj=>by rw[Y.len];exact U.fX (by rw[←U.len];exact hj))).mono ?_
 rintro v h4 nw
 simp(disch:=omega)only[go_sem]
 rw[fJ k]
 exact⟨n-(k+1),om,k+1,_,v,aB rfl,om,om,o,nw.pv (λhw=>by have:=R3.Pg hw;omega),U.mul Y,(f.trans B).trans nw.fr,rfl⟩
end Go.Proofs.YtcdbmkidaecdiaaGreat
namespace Go.Proofs.YtcdbmkidaecdiaaGreat
open Go Go.Ay Go.Sort
set_option maxRecDepth 100000
section
variable {h:H} {S N i j a:Nat} {d:Array Int} {lt:Int->Int->Bool}
structure dY (h:H)(S N:Nat)(d:Array Int):Prop where
 get:h.get S=bB (ints d.toList)
 size:d.size=N
 lt:S<h.next
theorem dY.rd (A:dY h S N d)(hi:i<N):h.cell S i=some (aC d[i]!):=by
 have b:i<d.size:=by rw[A.size];exact hi
 rw[H.aF A.get];simp [ints,b]
theorem dY.fr {h':H}(A:dY h S N d)(f:Fr h h'):dY h' S N d:=⟨by rw[f.get _ A.lt];exact A.get,A.size,jM A.lt f.next⟩
theorem cJ (hi:i<d.size)(b:H)(S:Nat)(x:Int):eU (bB (ints d.toList)) b S i [aC x]=some (b.set S (bB (ints (d.setIfInBounds i x).toList))):=by
 rw[Sb (by simpa using hi),Array.toList_setIfInBounds]
theorem bW {y:Int}(hi:i<d.size)(b:H)(S:Nat)(x:Int):eU (bB (ints (d.setIfInBounds j y).toList)) b S i [aC x]=some (b.set S (bB (ints ((d.setIfInBounds j y).setIfInBounds i x).toList))):=
 cJ (by simpa using hi) b S x
theorem dY.swap {h2:H}(A:dY h S N d){nx:Nat}(b:h.next<=nx)(e:h2=((H.mk h.tr nx).set S (bB (ints (d.setIfInBounds i d[j]!).toList))).set S (bB (ints ((d.setIfInBounds i d[j]!).setIfInBounds j d[i]!).toList))):dY h2 S N (swp d i j)/\Fx (· =S) h h2:=by
 subst e;refine⟨⟨?_,?_,jM A.lt b⟩,⟨b,λid _ c=>?_⟩⟩
 ·rw[H.aU];rfl
 ·have:=A.size;simp [swp,this]
 ·rw[H.aH _ c,H.aH _ c];rfl
theorem Cw (a:Int)(h:H):Ev T 198 [aC a] h (λv h'=>v= .bool false/\h'=h):=by
 refine dW nY rfl ?_;have e:decide (a≠a)=false:=bI om;simp(disch:=omega)only[go_sem,nY,aE,e]
theorem iC (a b:Int)(h:H):Ev T 144 [aC a,aC b] h (λv h'=>v= .bool (ltInt a b)/\Fr h h'):=by
 refine dW Bk rfl ?_;simp(disch:=omega)only[go_sem,Bk,aE];refine (Cw a h).mono ?_;rintro _ c ⟨rfl,rfl⟩;simp(disch:=omega)only[go_sem];exact⟨rfl,Fr.refl _⟩
theorem gZ {a b c:H}(x:Fx (· =S) a b)(y:Fx (· =S) b c):Fx (· =S) a c:=x.trans y λ_ _ h=>h
theorem EI (b:a<j+1)(h2:lt d[j+1]! d[j]! =true):insInner lt a (j+1) d=insInner lt a j (swp d (j+1) j):=by
 rw[insInner,bJ (by simp [b,h2])]
theorem DO (h2:lt d[j+1]! d[j]! =false):insInner lt a (j+1) d=d:=by
 rw[insInner,bU (by simp [h2])]
theorem CL (h:j<=a):insInner lt a j d=d:=by
 cases j with
 |zero=>rfl
 |succ j=>rw[insInner,bU (by simp;omega)]
theorem yY (h:H)(S N a b:Nat)(d:Array Int)(v:pY)(Z:N<1000000)(A:dY h S N d)(Y:b<=N)(O:a<=b):
  Ev T 234 [.sl S 0 N v,aC a,aC b] h (λ_ h'=>dY h' S N (insertionSort ltInt d a b)/\Fx (· =S) h h'):=by
 refine dW iX rfl ?_
 simp(disch:=omega)only[go_sem,iX,aE]
 rw[fJ a]
 refine aI (λq c r=> ∃(i:Nat) (e:Array Int),(∃g:Nat->V,c= [.sl S 0 N v,aC a,aC b,aC i,g 4,g 5,g 6])/\a<i/\i<=b+1/\dY r S N e/\insOuter ltInt a b i e=insertionSort ltInt d a b/\Fx (· =S) h r/\q=b+1-i) (b+1-(a+1))
  ⟨a+1,d,aB rfl,om,om,A,rfl,Fx.refl _ h,rfl⟩ ?_
 clear A
 rintro q c U ⟨i,e,⟨g,rfl⟩,Q,L,A,f,F,rfl⟩
 simp(disch:=omega)only[go_sem]
 by_cases t:(i:Int)<(b:Int)
 case neg=>
  rw[bI t];simp(disch:=omega)only[go_sem];rw[insOuter,bU om] at f;rw[←f];exact⟨A,F⟩
 rw[cI t]
 rw[insOuter,bJ om] at f
 simp(disch:=omega)only[go_sem]
 refine aI (λq c r=> ∃(j:Nat) (l:Array Int),(∃g:Nat->V,c= [.sl S 0 N v,aC a,aC b,aC i,aC j,g 5,g 6])/\a<=j/\j<=i/\dY r S N l/\insInner ltInt a j l=insInner ltInt a i e/\Fx (· =S) h r/\q=j) i
  ⟨i,e,aB rfl,om,om,A,rfl,F,rfl⟩ ?_
 clear A F
 rintro q c o ⟨j,l,⟨g2,rfl⟩,B,G,A,n,F,hk⟩
 have sz:=A.size
 by_cases s:(a:Int)<(j:Int)
 ·obtain⟨m,rfl⟩: ∃m,j=m+1:=⟨j- 1,om⟩
  have J:=A.rd (i:=m+1) om
  have K:=A.rd (i:=m) om
  have w:=cI s
  have x:((m+1:Nat):Int)- 1=(m:Int):=om
  simp(disch:=omega)only[go_sem,w,x,J,K]
  refine (iC _ _ _).mono ?_
  rintro _ z ⟨rfl,u⟩
  have k:Fr o z:=Fr.trans ((Fr.refl o).bH om) u
  have p:=A.fr k
  have R:=p.rd (i:=m+1) om
  have P:=p.rd (i:=m) om
  cases hl:ltInt l[m+1]! l[m]! with
  |false=>
   rw[DO hl] at n;simp(disch:=omega)only[go_sem,hl];rw[fJ i];rw[←n] at f;exact⟨b+1-(i+1),om,i+1,l,aB rfl,om,om,p,f,gZ F (Fx.of k),rfl⟩
  |true=>
   rw[EI om hl] at n;simp(disch:=omega)only[go_sem,hl,x,R,P,p.get,cJ,bW];have W:=p.swap (i:=m+1) (j:=m) (nx:=z.next+18) om rfl;exact⟨m,om,m,_,aB rfl,om,om,W.1,n,gZ (gZ F (Fx.of k)) W.2,rfl⟩
 ·have w:=bI s
  rw[CL om] at n
  simp(disch:=omega)only[go_sem,w]
  rw[fJ i]
  rw[←n] at f
  have y:Fr o (H.mk o.tr (o.next+15)):=(Fr.refl o).bH om
  exact⟨b+1-(i+1),om,i+1,l,aB rfl,om,om,A.fr y,f,gZ F (Fx.of y),rfl⟩
end
def EO (lt:Int->Int->Bool)(hi first root:Nat)(d:Array Int):Nat:=if 2*root+1+1<hi/\lt d[first+(2*root+1)]! d[first+(2*root+1)+1]! =true then 2*root+2 else 2*root+1
theorem Hk {lt:Int->Int->Bool}(hi first a:Nat)(d:Array Int):siftDown lt hi first a d=if 2*a+1≥hi then d else
  if lt d[first+a]! d[first+EO lt hi first a d]! =true then siftDown lt hi first (EO lt hi first a d) (swp d (first+a) (first+EO lt hi first a d)) else d:=by
 rw[siftDown]
 unfold EO
 by_cases b:2*a+1≥hi
 ·rw[dif_pos b,bJ b]
 ·rw[dif_neg b,bU b]
  by_cases c:2*a+1+1<hi/\lt d[first+(2*a+1)]! d[first+(2*a+1)+1]! =true
  ·rw[bJ (by simpa using c),bJ c]
   cases h3:lt d[first+a]! d[first+(2*a+2)]!
   ·simp
   ·simp [show 2*a+2<hi by omega]
  ·rw[bU (by simpa using c),bU c]
   cases h3:lt d[first+a]! d[first+(2*a+1)]! <;>simp
theorem rU  (h:H)(S N u hi first:Nat)(d:Array Int)(Z:pY)(hN:N<1000000)(A:dY h S N d)(hb:first+hi<=N)(L:u<=hi):
  Ev T 257 [.sl S 0 N Z,aC u,aC hi,aC first] h (λ_ h'=>dY h' S N (siftDown ltInt hi first u d)/\Fx (· =S) h h'):=by
 refine dW kZ rfl ?_
 simp(disch:=omega)only[go_sem,kZ,aE]
 refine aI (λU q Y=> ∃(r:Nat) (e:Array Int),(∃g:Nat->V,q= [.sl S 0 N Z,aC u,aC hi,aC first,aC r,g 5,g 6,g 7,g 8])/\r<=hi/\dY Y S N e/\siftDown ltInt hi first r e=siftDown ltInt hi first u d/\Fx (· =S) h Y/\U=hi-r) (hi-u)
  ⟨u,d,aB rfl,L,A,rfl,Fx.refl _ h,rfl⟩ ?_
 clear A
 rintro U q o ⟨r,e,⟨g,rfl⟩,hr,A,a,F,rfl⟩
 have O:2*(r:Int)+1=((2*r+1:Nat):Int):=om
 by_cases y:(hi:Int)<=((2*r+1:Nat):Int)
 ·have J:=cI y
  simp(disch:=omega)only[go_sem,O,J]
  rw[Hk,bJ om] at a
  rw[←a]
  exact⟨A,F⟩
 have J:=bI y
 rw[Hk,bU om] at a
 have K:((2*r+1:Nat):Int)+1=((2*r+2:Nat):Int):=om
 have c:(first:Int)+(r:Int)=((first+r:Nat):Int):=om
 have l:(first:Int)+((2*r+1:Nat):Int)=((first+(2*r+1):Nat):Int):=om
 have B:(first:Int)+((2*r+2:Nat):Int)=((first+(2*r+2):Nat):Int):=om
 have Q:((first+(2*r+1):Nat):Int)+1=((first+(2*r+1)+1:Nat):Int):=om
 have sz:=A.size
 by_cases z:((2*r+2:Nat):Int)<(hi:Int)
 ·have R:=cI z
  have n:=A.rd (i:=first+(2*r+1)) om
  have w:=A.rd (i:=first+(2*r+1)+1) om
  simp(disch:=omega)only[go_sem,O,J,K,R,l,Q,n,w]
  refine (iC _ _ _).mono ?_
  rintro _ G ⟨rfl,P⟩
  have x:Fr o G:=Fr.trans ((Fr.refl o).bH om) P
  have v:=A.fr x
  have m:=v.rd (i:=first+r) om
  have n:=v.rd (i:=first+(2*r+1)) om
  have w:=v.rd (i:=first+(2*r+2)) om
  cases hl:ltInt e[first+(2*r+1)]! e[first+(2*r+1)+1]! with
  |false=>
   have f:EO ltInt hi first r e=2*r+1:=bU (by rw[hl];simp)
   rw[f] at a;simp(disch:=omega)only[go_sem,hl,c,l,m,n];refine (iC _ _ _).mono ?_;rintro _ t ⟨rfl,k⟩;have s:Fr G t:=Fr.trans ((Fr.refl G).bH om) k;have b:=v.fr s;have m:=b.rd (i:=first+r) om;have n:=b.rd (i:=first+(2*r+1)) om;have p:=gZ (gZ F (Fx.of x)) (Fx.of s)
   cases hl2:ltInt e[first+r]! e[first+(2*r+1)]! with
   |false=>
    rw[bU (by rw[hl2];simp)] at a;simp(disch:=omega)only[go_sem,hl2];rw[←a];exact⟨b,p⟩
   |true=>
    rw[bJ hl2] at a;simp(disch:=omega)only[go_sem,hl2,c,l,m,n,b.get,cJ,bW];have W:=b.swap (i:=first+r) (j:=first+(2*r+1)) (nx:=t.next+24) om rfl;exact⟨hi-(2*r+1),om,2*r+1,_,aB rfl,om,W.1,a,gZ p W.2,rfl⟩
  |true=>
   have f:EO ltInt hi first r e=2*r+2:=bJ ⟨om,hl⟩
   rw[f] at a;simp(disch:=omega)only[go_sem,hl,K,c,B,m,w];refine (iC _ _ _).mono ?_;rintro _ t ⟨rfl,k⟩;have s:Fr G t:=Fr.trans ((Fr.refl G).bH om) k;have b:=v.fr s;have m:=b.rd (i:=first+r) om;have w:=b.rd (i:=first+(2*r+2)) om;have p:=gZ (gZ F (Fx.of x)) (Fx.of s)
   cases hl2:ltInt e[first+r]! e[first+(2*r+2)]! with
   |false=>
    rw[bU (by rw[hl2];simp)] at a;simp(disch:=omega)only[go_sem,hl2];rw[←a];exact⟨b,p⟩
   |true=>
    rw[bJ hl2] at a;simp(disch:=omega)only[go_sem,hl2,c,B,m,w,b.get,cJ,bW];have W:=b.swap (i:=first+r) (j:=first+(2*r+2)) (nx:=t.next+24) om rfl;exact⟨hi-(2*r+2),om,2*r+2,_,aB rfl,om,W.1,a,gZ p W.2,rfl⟩
 ·have R:=bI z
  have f:EO ltInt hi first r e=2*r+1:=bU om
  rw[f] at a
  have x:Fr o (H.mk o.tr (o.next+20)):=(Fr.refl o).bH om
  have v:=A.fr x
  have m:=A.rd (i:=first+r) om
  have n:=A.rd (i:=first+(2*r+1)) om
  simp(disch:=omega)only[go_sem,O,J,K,R,c,l,m,n]
  refine (iC _ _ _).mono ?_
  rintro _ t ⟨rfl,k⟩
  have s:Fr o t:=Fr.trans ((Fr.refl o).bH om) k
  have b:=A.fr s
  have m:=b.rd (i:=first+r) om
  have n:=b.rd (i:=first+(2*r+1)) om
  have p:=gZ F (Fx.of s)
  cases hl2:ltInt e[first+r]! e[first+(2*r+1)]! with
  |false=>
   rw[bU (by rw[hl2];simp)] at a;simp(disch:=omega)only[go_sem,hl2];rw[←a];exact⟨b,p⟩
  |true=>
   rw[bJ hl2] at a;simp(disch:=omega)only[go_sem,hl2,c,l,m,n,b.get,cJ,bW];have W:=b.swap (i:=first+r) (j:=first+(2*r+1)) (nx:=t.next+24) om rfl;exact⟨hi-(2*r+1),om,2*r+1,_,aB rfl,om,W.1,a,gZ p W.2,rfl⟩
theorem Bq  (h:H)(S N a b:Nat)(d:Array Int)(t:pY)(y:N<1000000)(A:dY h S N d)(hb:b<=N)(Q:a<=b):
  Ev T 235 [.sl S 0 N t,aC a,aC b] h (λ_ h'=>dY h' S N (heapSort ltInt d a b)/\Fx (· =S) h h'):=by
 refine dW kT rfl ?_
 obtain⟨n,Y⟩:=exI (b-a)
 have O:(b:Int)-(a:Int)=(n:Int):=om
 have P:((n:Int)- 1).tdiv 2=(((n- 1)/2+1:Nat):Int)- 1:=by
  by_cases U:n=0
  ·subst U;decide
  ·rw[Int.tdiv_eq_ediv_of_nonneg om];omega
 simp(disch:=omega)only[go_sem,kT,aE,O,P]
 refine aI (λf c r=> ∃(k:Nat) (e:Array Int),(∃g:Nat->V,c= [.sl S 0 N t,aC a,aC b,aC a,aC 0,aC n,aC ((k:Int)- 1),g 7,g 8,g 9])/\k<=n+1/\(k=1∨k<=n)/\dY r S N e/\heapBuild ltInt n a k e=heapBuild ltInt n a ((n- 1)/2+1) d/\Fx (· =S) h r/\f=k) ((n- 1)/2+1)
  ⟨(n- 1)/2+1,d,aB rfl,om,om,A,rfl,Fx.refl _ h,rfl⟩ ?_
 clear A
 rintro f c B ⟨k,e,⟨g,rfl⟩,p,w,A,u,F,x⟩
 subst x
 by_cases l:(0:Int)<=(f:Int)- 1
 ·have o:=cI l
  obtain⟨m,rfl⟩: ∃m,f=m+1:=⟨f- 1,om⟩
  have q:((m+1:Nat):Int)- 1=(m:Int):=om
  rw[q] at o
  rw[q]
  simp(disch:=omega)only[go_sem,o]
  refine (rU B S N m n a e t y A om om).mono ?_
  rintro _ z ⟨R,F2⟩
  simp(disch:=omega)only[go_sem]
  exact⟨m,om,m,_,aB rfl,om,om,R,u,gZ F F2,rfl⟩
 have o:=bI l
 obtain rfl:f=0:=om
 have u:e=heapBuild ltInt n a ((n- 1)/2+1) d:=u
 simp(disch:=omega)only[go_sem,o]
 refine aI (λf c r=> ∃(k:Nat) (s:Array Int),(∃g:Nat->V,c= [.sl S 0 N t,aC a,aC b,aC a,aC 0,aC n,g 6,aC ((k:Int)- 1),g 8,g 9])/\k<=n/\dY r S N s/\heapPop ltInt a k s=heapPop ltInt a n e/\Fx (· =S) h r/\f=k) n
  ⟨n,e,aB rfl,om,A,rfl,F,rfl⟩ ?_
 clear A F l o p w
 rintro f c z ⟨k,s,⟨g,rfl⟩,p,A,v,F,x⟩
 subst x
 have sz:=A.size
 by_cases l:(0:Int)<=(f:Int)- 1
 ·have o:=cI l
  obtain⟨m,rfl⟩: ∃m,f=m+1:=⟨f- 1,om⟩
  have q:((m+1:Nat):Int)- 1=(m:Int):=om
  rw[q] at o
  rw[q]
  have Z:(a:Int)+(m:Int)=((a+m:Nat):Int):=om
  have K:=A.rd (i:=a+m) om
  have L:=A.rd (i:=a) om
  simp(disch:=omega)only[go_sem,o,Z,K,L,A.get,cJ,bW]
  have W:=A.swap (i:=a) (j:=a+m) (nx:=z.next+20) om rfl
  have G:=rU _ S N 0 m a _ t y W.1 om om
  refine G.mono ?_
  rintro _ h3 ⟨J,F3⟩
  simp(disch:=omega)only[go_sem]
  exact⟨m,om,m,_,aB rfl,om,J,v,gZ (gZ F W.2) F3,rfl⟩
 have o:=bI l
 obtain rfl:f=0:=om
 simp(disch:=omega)only[go_sem,o]
 have v:s=heapPop ltInt a n e:=v
 have:heapSort ltInt d a b=s:=by unfold heapSort;rw[Y,v,u]
 rw[this]
 exact⟨A,F⟩
def ZN (op:BinOp)(k:IntKind)(x y:V):Option V:=match x,y with
 | .int j a,.int _ b=>if j=k then Fq op k a b else none
 |_,_=>none
theorem Hj (ρ:X->V)(h:H)(op:BinOp)(k:IntKind)(x y:X):fC ρ h (.shf op k x y)=(ZN op k (ρ x) (ρ y)).map (·,h):=by
 simp only[fC,ZN];cases ρ x<;>cases ρ y<;>try rfl
 simp only;split<;>rfl
theorem Cd (op:BinOp)(k j:IntKind)(a b:Int):ZN op k (.int k a) (.int j b)=Fq op k a b:=by simp [ZN]
theorem Yk (n:Int):0<=IntKind.u64.wrap n/\IntKind.u64.wrap n<18446744073709551616:=by
 unfold IntKind.wrap;simp only[IntKind.bits,IntKind.signed];have:=Int.emod_nonneg n (show (18446744073709551616:Int)≠0 by omega);have:=Int.emod_lt_of_pos n (show (0:Int)<18446744073709551616 by omega);simp;omega
theorem fS {n:Int}(a:0<=n)(h2:n<18446744073709551616):IntKind.u64.wrap n=n:=by
 unfold IntKind.wrap;simp only[IntKind.bits,IntKind.signed];have:n%18446744073709551616=n:=Int.emod_eq_of_lt a h2;simp;exact this
theorem zG {n:Int}(a:0<=n)(h2:n<256):IntKind.u8.wrap n=n:=by
 unfold IntKind.wrap;simp only[IntKind.bits,IntKind.signed];have:n%256=n:=Int.emod_eq_of_lt a h2;simp;exact this
theorem IP (a b:Int)(c:0<=b): ∃y,Fq .shl .u64 a b=some (.int .u64 y)/\0<=y/\y<18446744073709551616:=by
 unfold Fq;rw[bU om];exact⟨_,rfl,Yk _⟩
theorem adV (a b:Int)(c:0<=b): ∃y,Fq .shr .u64 a b=some (.int .u64 y):=by
 unfold Fq;rw[bU om];exact⟨_,rfl⟩
theorem LV {x:Nat}:Fq .shr .u64 (x:Int) 8=some (.int .u64 ((x/256:Nat):Int)):=by
 unfold Fq;rw[bU om];simp only;congr 2;show Int.fdiv (x:Int) 256=_;rw[Int.fdiv_eq_ediv_of_nonneg _ om];rfl
theorem Vi (a b:Int): ∃y,arith .xor .u64 a b=some (.int .u64 y)/\0<=y/\y<18446744073709551616:=⟨_,rfl,Yk _⟩
theorem IU (a:Int)(b:Nat)(c:b<18446744073709551616): ∃y:Nat,arith .and .u64 a (b:Int)=some (.int .u64 (y:Int))/\y<=b:=by
 refine⟨(BitVec.ofInt 64 a&&&BitVec.ofInt 64 (b:Int)).toNat,?_,?_⟩
 ·rw[KQ]
  congr 2;show IntKind.u64.wrap (((BitVec.ofInt 64 a&&&BitVec.ofInt 64 (b:Int)).toNat:Nat):Int)=_;have:=(BitVec.ofInt 64 a&&&BitVec.ofInt 64 (b:Int)).isLt;generalize (BitVec.ofInt 64 a&&&BitVec.ofInt 64 (b:Int)).toNat=w at*;exact fS om om
 ·rw[BitVec.toNat_and]
  have:(BitVec.ofInt 64 (b:Int)).toNat=b:=by
   simp [BitVec.toNat_ofInt];omega
  rw[this];exact Nat.and_le_right
theorem PZ: ∀z,z<256->([0,1,2,2,3,3,3,3,4,4,4,4,4,4,4,4,5,5,5,5,5,5,5,5,5,5,5,5,5,5,5,5,6,6,6,6,6,6,6,6,6,6,6,6,6,6,6,6,6,6,6,6,6,6,6,6,6,6,6,6,6,6,6,6,7,7,7,7,7,7,7,7,7,7,7,7,7,7,7,7,7,7,7,7,7,7,7,7,7,7,7,7,7,7,7,7,7,7,7,7,7,7,7,7,7,7,7,7,7,7,7,7,7,7,7,7,7,7,7,7,7,7,7,7,7,7,7,7,8,8,8,8,8,8,8,8,8,8,8,8,8,8,8,8,8,8,8,8,8,8,8,8,8,8,8,8,8,8,8,8,8,8,8,8,8,8,8,8,8,8,8,8,8,8,8,8,8,8,8,8,8,8,8,8,8,8,8,8,8,8,8,8,8,8,8,8,8,8,8,8,8,8,8,8,8,8,8,8,8,8,8,8,8,8,8,8,8,8,8,8,8,8,8,8,8,8,8,8,8,8,8,8,8,8,8,8,8,8,8,8,8,8,8,8,8,8,8,8,8,8,8,8,8,8,8,8][z]? :Option Nat)=some (bitsLen z):=by decide+kernel
theorem IS {z:Nat}(b:z<256):ZG (.str [0,1,2,2,3,3,3,3,4,4,4,4,4,4,4,4,5,5,5,5,5,5,5,5,5,5,5,5,5,5,5,5,6,6,6,6,6,6,6,6,6,6,6,6,6,6,6,6,6,6,6,6,6,6,6,6,6,6,6,6,6,6,6,6,7,7,7,7,7,7,7,7,7,7,7,7,7,7,7,7,7,7,7,7,7,7,7,7,7,7,7,7,7,7,7,7,7,7,7,7,7,7,7,7,7,7,7,7,7,7,7,7,7,7,7,7,7,7,7,7,7,7,7,7,7,7,7,7,8,8,8,8,8,8,8,8,8,8,8,8,8,8,8,8,8,8,8,8,8,8,8,8,8,8,8,8,8,8,8,8,8,8,8,8,8,8,8,8,8,8,8,8,8,8,8,8,8,8,8,8,8,8,8,8,8,8,8,8,8,8,8,8,8,8,8,8,8,8,8,8,8,8,8,8,8,8,8,8,8,8,8,8,8,8,8,8,8,8,8,8,8,8,8,8,8,8,8,8,8,8,8,8,8,8,8,8,8,8,8,8,8,8,8,8,8,8,8,8,8,8,8,8,8,8,8,8]) (.int .u8 (z:Int))=some (.int .u8 ((bitsLen z:Nat):Int)):=by
 have c:bitsLen z<=8:=(bitsLen_le_iff z 8).2 om;have a:=PZ z b;generalize ([0,1,2,2,3,3,3,3,4,4,4,4,4,4,4,4,5,5,5,5,5,5,5,5,5,5,5,5,5,5,5,5,6,6,6,6,6,6,6,6,6,6,6,6,6,6,6,6,6,6,6,6,6,6,6,6,6,6,6,6,6,6,6,6,7,7,7,7,7,7,7,7,7,7,7,7,7,7,7,7,7,7,7,7,7,7,7,7,7,7,7,7,7,7,7,7,7,7,7,7,7,7,7,7,7,7,7,7,7,7,7,7,7,7,7,7,7,7,7,7,7,7,7,7,7,7,7,7,8,8,8,8,8,8,8,8,8,8,8,8,8,8,8,8,8,8,8,8,8,8,8,8,8,8,8,8,8,8,8,8,8,8,8,8,8,8,8,8,8,8,8,8,8,8,8,8,8,8,8,8,8,8,8,8,8,8,8,8,8,8,8,8,8,8,8,8,8,8,8,8,8,8,8,8,8,8,8,8,8,8,8,8,8,8,8,8,8,8,8,8,8,8,8,8,8,8,8,8,8,8,8,8,8,8,8,8,8,8,8,8,8,8,8,8,8,8,8,8,8,8,8,8,8,8,8,8]:List Nat)=l at*;unfold ZG;simp only;rw[bJ om,DK,a];simp only[Option.map_some];rw[Nat.mod_eq_of_lt om]
theorem WV {x:Nat}(h:256<=x):bitsLen x=8+bitsLen (x/256):=by
 apply Nat.le_antisymm
 ·rw[bitsLen_le_iff,Nat.pow_add]
  have:=lt_two_pow_bitsLen (x/256);omega
 ·have a:=lt_two_pow_bitsLen x
  have d: ¬bitsLen x<=8:=λc=>by rw[bitsLen_le_iff] at c;omega
  obtain⟨k,b⟩: ∃k,bitsLen x=8+k:=⟨bitsLen x- 8,om⟩
  rw[b,Nat.pow_add] at a;have:bitsLen (x/256)<=k:=(bitsLen_le_iff _ _).2 om;omega
theorem SO (x:Nat)(h:H)(i:x<65536):Ev T 177 [.int .u64 (x:Int)] h (λv h'=>v= aC (bitsLen x:Nat)/\h'=h):=by
 refine dW pP rfl ?_;have c:decide ((4294967296:Int)<=(x:Int))=false:=bI om;have b:decide ((65536:Int)<=(x:Int))=false:=bI om
 by_cases d:256<=x
 ·have a:decide ((256:Int)<=(x:Int))=true:=cI om
  have j:=WV d;have f:bitsLen (x/256)<=8:=(bitsLen_le_iff _ 8).2 om;simp(disch:=omega)only[go_sem,pP,aE,c,b,a,Hj,Cd,LV,IT,IS,zG];exact⟨by congr 1;omega,trivial⟩
 ·have a:decide ((256:Int)<=(x:Int))=false:=bI om
  have f:bitsLen x<=8:=(bitsLen_le_iff _ 8).2 om;simp(disch:=omega)only[go_sem,pP,aE,c,b,a,IT,IS,zG];exact⟨by congr 1;omega,trivial⟩
theorem CV (x:Nat)(h:H)(a:x<65536):Ev T 128 [.int .u64 (x:Int)] h (λv h'=>v= aC (bitsLen x:Nat)/\h'=h):=by
 refine dW zV rfl ?_;simp(disch:=omega)only[go_sem,zV,aE];refine (SO x h a).mono ?_;rintro _ _ ⟨rfl,rfl⟩;simp(disch:=omega)only[go_sem]
theorem HO (n:Nat)(h:H)(b:n<65536):Ev T 212 [aC n] h (λv h'=>v= .int .u64 ((2^bitsLen n:Nat):Int)/\h'=h):=by
 refine dW oQ rfl ?_;have f:bitsLen n<=16:=(bitsLen_le_iff _ 16).2 om;have d:2^bitsLen n<=2^16:=Nat.pow_le_pow_right om f;obtain⟨m,a⟩:=exI (2^bitsLen n);rw[a] at d ⊢
 have c:Fq .shl .u64 1 ((bitsLen n:Nat):Int)=some (.int .u64 (m:Int)):=by
  unfold Fq;rw[bU om];simp only[DK,IntKind.bits];rw[Nat.min_eq_left om];have e:(1:Int)*2^bitsLen n=(m:Int):=by rw[Int.one_mul,←a];push_cast;rfl
  rw[e,fS om om]
 simp(disch:=omega)only[go_sem,oQ,aE,fS (n:=(n:Int)) om om];refine (CV n h b).mono ?_;rintro _ _ ⟨rfl,rfl⟩;simp(disch:=omega)only[go_sem,Hj,Cd,c]
theorem HK (R:Nat)(x:Int)(h:H)(m:h.get R=some (.cells false [.int .u64 x]))(z:R<h.next):
  Ev T 213 [.ptr R 0] h (λv h'=> ∃y,v= .int .u64 y/\h'.get R=some (.cells false [.int .u64 y])/\Fx (· =R) h h'):=by
 refine dW pM rfl ?_
 have r:h.cell R 0=some (.int .u64 x):=by rw[H.aF m];rfl
 obtain⟨s,b,_⟩:=IP x 13 om
 obtain⟨l,k,_⟩:=Vi x s
 obtain⟨t,f⟩:=adV l 7 om
 obtain⟨n,d,_⟩:=Vi l t
 obtain⟨p,c,_⟩:=IP n 17 om
 obtain⟨q,i,_⟩:=Vi n p
 have o: ∀(u w:Int) (a:H),eU (some (.cells false [.int .u64 u])) a R 0 [.int .u64 w]=some (a.set R (some (.cells false [.int .u64 w]))):=λu w a=>bT (by simp) a R _
 simp(disch:=omega)only[go_sem,pM,aE,r,Hj,Cd,b,k,f,d,c,i,m,o]
 exact⟨q,rfl,rfl,⟨by simp only[H.cV];omega,λid _ j=>by
  rw[H.aH _ j,H.xZ,H.aH _ j,H.xZ,H.aH _ j,H.xZ]⟩⟩
theorem dY.NT  {h h':H}{S N R:Nat}{d:Array Int}(A:dY h S N d)(f:Fx (· =R) h h')(a:R≠S):dY h' S N d:=⟨by rw[f.get S A.lt (λe=>a e.symm)];exact A.get,A.size,jM A.lt f.next⟩
theorem Ge  (h:H)(S N a b:Nat)(d:Array Int)(n:pY)(w:N<1000000)(A:dY h S N d)(v:b<=N)(q:a<b):
  Ev T 238 [.sl S 0 N n,aC a,aC b] h (λ_ h'=>dY h' S N (reverseRange d a b)/\Fx (· =S) h h'):=by
 refine dW jH rfl ?_
 have u:(b:Int)- 1=((b- 1:Nat):Int):=om
 simp(disch:=omega)only[go_sem,jH,aE,u]
 refine aI (λc f o=> ∃(i j:Nat) (e:Array Int),(∃g:Nat->V,f= [.sl S 0 N n,aC a,aC b,aC i,aC j,g 5])/\j<b/\i<=b/\dY o S N e/\reverseLoop i j e=reverseLoop a (b- 1) d/\Fx (· =S) h o/\c=j) (b- 1)
  ⟨a,b- 1,d,aB rfl,om,om,A,rfl,Fx.refl _ h,rfl⟩ ?_
 clear A
 rintro c f p ⟨i,j,e,⟨g,rfl⟩,x,hi,A,k,F,r⟩
 subst r
 have sz:=A.size
 rw[reverseLoop] at k
 by_cases l:(i:Int)<(c:Int)
 ·have m:=cI l
  rw[bJ om] at k
  have s:=A.rd (i:=i) om
  have t:=A.rd (i:=c) om
  simp(disch:=omega)only[go_sem,m,s,t,A.get,cJ,bW]
  have W:=A.swap (i:=i) (j:=c) (nx:=p.next+16) om rfl
  rw[show (i:Int)+1=((i+1:Nat):Int) from om,show (c:Int)- 1=((c- 1:Nat):Int) from om]
  exact⟨c- 1,om,i+1,c- 1,_,aB rfl,om,om,W.1,k,gZ F W.2,rfl⟩
 have m:=bI l
 rw[bU om] at k
 simp(disch:=omega)only[go_sem,m]
 unfold reverseRange
 rw[←k]
 exact⟨A,F⟩
theorem Ow (n:Nat){k:Int}{m:Nat}(a:k=(m:Int)):(n:Int).tdiv k=((n/m:Nat):Int):=by
 rw[a,Int.tdiv_eq_ediv_of_nonneg om];rfl
theorem Pb  (h:H)(S N a b:Nat)(d:Array Int)(cp:pY)(hN:N<60000)(A:dY h S N d)(hb:b<=N)(a1:a<=b):
  Ev T 236 [.sl S 0 N cp,aC a,aC b] h (λ_ h'=> ∃e,dY h' S N e/\PermIn a b d e/\Fx (· =S) h h'):=by
 refine dW fV rfl ?_
 obtain⟨n,hn⟩:=exI (b-a)
 have en:(b:Int)-(a:Int)=(n:Int):=om
 by_cases h8:(8:Int)<=(n:Int)
 case neg=>
  have e8:=bI h8;simp(disch:=omega)only[go_sem,fV,aE,en,e8];exact⟨d,A,permIn_refl d a b,Fx.refl _ h⟩
 have e8:=cI h8
 have G:=Ow n (k:=4) (m:=4) rfl
 obtain⟨q,hq⟩:=exI (n/4)
 rw[hq] at G
 have ei:(a:Int)+(q:Int)*2- 1=((a+q*2- 1:Nat):Int):=om
 have ej:(a:Int)+(q:Int)*2+1=((a+q*2+1:Nat):Int):=om
 have hp:=two_pow_bitsLen_le (show 0<n by omega)
 have L:=lt_two_pow_bitsLen n
 obtain⟨m,hm⟩:=exI (2^bitsLen n)
 rw[hm] at hp L
 obtain⟨R,Z⟩:=exI h.next
 have U:R≠S:=by have:=A.lt;omega
 have P: ∀c:H,eU (bB [.int .u64 0]) c R 0 [.int .u64 (n:Int)]=some (c.set R (bB [.int .u64 (n:Int)])):=λc=>bT (by simp) c R _
 have r:(h.new (.cells false [.int .u64 0])).get R=bB [.int .u64 0]:=by rw[←Z,H.aL]
 simp(disch:=omega)only[go_sem,fV,aE,en,e8,Z,fS (n:=(n:Int)) om om,r,P]
 obtain⟨l,f⟩: ∃l,l=(h.new (.cells false [.int .u64 0])).set R (bB [.int .u64 (n:Int)]):=⟨_,rfl⟩
 rw[←f]
 have g1:l.get R=bB [.int .u64 (n:Int)]:=by rw[f,H.aU]
 have n1:l.next=R+1:=by rw[f,H.cV,H.aW,Z]
 have K:Fr h l:=by rw[f];exact ((Fr.refl h).new _).set om _
 clear f
 refine (HO n l om).mono ?_
 rintro _ a3 ⟨rfl,c⟩
 rw[c,hm]
 simp(disch:=omega)only[go_sem,G,ei]
 refine aI (λk' p c=> ∃(i:Nat) (e:Array Int) (x:Int),(∃g:Nat->V,p= [.sl S 0 N cp,aC a,aC b,aC n,.ptr R 0,.int .u64 (m:Int),aC i,g 7,g 8,g 9,g 10])/\a<=i/\i<=a+q*2+2/\dY c S N e/\PermIn a b d e/\c.get R=bB [.int .u64 x]/\R<c.next/\Fx (· =S) h c/\k'=a+q*2+2-i) (a+q*2+2-(a+q*2- 1))
  ⟨a+q*2- 1,d,_,aB rfl,om,om,A.fr K,permIn_refl d a b,g1,om,Fx.of K,rfl⟩ ?_
 clear A g1 n1 K c l
 rintro k' p l ⟨i,e,x,⟨g,rfl⟩,u,a0,A,Q,gR,nR,F,rfl⟩
 by_cases v:(i:Int)<=((a+q*2+1:Nat):Int)
 case neg=>
  have e1:=bI v;simp(disch:=omega)only[go_sem,G,ej,e1];exact⟨e,A,Q,F⟩
 have e1:=cI v
 simp(disch:=omega)only[go_sem,G,ej,e1]
 refine (HK R x l gR nR).mono ?_
 rintro _ J ⟨y,rfl,t,F2⟩
 have o:=A.NT F2 U
 obtain⟨w,hw,a2⟩:=IU y (m- 1) om
 have em:(m:Int)- 1=((m- 1:Nat):Int):=om
 have sz:=o.size
 have z:Fx (· =S) h J:=⟨mY F.next F2.next,λid h3 h4=>(F2.get id (jM h3 F.next) (λe=>by have:id=R:=e;omega)).trans (F.get id h3 h4)⟩
 have B:R<J.next:=jM nR F2.next
 by_cases s:(n:Int)<=(w:Int)
 ·have Y:=cI s
  have e3:(w:Int)-(n:Int)=((w-n:Nat):Int):=om
  have e5:(a:Int)+((w-n:Nat):Int)=((a+(w-n):Nat):Int):=om
  have O:=o.rd (i:=i) om
  have c2:=o.rd (i:=a+(w-n)) om
  simp(disch:=omega)only[go_sem,em,fS (n:=((m- 1:Nat):Int)) om om,hw,Y,e3,e5,O,c2,o.get,cJ,bW]
  have W:=o.swap (i:=i) (j:=a+(w-n)) (nx:=J.next+20) om rfl
  rw[fJ i]
  refine⟨a+q*2+2-(i+1),om,i+1,_,y,aB rfl,om,om,W.1,permIn_trans _ _ _ a b Q (swp_permIn e a b i (a+(w-n)) u om om om om),?_,jM B W.2.next,gZ z W.2,rfl⟩
  exact t
 ·have Y:=bI s
  have e5:(a:Int)+(w:Int)=((a+w:Nat):Int):=om
  have O:=o.rd (i:=i) om
  have c2:=o.rd (i:=a+w) om
  simp(disch:=omega)only[go_sem,em,fS (n:=((m- 1:Nat):Int)) om om,hw,Y,e5,O,c2,o.get,cJ,bW]
  have W:=o.swap (i:=i) (j:=a+w) (nx:=J.next+20) om rfl
  rw[fJ i]
  refine⟨a+q*2+2-(i+1),om,i+1,_,y,aB rfl,om,om,W.1,permIn_trans _ _ _ a b Q (swp_permIn e a b i (a+w) u om om om om),?_,jM B W.2.next,gZ z W.2,rfl⟩
  exact t
structure BY (h h':H)(R:Nat):Prop where
 get: ∃s,h'.get R=bB [aC s]
 fx:Fx (· =R) h h'
theorem BY.trans {a b c:H}{R:Nat}(x:BY a b R)(y:BY b c R):BY a c R:=⟨y.get,x.fx.trans y.fx λ_ _ h=>h⟩
theorem qJ  (h:H)(S N a b R:Nat)(d:Array Int)(r:pY)(x:N<1000000)(A:dY h S N d)(y:a<N)(u:b<N)(t:R≠S)(l:R<h.next)(s:Int)(o:h.get R=bB [aC s]):
  Ev T 263 [.sl S 0 N r,aC a,aC b,.ptr R 0] h (λv h'=>(v= .tup [aC a,aC b]∨v= .tup [aC b,aC a])/\BY h h' R):=by
 refine dW mC rfl ?_
 have p:=A.rd (i:=a) om
 have q:=A.rd (i:=b) om
 simp(disch:=omega)only[go_sem,mC,aE,p,q]
 refine (iC _ _ _).mono ?_
 rintro _ f ⟨rfl,k⟩
 have m:Fr h f:=Fr.trans ((Fr.refl h).bH om) k
 have c:f.get R=bB [aC s]:=by rw[m.get R l];exact o
 cases hl:ltInt d[b]! d[a]! with
 |false=>
  simp(disch:=omega)only[go_sem,hl];exact⟨.inl trivial,⟨s,c⟩,Fx.of m⟩
 |true=>
  have cR:f.cell R 0=some (aC s):=by rw[H.aF c];rfl
  have n: ∀(w:Int) (j:H),eU (bB [aC s]) j R 0 [aC w]=some (j.set R (bB [aC w])):=λw j=>bT (by simp) j R _
  simp(disch:=omega)only[go_sem,hl,cR,c,n];exact⟨.inr trivial,⟨_,by rw[H.aU]⟩,(Fx.of (W:=(· =R)) m).trans (Fx.set f (W:=(· =R)) rfl _) (λ_ _ h=>h)⟩
theorem yA  (h:H)(S N a b c R:Nat)(d:Array Int)(o:pY)(t:N<1000000)(A:dY h S N d)(z:a<N)(r:b<N)(K:c<N)(i:R≠S)(f:R<h.next)(s:Int)(gR:h.get R=bB [aC s]):
  Ev T 259 [.sl S 0 N o,aC a,aC b,aC c,.ptr R 0] h (λv h'=>(∃m,v= aC (m:Nat)/\(m=a∨m=b∨m=c))/\BY h h' R):=by
 refine dW mF rfl ?_
 simp(disch:=omega)only[go_sem,mF,aE]
 refine (qJ h S N a b R d o t A z r i f s gR).mono ?_
 rintro W Q ⟨B,k⟩
 obtain⟨O,n,rfl,w,j,P⟩: ∃x y,W= .tup [aC (x:Nat),aC (y:Nat)]/\x<N/\y<N/\((x=a∨x=b)/\(y=a∨y=b)):=by
  rcases B with rfl|rfl
  ·exact⟨a,b,rfl,z,r,.inl rfl,.inr rfl⟩
  ·exact⟨b,a,rfl,r,z,.inr rfl,.inl rfl⟩
 have F:=A.NT k.fx i
 obtain⟨s1,Z⟩:=k.get
 have L:=jM f k.fx.next
 simp(disch:=omega)only[go_sem]
 refine (qJ Q S N n c R d o t F j K i L s1 Z).mono ?_
 rintro v2 h2 ⟨u,l⟩
 obtain⟨G,y2,rfl,p,J⟩: ∃x y,v2= .tup [aC (x:Nat),aC (y:Nat)]/\x<N/\(x=n∨x=c):=by
  rcases u with rfl|rfl
  ·exact⟨n,c,rfl,j,.inl rfl⟩
  ·exact⟨c,n,rfl,K,.inr rfl⟩
 have A2:=F.NT l.fx i
 obtain⟨s2,g2⟩:=l.get
 have U:=jM L l.fx.next
 simp(disch:=omega)only[go_sem]
 refine (qJ h2 S N O G R d o t A2 w p i U s2 g2).mono ?_
 rintro v3 h3 ⟨q,Y⟩
 have C:=(k.trans l).trans Y
 rcases q with rfl|rfl
 ·simp(disch:=omega)only[go_sem]
  exact⟨⟨G,rfl,om⟩,C⟩
 ·simp(disch:=omega)only[go_sem]
  exact⟨⟨O,rfl,om⟩,C⟩
theorem oK  (h:H)(S N a R:Nat)(d:Array Int)(c:pY)(k:N<1000000)(A:dY h S N d)(q:0<a)(o:a+1<N)(i:R≠S)(b:R<h.next)(s:Int)(j:h.get R=bB [aC s]):
  Ev T 258 [.sl S 0 N c,aC a,.ptr R 0] h (λv h'=>(∃m,v= aC (m:Nat)/\(m=a- 1∨m=a∨m=a+1))/\BY h h' R):=by
 refine dW iT rfl ?_
 have f:(a:Int)- 1=((a- 1:Nat):Int):=om
 have n:(a:Int)+1=((a+1:Nat):Int):=om
 simp(disch:=omega)only[go_sem,iT,aE,f,n]
 refine (yA h S N (a- 1) a (a+1) R d c k A om om om i b s j).mono ?_
 rintro _ p ⟨⟨m,rfl,l⟩,C⟩
 simp(disch:=omega)only[go_sem]
 exact⟨⟨m,rfl,l⟩,C⟩
theorem Nz  (h:H)(S N a b:Nat)(d:Array Int)(F:pY)(P:N<1000000)(A:dY h S N d)(hb:b<=N)(a0:a<b):
  Ev T 237 [.sl S 0 N F,aC a,aC b] h (λv h'=> ∃(p:Nat) (t:Int),v= .tup [aC p,aC t]/\a<=p/\p<b/\Fr h h'):=by
 refine dW eM rfl ?_
 obtain⟨n,hn⟩:=exI (b-a)
 have en:(b:Int)-(a:Int)=(n:Int):=om
 have W:=Ow n (k:=4) (m:=4) rfl
 obtain⟨q,hq⟩:=exI (n/4)
 rw[hq] at W
 have ei:(a:Int)+(q:Int)*1=((a+q:Nat):Int):=om
 have ej:(a:Int)+(q:Int)*2=((a+q*2:Nat):Int):=om
 have ek:(a:Int)+(q:Int)*3=((a+q*3:Nat):Int):=om
 obtain⟨R,J⟩:=exI h.next
 have c:R≠S:=by have:=A.lt;omega
 obtain⟨o,f⟩: ∃o,o=h.new (.cells false [aC 0]):=⟨_,rfl⟩
 have g1:o.get R=bB [aC 0]:=by rw[f,←J,H.aL]
 have n1:o.next=R+1:=by rw[f,H.aW,J]
 have Y:Fr h o:=by rw[f];exact (Fr.refl h).new _
 have A1:=A.fr Y
 have K: ∀(p:Nat) (l:H),a<=p->p<b->Fx (· =R) o l->a<=p/\p<b/\Fr h l:=λp l x1 x2 x3=>⟨x1,x2,mY Y.next x3.next,λid Z=>(x3.get id om (λe=>by have:id=R:=e;omega)).trans (Y.get id Z)⟩
 by_cases h8:(8:Int)<=(n:Int)
 case neg=>
  have Q:=bI h8;simp(disch:=omega)only[go_sem,eM,aE,en,W,ei,ej,ek,Q];rw[←f];have cR:o.cell R 0=some (aC 0):=by rw[H.aF g1];rfl
  simp(disch:=omega)only[go_sem,J,cR];refine bA (λ_=>?_) (λhc=>(hc (by trivial)).elim);simp(disch:=omega)only[go_sem];exact⟨a+q*2,1,rfl,K _ _ om om (Fx.refl _ _)⟩
 have Q:=cI h8
 have s: ∀(i j k:Nat) (l:H) (L:Int),a<=i->i<b->a<=j->j<b->a<=k->k<b->dY l S N d->l.get R=bB [aC L]->R<l.next->Fx (· =R) o l->
   Ev T 259 [.sl S 0 N F,aC i,aC j,aC k,.ptr R 0] l (λv h'=> ∃p r,v= aC (p:Nat)/\a<=p/\p<b/\h'.get R=bB [aC r]/\Fr h h'):=by
  intro i j k l L i1 i2 j1 j2 k1 k2 U g2 n2 F2
  refine (yA l S N i j k R d F P U om om om c n2 L g2).mono ?_
  rintro _ B ⟨⟨p,rfl,hp⟩,⟨r,y⟩,O⟩
  exact⟨p,r,rfl,om,om,y,(K p B om om (F2.trans O λ_ _ h=>h)).2.2⟩
 by_cases G:(50:Int)<=(n:Int)
 case neg=>
  have u:=bI G;simp(disch:=omega)only[go_sem,eM,aE,en,W,ei,ej,ek,Q,u];rw[←f];simp(disch:=omega)only[go_sem,J];refine (s (a+q) (a+q*2) (a+q*3) o 0 om om om om om om A1 g1 om (Fx.refl _ _)).mono ?_;rintro _ B ⟨p,r,rfl,w,z,y,x⟩;have cR:B.cell R 0=some (aC r):=by rw[H.aF y];rfl
  simp(disch:=omega)only[go_sem,cR];refine bA (λ_=>?_) (λ_=>?_)
  ·simp(disch:=omega)only[go_sem]
   exact⟨p,1,rfl,w,z,x⟩
  ·simp(disch:=omega)only[go_sem]
   refine bA (λ_=>?_) (λ_=>?_)
   ·simp(disch:=omega)only[go_sem]
    exact⟨p,2,rfl,w,z,x⟩
   ·simp(disch:=omega)only[go_sem]
    exact⟨p,0,rfl,w,z,x⟩
 have u:=cI G
 simp(disch:=omega)only[go_sem,eM,aE,en,W,ei,ej,ek,Q,u]
 rw[←f]
 simp(disch:=omega)only[go_sem,J]
 refine (oK o S N (a+q) R d F P A1 om om c om 0 g1).mono ?_
 rintro _ l ⟨⟨i,rfl,hi⟩,⟨L,g2⟩,F2⟩
 have U:=A1.NT F2 c
 have n2:=F2.next
 simp(disch:=omega)only[go_sem]
 refine (oK l S N (a+q*2) R d F P U om om c om L g2).mono ?_
 rintro _ B ⟨⟨j,rfl,hj⟩,⟨r,y⟩,O⟩
 have A3:=U.NT O c
 have n3:=O.next
 simp(disch:=omega)only[go_sem]
 refine (oK B S N (a+q*3) R d F P A3 om om c om r y).mono ?_
 rintro _ h4 ⟨⟨k,rfl,hk⟩,⟨s4,g4⟩,F4⟩
 have A4:=A3.NT F4 c
 have n4:=F4.next
 simp(disch:=omega)only[go_sem]
 refine (s i j k h4 s4 om om om om om om A4 g4 om ((F2.trans O λ_ _ h=>h).trans F4 λ_ _ h=>h)).mono ?_
 rintro _ B ⟨p,r,rfl,w,z,y,x⟩
 have cR:B.cell R 0=some (aC r):=by rw[H.aF y];rfl
 simp(disch:=omega)only[go_sem,cR]
 refine bA (λ_=>?_) (λ_=>?_)
 ·simp(disch:=omega)only[go_sem]
  exact⟨p,1,rfl,w,z,x⟩
 ·simp(disch:=omega)only[go_sem]
  refine bA (λ_=>?_) (λ_=>?_)
  ·simp(disch:=omega)only[go_sem]
   exact⟨p,2,rfl,w,z,x⟩
  ·simp(disch:=omega)only[go_sem]
   exact⟨p,0,rfl,w,z,x⟩
section
variable {lt:Int->Int->Bool} {j b:Nat} {d:Array Int}
theorem RF (h:lt d[j+1]! d[j]! =true):shiftDown lt (j+1) d=shiftDown lt j (swp d (j+1) j):=by rw[shiftDown,bU (by simp [h])]
theorem VK (h:lt d[j+1]! d[j]! =false):shiftDown lt (j+1) d=d:=by rw[shiftDown,bJ (by simp [h])]
theorem PC (a:j<b)(h:lt d[j]! d[j- 1]! =true):shiftUp lt b j d=shiftUp lt b (j+1) (swp d j (j- 1)):=by rw[shiftUp,bJ a,bU (by simp [h])]
theorem RY (a:j<b)(h:lt d[j]! d[j- 1]! =false):shiftUp lt b j d=d:=by rw[shiftUp,bJ a,bJ (by simp [h])]
theorem TB {i:Nat}(hi:i<b)(h:lt d[i]! d[i- 1]! =false):scanSorted lt d b i=scanSorted lt d b (i+1):=by rw[scanSorted,bJ (by simp [h,hi])]
theorem Zo {i:Nat}(h: ¬(i<b/\lt d[i]! d[i- 1]! =false)):scanSorted lt d b i=i:=by rw[scanSorted,bU (by simpa using h)]
theorem Uy (lt:Int->Int->Bool)(a b s i:Nat)(d:Array Int):partialIns lt a b (s+1) i d=if scanSorted lt d b i=b then (d,true) else if b-a<50 then (d,false) else
  partialIns lt a b s (scanSorted lt d b i) (if b-scanSorted lt d b i≥2 then shiftUp lt b (scanSorted lt d b i+1) (if scanSorted lt d b i-a≥2 then shiftDown lt (scanSorted lt d b i- 1) (swp d (scanSorted lt d b i) (scanSorted lt d b i- 1)) else swp d (scanSorted lt d b i) (scanSorted lt d b i- 1)) else
   (if scanSorted lt d b i-a≥2 then shiftDown lt (scanSorted lt d b i- 1) (swp d (scanSorted lt d b i) (scanSorted lt d b i- 1)) else swp d (scanSorted lt d b i) (scanSorted lt d b i- 1))):=by rw[partialIns]
theorem Eu (h:H)(S N a b:Nat)(d:Array Int)(P:pY)(hN:N<1000000)(A:dY h S N d)(hb:b<=N)(b5:a<b):
  Ev T 239 [.sl S 0 N P,aC a,aC b] h (λv h'=>v= .bool (partialInsertionSort ltInt d a b).2/\dY h' S N (partialInsertionSort ltInt d a b).1/\Fx (· =S) h h'):=by
 refine dW gU rfl ?_
 simp(disch:=omega)only[go_sem,gU,aE]
 rw[fJ a]
 refine aI (λf c p=> ∃(s i:Nat) (e:Array Int),(∃g:Nat->V,c= [.sl S 0 N P,aC a,aC b,g 3,aC i,aC (5-(s:Int)),g 6,g 7,g 8,g 9,g 10,g 11,g 12,g 13,g 14,g 15,g 16,g 17])/\s<=5/\a<i/\i<=b/\dY p S N e/\partialIns ltInt a b s i e=partialInsertionSort ltInt d a b/\Fx (· =S) h p/\f=s) 5
  ⟨5,a+1,d,aB rfl,om,om,om,A,rfl,Fx.refl _ h,rfl⟩ ?_
 clear A
 rintro f c Q ⟨s,i,e,⟨g,rfl⟩,hs,b2,b0,A,k,F,hk⟩
 subst hk
 by_cases G:(5:Int)-(f:Int)<5
 case neg=>
  have l:=bI G;obtain rfl:f=0:=om
  simp(disch:=omega)only[go_sem,l];have k:(e,false)=partialInsertionSort ltInt d a b:=k;rw[←k];exact⟨rfl,A,F⟩
 have l:=cI G
 obtain⟨s,rfl⟩: ∃s,f=s+1:=⟨f- 1,om⟩
 simp(disch:=omega)only[go_sem,l]
 rw[Uy] at k
 refine aI (λf c p=> ∃(m:Nat),(∃g:Nat->V,c= [.sl S 0 N P,aC a,aC b,g 3,aC m,aC (5-((s+1:Nat):Int)),g 6,g 7,g 8,g 9,g 10,g 11,g 12,g 13,g 14,g 15,g 16,g 17])/\a<m/\m<=b/\dY p S N e/\scanSorted ltInt e b m=scanSorted ltInt e b i/\Fx (· =S) h p/\f=b-m) (b-i)
  ⟨i,aB rfl,b2,b0,A,rfl,F,rfl⟩ ?_
 clear A F G l
 rintro f c t ⟨m,⟨g,rfl⟩,b9,b7,A,R,F,rfl⟩
 have sz:=A.size
 have z:(m:Int)- 1=((m- 1:Nat):Int):=om
 have a6:(m:Int)+1=((m+1:Nat):Int):=om
 by_cases a4:(m:Int)<(b:Int)
 case neg=>
  have l:=bI a4;have em:m=b:=om
  rw[Zo om] at R;rw[←R,bJ em] at k;have e2:decide ((m:Int)=(b:Int))=true:=cI om;simp(disch:=omega)only[go_sem,l,e2];rw[←k];exact⟨rfl,A.fr ((Fr.refl t).bH om),gZ F (Fx.of ((Fr.refl t).bH om))⟩
 have l:=cI a4
 have n:=A.rd (i:=m) om
 have o:=A.rd (i:=m- 1) om
 simp(disch:=omega)only[go_sem,l,z,n,o]
 refine (iC _ _ _).mono ?_
 rintro _ h3 ⟨rfl,a2⟩
 have y:Fr t h3:=Fr.trans ((Fr.refl t).bH om) a2
 have J:=A.fr y
 have F3:=gZ F (Fx.of y)
 cases hl:ltInt e[m]! e[m- 1]! with
 |false=>
  rw[TB om hl] at R;simp(disch:=omega)only[go_sem,hl,a6];exact⟨b-(m+1),om,m+1,aB rfl,om,om,J,R,F3,rfl⟩
 |true=>
  rw[Zo (by rw[hl];simp)] at R;rw[←R,bU om] at k;have e2:decide ((m:Int)=(b:Int))=false:=bI om
  by_cases a3:(b:Int)-(a:Int)<50
  ·have w:=cI a3
   rw[bJ om] at k;simp(disch:=omega)only[go_sem,hl,e2,w];rw[←k];exact⟨rfl,J,F3⟩
  have w:=bI a3;rw[bU om] at k;have n:=J.rd (i:=m) om;have o:=J.rd (i:=m- 1) om;simp(disch:=omega)only[go_sem,hl,e2,w,z,n,o,J.get,cJ,bW];have W:=J.swap (i:=m) (j:=m- 1) (nx:=h3.next+18) om rfl
  obtain⟨h4,a7⟩: ∃h4,h4=((H.mk h3.tr (h3.next+18)).set S (bB (ints (e.setIfInBounds m e[m- 1]!).toList))).set S (bB (ints ((e.setIfInBounds m e[m- 1]!).setIfInBounds (m- 1) e[m]!).toList)):=⟨_,rfl⟩
  rw[←a7] at W ⊢;obtain⟨A4,F4⟩:=W;have B:=gZ F3 F4;clear a7 F4 J F3 y a2 n o;obtain⟨Y,a1⟩:=exI (swp e m (m- 1));rw[a1] at A4 k;refine mM (λvs Z=> ∃O,(∃g:Nat->V,vs= [.sl S 0 N P,aC a,aC b,g 3,aC m,aC (5-((s+1:Nat):Int)),g 6,g 7,g 8,g 9,g 10,g 11,g 12,g 13,g 14,g 15,g 16,g 17])/\dY Z S N O/\O=(if m-a≥2 then shiftDown ltInt (m- 1) Y else Y)/\Fx (· =S) h Z) ?_ ?_
  ·refine bA (λt=>?_) (λt=>?_)
   ·simp(disch:=omega)only[go_sem,z]
    refine aI (λf c p=> ∃(j:Nat) (x:Array Int),(∃g:Nat->V,c= [.sl S 0 N P,aC a,aC b,g 3,aC m,aC (5-((s+1:Nat):Int)),aC j,g 7,g 8,g 9,g 10,g 11,g 12,g 13,g 14,g 15,g 16,g 17])/\j<b/\dY p S N x/\shiftDown ltInt j x=shiftDown ltInt (m- 1) Y/\Fx (· =S) h p/\f=j) (m- 1)
     ⟨m- 1,Y,aB rfl,om,A4,rfl,B,rfl⟩ ?_
    rintro f c Z ⟨j,x,⟨g,rfl⟩,hj,u,K,F5,hk⟩;subst hk;have b8:=u.size
    by_cases Q:(1:Int)<=(f:Int)
    ·have l:=cI Q
     obtain⟨q,rfl⟩: ∃q,f=q+1:=⟨f- 1,om⟩
     have a8:((q+1:Nat):Int)- 1=(q:Int):=om
     have n:=u.rd (i:=q+1) om;have o:=u.rd (i:=q) om;simp(disch:=omega)only[go_sem,l,a8,n,o];refine (iC _ _ _).mono ?_;rintro _ h6 ⟨rfl,b3⟩;have f6:Fr Z h6:=Fr.trans ((Fr.refl Z).bH om) b3;have r:=u.fr f6;have F6:=gZ F5 (Fx.of f6)
     cases hl:ltInt x[q+1]! x[q]! with
     |false=>
      rw[VK hl] at K;simp(disch:=omega)only[go_sem,hl];exact .inl ⟨x,aB rfl,r,by rw[bJ om,←K],F6⟩
     |true=>
      rw[RF hl] at K;have n:=r.rd (i:=q+1) om;have o:=r.rd (i:=q) om;simp(disch:=omega)only[go_sem,hl,a8,n,o,r.get,cJ,bW];have W:=r.swap (i:=q+1) (j:=q) (nx:=h6.next+18) om rfl;exact⟨q,om,q,_,aB rfl,om,W.1,K,gZ F6 W.2,rfl⟩
    ·have l:=bI Q
     obtain rfl:f=0:=om
     simp(disch:=omega)only[go_sem,l];have K:x=shiftDown ltInt (m- 1) Y:=K;exact .inl ⟨x,aB rfl,u,by rw[bJ om,←K],F5⟩
   ·simp(disch:=omega)only[go_sem]
    exact .inl ⟨Y,aB rfl,A4,by rw[bU om],B⟩
  ·rintro c Z ⟨O,⟨g,rfl⟩,u,a5,F5⟩
   rw[←a5] at k;clear A4 B a5 a1;simp(disch:=omega)only[go_sem];have L:(5:Int)-((s+1:Nat):Int)+1=5-(s:Int):=om
   refine bA (λt=>?_) (λt=>?_)
   ·rw[bJ om] at k
    simp(disch:=omega)only[go_sem,a6];refine aI (λf c p=> ∃(j:Nat) (x:Array Int),(∃g:Nat->V,c= [.sl S 0 N P,aC a,aC b,g 3,aC m,aC (5-((s+1:Nat):Int)),g 6,aC j,g 8,g 9,g 10,g 11,g 12,g 13,g 14,g 15,g 16,g 17])/\0<j/\j<=b/\dY p S N x/\shiftUp ltInt b j x=shiftUp ltInt b (m+1) O/\Fx (· =S) h p/\f=b-j) (b-(m+1))
     ⟨m+1,O,aB rfl,om,om,u,rfl,F5,rfl⟩ ?_
    rintro f c h6 ⟨j,x,⟨g,rfl⟩,b6,hj,r,U,F6,rfl⟩;have b4:=r.size
    by_cases Q:(j:Int)<(b:Int)
    ·have l:=cI Q
     have a0:(j:Int)- 1=((j- 1:Nat):Int):=om
     have b1:(j:Int)+1=((j+1:Nat):Int):=om
     have n:=r.rd (i:=j) om;have o:=r.rd (i:=j- 1) om;simp(disch:=omega)only[go_sem,l,a0,n,o];refine (iC _ _ _).mono ?_;rintro _ h7 ⟨rfl,a9⟩;have f7:Fr h6 h7:=Fr.trans ((Fr.refl h6).bH om) a9;have A7:=r.fr f7;have F7:=gZ F6 (Fx.of f7)
     cases hl:ltInt x[j]! x[j- 1]! with
     |false=>
      rw[RY om hl] at U;rw[←U] at k;simp(disch:=omega)only[go_sem,hl,L];exact⟨s,om,s,m,x,aB rfl,om,om,om,A7,k,F7,rfl⟩
     |true=>
      rw[PC om hl] at U;have n:=A7.rd (i:=j) om;have o:=A7.rd (i:=j- 1) om;simp(disch:=omega)only[go_sem,hl,a0,b1,n,o,A7.get,cJ,bW];have W:=A7.swap (i:=j) (j:=j- 1) (nx:=h7.next+18) om rfl;exact⟨b-(j+1),om,j+1,_,aB rfl,om,om,W.1,U,gZ F7 W.2,rfl⟩
    ·have l:=bI Q
     rw[shiftUp,bU om] at U;rw[←U] at k;simp(disch:=omega)only[go_sem,l,L];exact⟨s,om,s,m,x,aB rfl,om,om,om,r,k,F6,rfl⟩
   ·rw[bU om] at k
    simp(disch:=omega)only[go_sem,L];exact⟨s,om,s,m,O,aB rfl,om,om,om,u,k,F5,rfl⟩
end
section
variable {p:Int->Bool} {d:Array Int} {j i:Nat}
theorem Ie (a:i<=j)(h2:p d[i]! =true):scanUp p d j i=scanUp p d j (i+1):=by rw[scanUp,bJ (by simp [a,h2])]
theorem rN (h: ¬(i<=j/\p d[i]! =true)):scanUp p d j i=i:=by rw[scanUp,bU (by simpa using h)]
theorem On (a:i<=j+1)(h2:p d[j+1]! =true):scanDown p d i (j+1)=scanDown p d i j:=by rw[scanDown,bJ (by simp [a,h2])]
theorem yC (h: ¬(i<=j/\p d[j]! =true)):scanDown p d i j=j:=by
 cases j with
 |zero=>rfl
 |succ j=>rw[scanDown,bU (by simpa using h)]
theorem qX (p:Int->Bool)(d:Array Int)(j i:Nat):scanUp p d j i<=max i (j+1):=by
 obtain⟨n,a⟩:=exI (j+1-i)
 induction n generalizing i with
 |zero=>rw[rN (λh=>by have:=h.1;omega)];omega
 |succ n ih=>
  by_cases h:i<=j/\p d[i]! =true
  ·rw[Ie h.1 h.2]
   have:=ih (i+1) om;omega
  ·rw[rN h];omega
theorem zI (h:H)(S N a b pv:Nat)(d:Array Int)(Z:pY)(hN:N<1000000)(A:dY h S N d)(hb:b<=N)(c0:a<=pv)(b7:pv<b):
  Ev T 241 [.sl S 0 N Z,aC a,aC b,aC pv] h (λv h'=>v= .tup [aC ((partition ltInt d a b pv).1:Nat),.bool (partition ltInt d a b pv).2.1]/\dY h' S N (partition ltInt d a b pv).2.2/\Fx (· =S) h h'):=by
 refine dW kE rfl ?_
 have sz:=A.size
 have J:=A.rd (i:=a) om
 have O:=A.rd (i:=pv) om
 simp(disch:=omega)only[go_sem,kE,aE,J,O,A.get,cJ,bW]
 have W:=A.swap (i:=a) (j:=pv) (nx:=h.next+16) om rfl
 obtain⟨h1,b0⟩: ∃h1,h1=((H.mk h.tr (h.next+16)).set S (bB (ints (d.setIfInBounds a d[pv]!).toList))).set S (bB (ints ((d.setIfInBounds a d[pv]!).setIfInBounds pv d[a]!).toList)):=⟨_,rfl⟩
 rw[←b0] at W ⊢
 obtain⟨A1,F1⟩:=W
 obtain⟨e,he⟩:=exI (swp d a pv)
 rw[he] at A1
 clear b0 J O A
 have eb:(b:Int)- 1=((b- 1:Nat):Int):=om
 have ea:(a:Int)+1=((a+1:Nat):Int):=om
 have hP:partition ltInt d a b pv=if scanUp (λx=>ltInt x e[a]!) e (b- 1) (a+1)>scanDown (λx=>!ltInt x e[a]!) e (scanUp (λx=>ltInt x e[a]!) e (b- 1) (a+1)) (b- 1) then
   (scanDown (λx=>!ltInt x e[a]!) e (scanUp (λx=>ltInt x e[a]!) e (b- 1) (a+1)) (b- 1),true,swp e (scanDown (λx=>!ltInt x e[a]!) e (scanUp (λx=>ltInt x e[a]!) e (b- 1) (a+1)) (b- 1)) a) else
   ((partLoop ltInt a (scanUp (λx=>ltInt x e[a]!) e (b- 1) (a+1)+1) (scanDown (λx=>!ltInt x e[a]!) e (scanUp (λx=>ltInt x e[a]!) e (b- 1) (a+1)) (b- 1)- 1) (swp e (scanUp (λx=>ltInt x e[a]!) e (b- 1) (a+1)) (scanDown (λx=>!ltInt x e[a]!) e (scanUp (λx=>ltInt x e[a]!) e (b- 1) (a+1)) (b- 1)))).1,false,
    swp (partLoop ltInt a (scanUp (λx=>ltInt x e[a]!) e (b- 1) (a+1)+1) (scanDown (λx=>!ltInt x e[a]!) e (scanUp (λx=>ltInt x e[a]!) e (b- 1) (a+1)) (b- 1)- 1) (swp e (scanUp (λx=>ltInt x e[a]!) e (b- 1) (a+1)) (scanDown (λx=>!ltInt x e[a]!) e (scanUp (λx=>ltInt x e[a]!) e (b- 1) (a+1)) (b- 1)))).2 (partLoop ltInt a (scanUp (λx=>ltInt x e[a]!) e (b- 1) (a+1)+1) (scanDown (λx=>!ltInt x e[a]!) e (scanUp (λx=>ltInt x e[a]!) e (b- 1) (a+1)) (b- 1)- 1) (swp e (scanUp (λx=>ltInt x e[a]!) e (b- 1) (a+1)) (scanDown (λx=>!ltInt x e[a]!) e (scanUp (λx=>ltInt x e[a]!) e (b- 1) (a+1)) (b- 1)))).1 a):=by
  rw[←he];rfl
 obtain⟨R,a7⟩:=exI (partition ltInt d a b pv)
 rw[a7] at hP
 rw[a7]
 simp(disch:=omega)only[go_sem,ea,eb]
 refine bQ (λL c=>(∃g:Nat->V,L= [.sl S 0 N Z,aC a,aC b,aC pv,g 4,g 5,aC (scanUp (λx=>ltInt x e[a]!) e (b- 1) (a+1):Nat),aC ((b- 1):Nat),g 8,g 9,g 10,g 11,g 12,g 13])/\dY c S N e/\Fx (· =S) h c) ?_ ?_
 ·refine aI (λG L c=> ∃(k:Nat),(∃g:Nat->V,L= [.sl S 0 N Z,aC a,aC b,aC pv,g 4,g 5,aC (k:Nat),aC ((b- 1):Nat),g 8,g 9,g 10,g 11,g 12,g 13])/\(a+1)<=k/\k<=N+2/\dY c S N e/\scanUp (λx=>ltInt x e[a]!) e (b- 1) k=scanUp (λx=>ltInt x e[a]!) e (b- 1) (a+1)/\Fx (· =S) h c/\G=(b- 1)+1-k) ((b- 1)+1-(a+1))
   ⟨(a+1),aB rfl,om,om,A1,rfl,F1,rfl⟩ ?_
  rintro G l K ⟨k,⟨g,rfl⟩,a6,b5,s,n,Fs,rfl⟩
  by_cases f:(k:Int)<=(((b- 1):Nat):Int)
  ·have q:decide ((k:Int)<=(((b- 1):Nat):Int))=true:=cI f
   have eK:(k:Int)+1=((k+1:Nat):Int):=om
   have a5:=s.size
   have J:=s.rd (i:=k) om
   have O:=s.rd (i:=a) om
   simp(disch:=omega)only[go_sem,q,J,O]
   refine (iC _ _ _).mono ?_
   rintro _ P ⟨rfl,z⟩
   have t:Fr K P:=Fr.trans ((Fr.refl K).bH om) z
   have B:=s.fr t
   have y:=gZ Fs (Fx.of t)
   cases hl:ltInt e[k]! e[a]! with
   |false=>
    rw[rN (λc=>by have:=c.2;simp [hl] at this)] at n;simp(disch:=omega)only[go_sem,hl];exact⟨by rw[←n];exact aB rfl,B,y⟩
   |true=>
    rw[Ie om (by simp [hl])] at n;simp(disch:=omega)only[go_sem,hl,eK];exact⟨(b- 1)+1-(k+1),om,k+1,aB rfl,om,om,B,n,y,rfl⟩
  ·have q:decide ((k:Int)<=(((b- 1):Nat):Int))=false:=bI f
   rw[rN (λc=>f (by have:=c.1;omega))] at n
   simp(disch:=omega)only[go_sem,q]
   exact⟨by rw[←n];exact aB rfl,s.fr ((Fr.refl K).bH om),gZ Fs (Fx.of ((Fr.refl K).bH om))⟩
 ·rintro l h9 ⟨⟨g,rfl⟩,A9,F9⟩
  have a1:=scanUp_ge (λx=>ltInt x e[a]!) e (b- 1) (a+1)
  have a4:=qX (λx=>ltInt x e[a]!) e (b- 1) (a+1)
  obtain⟨o,Y⟩: ∃x,scanUp (λx=>ltInt x e[a]!) e (b- 1) (a+1)=x:=⟨_,rfl⟩
  rw[Y] at a1 a4
  rw[Y]
  simp(disch:=omega)only[go_sem]
  refine bQ (λL c=>(∃g:Nat->V,L= [.sl S 0 N Z,aC a,aC b,aC pv,g 4,g 5,aC (o:Nat),aC (scanDown (λx=>!ltInt x e[a]!) e o (b- 1):Nat),g 8,g 9,g 10,g 11,g 12,g 13])/\dY c S N e/\Fx (· =S) h c) ?_ ?_
  ·refine aI (λG L c=> ∃(k:Nat),(∃g:Nat->V,L= [.sl S 0 N Z,aC a,aC b,aC pv,g 4,g 5,aC (o:Nat),aC (k:Nat),g 8,g 9,g 10,g 11,g 12,g 13])/\k<=(b- 1)/\dY c S N e/\scanDown (λx=>!ltInt x e[a]!) e o k=scanDown (λx=>!ltInt x e[a]!) e o (b- 1)/\Fx (· =S) h c/\G=k) (b- 1)
    ⟨(b- 1),aB rfl,om,A9,rfl,F9,rfl⟩ ?_
   rintro G l K ⟨k,⟨g,rfl⟩,a6,s,n,Fs,a0⟩
   subst a0
   by_cases f:((o:Nat):Int)<=(G:Int)
   ·have q:=cI f
    obtain⟨k,rfl⟩: ∃k,G=k+1:=⟨G- 1,om⟩
    have eK:((k+1:Nat):Int)- 1=(k:Int):=om
    have a5:=s.size
    have J:=s.rd (i:=k+1) om
    have O:=s.rd (i:=a) om
    simp(disch:=omega)only[go_sem,q,J,O]
    refine (iC _ _ _).mono ?_
    rintro _ P ⟨rfl,z⟩
    have t:Fr K P:=Fr.trans ((Fr.refl K).bH om) z
    have B:=s.fr t
    have y:=gZ Fs (Fx.of t)
    cases hl:ltInt e[k+1]! e[a]! with
    |true=>
     rw[yC (λc=>by have:=c.2;simp [hl] at this)] at n;simp(disch:=omega)only[go_sem,hl];exact⟨by rw[←n];exact aB rfl,B,y⟩
    |false=>
     rw[On om (by simp [hl])] at n;simp(disch:=omega)only[go_sem,hl,eK];exact⟨k,om,k,aB rfl,om,B,n,y,rfl⟩
   ·have q:=bI f
    rw[yC (λc=>f (by have:=c.1;omega))] at n
    simp(disch:=omega)only[go_sem,q]
    exact⟨by rw[←n];exact aB rfl,s.fr ((Fr.refl K).bH om),gZ Fs (Fx.of ((Fr.refl K).bH om))⟩
  ·rintro l h2 ⟨⟨g,rfl⟩,A2,F2⟩
   have a2:=scanDown_le (λx=>!ltInt x e[a]!) e o (b- 1)
   obtain⟨F,a3⟩: ∃x,scanDown (λx=>!ltInt x e[a]!) e o (b- 1)=x:=⟨_,rfl⟩
   rw[a3] at a2
   rw[a3]
   rw[Y,a3] at hP
   have b4:=A2.size
   by_cases Q:(F:Int)<(o:Int)
   ·have q:=cI Q
    rw[bJ om] at hP
    have J:=A2.rd (i:=F) om
    have O:=A2.rd (i:=a) om
    simp(disch:=omega)only[go_sem,q,J,O,A2.get,cJ,bW]
    have W:=A2.swap (i:=F) (j:=a) (nx:=h2.next+16) om rfl
    rw[hP]
    exact⟨rfl,W.1,gZ F2 W.2⟩
   have q:=bI Q
   rw[bU om] at hP
   have J:=A2.rd (i:=o) om
   have O:=A2.rd (i:=F) om
   simp(disch:=omega)only[go_sem,q,J,O,A2.get,cJ,bW]
   have W:=A2.swap (i:=o) (j:=F) (nx:=h2.next+16) om rfl
   obtain⟨h3,b2⟩: ∃h3,h3=((H.mk h2.tr (h2.next+16)).set S (bB (ints (e.setIfInBounds o e[F]!).toList))).set S (bB (ints ((e.setIfInBounds o e[F]!).setIfInBounds F e[o]!).toList)):=⟨_,rfl⟩
   rw[←b2] at W ⊢
   obtain⟨A3,a9⟩:=W
   have F3:=gZ F2 a9
   have b1:o<=F:=om
   obtain⟨e0,a8⟩:=exI (swp e o F)
   rw[a8] at A3 hP
   clear b2 J O A2 A9 F9 A1 F1 he Q q
   have ei:(o:Int)+1=((o+1:Nat):Int):=om
   have ej:(F:Int)- 1=((F- 1:Nat):Int):=om
   simp(disch:=omega)only[go_sem,ei,ej]
   refine bQ (λL c=>(∃g:Nat->V,L= [.sl S 0 N Z,aC a,aC b,aC pv,g 4,g 5,g 6,aC (((partLoop ltInt a (o+1) (F- 1) e0).1:Nat):Int),g 8,g 9,g 10,g 11,g 12,g 13])/\dY c S N (partLoop ltInt a (o+1) (F- 1) e0).2/\(partLoop ltInt a (o+1) (F- 1) e0).1<b/\Fx (· =S) h c) ?_ ?_
   ·refine aI (λG L c=> ∃(i j:Nat) (e:Array Int),(∃g:Nat->V,L= [.sl S 0 N Z,aC a,aC b,aC pv,g 4,g 5,aC i,aC j,g 8,g 9,g 10,g 11,g 12,g 13])/\a<i/\i<=b+1/\j<b/\dY c S N e/\partLoop ltInt a i j e=partLoop ltInt a (o+1) (F- 1) e0/\Fx (· =S) h c/\G=j) (F- 1)
     ⟨o+1,F- 1,e0,aB rfl,om,om,om,A3,rfl,F3,rfl⟩ ?_
    obtain⟨R2,b3⟩:=exI (partLoop ltInt a (o+1) (F- 1) e0)
    rw[b3]
    clear hP b3 Y a3 a8 ei ej a2 a1 a4 F3 a9 A3 b4 h3 b1
    clear o F
    rintro G l h3 ⟨i,j,e,⟨g,rfl⟩,b8,Y,hj,A3,hL,F3,a0⟩
    rw[partLoop_eq] at hL
    simp(disch:=omega)only[go_sem]
    refine bQ (λL c=>(∃g:Nat->V,L= [.sl S 0 N Z,aC a,aC b,aC pv,g 4,g 5,aC (scanUp (λx=>ltInt x e[a]!) e j i:Nat),aC (j:Nat),g 8,g 9,g 10,g 11,g 12,g 13])/\dY c S N e/\Fx (· =S) h c) ?_ ?_
    ·refine aI (λG L c=> ∃(k:Nat),(∃g:Nat->V,L= [.sl S 0 N Z,aC a,aC b,aC pv,g 4,g 5,aC (k:Nat),aC (j:Nat),g 8,g 9,g 10,g 11,g 12,g 13])/\i<=k/\k<=N+2/\dY c S N e/\scanUp (λx=>ltInt x e[a]!) e j k=scanUp (λx=>ltInt x e[a]!) e j i/\Fx (· =S) h c/\G=j+1-k) (j+1-i)
      ⟨i,aB rfl,om,om,A3,rfl,F3,rfl⟩ ?_
     rintro G l K ⟨k,⟨g,rfl⟩,a6,b5,s,n,Fs,rfl⟩
     by_cases f:(k:Int)<=((j:Nat):Int)
     ·have q:=cI f
      have eK:(k:Int)+1=((k+1:Nat):Int):=om
      have a5:=s.size
      have J:=s.rd (i:=k) om
      have O:=s.rd (i:=a) om
      simp(disch:=omega)only[go_sem,q,J,O]
      refine (iC _ _ _).mono ?_
      rintro _ P ⟨rfl,z⟩
      have t:Fr K P:=Fr.trans ((Fr.refl K).bH om) z
      have B:=s.fr t
      have y:=gZ Fs (Fx.of t)
      cases hl:ltInt e[k]! e[a]! with
      |false=>
       rw[rN (λc=>by have:=c.2;simp [hl] at this)] at n;simp(disch:=omega)only[go_sem,hl];exact⟨by rw[←n];exact aB rfl,B,y⟩
      |true=>
       rw[Ie om (by simp [hl])] at n;simp(disch:=omega)only[go_sem,hl,eK];exact⟨j+1-(k+1),om,k+1,aB rfl,om,om,B,n,y,rfl⟩
     ·have q:=bI f
      rw[rN (λc=>f (by have:=c.1;omega))] at n
      simp(disch:=omega)only[go_sem,q]
      exact⟨by rw[←n];exact aB rfl,s.fr ((Fr.refl K).bH om),gZ Fs (Fx.of ((Fr.refl K).bH om))⟩
    ·rintro l h9 ⟨⟨g,rfl⟩,A9,F9⟩
     have a1:=scanUp_ge (λx=>ltInt x e[a]!) e j i
     have a4:=qX (λx=>ltInt x e[a]!) e j i
     obtain⟨u,hu⟩: ∃x,scanUp (λx=>ltInt x e[a]!) e j i=x:=⟨_,rfl⟩
     rw[hu] at a1 a4
     rw[hu]
     simp(disch:=omega)only[go_sem]
     refine bQ (λL c=>(∃g:Nat->V,L= [.sl S 0 N Z,aC a,aC b,aC pv,g 4,g 5,aC (u:Nat),aC (scanDown (λx=>!ltInt x e[a]!) e u j:Nat),g 8,g 9,g 10,g 11,g 12,g 13])/\dY c S N e/\Fx (· =S) h c) ?_ ?_
     ·refine aI (λG L c=> ∃(k:Nat),(∃g:Nat->V,L= [.sl S 0 N Z,aC a,aC b,aC pv,g 4,g 5,aC (u:Nat),aC (k:Nat),g 8,g 9,g 10,g 11,g 12,g 13])/\k<=j/\dY c S N e/\scanDown (λx=>!ltInt x e[a]!) e u k=scanDown (λx=>!ltInt x e[a]!) e u j/\Fx (· =S) h c/\G=k) j
       ⟨j,aB rfl,om,A9,rfl,F9,rfl⟩ ?_
      rintro G l K ⟨k,⟨g,rfl⟩,a6,s,n,Fs,a0⟩
      subst a0
      by_cases f:((u:Nat):Int)<=(G:Int)
      ·have q:=cI f
       obtain⟨k,rfl⟩: ∃k,G=k+1:=⟨G- 1,om⟩
       have eK:((k+1:Nat):Int)- 1=(k:Int):=om
       have a5:=s.size
       have J:=s.rd (i:=k+1) om
       have O:=s.rd (i:=a) om
       simp(disch:=omega)only[go_sem,q,J,O]
       refine (iC _ _ _).mono ?_
       rintro _ P ⟨rfl,z⟩
       have t:Fr K P:=Fr.trans ((Fr.refl K).bH om) z
       have B:=s.fr t
       have y:=gZ Fs (Fx.of t)
       cases hl:ltInt e[k+1]! e[a]! with
       |true=>
        rw[yC (λc=>by have:=c.2;simp [hl] at this)] at n;simp(disch:=omega)only[go_sem,hl];exact⟨by rw[←n];exact aB rfl,B,y⟩
       |false=>
        rw[On om (by simp [hl])] at n;simp(disch:=omega)only[go_sem,hl,eK];exact⟨k,om,k,aB rfl,om,B,n,y,rfl⟩
      ·have q:=bI f
       rw[yC (λc=>f (by have:=c.1;omega))] at n
       simp(disch:=omega)only[go_sem,q]
       exact⟨by rw[←n];exact aB rfl,s.fr ((Fr.refl K).bH om),gZ Fs (Fx.of ((Fr.refl K).bH om))⟩
     ·rintro l h4 ⟨⟨g,rfl⟩,A4,F4⟩
      have a2:=scanDown_le (λx=>!ltInt x e[a]!) e u j
      obtain⟨w,hw⟩: ∃x,scanDown (λx=>!ltInt x e[a]!) e u j=x:=⟨_,rfl⟩
      rw[hw] at a2
      rw[hw]
      rw[hu,hw] at hL
      have b6:=A4.size
      by_cases Q:(w:Int)<(u:Int)
      ·have q:=cI Q
       rw[bJ om] at hL
       simp(disch:=omega)only[go_sem,q]
       rw[←hL]
       exact⟨aB rfl,A4,om,F4⟩
      have q:=bI Q
      rw[bU om] at hL
      have J:=A4.rd (i:=u) om
      have O:=A4.rd (i:=w) om
      have ei:(u:Int)+1=((u+1:Nat):Int):=om
      have ej:(w:Int)- 1=((w- 1:Nat):Int):=om
      simp(disch:=omega)only[go_sem,q,J,O,A4.get,cJ,bW,ei,ej]
      have W:=A4.swap (i:=u) (j:=w) (nx:=h4.next+16) om rfl
      exact⟨w- 1,om,u+1,w- 1,_,aB rfl,om,om,om,W.1,hL,gZ F4 W.2,rfl⟩
   ·rintro l h5 ⟨⟨g,rfl⟩,A5,U,F5⟩
    generalize partLoop ltInt a (o+1) (F- 1) e0=r at hP A5 U
    obtain⟨m,e5⟩:=r
    have U:m<b:=U
    have A5:dY h5 S N e5:=A5
    have b9:=A5.size
    have J:=A5.rd (i:=m) om
    have O:=A5.rd (i:=a) om
    simp(disch:=omega)only[go_sem,J,O,A5.get,cJ,bW]
    have W:=A5.swap (i:=m) (j:=a) (nx:=h5.next+16) om rfl
    rw[hP]
    exact⟨rfl,W.1,gZ F5 W.2⟩
theorem Kt (h:H)(S N a b pv:Nat)(d:Array Int)(J:pY)(hN:N<1000000)(A:dY h S N d)(hb:b<=N)(a9:a<=pv)(a7:pv<b):
  Ev T 240 [.sl S 0 N J,aC a,aC b,aC pv] h (λv h'=>v= aC ((partitionEqual ltInt d a b pv).1:Nat)/\dY h' S N (partitionEqual ltInt d a b pv).2/\Fx (· =S) h h'):=by
 refine dW iP rfl ?_
 have sz:=A.size
 have F:=A.rd (i:=a) om
 have G:=A.rd (i:=pv) om
 simp(disch:=omega)only[go_sem,iP,aE,F,G,A.get,cJ,bW]
 have W:=A.swap (i:=a) (j:=pv) (nx:=h.next+16) om rfl
 obtain⟨h1,U⟩: ∃h1,h1=((H.mk h.tr (h.next+16)).set S (bB (ints (d.setIfInBounds a d[pv]!).toList))).set S (bB (ints ((d.setIfInBounds a d[pv]!).setIfInBounds pv d[a]!).toList)):=⟨_,rfl⟩
 rw[←U] at W ⊢
 obtain⟨A1,F1⟩:=W
 have eb:(b:Int)- 1=((b- 1:Nat):Int):=om
 have ea:(a:Int)+1=((a+1:Nat):Int):=om
 unfold partitionEqual
 obtain⟨L,he⟩: ∃e,swp d a pv=e:=⟨_,rfl⟩
 rw[he] at A1 ⊢
 clear U F G A
 simp(disch:=omega)only[go_sem,ea,eb]
 refine bQ (λr c=>(∃g:Nat->V,r= [.sl S 0 N J,aC a,aC b,aC pv,g 4,aC (((partEqLoop ltInt a (a+1) (b- 1) L).1:Nat):Int),g 6,g 7,g 8,g 9])/\dY c S N (partEqLoop ltInt a (a+1) (b- 1) L).2/\Fx (· =S) h c) ?_ ?_
 ·refine aI (λs r c=> ∃(i j:Nat) (e:Array Int),(∃g:Nat->V,r= [.sl S 0 N J,aC a,aC b,aC pv,g 4,aC i,aC j,g 7,g 8,g 9])/\a<i/\i<=b+1/\j<b/\dY c S N e/\partEqLoop ltInt a i j e=partEqLoop ltInt a (a+1) (b- 1) L/\Fx (· =S) h c/\s=j) (b- 1)
   ⟨a+1,b- 1,L,aB rfl,om,om,om,A1,rfl,F1,rfl⟩ ?_
  obtain⟨R2,Y⟩:=exI (partEqLoop ltInt a (a+1) (b- 1) L)
  rw[Y]
  clear Y F1 A1 h1 he L
  rintro s f h3 ⟨i,j,e,⟨g,rfl⟩,a8,a5,hj,A3,O,F3,P⟩
  rw[partEqLoop_eq] at O
  simp(disch:=omega)only[go_sem]
  refine bQ (λr c=>(∃g:Nat->V,r= [.sl S 0 N J,aC a,aC b,aC pv,g 4,aC (scanUp (λx=>!ltInt e[a]! x) e j i:Nat),aC (j:Nat),g 7,g 8,g 9])/\dY c S N e/\Fx (· =S) h c) ?_ ?_
  ·refine aI (λs r c=> ∃(k:Nat),(∃g:Nat->V,r= [.sl S 0 N J,aC a,aC b,aC pv,g 4,aC (k:Nat),aC (j:Nat),g 7,g 8,g 9])/\i<=k/\k<=N+2/\dY c S N e/\scanUp (λx=>!ltInt e[a]! x) e j k=scanUp (λx=>!ltInt e[a]! x) e j i/\Fx (· =S) h c/\s=j+1-k) (j+1-i)
    ⟨i,aB rfl,om,om,A3,rfl,F3,rfl⟩ ?_
   rintro s f B ⟨k,⟨g,rfl⟩,a2,a6,n,m,R,rfl⟩
   by_cases l:(k:Int)<=((j:Nat):Int)
   ·have z:=cI l
    have eK:(k:Int)+1=((k+1:Nat):Int):=om
    have a1:=n.size
    have F:=n.rd (i:=k) om
    have G:=n.rd (i:=a) om
    simp(disch:=omega)only[go_sem,z,F,G]
    refine (iC _ _ _).mono ?_
    rintro _ K ⟨rfl,t⟩
    have o:Fr B K:=Fr.trans ((Fr.refl B).bH om) t
    have y:=n.fr o
    have q:=gZ R (Fx.of o)
    cases hl:ltInt e[a]! e[k]! with
    |true=>
     rw[rN (λc=>by have:=c.2;simp [hl] at this)] at m;simp(disch:=omega)only[go_sem,hl];exact⟨by rw[←m];exact aB rfl,y,q⟩
    |false=>
     rw[Ie om (by simp [hl])] at m;simp(disch:=omega)only[go_sem,hl,eK];exact⟨j+1-(k+1),om,k+1,aB rfl,om,om,y,m,q,rfl⟩
   ·have z:=bI l
    rw[rN (λc=>l (by have:=c.1;omega))] at m
    simp(disch:=omega)only[go_sem,z]
    exact⟨by rw[←m];exact aB rfl,n.fr ((Fr.refl B).bH om),gZ R (Fx.of ((Fr.refl B).bH om))⟩
  ·rintro f h9 ⟨⟨g,rfl⟩,A9,F9⟩
   have Z:=scanUp_ge (λx=>!ltInt e[a]! x) e j i
   have a3:=qX (λx=>!ltInt e[a]! x) e j i
   obtain⟨u,hu⟩: ∃x,scanUp (λx=>!ltInt e[a]! x) e j i=x:=⟨_,rfl⟩
   rw[hu] at Z a3
   rw[hu]
   simp(disch:=omega)only[go_sem]
   refine bQ (λr c=>(∃g:Nat->V,r= [.sl S 0 N J,aC a,aC b,aC pv,g 4,aC (u:Nat),aC (scanDown (λx=>ltInt e[a]! x) e u j:Nat),g 7,g 8,g 9])/\dY c S N e/\Fx (· =S) h c) ?_ ?_
   ·refine aI (λs r c=> ∃(k:Nat),(∃g:Nat->V,r= [.sl S 0 N J,aC a,aC b,aC pv,g 4,aC (u:Nat),aC (k:Nat),g 7,g 8,g 9])/\k<=j/\dY c S N e/\scanDown (λx=>ltInt e[a]! x) e u k=scanDown (λx=>ltInt e[a]! x) e u j/\Fx (· =S) h c/\s=k) j
     ⟨j,aB rfl,om,A9,rfl,F9,rfl⟩ ?_
    rintro s f B ⟨k,⟨g,rfl⟩,a2,n,m,R,P⟩
    subst P
    by_cases l:((u:Nat):Int)<=(s:Int)
    ·have z:=cI l
     obtain⟨k,rfl⟩: ∃k,s=k+1:=⟨s- 1,om⟩
     have eK:((k+1:Nat):Int)- 1=(k:Int):=om
     have a1:=n.size
     have F:=n.rd (i:=k+1) om
     have G:=n.rd (i:=a) om
     simp(disch:=omega)only[go_sem,z,F,G]
     refine (iC _ _ _).mono ?_
     rintro _ K ⟨rfl,t⟩
     have o:Fr B K:=Fr.trans ((Fr.refl B).bH om) t
     have y:=n.fr o
     have q:=gZ R (Fx.of o)
     cases hl:ltInt e[a]! e[k+1]! with
     |false=>
      rw[yC (λc=>by have:=c.2;simp [hl] at this)] at m;simp(disch:=omega)only[go_sem,hl];exact⟨by rw[←m];exact aB rfl,y,q⟩
     |true=>
      rw[On om (by simp [hl])] at m;simp(disch:=omega)only[go_sem,hl,eK];exact⟨k,om,k,aB rfl,om,y,m,q,rfl⟩
    ·have z:=bI l
     rw[yC (λc=>l (by have:=c.1;omega))] at m
     simp(disch:=omega)only[go_sem,z]
     exact⟨by rw[←m];exact aB rfl,n.fr ((Fr.refl B).bH om),gZ R (Fx.of ((Fr.refl B).bH om))⟩
   ·rintro f h4 ⟨⟨g,rfl⟩,A4,F4⟩
    have a0:=scanDown_le (λx=>ltInt e[a]! x) e u j
    obtain⟨w,hw⟩: ∃x,scanDown (λx=>ltInt e[a]! x) e u j=x:=⟨_,rfl⟩
    rw[hw] at a0
    rw[hw]
    rw[hu,hw] at O
    have a4:=A4.size
    by_cases Q:(w:Int)<(u:Int)
    ·have z:=cI Q
     rw[bJ om] at O
     simp(disch:=omega)only[go_sem,z]
     rw[←O]
     exact⟨aB rfl,A4,F4⟩
    have z:=bI Q
    rw[bU om] at O
    have F:=A4.rd (i:=u) om
    have G:=A4.rd (i:=w) om
    have ei:(u:Int)+1=((u+1:Nat):Int):=om
    have ej:(w:Int)- 1=((w- 1:Nat):Int):=om
    simp(disch:=omega)only[go_sem,z,F,G,A4.get,cJ,bW,ei,ej]
    have W:=A4.swap (i:=u) (j:=w) (nx:=h4.next+16) om rfl
    exact⟨w- 1,om,u+1,w- 1,_,aB rfl,om,om,om,W.1,O,gZ F4 W.2,rfl⟩
 ·rintro f h5 ⟨⟨g,rfl⟩,A5,F5⟩
  simp(disch:=omega)only[go_sem]
  exact⟨A5,F5⟩
end
def ET  (n:Nat):Prop:= ∀(h:H) (S N a b:Nat) (lim:Int) (d:Array Int) (cp:pY),N<60000->dY h S N d->a<=b->b<=N->b-a<=n->0<=lim->lim<1000000->Below ltInt a b d->
 Ev T 197 [.sl S 0 N cp,aC a,aC b,aC lim] h (λ_ h'=> ∃e,dY h' S N e/\PermIn a b d e/\SortedIn ltInt a b e/\Fx (· =S) h h')
theorem EZ  (n:Nat)(ih: ∀m,m<n->ET m):ET n:=by
 intro h S N a b a7 d o hN A a5 b0 hn s q hB;refine dW lJ rfl ?_;simp(disch:=omega)only[go_sem,lJ,aE]
 refine aI (λk' w P=> ∃(f c:Nat) (Z:Int) (O wp:Bool) (e:Array Int),(∃g:Nat->V,w= [.sl S 0 N o,aC (f:Int),aC (c:Int),aC Z,.bool O,.bool wp,g 6,g 7,g 8,g 9,g 10,g 11,g 12,g 13,g 14,g 15,g 16,g 17,g 18,g 19,g 20,g 21,g 22])/\f<=c/\c<=N/\a<=f/\c<=b/\0<=Z/\Z<1000000/\Below ltInt f c e/\dY P S N e/\Fx (· =S) h P/\
   (∀R,PermIn f c e R->SortedIn ltInt f c R->PermIn a b d R/\SortedIn ltInt a b R)/\k'=c-f) (b-a)
  ⟨a,b,a7,true,true,d,aB rfl,a5,b0,fN _,fN _,s,q,hB,A,Fx.refl _ h,λR h1 h2=>⟨h1,h2⟩,rfl⟩ ?_
 clear A hB s q;rintro k' w h1 ⟨f,c,Z,O,wp,e,⟨g,rfl⟩,u,j,a6,a4,s,q,hB,A,F,K,rfl⟩;obtain⟨m,hm⟩:=exI (c-f);have em:(c:Int)-(f:Int)=(m:Int):=om
 have ez: ∀{x:Array Int} {hx:H},dY hx S N x->c<=x.size:=λA=>by rw[A.size];exact j
 by_cases a2:(m:Int)<=12
 ·have U:=cI a2
  simp(disch:=omega)only[go_sem,em,U];refine (yY h1 S N f c e o om A j u).mono ?_;rintro _ h2 ⟨A2,F2⟩;obtain⟨p1,p2⟩:=insertionSort_holds swo_ltInt e f c u (ez A);obtain⟨W,q2⟩:=K _ p1 p2;simp(disch:=omega)only[go_sem];exact⟨_,A2,W,q2,gZ F F2⟩
 have U:=bI a2
 by_cases hl:Z=0
 ·have z:=cI hl
  simp(disch:=omega)only[go_sem,em,U,z];refine (Bq h1 S N f c e o om A j u).mono ?_;rintro _ h2 ⟨A2,F2⟩;obtain⟨p1,p2⟩:=heapSort_holds swo_ltInt e f c u (ez A);obtain⟨W,q2⟩:=K _ p1 p2;simp(disch:=omega)only[go_sem];exact⟨_,A2,W,q2,gZ F F2⟩
 have z:=bI hl;simp(disch:=omega)only[go_sem,em,U,z];refine mM (λQ P=> ∃(z:Array Int) (y:Int) (g:Nat->V),Q= [.sl S 0 N o,aC (f:Int),aC (c:Int),aC y,.bool O,.bool wp,aC m,g 7,g 8,g 9,g 10,g 11,g 12,g 13,g 14,g 15,g 16,g 17,g 18,g 19,g 20,g 21,g 22]/\0<=y/\y<1000000/\dY P S N z/\PermIn f c e z/\Fx (· =S) h P) ?_ ?_
 ·cases O with
  |true=>
   simp(disch:=omega)only[go_sem];exact .inl ⟨e,Z,_,(aB rfl: ∃g:Nat->V,_= [.sl S 0 N o,aC (f:Int),aC (c:Int),aC Z,.bool true,.bool wp,aC m,g 7,g 8,g 9,g 10,g 11,g 12,g 13,g 14,g 15,g 16,g 17,g 18,g 19,g 20,g 21,g 22]).choose_spec,s,q,A,permIn_refl e f c,F⟩
  |false=>
   simp(disch:=omega)only[go_sem];refine (Pb h1 S N f c e o hN A j u).mono ?_;rintro _ h2 ⟨z,A2,p2,F2⟩;simp(disch:=omega)only[go_sem];exact .inl ⟨z,Z- 1,_,(aB rfl: ∃g:Nat->V,_= [.sl S 0 N o,aC (f:Int),aC (c:Int),aC (Z- 1),.bool false,.bool wp,aC m,g 7,g 8,g 9,g 10,g 11,g 12,g 13,g 14,g 15,g 16,g 17,g 18,g 19,g 20,g 21,g 22]).choose_spec,om,om,A2,p2,gZ F F2⟩
 clear A F s q hl z g;rintro w h2 ⟨z,y,g,rfl,s,q,A,P2,F⟩;have B2:=hB.perm (by rw[←P2.1];exact ez A) P2;simp(disch:=omega)only[go_sem];refine (Nz h2 S N f c z o om A j om).mono ?_;rintro _ h3 ⟨p,t,rfl,G,J,f3⟩;have A3:=A.fr f3;have F3:=gZ F (Fx.of f3);clear A F;simp(disch:=omega)only[go_sem];refine mM (λQ P=> ∃(e3:Array Int) (p2:Nat) (t2:Int) (g:Nat->V),Q= [.sl S 0 N o,aC (f:Int),aC (c:Int),aC y,.bool O,.bool wp,aC m,aC p2,aC t2,g 9,g 10,g 11,g 12,g 13,g 14,g 15,g 16,g 17,g 18,g 19,g 20,g 21,g 22]/\f<=p2/\p2<c/\dY P S N e3/\PermIn f c z e3/\Fx (· =S) h P) ?_ ?_
 ·refine bA (λht=>?_) (λht=>?_)
  ·simp(disch:=omega)only[go_sem]
   refine (Ge h3 S N f c z o om A3 j om).mono ?_;rintro _ h4 ⟨A4,F4⟩;have Y:(c:Int)- 1-((p:Int)-(f:Int))=(((c- 1)-(p-f):Nat):Int):=om
   simp(disch:=omega)only[go_sem,Y];exact .inl ⟨_,(c- 1)-(p-f),1,_,(aB rfl: ∃g:Nat->V,_= [.sl S 0 N o,aC (f:Int),aC (c:Int),aC y,.bool O,.bool wp,aC m,aC ((c- 1)-(p-f):Nat),aC 1,g 9,g 10,g 11,g 12,g 13,g 14,g 15,g 16,g 17,g 18,g 19,g 20,g 21,g 22]).choose_spec,om,om,A4,reverseRange_holds z f c u (ez A3),gZ F3 F4⟩
  ·simp(disch:=omega)only[go_sem]
   exact .inl ⟨z,p,t,_,(aB rfl: ∃g:Nat->V,_= [.sl S 0 N o,aC (f:Int),aC (c:Int),aC y,.bool O,.bool wp,aC m,aC p,aC t,g 9,g 10,g 11,g 12,g 13,g 14,g 15,g 16,g 17,g 18,g 19,g 20,g 21,g 22]).choose_spec,G,J,A3,permIn_refl z f c,F3⟩
 have a1:=ez A3;clear A3 F3 G J f3 p t g;rintro w h4 ⟨e3,p,t,g,rfl,G,J,A,P3,F⟩;have B3:=B2.perm a1 P3;have a0:=permIn_trans _ _ _ f c P2 P3;have a9:c<=z.size:=a1;clear a1 B2 hB;refine Ix (λQ P=> ∃(B:Array Int) (g:Nat->V),Q= [.sl S 0 N o,aC (f:Int),aC (c:Int),aC y,.bool O,.bool wp,aC m,aC p,g 8,g 9,g 10,g 11,g 12,g 13,g 14,g 15,g 16,g 17,g 18,g 19,g 20,g 21,g 22]/\dY P S N B/\PermIn f c e B/\Below ltInt f c B/\Fx (· =S) h P) ?_ ?_
 ·have skip: ∀(Q:List V),(∃g:Nat->V,Q= [.sl S 0 N o,aC (f:Int),aC (c:Int),aC y,.bool O,.bool wp,aC m,aC p,g 8,g 9,g 10,g 11,g 12,g 13,g 14,g 15,g 16,g 17,g 18,g 19,g 20,g 21,g 22])-> ∃(B:Array Int) (g:Nat->V),Q= [.sl S 0 N o,aC (f:Int),aC (c:Int),aC y,.bool O,.bool wp,aC m,aC p,g 8,g 9,g 10,g 11,g 12,g 13,g 14,g 15,g 16,g 17,g 18,g 19,g 20,g 21,g 22]/\dY h4 S N B/\PermIn f c e B/\Below ltInt f c B/\Fx (· =S) h h4:=λQ ⟨g,hv⟩=>⟨e3,g,hv,A,a0,B3,F⟩
  have run: ∀g:Nat->V,Ev T 239 [.sl S 0 N o,aC (f:Int),aC (c:Int)] h4 (λv h'=> ∃r:Array Int×Bool,v= .bool r.2/\dY h' S N r.1/\Fx (· =S) h4 h'/\PermIn f c e3 r.1/\(r.2=true->SortedIn ltInt f c r.1)):=λ_=>by
   refine (Eu h4 S N f c e3 o om A j om).mono ?_;rintro v h5 ⟨hv,A5,F5⟩;obtain⟨W,q2⟩:=partialInsertionSort_holds swo_ltInt e3 f c om (ez A) B3;exact⟨_,hv,A5,F5,W,q2⟩
  cases O with
  |false=>
   simp(disch:=omega)only[go_sem];exact .inl (skip _ (aB rfl))
  |true=>cases wp with
   |false=>
    simp(disch:=omega)only[go_sem]
    exact .inl (skip _ (aB rfl))
   |true=>
    simp(disch:=omega)only[go_sem]
    refine bA (λht=>?_) (λht=>?_)
    ·simp(disch:=omega)only[go_sem]
     refine (run g).mono ?_
     rintro v h5 ⟨⟨Y,r5⟩,rfl,A5,F5,W,q2⟩
     have A5:dY h5 S N Y:=A5
     have W:PermIn f c e3 Y:=W
     have P5:=permIn_trans _ _ _ f c a0 W
     cases r5 with
     |false=>
      simp(disch:=omega)only[go_sem];exact .inl ⟨Y,_,(aB rfl: ∃g:Nat->V,_= [.sl S 0 N o,aC (f:Int),aC (c:Int),aC y,.bool true,.bool true,aC m,aC p,g 8,g 9,g 10,g 11,g 12,g 13,g 14,g 15,g 16,g 17,g 18,g 19,g 20,g 21,g 22]).choose_spec,A5,P5,B3.perm (ez A) W,gZ F F5⟩
     |true=>
      obtain⟨w1,w2⟩:=K _ P5 (q2 rfl);simp(disch:=omega)only[go_sem];exact .inr ⟨by simp,Y,A5,w1,w2,gZ F F5⟩
    ·simp(disch:=omega)only[go_sem]
     exact .inl (skip _ (aB rfl))
 clear A P3 a0 B3 F P2 a9 e3 z;rintro w h5 ⟨B,g,rfl,A,P4,B4,F⟩;have a3:=ez A;refine Ix (λQ P=> ∃(g:Nat->V),Q= [.sl S 0 N o,aC (f:Int),aC (c:Int),aC y,.bool O,.bool wp,aC m,aC p,g 8,g 9,g 10,g 11,g 12,g 13,g 14,g 15,g 16,g 17,g 18,g 19,g 20,g 21,g 22]/\dY P S N B/\Fx (· =S) h P) ?_ ?_
 ·by_cases h0:(0:Int)<(f:Int)
  case neg=>
   have U:=bI h0;simp(disch:=omega)only[go_sem,U];exact .inl ⟨_,(aB rfl: ∃g:Nat->V,_= [.sl S 0 N o,aC (f:Int),aC (c:Int),aC y,.bool O,.bool wp,aC m,aC p,g 8,g 9,g 10,g 11,g 12,g 13,g 14,g 15,g 16,g 17,g 18,g 19,g 20,g 21,g 22]).choose_spec,A.fr ((Fr.refl h5).bH om),gZ F (Fx.of ((Fr.refl h5).bH om))⟩
  have U:=cI h0;have ea:(f:Int)- 1=((f- 1:Nat):Int):=om
  have c1:=A.rd (i:=f- 1) om;have c2:=A.rd (i:=p) om;simp(disch:=omega)only[go_sem,U,ea,c1,c2];refine (iC _ _ _).mono ?_;rintro _ h6 ⟨rfl,a8⟩;have f6:Fr h5 h6:=Fr.trans ((Fr.refl h5).bH om) a8;have A6:=A.fr f6;have F6:=gZ F (Fx.of f6)
  cases hl:ltInt B[f- 1]! B[p]! with
  |true=>
   simp(disch:=omega)only[go_sem,hl];exact .inl ⟨_,(aB rfl: ∃g:Nat->V,_= [.sl S 0 N o,aC (f:Int),aC (c:Int),aC y,.bool O,.bool wp,aC m,aC p,g 8,g 9,g 10,g 11,g 12,g 13,g 14,g 15,g 16,g 17,g 18,g 19,g 20,g 21,g 22]).choose_spec,A6,F6⟩
  |false=>
   obtain⟨w1,w2,w3,w4,w5⟩:=round_eq swo_ltInt (partitionEqual_holds ltInt) om G J a3 B4 hl (Prod.eta (partitionEqual ltInt B f c p)).symm;simp(disch:=omega)only[go_sem,hl];refine (Kt h6 S N f c p B o om A6 j G J).mono ?_;rintro _ h7 ⟨rfl,A7,F7⟩;simp(disch:=omega)only[go_sem];refine .inr ⟨by simp,c-(partitionEqual ltInt B f c p).1,om,(partitionEqual ltInt B f c p).1,c,y,O,wp,_,aB rfl,w2,j,om,a4,s,q,w4,A7,gZ F6 F7,λR r1 r2=>?_,rfl⟩;obtain⟨t1,t2⟩:=w5 R r1 r2;exact K R (permIn_trans _ _ _ f c P4 t1) t2
 clear A F;rintro w h6 ⟨g,rfl,A,F⟩;have e8:=Ow m (k:=8) (m:=8) rfl;simp(disch:=omega)only[go_sem];refine (zI h6 S N f c p B o om A j G J).mono ?_;obtain⟨r,hr⟩:=exI (partition ltInt B f c p);rw[hr];obtain⟨l,ap,Y⟩:=r;obtain⟨w1,w2,w3,w4,w5,w6,w7⟩:=round_part swo_ltInt (partition_holds ltInt) G J a3 B4 hr;rintro _ h7 ⟨rfl,A7,F7⟩;have A7:dY h7 S N Y:=A7;have F7:=gZ F F7;have el:(l:Int)-(f:Int)=((l-f:Nat):Int):=om
 have er:(c:Int)-(l:Int)=((c-l:Nat):Int):=om
 have U:(l:Int)+1=((l+1:Nat):Int):=om
 simp(disch:=omega)only[go_sem,el,er,e8];refine bA (λht=>?_) (λht=>?_)
 ·simp(disch:=omega)only[go_sem]
  refine (ih (l-f) om h7 S N f l y Y o hN A7 w1 om (fN _) s q w4).mono ?_;rintro _ h8 ⟨L,A8,p8,s8,F8⟩;obtain⟨u1,u2⟩:=w6 L p8 s8;simp(disch:=omega)only[go_sem,U];refine⟨c-(l+1),om,l+1,c,y,_,ap,L,aB rfl,om,j,om,a4,s,q,u1,A8,gZ F7 F8,λR r1 r2=>?_,rfl⟩;obtain⟨t1,t2⟩:=u2 R r1 r2;exact K R (permIn_trans _ _ _ f c P4 t1) t2
 ·simp(disch:=omega)only[go_sem,U]
  refine (ih (c-(l+1)) om h7 S N (l+1) c y Y o hN A7 om j (fN _) s q w5).mono ?_;rintro _ h8 ⟨L,A8,p8,s8,F8⟩;obtain⟨u1,u2⟩:=w7 L p8 s8;simp(disch:=omega)only[go_sem];refine⟨l-f,om,f,l,y,_,ap,L,aB rfl,om,om,a6,om,s,q,u1,A8,gZ F7 F8,λR r1 r2=>?_,rfl⟩;obtain⟨t1,t2⟩:=u2 R r1 r2;exact K R (permIn_trans _ _ _ f c P4 t1) t2
theorem Ww  (n:Nat):ET n:=by
 induction n using Nat.strongRecOn with
 |_ n ih=>exact EZ n  ih
theorem CP (h:H)(S N:Nat)(d:Array Int)(a:pY)(i:N<60000)(A:dY h S N d):
  Ev T 143 [.sl S 0 N a] h (λ_ h'=> ∃e,dY h' S N e/\PermIn 0 N d e/\SortedIn ltInt 0 N e/\Fx (· =S) h h'):=by
 refine dW qB rfl ?_
 have k:bitsLen N<=16:=(bitsLen_le_iff _ 16).2 om
 simp(disch:=omega)only[go_sem,qB,aE,fS (n:=(N:Int)) om om]
 refine (CV N h om).mono ?_
 rintro _ b ⟨rfl,c⟩
 subst c
 simp(disch:=omega)only[go_sem]
 refine (Ww N b S N 0 N _ d a i A om om om om om (.inl rfl)).mono ?_
 rintro _ j ⟨e,f,p,s,F⟩
 simp(disch:=omega)only[go_sem]
 exact⟨e,f,p,s,F⟩
theorem Qd {l:List Int}{N:Nat}(f:l.length=N){e:Array Int}(q:PermIn 0 N l.toArray e)(k:SortedIn ltInt 0 N e):e.toList.Perm l/\e.toList.Pairwise (· <= ·):=by
 obtain⟨o,s,m⟩:=q;have a:e.size=N:=by rw[o];simpa using f
 refine⟨?_,?_⟩
 ·have n:(e.extract 0 N).toList=e.toList:=by rw[←a];simp
  have p:(l.toArray.extract 0 N).toList=l:=by rw[←f];simp
  rwa [n,p] at m
 ·rw[GP]
  intro i j hi c d;have b:j<N:=by simpa [a] using c
  have:=k i j (iB _) d b;unfold ltInt at this;have h:e[i]! =e.toList[i]:=by simp at hi;simp [hi]
  have r:e[j]! =e.toList[j]:=by simp at c;simp [c]
  rw[h,r] at this;simpa using this
theorem Mw (h:H)(S:Nat)(l:List Int)(a:pY)(i:l.length<60000)(f:h.get S=bB (ints l))(b:S<h.next):
  Ev T 143 [.sl S 0 l.length a] h (λ_ h'=> ∃l',h'.get S=bB (ints l')/\l'.Perm l/\l'.Pairwise (· <= ·)/\Fx (· =S) h h'):=by
 refine (CP h S l.length l.toArray a i ⟨f,by simp,b⟩).mono ?_
 rintro _ h' ⟨e,A,p,s,F⟩
 obtain⟨d,c⟩:=Qd rfl p s
 exact⟨e.toList,A.get,d,c,F⟩
theorem Yu {a b:List Int}(h:a.Perm b)(d:a.Pairwise (· <= ·))(f:b.Pairwise (· <= ·)):a=b:=
 h.eq_of_pairwise (λ_ _ _ _ c i=>Int.le_antisymm c i) d f
end Go.Proofs.YtcdbmkidaecdiaaGreat
namespace Go.Proofs.YtcdbmkidaecdiaaGreat
open Go Go.Ay Go.Pm
set_option maxRecDepth 100000
theorem DT (id b:Nat)(d:V)(l:List Int)(h:H)(F:l.length<1000000)(J:Nat->H->Prop)(D:H->Prop)(n:J 0 h)
  (m: ∀i hh,J i hh->hh.get b=bB [d]/\SI hh d l)
  (B: ∀i hh,i<l.length->J i hh->Ey T id [aC (l.getD i 0)] hh (λv h'=>v= .bool true/\J (i+1) h'∨v= .bool false/\D h')):
  Ev T 232 [.yl id,.ptr b 0] h (λ_ h'=>J l.length h'∨D h'):=by
 refine dW mW rfl ?_
 obtain⟨A,s⟩:=m 0 h n
 have z:h.cell b 0=some d:=by rw[H.aF A];rfl
 have w:=s.lens
 simp(disch:=omega)only[go_sem,mW,aE,z,w]
 refine aI (λo a hh=> ∃(i:Nat),(∃g:Nat->V,a= [.yl id,.ptr b 0,g 2,d,aC (l.length:Int),aC i,g 6,g 7])/\i<=l.length/\J i hh/\o=l.length-i) l.length
  ⟨0,aB rfl,iB _,n,rfl⟩ ?_
 rintro o a p ⟨i,⟨g,rfl⟩,hi,j,rfl⟩
 by_cases c:(i:Int)<(l.length:Int)
 ·have k:=cI c
  obtain⟨K,t⟩:=m i p j
  obtain⟨q,r,x,u,y⟩:=t.open
  have ci:=y i om
  simp(disch:=omega)only[go_sem,k,x.ixa,ci]
  refine (B i p om j).mono ?_
  rintro v G (⟨rfl,f⟩|⟨rfl,f⟩)
  ·simp(disch:=omega)only[go_sem]
   rw[fJ i]
   exact⟨l.length-(i+1),om,i+1,aB rfl,om,f,rfl⟩
  ·simp(disch:=omega)only[go_sem]
   exact .inr f
 have k:=bI c
 obtain rfl:i=l.length:=om
 simp(disch:=omega)only[go_sem,k]
 exact .inl j
theorem CE (b:Nat)(R:V)(l:List Int)(h:H)(hn:l.length<100000)(hb:h.get b=bB [R])(a0:b<h.next)(U:SI h R l):
  Ev T 231 [.fn 232 [] [.ptr b 0]] h (λv h'=>dH h' v 1 (ints l) h.next/\(v= .aD∨ ∃id cap,v= .sl id 0 l.length cap/\h.next<=id/\id<h'.next/\h'.get id=bB (ints l))/\Fr h h'):=by
 refine dW rW rfl ?_
 simp(disch:=omega)only[go_sem,rW,aE]
 refine Ev.mono (Q:=λv h'=>dH h' v 1 (ints l) h.next/\(v= .aD∨ ∃id cap,v= .sl id 0 l.length cap/\h.next<=id/\id<h'.next/\h'.get id=bB (ints l))/\Fr h h') ?_ (λv h' U=>by simp(disch:=omega)only[go_sem];exact U)
 refine dW mI rfl ?_
 simp(disch:=omega)only[go_sem,mI,aE,mE (x:= .aD) rfl rfl]
 obtain⟨B,N⟩:=exI h.next
 obtain⟨u,q⟩: ∃u,u=h.new (.cells false [.aD]):=⟨_,rfl⟩
 have g1:u.get B=bB [.aD]:=by rw[q,←N,H.aL]
 have n1:u.next=B+1:=by rw[q,H.aW,N]
 have f1:Fr h u:=by rw[q];exact (Fr.refl h).new _
 rw[←q,N]
 refine⟨rfl,?_⟩
 refine wF λr s=>?_
 refine (DT (B+1) b R l _ om (λi d=>d.get (B+1)=some (.loop r)/\B+1<d.next/\Fr h d/\ ∃j,d.get B=bB [j]/\dH d j 1 (ints (l.take i)) (B+2)/\(j= .aD∨ ∃id cap,j= .sl id 0 i cap/\B+2<=id/\id<d.next/\d.get id=bB (ints (l.take i)))) (λ_=>False) ?_ ?_ ?_).mono ?_
 ·have e:=H.aL u (.loop r)
  rw[n1] at e
  refine⟨e,by rw[H.aW];omega,f1.new _,.aD,by rw[H.bG u om];exact g1,dH.aD _ _ _,.inl rfl⟩
 ·rintro i d ⟨_,_,f,_⟩
  exact⟨by rw[f.get b a0];exact hb,U.mono f⟩
 ·rintro i d hi ⟨P,nr,f,j,J,F,sh⟩
  have jI:r.st= .ready:=by rw[s]
  have L:r.pend=none:=by rw[s]
  refine uC P (by rw[s];rfl) jI λw g2 W o2=>?_
  rw[congrArg fK.assign s,congrArg fK.vars s,congrArg fK.pars s]
  simp(disch:=omega)only[go_sem,List.zip_cons_cons,List.zip_nil_left]
  rw[congrArg fK.body s]
  have cB:w.cell B 0=some j:=by unfold H.cell;rw[o2 B om,J];rfl
  simp(disch:=omega)only[go_sem,cB,cK w (z:= aC 0) (v:= aC (l.getD i 0)) rfl rfl,W]
  obtain⟨a,p⟩: ∃a,a=w.new (.cells false [aC (l.getD i 0)]):=⟨_,rfl⟩
  have g3:a.get d.next=bB [aC (l.getD i 0)]:=by rw[p,←W,H.aL]
  have n3:a.next=d.next+1:=by rw[p,H.aW,W]
  have K: ∀k,k<d.next->k≠B+1->a.get k=d.get k:=λk o y=>by rw[p,H.bG w om,o2 k y]
  have r3:a.get (B+1)=some (.loop (qE r)):=by rw[p,H.bG w om,g2]
  rw[←p]
  have O:dH a j 1 (ints (l.take i)) (B+2):=F.mono om λid A n c e o y=>K id y om
  have Y:(l.take i).length=i:=by rw[zO];omega
  obtain⟨o,a4,G⟩:=O.push (bytes:=8) (SV.one om g3 (.kn 1)) (n:=i) (m:=1) (by rw[aP,Y,tW]) rfl om om om
  have Z: ∀k,k<B+2->dR j k:=λk hk id A n c e e2=>by
   have:=(F.in _ _ _ _ e).2.1;omega
  have g4:o.get B=bB [j]:=by rw[G.old B om (Z B om),K B om om];exact J
  have r4:o.get (B+1)=some (.loop (qE r)):=by rw[G.old (B+1) om (Z (B+1) om)];exact r3
  have pt:eU (bB [j]) o B 0 [.sl a.next 0 (i+1) (.un 1)]=some (o.set B (bB [.sl a.next 0 (i+1) (.un 1)])):=bT (by simp) o B _
  simp(disch:=omega)only[go_sem,a4,g4,pt]
  refine pU jI L (by rw[H.aH o om];exact r4) (.inl ⟨rfl,?_⟩)
  have et:ints (l.take (i+1))=ints (l.take i)++ [aC (l.getD i 0)]:=by
   rw[←List.take_append_getElem hi,rP];simp [ints,List.getD,hi]
  have n4:=G.next
  have g5:((o.set B (bB [.sl a.next 0 (i+1) (.un 1)])).set (B+1) (some (.loop r))).get a.next=bB (ints (l.take (i+1))):=by
   rw[H.aH _ om,H.aH _ om,G.get,et]
  refine⟨by rw[H.aU],by simp only[H.cV];omega,⟨by simp only[H.cV];have:=f.next;omega,λid t=>?_⟩,_,by rw[H.aH _ om,H.aU],?_,.inr ⟨a.next,_,rfl,om,by simp only[H.cV];omega,g5⟩⟩
  ·rw[H.aH _ om,H.aH _ om,G.old id (by have:=f.next;omega) (Z id om),K id (by have:=f.next;omega) om]
   exact f.get id t
  ·exact .inr ⟨a.next,i+1,_, [],rfl,by rw[aP,zO];omega,.inl rfl,om,by simp only[H.cV];omega,by rw[tZ];exact g5⟩
 ·rintro _ w (⟨P,nr,f,j,J,F,sh⟩|h)
  case inr=>exact h.elim
  refine⟨r,P,by rw[s];simp,?_⟩
  have cB:(w.set (B+1) (some (.loop {r with st:= .out}))).cell B 0=some j:=by unfold H.cell;rw[H.aH _ om,J];rfl
  have en:r.pend.getD .norm= .norm:=by rw[s];rfl
  rw[en]
  simp(disch:=omega)only[go_sem,cB]
  rw[List.take_length] at F sh
  refine⟨?_,?_,⟨by simp only[H.cV];have:=f.next;omega,λid t=>by rw[H.aH _ om];exact f.get id t⟩⟩
  ·refine (F.mono (by simp only[H.cV];omega) λid A n c e o y=>H.aH _ om _).le om
  ·rcases sh with rfl|⟨id,cap,rfl,a,o,y⟩
   ·exact .inl rfl
   ·exact .inr ⟨id,cap,rfl,om,o,by rw[H.aH _ om];exact y⟩
theorem JU (b:Nat)(d:V)(l:List Int)(h:H)(x:0<l.length)(y:l.length<50000)(q:h.get b=bB [d])(f:b<h.next)(u:SI h d l):
  Ev T 194 [.fn 232 [] [.ptr b 0]] h (λv h'=> ∃id cap l',v= .sl id 0 l.length cap/\h.next<=id/\id<h'.next/\h'.get id=bB (ints l')/\l'.Perm l/\l'.Pairwise (· <= ·)/\Fr h h'):=by
 refine dW sZ rfl ?_
 simp(disch:=omega)only[go_sem,sZ,aE]
 refine (CE b d l h om q f u).mono ?_
 rintro v m ⟨n,s,a⟩
 rcases s with rfl|⟨id,cap,rfl,t,j,p⟩
 ·exfalso
  rcases n with ⟨_,e⟩|⟨_,_,_,_,e,_⟩
  ·have:=congrArg List.length e
   rw[aP,List.length_nil] at this
   omega
  ·cases e
 simp(disch:=omega)only[go_sem]
 refine (Mw m id l cap om p j).mono ?_
 rintro _ z ⟨l',r,o,w,c⟩
 simp(disch:=omega)only[go_sem]
 exact⟨id,cap,l',rfl,t,jM j c.next,r,o,w,mY a.next c.next,λk i=>(c.get k (jM i a.next) (λe=>by have:k=id:=e;omega)).trans (a.get k i)⟩
section
variable {v vO vR:V} {b C D n:Nat} {r O:LN} {wsO wsR:List V}
structure Af (h h':H)(v:V)(l:List Int):Prop where
 ex: ∃id cap,v= .sl id 0 l.length cap/\h.next<=id/\id<h'.next/\h'.get id=bB (ints l)/\(cap= .un 1∨cap= .kn l.length)
 fr:Fr h h'
theorem Af.pv {h h':H}{l:List Nat}(f:Af h h' v (zi l)){W:Nat->Prop}(c: ∀id,W id->id<h.next):PV W h' v l:=by
 obtain⟨id,j,rfl,k,d,i,_⟩:=f.ex;exact⟨SV.all (by rw[aP,tW]) d i _,λa=>by have:=c id a;omega⟩
theorem Af.si {h h':H}{l:List Int}(f:Af h h' v l):SI h' v l:=by
 obtain⟨id,a,rfl,i,d,c,_⟩:=f.ex;exact SV.all (by rw[aP,tW]) d c _
theorem Af.own {h h':H}{l:List Int}(f:Af h h' v l):dH h' v 1 (ints l) h.next:=by
 obtain⟨id,a,rfl,c,d,j,i⟩:=f.ex;exact .inr ⟨id,l.length,a, [],rfl,by rw[aP,tW],by rcases i with e|e;exact .inl e;exact .inr ⟨e,rfl⟩,c,d,by rw[tZ];exact j⟩
theorem Nh (u:V)(l:List Int)(h:H)(t:0<l.length)(A:l.length<1000000)(k:SI h u l):
  Ev T 138 [u] h (λv h'=>Af h h' v l):=by
 refine dW lN rfl ?_
 have x:Ht false u=some (.bool false):=by
  rcases k with ⟨_,e⟩|⟨id,a,len,y,G,B,rfl,_⟩
  ·have:=congrArg List.length e
   rw[aP,List.length_nil] at this;omega
  ·rfl
 simp(disch:=omega)only[go_sem,lN,aE,x]
 have i:Fr h (h.new (.cells false [])):=(Fr.refl h).new _
 have q:dH (h.new (.cells false [])) (.sl h.next 0 0 (.kn 0)) 1 [] 0:=dH.new h 1 0 0 [] rfl (iB _)
 obtain⟨F,o,f⟩:=q.push (bytes:=8) (k.mono i) (n:=0) (m:=l.length) rfl (by rw[aP,tW]) om t om
 have j:(h.new (.cells false [])).next=h.next+1:=H.aW ..
 rw[j] at o
 have s:=f.next
 have p:=f.get
 rw[j] at s p
 simp(disch:=omega)only[go_sem,o]
 refine⟨⟨h.next+1,_,rfl,om,om,p,.inl rfl⟩,om,λid d=>?_⟩
 rw[f.old id om (λw a n c e z=>by cases e;omega)]
 exact i.get id d
def II (v:V):Prop:= ∀id off len cap,v= .sl id off len cap->cap= .un 1∨ ∃c,cap= .kn c/\len<=c
theorem dH.UH {h:H}{ws:List V}(o:dH h v 1 ws b):II v:=by
 rintro id a len d rfl;rcases o with ⟨e,_⟩|⟨_,_,_,_,e,_,c,_⟩
 ·cases e
 ·cases e
  rcases c with e|⟨e,_⟩
  ·exact .inl e
  ·exact .inr ⟨_,e,fN _⟩
def SRR (h:H)(v:V)(R:List (List (List Int))):Prop:= ∃ws,SV h v 1 ws/\aN (SR h) ws R/\ ∀w∈ws,II w
theorem SRR.mono {h h':H}{R:List (List (List Int))}(s:SRR h v R)(f:Fr h h'):SRR h' v R:=by
 obtain⟨c,s,a,k⟩:=s;exact⟨c,s.mono f,a.mono λ_ _ x=>x.mono f,k⟩
def YD (h:H)(v:V)(d:Int)(O:List (List Int))(R:List (List (List Int))):Prop:= ∃vO vR,v= .agg [aC d,vO,vR]/\SR h vO O/\SRR h vR R
theorem YD.mono {h h':H}{d:Int}{O:List (List Int)}{R:List (List (List Int))}(s:YD h v d O R)(f:Fr h h'):YD h' v d O R:=by
 obtain⟨vO,vR,e,a,c⟩:=s;exact⟨vO,vR,e,a.mono f,c.mono f⟩
def PL (W:Nat->Prop)(h:H)(v:V)(r:LN):Prop:= ∃ws,SV h v 1 ws/\Oa W v/\dZ W h ws r/\II v
section
variable {W W':Nat->Prop} {h h' hh:H}
theorem PL.go (p:PL W h v r)(f:Fx W h h')(c: ∀id,id<h.next->W' id->W id):PL W' h' v r:=by
 obtain⟨d,s,o,a,k⟩:=p;exact⟨d,s.fx o f,o.kO s c,dZ.go a f c,k⟩
theorem PL.sp (p:PL W h v r):SP h v r:=by
 obtain⟨c,s,o,a,_⟩:=p;refine⟨c,s,?_⟩;have d:=aN.length a
 exact aN.lI (by simpa using d) λi hi f=>by
  have:=(aN.get a i hi om).si;simpa using this
def Ik (W:Nat->Prop)(v:V):Prop:= ∀id off n c,v= .sl id off n c->W id
structure Cn (h hh:H)(C D:Nat)(W:Nat->Prop)(n:Nat)(O:LN)(R:jJ)(vO vR:V)(wsO wsR:List V):Prop where
 get:hh.get C=bB [aC n,vO,vR]
 oO:dH hh vO 1 wsO h.next
 oR:dH hh vR 1 wsR h.next
 aO:dZ W hh wsO O
 aR:aN (PL W hh) wsR R
 bO:Ik W vO
 bR:Ik W vR
 pO:dR vO C
 pR:dR vR C
 qO:dR vO D
 qR:dR vR D
 d:W D
 cd:C≠D
 Rh:Dis vO vR
 wb: ∀id,W id->id<hh.next
 low: ∀id,id<h.next->W id
 hC:h.next<=C
 hD:h.next<=D
 c:W C
 fr:Fr h hh
theorem Cn.start (j:h.next<=C)(c:C<hh.next)(i:h.next<=D)(a:D<hh.next)(d:C≠D)(f:Fr h hh)(k:hh.get C=bB [aC n,.aD,.aD]):Cn h hh C D (λid=>id=C∨id=D∨id<h.next) n [] [] .aD .aD [] []:=
 ⟨k,dH.aD _ _ _,dH.aD _ _ _,trivial,trivial,λ_ _ _ _ e=>(by cases e),λ_ _ _ _ e=>(by cases e),dR.aD _,dR.aD _,dR.aD _,dR.aD _,.inr (.inl rfl),d,λ_ _ _ _ e=>(by cases e),λid e=>by rcases e with rfl|rfl|e;exact c;exact a;exact jM e f.next,λid e=> .inr (.inr e),j,i,.inl rfl,f⟩
theorem Cn.mono {R:jJ}(A:Cn h hh C D W n O R vO vR wsO wsR){h2:H}(f:Fr hh h2):Cn h h2 C D W n O R vO vR wsO wsR:=
 ⟨by rw[f.get C (A.wb C A.c)];exact A.get,A.oO.fr f,A.oR.fr f,dZ.go A.aO (Fx.of f) (λ_ _ h=>h),A.aR.mono λ_ _ x=>x.go (Fx.of f) (λ_ _ h=>h),A.bO,A.bR,A.pO,A.pR,A.qO,A.qR,A.d,A.cd,A.Rh,λid h=>jM (A.wb id h) f.next,A.low,A.hC,A.hD,A.c,A.fr.trans f⟩
theorem Cn.step {R:jJ}(A:Cn h hh C D W n O R vO vR wsO wsR){v4 v5:V}{o:List Nat}(F:PV W hh v4 o)(P:PL W hh v5 r)
  {h6:H} {a k1 k2:Nat} (ha:hh.next<=a) (U:hh.next<=b) (w:a≠b) (y:a<h6.next) (z:b<h6.next) (L:wsO.length+1=k1) (G:wsR.length+1=k2)
  (J:h6.get C=bB [aC n,.sl a 0 k1 (.un 1),.sl b 0 k2 (.un 1)]) (N:h6.get a=bB (wsO++ [v4])) (B:h6.get b=bB (wsR++ [v5]))
  (p: ∀k,k<hh.next->k≠C->dR vO k->dR vR k->h6.get k=hh.get k):
  Cn h h6 C D (λid=>W id∨id=a∨id=b) n (O++ [o]) (R++ [r]) (.sl a 0 k1 (.un 1)) (.sl b 0 k2 (.un 1)) (wsO++ [v4]) (wsR++ [v5]):=by
 have t:Fx W hh h6:=⟨om,λid j l=>p id j (λe=>l (e▸A.c)) (λm f n c e q=>l (q▸A.bO _ _ _ _ e)) (λm f n c e q=>l (q▸A.bR _ _ _ _ e))⟩
 have s: ∀id,id<hh.next->(W id∨id=a∨id=b)->W id:=λid j l=>by
  rcases l with l|l|l
  ·exact l
  ·omega
  ·omega
 have Z:=A.wb C A.c
 have Q:=A.wb D A.d
 have fn:=A.fr.next
 refine⟨J,.inr ⟨a,k1,_, [],rfl,by rw[iV];simp;omega,.inl rfl,om,y,by rw[tZ];exact N⟩,.inr ⟨b,k2,_, [],rfl,by rw[iV];simp;omega,.inl rfl,om,z,by rw[tZ];exact B⟩,
  (dZ.go A.aO t s).append (dZ.one (PV.go F t s)),(A.aR.mono λ_ _ x=>x.go t s).append ⟨P.go t s,trivial⟩,λid f n c e=>by cases e;exact .inr (.inl rfl),λid f n c e=>by cases e;exact .inr (.inr rfl),
  dR.sl om,dR.sl om,dR.sl om,dR.sl om,.inl A.d,A.cd,λi o n c e i' o' Y c' K=>by cases e;cases K;exact w,λid j=>?_,λid j=> .inl (A.low id j),A.hC,A.hD,.inl A.c,⟨om,λid u=>?_⟩⟩
 ·rcases j with j|j|j
  ·have:=A.wb id j;omega
  ·omega
  ·omega
 ·have hC:=A.hC
  rw[p id om om (λm f n c e q=>by have:=(A.oO.in _ _ _ _ e).2.1;omega) (λm f n c e q=>by have:=(A.oR.in _ _ _ _ e).2.1;omega)]
  exact A.fr.get id u
theorem Cn.box {R:jJ}(A:Cn h hh C D W n O R vO vR wsO wsR){h3:H}{o:Option Ob}(e:h3=hh.set D o):Cn h h3 C D W n O R vO vR wsO wsR:=by
 subst e;have f:Fx W hh (hh.set D o):=Fx.set hh A.d o;have j:=A.wb D A.d
 refine⟨by rw[H.aH hh A.cd];exact A.get,A.oO.mono (fN _) λid a m c e _ _=>H.aH hh (λi=>A.qO _ _ _ _ e i.symm) o,A.oR.mono (fN _) λid a m c e _ _=>H.aH hh (λi=>A.qR _ _ _ _ e i.symm) o,
  dZ.go A.aO f (λ_ _ h=>h),A.aR.mono λ_ _ x=>x.go f (λ_ _ h=>h),A.bO,A.bR,A.pO,A.pR,A.qO,A.qR,A.d,A.cd,A.Rh,A.wb,A.low,A.hC,A.hD,A.c,?_⟩
 exact A.fr.set A.hD o
end
def OP (W:Nat->Prop)(h:H)(v:V)(n:Nat)(O:LN)(R:jJ):Prop:= ∃vO vR wsO wsR,v= .agg [aC n,vO,vR]/\SV h vO 1 wsO/\Oa W vO/\dZ W h wsO O/\SV h vR 1 wsR/\Oa W vR/\aN (PL W h) wsR R
section
variable {W W':Nat->Prop} {h h' hh:H}
theorem OP.go {R:jJ}(c:OP W h v n O R)(f:Fx W h h')(a: ∀id,id<h.next->W' id->W id):OP W' h' v n O R:=by
 obtain⟨vO,vR,wsO,wsR,e,j,i,l,k,d,m⟩:=c;exact⟨vO,vR,wsO,wsR,e,j.fx i f,i.kO j a,dZ.go l f a,k.fx d f,d.kO k a,m.mono λ_ _ x=>x.go f a⟩
theorem OP.mono {R:jJ}(c:OP W h v n O R)(f:Fr h h'):OP W h' v n O R:=c.go (Fx.of f) λ_ _ h=>h
theorem OP.ch {R:jJ}(c:OP W h v n O R):YD h v (n:Int) (O.map zi) (R.map (List.map zi)):=by
 obtain⟨vO,vR,wsO,wsR,e,l,q,f,j,p,d⟩:=c;refine⟨vO,vR,e,⟨wsO,l,?_⟩,⟨wsR,j,?_,λw m=>?_⟩⟩
 ·have a:=aN.length f
  exact aN.lI (by simpa using a) λi hi o=>by
   have:=(aN.get f i hi om).si;simpa using this
 ·have a:=aN.length d
  exact aN.lI (by simpa using a) λi hi o=>by
   have:=(aN.get d i hi om).sp;simpa using this
 ·obtain⟨i,hi,rfl⟩:=Ad.1 m
  have a:=aN.length d;obtain⟨_,_,_,_,k⟩:=aN.get d i hi om;exact k
theorem DM {sz:Nat}{ws:List V}(o:dH h v sz ws b):Oa (λid=>id<b) v:=by
 cases v with
 |sl id off m c=>exact λe=>by have:=(o.in _ _ _ _ rfl).2.1;omega
 |_=>trivial
theorem Cn.chw {R:jJ}(A:Cn h hh C D W n O R vO vR wsO wsR):OP (λid=>id<h.next) hh (.agg [aC n,vO,vR]) n O R:=
 ⟨vO,vR,wsO,wsR,rfl,A.oO.sv,DM A.oO,dZ.kO A.aO λid _ h=>A.low id h,A.oR.sv,DM A.oR,A.aR.mono λ_ _ x=>x.go (Fx.refl _ _) λid _ h=>A.low id h⟩
end
theorem oNs {h:H}{O:List (List Int)}(s:SR h v O):v.one=true:=by
 obtain⟨_,t,_⟩:=s;exact t.cT.2.1
theorem oNt {h:H}{O:List (List (List Int))}(s:SRR h v O):v.one=true:=by
 obtain⟨_,t,_⟩:=s;exact t.cT.2.1
end
def ChL (τ:qD)(n j:Nat)(o:List Nat)(r:LN):Prop:=o.Pairwise (· < ·)/\(∀p,p∈o↔p∈(τ j).orb)/\r.length=o.length/\ ∀k,k<o.length-> ∀y,(τ j).to (o.getD k 0)=some y->r.getD k []=Lx τ (n-(j+1)) (j+1) y
theorem acD {l:List Int}{a:List Nat}(h:l.Perm (zi a)): ∃q,l=zi q/\q.Perm a:=by
 refine⟨l.map Int.toNat,?_,?_⟩
 ·unfold zi
  rw[List.map_map];refine (List.map_id l).symm.trans (Xa λx b=>?_);have:=h.mem_iff.1 b;obtain⟨k,_,rfl⟩:=pH.1 this;simp
 ·have:=h.map Int.toNat
  have e:(zi a).map Int.toNat=a:=by
   unfold zi;rw[List.map_map];exact (Xa λx _=>by simp).trans (List.map_id a)
  rwa [e] at this
theorem ahJ {q:List Nat}(h:(zi q).Pairwise (· <= ·))(nd:q.Nodup):q.Pairwise (· < ·):=by
 unfold zi at h;rw[List.pairwise_map] at h;rw[MV] at nd;exact (h.and nd).imp λ⟨a,h2⟩=>om
theorem KX (u:V)(b:u.cells= [u])(a:u.one=true)(h:H):Ev T 195 [u] h (λv h'=>v= .fn 232 [] [.ptr h.next 0]/\h'.get h.next=bB [u]/\h'.next=h.next+1/\Fr h h'):=by
 refine dW oP rfl ?_;simp(disch:=omega)only[go_sem,oP,aE,mE b a];exact (Fr.refl h).new _
theorem mK {α:Type}{a:List α}{x:α}{j:Nat}{d:α}(h:j<a.length):(a++ [x]).getD j d=a.getD j d:=by
 rw[List.getD,List.getD,Dt h]
theorem kQ {α:Type}{a:List α}{x d:α}:(a++ [x]).getD a.length d=x:=by
 rw[List.getD,Jg (fN _),Nat.sub_self];rfl
theorem Rw (h:H)(n s L:Nat)(F:Nat->V)(τ:qD)(hn:n<=7)(R:tC h n s L F τ)(t:pX n 0 τ):
  Ev T 142 [.ptr s 0] h (λv h'=> ∃O R',OP (λid=>id<h.next) h' v n O R'/\aV n (S n τ 0) O R'/\Fr h h'):=by
 refine dW sI rfl ?_
 obtain⟨B,hB⟩:=exI h.next
 have tn:=R.tn
 have ln:=R.ln
 have ct:h.cell s 0=some (aC n):=by rw[H.aF R.t];rfl
 have bl:qU [aC 0,.aD,.aD] [(0,1,aC n)]=some (.agg [aC n,.aD,.aD]):=by
  have e1:putAt [aC 0,.aD,.aD] 0 [aC n]=some [aC n,.aD,.aD]:=by simp [putAt]
  simp [qU,iK,e1,V.cells,V.one]
 obtain⟨U,a2⟩: ∃U,U=(h.new (.cells false [aC 0,.aD,.aD])).new (.cells false [aC 0,.aD,.aD]):=⟨_,rfl⟩
 have n1:U.next=B+2:=by rw[a2,H.aW,H.aW,hB]
 have g1:U.get (B+1)=bB [aC 0,.aD,.aD]:=by
  rw[a2];have:=H.aL (h.new (.cells false [aC 0,.aD,.aD])) (.cells false [aC 0,.aD,.aD]);rwa [H.aW,hB] at this
 have g0:U.get B=bB [aC 0,.aD,.aD]:=by rw[a2,H.bG _ (by rw[H.aW,hB];omega),←hB,H.aL]
 have f1:Fr h U:=by rw[a2];exact ((Fr.refl h).new _).new _
 have e4:U.cell s 0=some (aC n):=by rw[f1.cell tn];exact ct
 simp(disch:=omega)only[go_sem,sI,aE,hB,ct,bl]
 rw[←a2]
 simp(disch:=omega)only[go_sem,cF U (B+1) 0 (v:= aC n) (u:= .aD) (w:= .aD) rfl rfl rfl,g1,cH]
 obtain⟨l,a3⟩: ∃l,l=U.set (B+1) (bB [aC n,.aD,.aD]):=⟨_,rfl⟩
 have n2:l.next=B+2:=by rw[a3];exact n1
 have f2:Fr h l:=by rw[a3];exact f1.set om _
 have g2:l.get (B+1)=bB [aC n,.aD,.aD]:=by rw[a3,H.aU]
 have d6:l.get B=bB [aC 0,.aD,.aD]:=by rw[a3,H.aH _ om];exact g0
 have c9:U.cell s 1=some (.sl L 0 n (.kn n)):=by rw[H.aF (R.mono f1).t];rfl
 rw[←a3]
 simp(disch:=omega)only[go_sem,c9]
 clear a2 a3 f1 g0 g1 e4 c9 n1 U
 refine aI (λk' a0 J=> ∃(i:Nat) (W:Nat->Prop) (O:LN) (R':jJ) (vO N:V) (c6 b6:List V),(∃g:Nat->V,a0= [.ptr s 0,.ptr B 0,.ptr (B+1) 0,g 3,g 4,g 5,g 6,aC n,aC i,g 9,g 10,g 11,g 12,g 13])/\i<=n/\Cn h J (B+1) B W n O R' vO N c6 b6/\
   J.get B=bB [aC 0,.aD,.aD]/\O.length=i/\R'.length=i/\(∀j,j<i->ChL τ n j (O.getD j []) (R'.getD j []))/\k'=n-i) n
  ⟨0,_, [], [],_,_,_,_,aB rfl,iB _,Cn.start om om om om om f2 g2,d6,rfl,rfl,λj hj=>om,rfl⟩ ?_
 clear f2 g2 d6 n2 l
 rintro k' a0 l ⟨i,W,O,R',vO,N,c6,b6,⟨g,rfl⟩,hi,A,gB,lO,lR,hC,rfl⟩
 by_cases c4:(i:Int)<(n:Int)
 case neg=>
  have e1:=bI c4;obtain rfl:i=n:=om
  have hr:=aJ A.get;have nB:=A.fr.next;simp(disch:=omega)only[go_sem,e1,hr,cF l B 0 (v:= aC i) (u:=vO) (w:=N) rfl (SV.cT A.oO.sv).2.1 (SV.cT A.oR.sv).2.1,gB,cH];have e9:=aJ (h:=l.set B (bB [aC i,vO,N])) (H.aU ..);have fB:Fx (· =B) l (l.set B (bB [aC i,vO,N])):=Fx.set l (W:=(· =B)) rfl _;simp(disch:=omega)only[go_sem,e9]
  obtain⟨h3,d5⟩: ∃h3,h3=l.set B (bB [aC i,vO,N]):=⟨_,rfl⟩
  rw[←d5] at fB ⊢;have A3:=A.box d5;refine⟨O,R',by rw[←hB];exact A3.chw,?_,A3.fr⟩;have X:=t.chain (O:=O) (R:=R') lO lR (λj hj=>(hC j hj).1) (λj hj=>(hC j hj).2.1) (λj hj=>(hC j hj).2.2.1) (λj hj=>(hC j hj).2.2.2);exact X
 have e1:=cI c4
 have Q:i<n:=om
 have R2:=R.mono A.fr
 have cl:l.cell s 1=some (.sl L 0 n (.kn n)):=by rw[H.aF R2.t];rfl
 have co:l.cell L (i*194+1)=some (F (i*194+1)):=R2.cell Q om
 have oo:=R2.orb i Q
 obtain⟨nG,_⟩:=t i (iB _) Q
 have j1:=YF nG Q
 have d7:0<(τ i).orb.length:=Rl nG.base
 simp(disch:=omega)only[go_sem,e1,cl,co]
 refine (KX (F (i*194+1)) (SV.cT oo.sv).1 (SV.cT oo.sv).2.1 l).mono ?_
 rintro _ h3 ⟨rfl,g3,n3,f3⟩
 simp(disch:=omega)only[go_sem]
 have c5:SI h3 (F (i*194+1)) (zi (τ i).orb):=(show SI l _ _ from oo.sv).mono f3
 refine (JU l.next _ (zi (τ i).orb) h3 (by rw[aS];exact d7) (by rw[aS];omega) g3 om c5).mono ?_
 rintro _ h4 ⟨P,cp,l',rfl,j3,d3,gP,pm,c2,f4⟩
 obtain⟨q,rfl,b8⟩:=acD pm
 have c8:=ahJ c2 (b8.nodup_iff.2 nG.nd)
 have lq:q.length=(τ i).orb.length:=b8.length_eq
 have b4: ∀p,p∈q↔p∈(τ i).orb:=λp=>b8.mem_iff
 rw[aS,←lq]
 have A4:=A.mono (f3.trans f4)
 have pq:PV W h4 (.sl P 0 q.length cp) q:=⟨SV.all (by rw[aP,aS,tW]) d3 gP _,λhw=>by have:=A.wb P hw;omega⟩
 have e7:h4.get B=bB [aC 0,.aD,.aD]:=by rw[(f3.trans f4).get B (A.wb B A.d)];exact gB
 clear A gB g3 c5 oo co cl R2 pm c2
 simp(disch:=omega)only[go_sem]
 refine bQ (λvs J=> ∃(vr:V) (r:LN),(∃g:Nat->V,vs= [.ptr s 0,.ptr B 0,.ptr (B+1) 0,aC i,.sl P 0 q.length cp,vr,g 6,aC n,aC i,g 9,g 10,g 11,g 12,g 13])/\PL W J vr r/\ChL τ n i q r/\Fr h4 J) ?_ ?_
 ·refine aI (λk' vs J=> ∃(k:Nat) (vr:V) (ws:List V) (r:LN) (W':Nat->Prop),(∃g:Nat->V,vs= [.ptr s 0,.ptr B 0,.ptr (B+1) 0,aC i,.sl P 0 q.length cp,vr,g 6,aC n,aC i,g 9,.sl P 0 q.length cp,aC (q.length:Int),aC k,g 13])/\k<=q.length/\dH J vr 1 ws h4.next/\dZ W' J ws r/\Ik W' vr/\(∀id,W id->W' id)/\(∀id,W' id->id<J.next/\(W id∨h4.next<=id))/\r.length=k/\
    (∀j,j<k-> ∀y,(τ i).to (q.getD j 0)=some y->r.getD j []=Lx τ (n-(i+1)) (i+1) y)/\Fr h4 J/\k'=q.length-k) q.length
   ⟨0,.aD, [], [],W,aB rfl,iB _,dH.aD _ _ _,trivial,λ_ _ _ _ e=>(by cases e),λ_ h=>h,λid h=>⟨A4.wb id h,.inl h⟩,rfl,λj hj=>om,Fr.refl _,rfl⟩ ?_
  rintro k' a0 f ⟨k,vr,ws,r,W',⟨g,rfl⟩,hk,ow,c0,h0,d0,d4,lr,hr,f5,rfl⟩
  by_cases b3:(k:Int)<(q.length:Int)
  case neg=>
   have e2:=bI b3;obtain rfl:k=q.length:=om
   simp(disch:=omega)only[go_sem,e2];refine⟨vr,r,aB rfl,⟨ws,ow.sv,?_,c0.kO (λid _ h=>d0 id h),dH.UH ow⟩,⟨c8,b4,lr,hr⟩,f5⟩
   cases vr with
   |sl id b0 m c=>exact λh=>by have:=(ow.in _ _ _ _ rfl).2.1;have:=A4.wb id h;omega
   |_=>trivial
  have e2:=cI b3
  have b7:k<q.length:=om
  obtain⟨p,hp⟩:=exI (q.getD k 0)
  have d2:=pq.mono f5
  have ck:f.cell P k=some (aC p):=by
   rw[H.aF (by rw[f5.get P d3];exact gP),Ff b7,hp]
  have c3:p∈(τ i).orb:=(b4 p).1 (by rw[←hp,cW b7];exact xG b7)
  have j2:=nG.lt Q c3
  obtain⟨y,hy⟩:=nG.to c3
  have Y:=nG.bF _ _ hy
  have R5:=R.mono (A4.fr.trans f5)
  have cl:f.cell s 1=some (.sl L 0 n (.kn n)):=by rw[H.aF R5.t];rfl
  have i1:f.cell L (i*194+2+p)=some (F (i*194+2+p)):=R5.Si Q om
  have f0:PV (WT n L F) f (F (i*194+2+p)) y:=by
   have:=R5.to i p Q om;rw[hy] at this;exact this
  simp(disch:=omega)only[go_sem,e2,ck,cl,i1]
  refine (XQ f n s L F τ _ y i hn R5 f0 Y Q (t.mono om)).mono ?_
  rintro v6 h6 ⟨p6,Q6,f6⟩
  simp(disch:=omega)only[go_sem]
  refine (Nh v6 _ h6 (by rw[aS,Q6.len];omega) (by rw[aS,Q6.len];omega) p6.si).mono ?_
  rintro v7 h7 c7
  have f7:=c7.fr
  have p7:PV W' h7 v7 (Lx τ (n-(i+1)) (i+1) y):=c7.pv λid h=>jM (d4 id h).1 f6.next
  simp(disch:=omega)only[go_sem,cK h7 (z:= .aD) p7.fG.1 p7.fG.2]
  obtain⟨Z,K⟩: ∃Z,Z=h7.new (.cells false [v7]):=⟨_,rfl⟩
  have g8:Z.get h7.next=bB [v7]:=by rw[K,H.aL]
  have n8:Z.next=h7.next+1:=by rw[K,H.aW]
  have f8:Fr h7 Z:=by rw[K];exact (Fr.refl h7).new _
  rw[←K]
  have b1:=(f6.trans f7).trans f8
  have e6:=ow.fr b1
  have j4:=aN.length c0
  obtain⟨h9,a9,p9⟩:=e6.push (bytes:=24) (SV.one om g8 (.kn 1)) (n:=k) (m:=1) om rfl om om om
  simp(disch:=omega)only[go_sem,a9]
  rw[fJ k]
  have n9:=p9.next
  have f9:Fx W' Z h9:=p9.fx h0
  have i4:=b1.next
  have c1: ∀id,id<Z.next->(W' id∨id=Z.next)->W' id:=λid U l=>by
   rcases l with l|l
   ·exact l
   ·omega
  refine⟨q.length-(k+1),om,k+1,_,_,r++ [Lx τ (n-(i+1)) (i+1) y],λid=>W' id∨id=Z.next,aB rfl,om,p9.own om rfl (by have:=f5.next;omega),?_,λid b0 m c e=>by cases e;exact .inr rfl,λid h=> .inl (d0 id h),λid h=>?_,by rw[iV,lr];rfl,λj hj z hz=>?_,?_,rfl⟩
  ·exact (dZ.go (dZ.go c0 (Fx.of b1) (λ_ _ h=>h)) f9 c1).append (dZ.one (PV.go (p7.mono f8) f9 c1))
  ·rcases h with h|h
   ·have:=d4 id h;exact⟨om,this.2⟩
   ·have:=f5.next;exact⟨om,.inr om⟩
  ·by_cases e:j=k
   ·subst e
    rw[hp,hy] at hz
    cases hz
    rw[←lr,kQ]
   ·rw[mK om]
    exact hr j om z hz
  ·refine⟨by have:=f5.next;omega,λid b2=>?_⟩
   rw[p9.old id (by have:=f5.next;omega) (λg5 b0 m c e e2=>by have:=(ow.in _ _ _ _ e).2.1;omega),b1.get id (by have:=f5.next;omega)]
   exact f5.get id b2
 rintro a0 f ⟨vr,r,⟨g,rfl⟩,pl,i5,f5⟩
 have G:=A4.mono f5
 have d2:=pq.mono f5
 have e5:f.get B=bB [aC 0,.aD,.aD]:=by rw[f5.get B (A4.wb B A4.d)];exact e7
 have cO:f.cell (B+1) 1=some vO:=by rw[H.aF G.get];rfl
 have cR:f.cell (B+1) 2=some N:=by rw[H.aF G.get];rfl
 obtain⟨ws,b9,g7,i2,g9⟩:=pl
 have pl:PL W f vr r:=⟨ws,b9,g7,i2,g9⟩
 have j0:=G.fr.next
 have d1:=G.wb _ G.c
 simp(disch:=omega)only[go_sem,cO,cR,cK _ (z:= .aD) (v:= .sl P 0 q.length cp) rfl rfl]
 obtain⟨h6,a8⟩: ∃h6:H,h6=H.mk ((H.mk f.tr (f.next+3)).new (Ob.cells false [.sl P 0 q.length cp])).tr (f.next+14):=⟨_,rfl⟩
 rw[←a8]
 have g6:h6.get (f.next+3)=bB [.sl P 0 q.length cp]:=by rw[a8];exact H.aL (H.mk f.tr (f.next+3)) _
 have n6:h6.next=f.next+14:=by rw[a8]
 have o6: ∀k,k≠f.next+3->h6.get k=f.get k:=λk hk=>by rw[a8];exact H.bG (H.mk f.tr (f.next+3)) (by simpa using hk) _
 have f6:Fr f h6:=⟨om,λid b2=>o6 id om⟩
 have i9:=aN.length G.aO
 have i7:=aN.length G.aR
 obtain⟨h7,a7,p7⟩:=(G.oO.fr f6).push (bytes:=24) (SV.one om g6 (.kn 1)) (n:=i) (m:=1) om rfl om om om
 have n7:=p7.next
 have a4: ∀k,k<f.next->dR vO k->h7.get k=f.get k:=λk U l=>by rw[p7.old k om l,o6 k om]
 have e3:h7.cell (B+1) 2=some N:=by unfold H.cell;rw[a4 (B+1) d1 G.pO,G.get];rfl
 have eR:dI N N=true:=G.oR.sv.dI
 have d8:vr.cells= [vr]/\vr.one=true:=⟨(SV.cT b9).1,(SV.cT b9).2.1⟩
 simp(disch:=omega)only[go_sem,a7,e3,eR,cK _ (z:= .aD) d8.1 d8.2]
 obtain⟨Z,K⟩: ∃Z:H,Z=H.mk ((H.mk h7.tr (f.next+8)).new (Ob.cells false [vr])).tr h7.next:=⟨_,rfl⟩
 rw[←K]
 have g8:Z.get (f.next+8)=bB [vr]:=by rw[K];exact H.aL (H.mk h7.tr (f.next+8)) _
 have n8:Z.next=h7.next:=by rw[K]
 have o8: ∀k,k≠f.next+8->Z.get k=h7.get k:=λk hk=>by rw[K];exact H.bG (H.mk h7.tr (f.next+8)) (by simpa using hk) _
 have d9:dH Z N 1 b6 h.next:=G.oR.mono om λid b0 m c e _ b2=>by
  rw[o8 id om,a4 id b2 (λg5 i6 n' c' e' e2=>G.Rh _ _ _ _ e' _ _ _ _ e e2.symm)]
 obtain⟨h9,a9,p9⟩:=d9.push (bytes:=24) (SV.one om g8 (.kn 1)) (n:=i) (m:=1) om rfl om om om
 have n9:=p9.next
 have i0: ∀k,f.next<=k->dR N k:=λk hk id b0 m c e e2=>by have:=(G.oR.in _ _ _ _ e).1;omega
 have a6: ∀k,k<f.next->dR vO k->dR N k->h9.get k=f.get k:=λk U l h3=>by rw[p9.old k om h3,o8 k om,a4 k U l]
 have g4:h9.get (B+1)=bB [aC n,vO,N]:=by rw[a6 _ d1 G.pO G.pR];exact G.get
 have i3: ∀(J:H) (x:V),eU (bB [aC n,vO,N]) J (B+1) 1 [x]=some (J.set (B+1) (bB [aC n,x,N])):=λJ x=>bT (by simp) J _ x
 have e0: ∀(J:H) (x y:V),eU (bB [aC n,x,N]) J (B+1) 2 [y]=some (J.set (B+1) (bB [aC n,x,y])):=λJ x y=>bT (by simp) J _ y
 simp(disch:=omega)only[go_sem,a9,g4,i3,e0]
 rw[fJ i]
 obtain⟨ha,hb⟩:h6.next=f.next+14/\Z.next=f.next+15:=⟨n6,om⟩
 rw[ha,hb]
 obtain⟨a5,a1⟩: ∃a5,a5=(h9.set (B+1) (bB [aC n,.sl (f.next+14) 0 (i+1) (.un 1),N])).set (B+1) (bB [aC n,.sl (f.next+14) 0 (i+1) (.un 1),.sl (f.next+15) 0 (i+1) (.un 1)]):=⟨_,rfl⟩
 rw[←a1]
 have b5: ∀k,k≠B+1->a5.get k=h9.get k:=λk hk=>by rw[a1,H.aH _ hk,H.aH _ hk]
 have i8:a5.next=f.next+16:=by rw[a1];show h9.next=_;omega
 have e8:=G.step (v4:= .sl P 0 q.length cp) (v5:=vr) (o:=q) (r:=r) (h6:=a5) (a:=f.next+14) (b:=f.next+15) (k1:=i+1) (k2:=i+1) d2 pl om om om om om om om (by rw[a1,H.aU])
  (by rw[b5 _ om,p9.old _ om (i0 _ om),o8 _ om,←ha];exact p7.get) (by rw[b5 _ om,←hb];exact p9.get) (λk U l h3 h4=>by rw[b5 k l];exact a6 k U h3 h4)
 refine⟨n-(i+1),om,i+1,_,_,_,_,_,_,_,aB rfl,om,e8,?_,by rw[iV,lO];rfl,by rw[iV,lR];rfl,λj hj=>?_,rfl⟩
 ·rw[a6 B (G.wb B G.d) G.qO G.qR];exact e5
 ·by_cases e:j=i
  ·subst e
   have e1:(O++ [q]).getD j []=q:=by rw[←lO];exact kQ
   have e2:(R'++ [r]).getD j []=r:=by rw[←lR];exact kQ
   rw[e1,e2]
   exact i5
  ·rw[mK om,mK om]
   exact hC j om
end Go.Proofs.YtcdbmkidaecdiaaGreat
namespace Go.Ay
set_option maxRecDepth 100000
def sm:Nat->(Nat->Int)->Int
 |0,_=>0
 |n+1,f=>sm n f+f n
def ab (x:Int):Int:=if x<0 then -x else x
end Go.Ay
namespace Go.Proofs.YtcdbmkidaecdiaaGreat
open Go Go.Ay
set_option maxRecDepth 100000
section
variable {h h' a:H} {l:List Int} {n:Int} {u:V} {b x:Nat}
def UL (h:H)(l:List Int)(v:V)(h':H):Prop:=dH h' v 1 (ints l) h.next/\Fr h h'/\(0<l.length-> ∃id,v= .sl id 0 l.length (.un 1)/\h.next<=id/\id<h'.next/\h'.get id=bB (ints l))
theorem acG {v:V}(d:SI h v l)(o:l.length<1000000): ∃v' h',zK (h.new (.cells false [])) 1 8 (.sl h.next 0 0 (.kn 0)) v=some (v',h')/\UL h l v' h':=by
 obtain⟨v',h',e,a⟩:=(dH.new h 1 0 h.next [] rfl (fN _)).app (bytes:=8) (n:=0) (by rw[H.aW];omega) (SV.mono d ((Fr.refl h).new _)) (m:=l.length) rfl (by rw[aP,tW]) om om;refine⟨v',h',e,a.own,a.fr h ((Fr.refl h).new _) (fN _),λk=>?_⟩;rcases a.cT with ⟨c,_⟩|⟨id,c,f,j,i⟩
 ·omega
 ·exact⟨id,by rw[c,Nat.zero_add],f,j,i⟩
theorem agS (v:V)(l:List Int)(h:H)(d:SI h v l)(f:l.length<1000000):Ev T 150 [v] h (UL h l):=by
 refine dW En rfl ?_;simp only[En,aE,go_sem];obtain⟨i,h',e,c⟩:=acG d f;simp only[e,go_sem];exact c
theorem SG (n d:Nat):(n:Int).tmod (d:Int)=((n%d:Nat):Int):=rfl
theorem JI (a:Int)(c:0<n): -n<a.tmod n/\a.tmod n<n:=by
 have d:=Int.tmod_lt_of_pos a c;refine⟨?_,d⟩;rcases Int.le_total 0 a with h|h
 ·have:=Int.tmod_nonneg n h;omega
 ·have f:=Int.tmod_lt_of_pos (-a) c
  rw[Int.neg_tmod] at f;omega
theorem QF (a:Int)(c:0<n):(if a.tmod n<0 then a.tmod n+n else a.tmod n)=a%n:=by
 have k:=JI a c;have f:a.tmod n=a-n*(a.tdiv n):=by have:=Int.mul_tdiv_add_tmod a n;omega
 have m:a%n=a-n*(a/n):=Int.emod_def a n;have i:=Int.emod_nonneg a (show n≠0 by omega);have j:=Int.emod_lt_of_pos a c
 have d:(a.tmod n)%n=a%n:=by
  rw[f,Int.sub_emod,Int.mul_emod_right,Int.sub_zero,Int.emod_emod]
 split
 ·rw[←d,←Int.emod_eq_of_lt (a:=a.tmod n+n) (b:=n) om om,Int.add_emod_right]
 ·rw[←d,Int.emod_eq_of_lt om om]
theorem acZ (a n:Int)(h:H)(i:0<n)(j:n<1000000000):Ev T 38 [aC a,aC n] h (λv h'=>v= aC (a%n)/\h'=h):=by
 refine dW Ox rfl ?_;have k:=JI a i;have c:=QF a i;simp (disch:=first|omega|(simp only[Qn];(try omega);done)|fail) only[go_sem,Ox,aE];refine bA (λf=>?_) (λd=>?_)
 ·rw[bJ f] at c
  simp (disch:=first|omega|(simp only[Qn];(try omega);done)|fail) only[go_sem];exact⟨by rw[c],trivial⟩
 ·rw[bU d] at c
  simp (disch:=first|omega|(simp only[Qn];(try omega);done)|fail) only[go_sem];exact⟨by rw[c],trivial⟩
theorem Nr {a b:List Int}(d:a.length=b.length)(h: ∀j,j<a.length->a.getD j 0=b.getD j 0):a=b:=by
 apply List.ext_getElem d;intro i c f;have:=h i c;rw[OU,dD c,OU,dD f] at this;exact this
theorem Se {g:Nat}(w:T g=some kI.fn)(F B:V)(a b:List Int)(h:H)(A:SI h F a)(K:SI h B b)(W:a.length<1000000)(a1:b.length<1000000):Ev T g [F,B] h (λv h'=>v= .bool (decide (a=b))/\Fr h h'):=by
 refine mX w rfl ?_;obtain⟨id,R,z,t,Z⟩:=A.open;obtain⟨Q,G,o,r,y⟩:=K.open;simp (disch:=first|omega|(simp only[Qn];(try omega);done)|fail) only[go_sem,kI,aE,A.lens,K.lens];refine bA (λm=>?_) (λp=>?_)
 ·simp (disch:=first|omega|(simp only[Qn];(try omega);done)|fail) only[go_sem]
  have:a≠b:=λe=>m (by rw[e])
  exact⟨by rw[bI this],Fr.refl h⟩
 have p:a.length=b.length:=om
 simp (disch:=first|omega|(simp only[Qn];(try omega);done)|fail) only[go_sem,A.lens];refine aI (λk f P=> ∃(i:Nat) (J O L:V),f= [F,B,.bool false,J,.bool (decide ((a.length:Int)≠(b.length:Int))),aC (a.length:Int),aC i,O,L]/\i<=a.length/\(∀j,j<i->a.getD j 0=b.getD j 0)/\Fr h P/\k=a.length-i) a.length
  ⟨0,_,_,_,rfl,iB _,λj N=>om,Fr.refl h,rfl⟩ ?_
 rintro k f P ⟨i,J,O,L,rfl,hi,d,c,rfl⟩;simp (disch:=first|omega|(simp only[Qn];(try omega);done)|fail) only[go_sem];refine bA (λa0=>?_) (λY=>?_)
 ·have s:=Hw c t Z
  have q:=Hw c r y;simp (disch:=first|omega|(simp only[Qn];(try omega);done)|fail) only[go_sem,z.ixa,o.ixa,s,q,DK];refine bA (λm=>?_) (λU=>?_)
  ·simp (disch:=first|omega|(simp only[Qn];(try omega);done)|fail) only[go_sem]
   have:a≠b:=λe=>m (by rw[e])
   exact⟨by rw[bI this],c.bH om⟩
  ·simp (disch:=first|omega|(simp only[Qn];(try omega);done)|fail) only[go_sem]
   rw[fJ i];refine⟨a.length-(i+1),om,i+1,_,_,_,rfl,om,λj N=>?_,c.bH om,rfl⟩
   by_cases h3:j=i
   ·rw[h3];exact Decidable.byContradiction U
   ·exact d j om
 ·simp (disch:=first|omega|(simp only[Qn];(try omega);done)|fail) only[go_sem]
  have:a=b:=Nr p λj N=>d j om
  exact⟨by rw[cI this],c⟩
theorem Yh (f d:V)(a b:List Int)(h:H)(j:SI h f a)(k:SI h d b)(c:a.length<1000000)(i:b.length<1000000):Ev T 105 [f,d] h (λv h'=>v= .bool (decide (a=b))/\Fr h h'):=Se kI.ok f d a b h j k c i
theorem We (B A:V)(a b:List Int)(h:H)(s:SI h B a)(G:SI h A b)(Q:a.length<1000000)(a0:b.length<1000000):Ev T 97 [B,A] h (λv h'=>v= .bool (decide (a=b))/\Fr h h'):=by
 refine dW Bh rfl ?_;obtain⟨id,O,z,w,U⟩:=s.open;obtain⟨N,F,o,r,y⟩:=G.open;simp (disch:=first|omega|(simp only[Qn];(try omega);done)|fail) only[go_sem,Bh,aE,s.lens,G.lens];refine bA (λm=>?_) (λp=>?_)
 ·simp (disch:=first|omega|(simp only[Qn];(try omega);done)|fail) only[go_sem]
  have:a≠b:=λe=>m (by rw[e])
  exact⟨by rw[bI this],Fr.refl h⟩
 have p:a.length=b.length:=om
 simp (disch:=first|omega|(simp only[Qn];(try omega);done)|fail) only[go_sem,s.lens];refine aI (λk f K=> ∃(i:Nat) (W L Z:V),f= [B,A,.bool false,aC i,W,L,Z]/\i<=a.length/\(∀j,j<i->a.getD j 0=b.getD j 0)/\Fr h K/\k=a.length-i) a.length
  ⟨0,_,_,_,rfl,iB _,λj J=>om,Fr.refl h,rfl⟩ ?_
 rintro k f K ⟨i,x3,x7,x8,rfl,hi,d,c,rfl⟩;simp (disch:=first|omega|(simp only[Qn];(try omega);done)|fail) only[go_sem,s.lens];refine bA (λY=>?_) (λR=>?_)
 ·have t:=Hw c w U
  have q:=Hw c r y;simp (disch:=first|omega|(simp only[Qn];(try omega);done)|fail) only[go_sem,z.ixa,o.ixa,t,q,DK];refine bA (λm=>?_) (λP=>?_)
  ·simp (disch:=first|omega|(simp only[Qn];(try omega);done)|fail) only[go_sem]
   have:a≠b:=λe=>m (by rw[e])
   exact⟨by rw[bI this],c.bH om⟩
  ·simp (disch:=first|omega|(simp only[Qn];(try omega);done)|fail) only[go_sem]
   rw[fJ i];refine⟨a.length-(i+1),om,i+1,_,_,_,rfl,om,λj J=>?_,c.bH om,rfl⟩
   by_cases h3:j=i
   ·rw[h3];exact Decidable.byContradiction P
   ·exact d j om
 ·simp (disch:=first|omega|(simp only[Qn];(try omega);done)|fail) only[go_sem]
  have:a=b:=Nr p λj J=>d j om
  exact⟨by rw[cI this],c⟩
def Frs (u:V)(b:Nat):Prop:= ∀id off n c,u= .sl id off n c->b<=id
theorem Frs.ne {id off n:Nat}{c:pY}(f:Frs u b)(h:id<b):u≠ .sl id off n c:=λe=>by have:=f _ _ _ _ e;omega
theorem Frs.le {i:Nat}(f:Frs u b)(h:i<=b):Frs u i:=λid d n c e=>mY h (f id d n c e)
theorem Frs.own {v:V}{sz:Nat}{ws:List V}(o:dH h v sz ws b):Frs v b:=λid f n c e=>by
 rcases o with ⟨d,_⟩|⟨j,_,_,_,d,_,_,i,_⟩
 ·rw[d] at e;cases e
 ·rw[d] at e;cases e;exact i
structure Ah (x:Nat)(h h':H):Prop where
 next:h.next<=h'.next
 get: ∀id,id<h.next->id≠x->h'.get id=h.get id
theorem Ah.refl (x:Nat)(h:H):Ah x h h:=⟨fN _,λ_ _ _=>rfl⟩
theorem Ah.of (f:Fr h h'):Ah x h h':=⟨f.next,λid c _=>f.get id c⟩
theorem Ah.trans {b c:H}(f:Ah x a b)(g:Ah x b c):Ah x a c:=⟨mY f.next g.next,λid d i=>(g.get id (jM d f.next) i).trans (f.get id d i)⟩
theorem Ah.set {b:H}(f:Ah x a b)(o:Option Ob):Ah x a (b.set x o):=⟨f.next,λid c d=>(H.aH b d o).trans (f.get id c d)⟩
theorem Ah.fr {b c:H}(f:Fr a b)(i:a.next<=x)(g:Ah x b c):Fr a c:=⟨mY f.next g.next,λid d=>(g.get id (jM d f.next) om).trans (f.get id d)⟩
theorem SI.fx {i:Nat}(s:SI h u l)(m:Frs u i)(w:x<i)(f:Ah x h h'):SI h' u l:=by
 rcases s with s|⟨id,c,len,d,t,k,rfl,o,j,r,p,q⟩
 ·exact .inl s
 ·have v:=m _ _ _ _ rfl
  exact .inr ⟨id,c,len,d,t,k,rfl,o,jM j f.next,by rw[f.get id j om];exact r,p,q⟩
def Tk (h:H)(x:Nat)(l:List Int):Prop:= ∃vl,∃a:Nat,h.get x=bB [vl,aC a]/\SI h vl l/\(∀id off len c,vl= .sl id off len c->id<x)/\a<=l.length/\x<h.next
theorem Tk.mono (t:Tk h x l)(f:Fr h h'):Tk h' x l:=by
 obtain⟨j,a,i,m,d,k,c⟩:=t;exact⟨j,a,(f.get x c).trans i,m.mono f,d,k,jM c f.next⟩
theorem Tk.low (t:Tk h x l)(f:h.next<=h'.next)(i: ∀id,id<=x->h'.get id=h.get id):Tk h' x l:=by
 obtain⟨A,a,k,y,j,p,z⟩:=t;refine⟨A,a,(i x (fN _)).trans k,?_,j,p,jM z f⟩;rcases y with q|⟨id,c,len,d,B,w,e,v,o,m,s,r⟩
 ·exact .inl q
 ·have:=j _ _ _ _ e
  exact .inr ⟨id,c,len,d,B,w,e,v,jM o f,(i id om).trans m,s,r⟩
theorem Tk.set {y:Nat}(t:Tk h x l)(c:h.next<=y)(o:Option Ob):Tk (h.set y o) x l:=t.mono ((Fr.refl h).set c o)
theorem FD (a:Int)(c:0<n):0<=a%n/\a%n<n:=⟨Int.emod_nonneg a om,Int.emod_lt_of_pos a c⟩
def aiS (n:Nat):Nat->Nat->Nat
 |0,_=>n
 |f+1,d=>if d*d<=n then (if n%d=0 then d else aiS n f (d+1)) else n
def akJ (n:Nat):Nat:=aiS n 1000 2
def bF (n:Int):Bool:=decide (1<n)&&(decide (n<1000000)&&decide (akJ n.toNat=n.toNat))
end
end Go.Proofs.YtcdbmkidaecdiaaGreat
namespace Go.Proofs.YtcdbmkidaecdiaaGreat
open Go Go.Ay Go.Pm
set_option maxRecDepth 100000
theorem wV {g:Nat}(x:T g=some fP.fn)(f:Nat)(p r:V)(a b:List V)(e:Nat->Bool)(h:H)(L:SV h p 1 a)(G:SV h r 1 b)(N:a.length<1000000)(Z:b.length<1000000)
  (U:a.length=b.length-> ∀i,i<a.length-> ∀hh,Fr h hh->Ev T f [a.getD i .undef,b.getD i .undef] hh (λv h'=>v= .bool (e i)/\Fr hh h')):
  Ev T g [p,r,.fn f [] []] h (λv h'=>v= .bool (decide (a.length=b.length/\ ∀i,i<a.length->e i=true))/\Fr h h'):=by
 refine mX x rfl ?_
 have B:bL p=some (aC (a.length:Int)):=by unfold bL;rw[L.len (n:=a.length) om om];rfl
 have W:bL r=some (aC (b.length:Int)):=by unfold bL;rw[G.len (n:=b.length) om om];rfl
 obtain⟨id,t,Y,w,Q⟩:=L.shape a.length om om
 obtain⟨s,l,u,q,y⟩:=G.shape b.length om om
 simp(disch:=omega)only[go_sem,fP,aE,B,W]
 refine bA (λA=>?_) (λk=>?_)
 ·simp(disch:=omega)only[go_sem]
  exact⟨by rw[bI (λh=>A om)],Fr.refl h⟩
 have k:a.length=b.length:=om
 simp(disch:=omega)only[go_sem,B]
 refine aI (λK d hh=> ∃(i:Nat),(∃g:Nat->V,d= [p,r,.fn f [] [],g 3,g 4,g 5,g 6,g 7,p,aC (a.length:Int),aC i,g 11,g 12])/\i<=a.length/\(∀j,j<i->e j=true)/\Fr h hh/\K=a.length-i) a.length
  ⟨0,aB rfl,iB _,λj R=>om,Fr.refl h,rfl⟩ ?_
 rintro K d hh ⟨i,⟨g,rfl⟩,hi,m,F,rfl⟩
 by_cases o:(i:Int)<(a.length:Int)
 ·have z:=cI o
  have c:i<a.length:=om
  have O:hh.cell id (t+i)=some (a.getD i .undef):=by rw[F.cell (w om),Q i c,List.getD,dD c];rfl
  have P:hh.cell s (l+i)=some (b.getD i .undef):=by rw[F.cell (q om),y i om,List.getD,dD om];rfl
  simp(disch:=omega)only[go_sem,z,Y.ixa,u.ixa,O,P]
  refine (U k i c hh F).mono ?_
  rintro _ h2 ⟨rfl,J⟩
  cases he:e i with
  |true=>
   simp(disch:=omega)only[go_sem];rw[fJ i];refine⟨a.length-(i+1),om,i+1,aB rfl,om,λj R=>?_,F.trans J,rfl⟩
   by_cases e2:j=i
   ·rw[e2];exact he
   ·exact m j om
  |false=>
   simp(disch:=omega)only[go_sem];exact⟨by rw[bI (λh=>by have:=h.2 i c;rw[he] at this;cases this)],F.trans J⟩
 have z:=bI o
 obtain rfl:i=a.length:=om
 simp(disch:=omega)only[go_sem,z]
 exact⟨by rw[cI ⟨k,m⟩],F⟩
theorem iJ {α β:Type}{R:α->β->Prop}{c:List α}{b:List β}(a:aN R c b){i:Nat}(hi:i<b.length)(d:α)(e:β):R (c.getD i d) (b.getD i e):=by
 have f:=a.length;rw[List.getD,dD om,List.getD,dD hi];exact a.get i om hi
theorem wT {α:Type}[DecidableEq α]{a b:List α}(d:α):decide (a=b)=decide (a.length=b.length/\ ∀i,i<a.length->decide (a.getD i d=b.getD i d)=true):=by
 congr 1;rw[eq_iff_iff];constructor
 ·rintro rfl;exact⟨rfl,λi _=>by simp⟩
 ·rintro⟨h1,h2⟩
  exact Hf (d:=d) h1 λi hi=>by simpa using h2 i hi
def Pw (R:List (List (List Int))):Prop:=R.length<1000000/\ ∀i,i<R.length->(R.getD i []).length<1000000
def tE (R:List (List (List Int))):Prop:=R.length<1000000/\ ∀i,i<R.length->(R.getD i []).length<1000000/\ ∀k,k<(R.getD i []).length->((R.getD i []).getD k []).length<1000000
def Bf (O:List (List Int)):Prop:=O.length<1000000/\ ∀i,i<O.length->(O.getD i []).length<1000000
theorem RW (va vb:V)(d p:Int)(O G:List (List Int))(R q:List (List (List Int)))(h:H)(ha:YD h va d O R)(hb:YD h vb p G q)(so:Bf O)(s:Bf G)(sr:tE R)(o:tE q):
  Ev T 178 [va,vb] h (λv h'=>v= .bool (decide (d=p/\O=G/\R=q))/\Fr h h'):=by
 obtain⟨J,y,rfl,sO,sR⟩:=ha
 obtain⟨j,l,rfl,a1,Z⟩:=hb
 refine dW Ir rfl ?_
 obtain⟨wO,tO,aO⟩:=sO
 obtain⟨a3,z,F⟩:=a1
 obtain⟨wR,tR,aR,_⟩:=sR
 obtain⟨a2,A,B,_⟩:=Z
 have lO:=aO.length
 have r:=F.length
 have lR:=aR.length
 have t:=B.length
 simp(disch:=omega)only[go_sem,Ir,aE,bV h (v:= aC d) (u:=J) (w:=y) rfl tO.cT.2.1 tR.cT.2.1]
 obtain⟨a,n⟩: ∃a,a=h.new (.cells false [aC d,J,y]):=⟨_,rfl⟩
 have U:a.get h.next=some (.cells false [aC d,J,y]):=by rw[n,H.aL]
 have n1:a.next=h.next+1:=by rw[n,H.aW]
 have f1:Fr h a:=by rw[n];exact (Fr.refl h).new _
 rw[←n]
 simp(disch:=omega)only[go_sem,bV a (v:= aC p) (u:=j) (w:=l) rfl z.cT.2.1 A.cT.2.1]
 obtain⟨b,m⟩: ∃b,b=a.new (.cells false [aC p,j,l]):=⟨_,rfl⟩
 have g2:b.get a.next=some (.cells false [aC p,j,l]):=by rw[m,H.aL]
 have n2:b.next=a.next+1:=by rw[m,H.aW]
 have f2:Fr a b:=by rw[m];exact (Fr.refl a).new _
 rw[←m]
 have ga: ∀c,Fr b c-> ∀i,c.cell h.next i= [aC d,J,y][i]? :=λc f i=>by rw[H.aF (by rw[f.get _ om,f2.get _ om];exact U)]
 have gb: ∀c,Fr b c-> ∀i,c.cell a.next i= [aC p,j,l][i]? :=λc f i=>by rw[H.aF (by rw[f.get _ om];exact g2)]
 have F2:=f1.trans f2
 by_cases Q:d=p
 case neg=>
  have e1:=bI Q;simp(disch:=omega)only[go_sem,H.aF U,ga b (Fr.refl _),gb b (Fr.refl _),e1];exact⟨by rw[bI (λh=>Q h.1)],F2⟩
 have e1:=cI Q
 simp(disch:=omega)only[go_sem,H.aF U,ga b (Fr.refl _),gb b (Fr.refl _),e1]
 refine (wV fP.ok 105 J j wO a3 (λi=>decide (O.getD i []=G.getD i [])) b (tO.mono F2) (z.mono F2) (by rw[lO];exact so.1) (by rw[r];exact s.1) (λhl i hi c f=>?_)).mono ?_
 ·exact Yh _ _ _ _ c ((iJ aO om _ _).mono (F2.trans f)) ((iJ F om _ _).mono (F2.trans f)) (so.2 i om) (s.2 i om)
 rw[lO,r,←wT]
 rintro _ h3 ⟨rfl,L⟩
 by_cases N:O=G
 case neg=>
  rw[bI N];simp(disch:=omega)only[go_sem];exact⟨by rw[bI (λh=>N h.2.1)],F2.trans L⟩
 rw[cI N]
 simp(disch:=omega)only[go_sem,ga h3 L,gb h3 L]
 have K:=F2.trans L
 refine (wV iF.ok 218 y l wR a2 (λi=>decide (R.getD i []=q.getD i [])) h3 (tR.mono K) (A.mono K) (by rw[lR];exact sr.1) (by rw[t];exact o.1) (λhl i hi c f=>?_)).mono ?_
 ·refine dW Am rfl ?_
  simp(disch:=omega)only[go_sem,Am,aE]
  obtain⟨ws,s1,s2⟩:=(iJ aR (i:=i) om .undef []).mono (K.trans f)
  obtain⟨W,a0,x⟩:=(iJ B (i:=i) om .undef []).mono (K.trans f)
  have k1:=s2.length
  have k2:=x.length
  refine (wV gV.ok 220 _ _ ws W (λk=>decide ((R.getD i []).getD k []=(q.getD i []).getD k [])) c s1 a0 (by rw[k1];exact (sr.2 i om).1) (by rw[k2];exact (o.2 i om).1) (λa4 k hk h4 P=>?_)).mono ?_
  ·refine dW yJ rfl ?_
   simp(disch:=omega)only[go_sem,yJ,aE]
   refine (Se tT.ok _ _ _ _ h4 ((iJ s2 om _ _).mono P) ((iJ x om _ _).mono P) ((sr.2 i om).2 k om) ((o.2 i om).2 k om)).mono ?_
   rintro _ h5 ⟨rfl,Y⟩
   simp(disch:=omega)only[go_sem]
   exact Y
  rw[k1,k2,←wT]
  rintro _ h5 ⟨rfl,Y⟩
  simp(disch:=omega)only[go_sem]
  exact Y
 rw[lR,t,←wT]
 rintro _ h4 ⟨rfl,P⟩
 simp(disch:=omega)only[go_sem]
 refine⟨?_,K.trans P⟩
 congr 2
 rw[eq_iff_iff]
 exact⟨λh=>⟨Q,N,h⟩,λh=>h.2.2⟩
section
variable {i:Nat} {a:List Int}
def nU (a:List Int):Bool:=decide a.Nodup&&a.all λx=>decide (0<=x)&&decide (x<(a.length:Int))
def BN (a:List Int):Int:=if a.length<1∨64<a.length then 2 else if nU a=true then 0 else 3
structure TX (a:List Int)(i:Nat):Prop where
 nd:(a.take i).Nodup
 rg: ∀x∈a.take i,0<=x/\x<(a.length:Int)
theorem AD {l:List Int}(hi:i<l.length):l.take (i+1)=l.take i++ [l.getD i 0]:=by
 rw[List.take_add_one,dD hi];simp [List.getD,hi]
theorem TX.zero (a:List Int):TX a 0:=⟨by simp,λx b=>by simp at b⟩
theorem TX.succ (p:TX a i)(hi:i<a.length)(f:0<=a.getD i 0)(c:a.getD i 0<(a.length:Int))(h2:a.getD i 0∉a.take i):TX a (i+1):=by
 refine⟨?_,λx b=>?_⟩
 ·rw[AD hi,List.nodup_append]
  exact⟨p.nd,by simp,λx b y d=>by
   have e:y=a.getD i 0:=by simpa using d
   intro h;rw[h,e] at b
   exact h2 b⟩
 ·rw[AD hi] at b
  rcases oD.1 b with b|b
  ·exact p.rg x b
  ·simp at b;subst b;exact⟨f,c⟩
theorem TX.all (p:TX a a.length):nU a=true:=by
 have e:a.take a.length=a:=List.take_length;unfold nU;simp only[sE,decide_eq_true_eq,zP];exact⟨e▸p.nd,λx b=>p.rg x (by rw[e];exact b)⟩
theorem Db (hi:i<a.length)(h:a.getD i 0<0∨(a.length:Int)<=a.getD i 0∨a.getD i 0∈a.take i):nU a=false:=by
 cases e:nU a with
 |false=>rfl
 |true=>
  exfalso;unfold nU at e;simp only[sE,decide_eq_true_eq,zP] at e;obtain⟨f,d⟩:=e
  have c:a.getD i 0∈a:=by
   have:a.getD i 0=a[i]:=by simp [List.getD,hi]
   rw[this];exact xG hi
  have:=d _ c;rcases h with h|h|h
  ·omega
  ·omega
  ·have b:(a.take (i+1)).Nodup:=f.sublist (List.take_sublist _ _)
   rw[AD hi,List.nodup_append] at b;exact b.2.2 _ h _ (by simp) rfl
theorem FW: [V.bool false,.bool false,.bool false,.bool false,.bool false,.bool false,.bool false,.bool false,.bool false,.bool false,.bool false,.bool false,.bool false,.bool false,.bool false,.bool false,
 .bool false,.bool false,.bool false,.bool false,.bool false,.bool false,.bool false,.bool false,.bool false,.bool false,.bool false,.bool false,.bool false,.bool false,.bool false,.bool false,
 .bool false,.bool false,.bool false,.bool false,.bool false,.bool false,.bool false,.bool false,.bool false,.bool false,.bool false,.bool false,.bool false,.bool false,.bool false,.bool false,
 .bool false,.bool false,.bool false,.bool false,.bool false,.bool false,.bool false,.bool false,.bool false,.bool false,.bool false,.bool false,.bool false,.bool false,.bool false,.bool false]=rc 64 (λ_=> .bool false):=rfl
theorem wW (u:V)(a:List Int)(h:H)(hl:a.length<1000000)(L:SI h u a):
  Ev T 140 [u] h (λv h'=>v= aC (BN a)/\Fr h h'):=by
 refine dW tJ rfl ?_
 have m:=L.lens
 obtain⟨id,off,y,B,W⟩:=L.open
 by_cases J:a.length<1
 ·have t:decide ((a.length:Int)<1)=true:=cI om
  simp(disch:=omega)only[go_sem,tJ,aE,m,t]
  exact⟨by unfold BN;rw[bJ (.inl J)],Fr.refl h⟩
 have t:decide ((a.length:Int)<1)=false:=bI om
 by_cases Y:64<a.length
 ·have A:decide ((64:Int)<(a.length:Int))=true:=cI om
  simp(disch:=omega)only[go_sem,tJ,aE,m,t,A]
  exact⟨by unfold BN;rw[bJ (.inr Y)],Fr.refl h⟩
 have A:decide ((64:Int)<(a.length:Int))=false:=bI om
 have s:BN a=if nU a=true then 0 else 3:=by unfold BN;rw[bU om]
 simp(disch:=omega)only[go_sem,tJ,aE,m,t,A,FW]
 have r:Fr h (h.new (.cells false (rc 64 λ_=>V.bool false))):=(Fr.refl h).new _
 have d:(h.new (.cells false (rc 64 λ_=>V.bool false))).get h.next=some (.cells false (rc 64 λ_=>V.bool false)):=H.aL ..
 have o:(h.new (.cells false (rc 64 λ_=>V.bool false))).next=h.next+1:=H.aW ..
 generalize h.new (.cells false (rc 64 λ_=>V.bool false))=J at*
 obtain⟨S,P⟩:=exI h.next
 rw[P] at d o
 rw[P]
 refine aI (λN c O=> ∃(i:Nat),(∃j:Nat->V,c= [u,aC 0,.ptr S 0,j 3,j 4,u,aC (a.length:Int),aC i,j 8,j 9])/\i<=a.length/\TX a i/\
   O.get S=some (.cells false (rc 64 λj=> .bool ((a.take i).contains (j:Int))))/\Fr h O/\N=a.length-i) a.length
  ⟨0,aB rfl,iB _,TX.zero a,by rw[d];rfl,r,rfl⟩ ?_
 clear d r o
 rintro N c U ⟨i,⟨Z,rfl⟩,hi,n,K,F,rfl⟩
 simp(disch:=omega)only[go_sem]
 by_cases q:(i:Int)<(a.length:Int)
 ·rw[cI q]
  have b:i<a.length:=om
  have ci:U.cell id (off+i)=some (aC (a.getD i 0)):=by rw[F.cell (B om),W i b]
  generalize f:a.getD i 0=x at ci
  by_cases l:x<0
  ·have p:=cI l
   simp(disch:=omega)only[go_sem,y.ixa,ci,p]
   refine⟨?_,F⟩
   rw[s,Db b (.inl (by rw[f];exact l))];rfl
  have p:=bI l
  by_cases G:(a.length:Int)<=x
  ·have z:decide ((a.length:Int)<=x)=true:=cI om
   simp(disch:=omega)only[go_sem,y.ixa,ci,p,z,m]
   refine⟨?_,F⟩
   rw[s,Db b (.inr (.inl (by rw[f];exact G)))];rfl
  have z:decide ((a.length:Int)<=x)=false:=bI om
  obtain⟨k,rfl⟩: ∃k:Nat,x=(k:Int):=⟨x.toNat,om⟩
  have Q:k<64:=om
  have w:=tF K Q
  cases hm:(a.take i).contains (k:Int) with
  |true=>
   rw[hm] at w;simp(disch:=omega)only[go_sem,y.ixa,ci,p,z,m,w];refine⟨?_,F⟩;rw[s,Db b (.inr (.inr (by rw[f];simpa using hm)))];rfl
  |false=>
   rw[hm] at w;have R:=bT (vs:=rc 64 λj=> .bool ((a.take i).contains (j:Int))) (off:=k) (by rw[iQ];exact Q) U S (.bool true);rw[lH] at R;simp(disch:=omega)only[go_sem,y.ixa,ci,p,z,m,w,K,R];rw[fJ i];refine⟨a.length-(i+1),om,i+1,aB rfl,om,n.succ b (by rw[f];omega) (by rw[f];omega) (by rw[f];simpa using hm),?_,F.set om _,rfl⟩;congr 2;refine dJ λj hj=>?_
   rw[AD b,f]
   by_cases e:j=k
   ·subst e;rw[bJ rfl];simp
   ·rw[bU e]
    congr 1;rw[DW];simp only[List.contains_iff_mem,oD,List.mem_singleton];constructor
    ·exact .inl
    ·rintro (h|h)
     ·exact h
     ·omega
 rw[bI q]
 obtain rfl:i=a.length:=om
 simp(disch:=omega)only[go_sem]
 refine⟨?_,F⟩
 rw[s,n.all];rfl
end
theorem Tv (a:H)(c:Nat)(b:c<=100000):Jz a 1 1 [.bool false] (aC c) (aC c)=some (.sl a.next 0 c (.kn c),a.new (.cells false (rc c λ_=> .bool false))):=by
 rw[uM om (Int.le_refl _) om om,DK,tW];congr 4;refine List.ext_getElem (by simp [dP,rc]) λi _ _=>?_
 simp [dP,Nat.mod_one,rc]
theorem adX (u:V)(a:List Int)(h:H)(W:a.length<=1000)(B:SI h u a):
  Ev T 129 [u,aC (a.length:Int)] h (λv h'=>v= .bool (nU a)/\Fr h h'):=by
 refine dW Nw rfl ?_
 have r:=B.lens
 obtain⟨id,off,t,y,P⟩:=B.open
 simp(disch:=omega)only[go_sem,Nw,aE,r]
 rw[bI (show ¬((a.length:Int)≠(a.length:Int)) by omega)]
 simp(disch:=omega)only[go_sem,Tv _ a.length om]
 have q:Fr h (h.new (.cells false (rc a.length λ_=>V.bool false))):=(Fr.refl h).new _
 have d:(h.new (.cells false (rc a.length λ_=>V.bool false))).get h.next=some (.cells false (rc a.length λ_=>V.bool false)):=H.aL ..
 have n:(h.new (.cells false (rc a.length λ_=>V.bool false))).next=h.next+1:=H.aW ..
 generalize h.new (.cells false (rc a.length λ_=>V.bool false))=Q at*
 obtain⟨S,K⟩:=exI h.next
 rw[K] at d n
 rw[K]
 refine aI (λG c J=> ∃(i:Nat),(∃j:Nat->V,c= [u,aC (a.length:Int),j 2,.sl S 0 a.length (.kn a.length),aC i,j 5,j 6,j 7])/\i<=a.length/\TX a i/\
   J.get S=some (.cells false (rc a.length λj=> .bool ((a.take i).contains (j:Int))))/\Fr h J/\G=a.length-i) a.length
  ⟨0,aB rfl,iB _,TX.zero a,by rw[d];rfl,q,rfl⟩ ?_
 clear d q n
 rintro G c O ⟨i,⟨R,rfl⟩,hi,m,A,F,rfl⟩
 simp(disch:=omega)only[go_sem]
 by_cases p:(i:Int)<(a.length:Int)
 ·rw[cI p]
  have b:i<a.length:=om
  have ci:O.cell id (off+i)=some (aC (a.getD i 0)):=by rw[F.cell (y om),P i b]
  generalize f:a.getD i 0=x at ci
  by_cases l:x<0
  ·have o:=cI l
   simp(disch:=omega)only[go_sem,t.ixa,ci,o]
   refine⟨?_,F⟩
   rw[Db b (.inl (by rw[f];exact l))]
  have o:=bI l
  by_cases z:(a.length:Int)<=x
  ·have w:decide ((a.length:Int)<=x)=true:=cI om
   simp(disch:=omega)only[go_sem,t.ixa,ci,o,w,r]
   refine⟨?_,F⟩
   rw[Db b (.inr (.inl (by rw[f];exact z)))]
  have w:decide ((a.length:Int)<=x)=false:=bI om
  obtain⟨k,rfl⟩: ∃k:Nat,x=(k:Int):=⟨x.toNat,om⟩
  have L:k<a.length:=om
  have s:=tF A L
  cases hm:(a.take i).contains (k:Int) with
  |true=>
   rw[hm] at s;simp(disch:=omega)only[go_sem,t.ixa,ci,o,w,r,s];refine⟨?_,F⟩;rw[Db b (.inr (.inr (by rw[f];simpa using hm)))]
  |false=>
   rw[hm] at s;have N:=bT (vs:=rc a.length λj=> .bool ((a.take i).contains (j:Int))) (off:=k) (by rw[iQ];exact L) O S (.bool true);rw[lH] at N;simp(disch:=omega)only[go_sem,t.ixa,ci,o,w,r,s,A,N];rw[fJ i];refine⟨a.length-(i+1),om,i+1,aB rfl,om,m.succ b (by rw[f];omega) (by rw[f];omega) (by rw[f];simpa using hm),?_,F.set om _,rfl⟩;congr 2;refine dJ λj U=>?_
   rw[AD b,f]
   by_cases e:j=k
   ·subst e;rw[bJ rfl];simp
   ·rw[bU e]
    congr 1;rw[DW];simp only[List.contains_iff_mem,oD,List.mem_singleton];constructor
    ·exact .inl
    ·rintro (h|h)
     ·exact h
     ·omega
 rw[bI p]
 obtain rfl:i=a.length:=om
 simp(disch:=omega)only[go_sem]
 refine⟨?_,F⟩
 rw[m.all]
theorem Hn (u:V)(a:List Int)(h:H)(l:a.length<1000000)(j:SI h u a):
  Ev T 85 [u] h (λv h'=>v= aC (BN a)/\Fr h h'):=by
 refine dW qZ rfl ?_
 have d:=j.lens
 by_cases k:a.length<1
 ·have b:decide ((a.length:Int)<1)=true:=cI om
  simp(disch:=omega)only[go_sem,qZ,aE,d,b]
  exact⟨by unfold BN;rw[bJ (.inl k)],Fr.refl h⟩
 have b:decide ((a.length:Int)<1)=false:=bI om
 by_cases f:64<a.length
 ·have c:decide ((64:Int)<(a.length:Int))=true:=cI om
  simp(disch:=omega)only[go_sem,qZ,aE,d,b,c]
  exact⟨by unfold BN;rw[bJ (.inr f)],Fr.refl h⟩
 have c:decide ((64:Int)<(a.length:Int))=false:=bI om
 have i:BN a=if nU a=true then 0 else 3:=by unfold BN;rw[bU om]
 simp(disch:=omega)only[go_sem,qZ,aE,d,b,c]
 refine (adX u a h om j).mono ?_
 rintro _ f ⟨rfl,F⟩
 cases e:nU a with
 |true=>
  simp(disch:=omega)only[go_sem];exact⟨by rw[i,e];rfl,F⟩
 |false=>
  simp(disch:=omega)only[go_sem];exact⟨by rw[i,e];rfl,F⟩
theorem Kd {a:List Int}(h:nU a=true):a=zi (a.map Int.toNat)/\aY a.length (a.map Int.toNat):=by
 unfold nU at h;simp only[sE,decide_eq_true_eq,zP] at h;obtain⟨f,c⟩:=h
 have e:a=zi (a.map Int.toNat):=by
  unfold zi;rw[List.map_map];refine (List.map_id a).symm.trans (Xa λx b=>?_);have:=(c x b).1
  show x=((x.toNat:Nat):Int)
  omega
 refine⟨e,by simp,?_,λx b=>?_⟩
 ·rw[MV,List.pairwise_map]
  rw[MV] at f;refine f.imp_of_mem λ{x y} b d i j=>?_
  have:=(c x b).1;have:=(c y d).1;omega
 ·obtain⟨y,d,rfl⟩:=pH.1 b
  have:=c y d;omega
theorem Yf {n:Nat}{l:List Nat}(L:aY n l):nU (zi l)=true:=by
 unfold nU;simp only[sE,decide_eq_true_eq,zP];refine⟨?_,λx b=>?_⟩
 ·unfold zi
  have:=L.nd;rw[MV] at this ⊢;rw[List.pairwise_map];exact this.imp λa e=>a om
 ·obtain⟨k,c,rfl⟩:=pH.1 b
  have:=L.lt k c;rw[aS,L.len];omega
def sQ:List Nat->List Nat->Bool
 |x::a,y::b=>if x=y then sQ a b else decide (x<y)
 |a,b=>decide (a.length<b.length)
theorem Nt: ∀{a b:List Nat} {i:Nat},(∀j,j<i->a.getD j 0=b.getD j 0)->i<a.length->i<b.length->a.getD i 0≠b.getD i 0->sQ a b=decide (a.getD i 0<b.getD i 0)
 | [],_,i,_,h,_,_=>by simp at h
 |_::_, [],i,_,_,h,_=>by simp at h
 |x::a,y::b,0,_,_,_,hne=>by
  have:x≠y:=by simpa using hne
  simp [sQ,this]
 |x::a,y::b,i+1,h,h1,h2,hne=>by
  have e:x=y:=by simpa using h 0 om
  unfold sQ;rw[bJ e,Nt (a:=a) (b:=b) (i:=i) (λj c=>by simpa using h (j+1) om) (by simpa using h1) (by simpa using h2) (by simpa using hne)];simp
theorem yS: ∀a:List Nat,sQ a a=false
 | []=>by simp [sQ]
 |x::a=>by unfold sQ;rw[bJ rfl];exact yS a
theorem mQ {a b:List Nat}(p:a.length=b.length):sQ a b=true↔Lt a b:=by
 by_cases h: ∃i,i<a.length/\a.getD i 0≠b.getD i 0
 ·have n: ∃i,(i<a.length/\a.getD i 0≠b.getD i 0)/\ ∀j,j<i-> ¬(j<a.length/\a.getD j 0≠b.getD j 0):=by
   obtain⟨i,hi⟩:=h
   induction i using Nat.strongRecOn with
   |_ i ih=>
    by_cases l: ∃j,j<i/\j<a.length/\a.getD j 0≠b.getD j 0
    ·obtain⟨j,d,f⟩:=l;exact ih j d f
    ·exact⟨i,hi,λj d f=>l ⟨j,d,f⟩⟩
  obtain⟨i,⟨d,f⟩,o⟩:=n;have c: ∀j,j<i->a.getD j 0=b.getD j 0:=λj l=>Jj λm=>o j l ⟨om,m⟩
  rw[Nt c d om f,decide_eq_true_eq];constructor
  ·intro h;exact⟨i,d,c,h⟩
  ·rintro⟨k,h4,h5,h6⟩
   rcases Nat.lt_trichotomy i k with h|h|h
   ·exact absurd (h5 i h) f
   ·subst h;exact h6
   ·have:=c k h;omega
 ·have e:a=b:=uZ p λi hi=>Jj λm=>h ⟨i,hi,m⟩
  subst e;rw[yS];constructor
  ·intro h;cases h
  ·exact λh=>(h.asymm h).elim
theorem abJ (u w:V)(n:Nat)(a b:List Nat)(h:H)(Y:n<100000)(A:a.length=n)(lb:b.length=n)(J:SI h u (zi a))(K:SI h w (zi b)):
  Ev T 134 [u,w] h (λv h'=>v= .bool (sQ a b)/\Fr h h'):=by
 refine dW Pt rfl ?_
 have t:=J.lens
 rw[aS,A] at t
 have s:=K.lens
 rw[aS,lb] at s
 obtain⟨id,y,B,p,N⟩:=J.open
 rw[aS,A] at B p N
 obtain⟨x,o,l,k,q⟩:=K.open
 rw[aS,lb] at l k q
 simp(disch:=omega)only[go_sem,Pt,aE]
 refine aI (λL f Q=> ∃(i:Nat),(∃j:Nat->V,f= [u,w,.bool false,aC i,j 4,j 5])/\i<=n/\(∀j,j<i->a.getD j 0=b.getD j 0)/\Fr h Q/\L=n-i) n
  ⟨0,aB rfl,iB _,λ_ h=>om,Fr.refl h,rfl⟩ ?_
 rintro L f P ⟨i,⟨U,rfl⟩,hi,m,F,rfl⟩
 by_cases r:(i:Int)<(n:Int)
 ·have d:=cI r
  have c:i<n:=om
  have ci:P.cell id (y+i)=some (aC (a.getD i 0:Nat)):=by rw[F.cell (p om),N i c];congr 2;simp [zi,A,c]
  have O:P.cell x (o+i)=some (aC (b.getD i 0:Nat)):=by rw[F.cell (k om),q i c];congr 2;simp [zi,lb,c]
  by_cases G:a.getD i 0=b.getD i 0
  ·have z:decide (((a.getD i 0:Nat):Int)≠((b.getD i 0:Nat):Int))=false:=bI om
   simp(disch:=omega)only[go_sem,t,s,d,B.ixa,l.ixa,ci,O,z]
   rw[fJ i]
   refine⟨n-(i+1),om,i+1,aB rfl,om,λj R=>?_,?_,rfl⟩
   ·by_cases e:j=i
    ·rw[e];exact G
    ·exact m j om
   ·first|exact F|exact F.bH om
  ·have z:decide (((a.getD i 0:Nat):Int)≠((b.getD i 0:Nat):Int))=true:=cI om
   simp(disch:=omega)only[go_sem,t,s,d,B.ixa,l.ixa,ci,O,z]
   refine⟨?_,?_⟩
   ·rw[Nt m om om G]
    congr 1
    rw[DW];simp
   ·first|exact F|exact F.bH om|exact (F.bH om).bH (by simp;omega)
 have d:=bI r
 have W:decide ((n:Int)<(n:Int))=false:=bI om
 obtain rfl:i=n:=om
 simp(disch:=omega)only[go_sem,t,s,d]
 have e:a=b:=uZ om λj R=>m j om
 refine⟨?_,F⟩
 rw[e,yS]
section
variable {n:Nat} {O:List (List Int)}
theorem HV (d:Int)(b a:V)(c:b.one=true)(f:a.one=true)(h:H):Ev T 146 [.agg [aC d,b,a]] h (λv h'=>v= .fn 199 [] [.ptr h.next 0]/\h'.get h.next=bB [aC d,b,a]/\h'.next=h.next+1/\Fr h h'):=by
 refine dW Ic rfl ?_;simp(disch:=omega)only[go_sem,Ic,aE,bV h (v:= aC d) (u:=b) (w:=a) rfl c f];exact (Fr.refl h).new _
theorem Xy (id b:Nat)(d:Int)(x f:V)(ws:List V)(h:H)(K:ws.length<1000000)(J:Nat->H->Prop)(D:H->Prop)(r:J 0 h)
  (q: ∀i hh,J i hh->hh.get b=bB [aC d,x,f]/\SV hh f 1 ws)
  (G: ∀i hh,i<ws.length->J i hh->Ey T id [aC i,ws.getD i .undef] hh (λv h'=>v= .bool true/\J (i+1) h'∨v= .bool false/\D h')):
  Ev T 199 [.yl id,.ptr b 0] h (λ_ h'=>J ws.length h'∨D h'):=by
 refine dW Bj rfl ?_
 obtain⟨F,t⟩:=q 0 h r
 have B:h.cell b 2=some f:=by rw[H.aF F];rfl
 have y:bL f=some (aC (ws.length:Int)):=by unfold bL;rw[t.len (n:=ws.length) om om];rfl
 simp(disch:=omega)only[go_sem,Bj,aE,B,y]
 refine aI (λs a hh=> ∃(i:Nat),(∃g:Nat->V,a= [.yl id,.ptr b 0,g 2,g 3,f,aC (ws.length:Int),aC i,g 7,g 8])/\i<=ws.length/\J i hh/\s=ws.length-i) ws.length
  ⟨0,aB rfl,iB _,r,rfl⟩ ?_
 rintro s a o ⟨i,⟨g,rfl⟩,hi,m,rfl⟩
 by_cases c:(i:Int)<(ws.length:Int)
 ·have p:=cI c
  obtain⟨N,u⟩:=q i o m
  obtain⟨j,k,z,w,A⟩:=u.shape ws.length om om
  have ci:o.cell j (k+i)=some (ws.getD i .undef):=by rw[A i om,List.getD,dD om];rfl
  simp(disch:=omega)only[go_sem,p,z.ixa,ci]
  refine (G i o om m).mono ?_
  rintro v L (⟨rfl,l⟩|⟨rfl,l⟩)
  ·simp(disch:=omega)only[go_sem]
   rw[fJ i]
   exact⟨ws.length-(i+1),om,i+1,aB rfl,om,l,rfl⟩
  ·simp(disch:=omega)only[go_sem]
   exact .inr l
 have p:=bI c
 obtain rfl:i=ws.length:=om
 simp(disch:=omega)only[go_sem,p]
 exact .inl m
structure QP (n:Nat)(O:List (List Int))(R:List (List (List Int))):Prop where
 lo:O.length=n
 lr:R.length=n
 row: ∀i,i<n->(R.getD i []).length=(O.getD i []).length/\(R.getD i []).length<=n-i
 perm: ∀i,i<n-> ∀x∈R.getD i [],x.length=n/\nU x=true
def NI (d:Int)(O:List (List Int))(R:List (List (List Int))):Prop:= ∃(n:Nat) (O':LN) (R':jJ),d=(n:Int)/\1<=n/\n<=64/\O=O'.map zi/\R=R'.map (List.map zi)/\Valid n O' R'
open Classical in
noncomputable def Wa (d:Int)(O:List (List Int))(R:List (List (List Int))):Int:=if d<1∨64<d then 2 else if NI d O R then 0 else 3
theorem Wv {a b:List Nat}(h:zi a=zi b):a=b:=by
 have:=congrArg (List.map Int.toNat) h
 have e: ∀a:List Nat,(zi a).map Int.toNat=a:=λa=>by
  unfold zi;rw[List.map_map];exact (Xa λx _=>by simp).trans (List.map_id a)
 rwa [e,e] at this
theorem map_inj {α β:Type}{f:α->β}(c: ∀x y,f x=f y->x=y): ∀{a b:List α},a.map f=b.map f->a=b
 | [], [],_=>rfl
 | [],_::_,h=>by cases h
 |_::_, [],h=>by cases h
 |x::a,y::b,h=>by
  simp only[List.map_cons,List.cons.injEq] at h;rw[c x y h.1,map_inj c h.2]
theorem tK {i:Nat}{G:List Nat->Prop}(d: ∀x,G x->aY n x){o:List Nat}(hi:i<n)(a:o.Pairwise (· < ·))(mem: ∀p,p∈o↔ ∃x,G x/\Fix i x/\x.getD i 0=p):o.length<=n-i:=by
 have nd:o.Nodup:=by rw[MV];exact a.imp λh e=>om
 have:=List.Nodup.length_le_of_subset nd (l₂:=(List.range (n-i)).map (· +i)) λp c=>by
  obtain⟨x,b,f,rfl⟩:=(mem p).1 c;have X:=d x b;have k:=X.fX hi
  have m:i<=x.getD i 0:=Jj λl=>by
   have:=X.inj hi (j:=x.getD i 0) om (by rw[f (x.getD i 0) om]);omega
  exact pH.2 ⟨x.getD i 0-i,Dj.2 om,om⟩
 simpa using this
theorem NI.frm {R:List (List (List Int))}(c:NI (n:Int) O R):QP n O R:=by
 obtain⟨m,d,b,e,p,r,rfl,rfl,h,v⟩:=c;obtain rfl:n=m:=om
 have j: ∀i,i<n->(b.map (List.map zi)).getD i []=(b.getD i []).map zi/\(d.map zi).getD i []=zi (d.getD i [])/\ ∀x∈b.getD i [],x∈b.flatten:=λi hi=>by
  have s:=v.lr;have q:=v.lo;refine⟨by simp [List.getD,show i<b.length by omega],by simp [List.getD,show i<d.length by omega],λx a=>?_⟩;rw[List.getD,dD om] at a;exact List.mem_flatten.2 ⟨_,xG om,a⟩
 refine⟨by rw[iA];exact v.lo,by rw[iA];exact v.lr,λi hi=>?_,λi hi x a=>?_⟩
 ·obtain⟨f,k,_⟩:=j i hi
  rw[f,k,iA,aS,v.rl i hi];exact⟨rfl,tK (λx a=>bM.bF h a) hi (v.asc i hi) (v.mem i hi)⟩
 ·obtain⟨f,_,l⟩:=j i hi
  rw[f] at a;obtain⟨y,o,rfl⟩:=pH.1 a;have Y:=h y (l y o);exact⟨by rw[aS];exact Y.len,Yf Y⟩
theorem QP.nat {R:List (List (List Int))}(f:QP n O R): ∃R':jJ,R=R'.map (List.map zi)/\ ∀g∈R'.flatten,aY n g:=by
 have b: ∀x,(∃i,i<n/\x∈R.getD i [])->x=zi (x.map Int.toNat)/\aY n (x.map Int.toNat):=λx ⟨i,hi,a⟩=>by
  obtain⟨k,l⟩:=f.perm i hi x a;obtain⟨m,j⟩:=Kd l;rw[k] at j;exact⟨m,j⟩
 have mem: ∀r∈R,∀x∈r,∃i,i<n/\x∈R.getD i []:=λr c x a=>by
  obtain⟨i,hi,rfl⟩:=Ad.1 c;have:=f.lr;exact⟨i,om,by rw[List.getD,dD hi];exact a⟩
 refine⟨R.map (List.map (List.map Int.toNat)),?_,λg d=>?_⟩
 ·rw[List.map_map]
  refine (List.map_id R).symm.trans (Xa λr c=>?_);show r=(r.map (List.map Int.toNat)).map zi;rw[List.map_map];refine (List.map_id r).symm.trans (Xa λx a=>(b x (mem r c x a)).1)
 ·obtain⟨o,h,d⟩:=List.mem_flatten.1 d
  obtain⟨r,c,rfl⟩:=pH.1 h;obtain⟨x,a,rfl⟩:=pH.1 d;exact (b x (mem r c x a)).2
theorem NI.iff {d:jJ}(k:1<=n)(h2:n<=64)(j: ∀g∈d.flatten,aY n g){f:LN}{i:jJ}(c:aV n (BZ n d) f i):
  NI (n:Int) O (d.map (List.map zi))↔O=f.map zi/\d.map (List.map zi)=i.map (List.map zi):=by
 have inj: ∀a b:LN,a.map zi=b.map zi->a=b:=λa b h=>map_inj (λ_ _=>Wv) h
 constructor
 ·rintro⟨m,O3,R3,e,_,_,rfl,e3,v⟩
  obtain rfl:n=m:=om
  have:=map_inj inj e3
  subst this
  obtain⟨l,o⟩:=(Valid.iff j c).1 v
  subst l o
  exact⟨rfl,rfl⟩
 ·rintro⟨rfl,e⟩
  have:=map_inj inj e
  subst this
  exact⟨n,f,d,rfl,k,h2,rfl,rfl,(Valid.iff j c).2 ⟨rfl,rfl⟩⟩
end
section
variable {n i:Nat} {O:List (List Int)} {R:List (List (List Int))}
def PA (n:Nat)(O:List (List Int))(R:List (List (List Int)))(j:Nat):Prop:=((R.getD j []).length=(O.getD j []).length/\(R.getD j []).length<=n-j)/\ ∀x∈R.getD j [],x.length=n/\nU x=true
theorem QP.of (a:O.length=n)(h2:R.length=n)(h: ∀j,j<n->PA n O R j):QP n O R:=⟨a,h2,λi hi=>(h i hi).1,λi hi=>(h i hi).2⟩
theorem Nb (a:1<=n)(h2:n<=64)(h: ¬QP n O R):Wa (n:Int) O R=3:=by
 unfold Wa;rw[bU om,bU (λc=>h c.frm)]
theorem bC {α:Type}{l:List α}{k:Nat}{d:α}(h:k<l.length):l.getD k d∈l:=by
 rw[List.getD,dD h];exact xG h
theorem eY {α:Type}{l:List α}{k:Nat}(d:α)(h:k<l.length):l.take (k+1)=l.take k++ [l.getD k d]:=by
 rw[←List.take_append_getElem h,List.getD,dD h];rfl
theorem uK {R:List (List (List Int))}{m:Nat}: ∀{i:Nat},i<=R.length->(∀j,j<i->(R.getD j []).length<=m)->((R.take i).flatten).length<=i*m
 |0,_,_=>by simp
 |i+1,h,hr=>by
  rw[←List.take_append_getElem (show i<R.length by omega),List.flatten_append,iV];have b:=uK (i:=i) om (λj c=>hr j om);have a:=hr i om;rw[List.getD,dD om] at a;have a:R[i].length<=m:=a;simp only[List.flatten_cons,List.flatten_nil,tZ];rw[Nat.succ_mul];omega
theorem Lg {G:List Nat->Prop}(b: ∀x,G x->aY n x){O:LN}{R:jJ}(f:n<=64)(c:aV n G O R):Bf (O.map zi)/\tE (R.map (List.map zi)):=by
 have a: ∀i,i<n->(O.getD i []).length<=n:=λi hi=>mY (tK b hi (c.asc i hi) (c.mem i hi)) om
 refine⟨⟨by rw[iA,c.lo];omega,λi hi=>?_⟩,⟨by rw[iA,c.lr];omega,λi hi=>?_⟩⟩
 ·rw[iA,c.lo] at hi
  have:(O.map zi).getD i []=zi (O.getD i []):=by simp [List.getD,show i<O.length by rw[c.lo];exact hi]
  rw[this,aS];have:=a i hi;omega
 ·rw[iA,c.lr] at hi
  have e:(R.map (List.map zi)).getD i []=(R.getD i []).map zi:=by simp [List.getD,show i<R.length by rw[c.lr];exact hi]
  rw[e,iA,c.rl i hi];refine⟨by have:=a i hi;omega,λk d=>?_⟩
  have:((R.getD i []).map zi).getD k []=zi ((R.getD i []).getD k []):=by
   have:=c.rl i hi;simp [List.getD,show k<(R[i]?.getD []).length by simp [List.getD] at this d;omega]
  rw[this,aS,(b _ (c.rep i hi k d).mem).len];omega
theorem tE.out (s:tE R):Pw R:=⟨s.1,λi hi=>(s.2 i hi).1⟩
theorem Pw.inn (s:Pw R)(f: ∀i,i<R.length-> ∀x∈R.getD i [],x.length=n)(b:n<=64):tE R:=⟨s.1,λi hi=>⟨s.2 i hi,λk a=>by rw[f i hi _ (bC a)];omega⟩⟩
theorem MQ {α:Type}{R:List (List α)}(hi:i<R.length):(R.take (i+1)).flatten=(R.take i).flatten++R.getD i []:=by
 rw[←List.take_append_getElem hi,List.flatten_append];simp [List.getD,hi]
structure LG (h hh:H)(B id b:Nat)(r:fK)(n:Nat)(vO vR:V)(O:List (List Int))(R:List (List (List Int)))(i:Nat)(acc:List (List Int)):Prop where
 gB:hh.get B=some (.cells false [aC n,vO,vR])
 gR:hh.get (B+1)=some (.cells false [aC 0])
 gN:hh.get (B+1+1)=some (.cells false [aC n])
 gA: ∃va ws,hh.get (B+1+1+1)=some (.cells false [va])/\dH hh va 1 ws (id+1)/\aN (SI h) ws acc
 gr:hh.get id=some (.loop r)
 gb:hh.get b=some (.cells false [aC n,vO,vR])
 nx:id<hh.next
 fr:Fr h hh
 rows: ∀j,j<i->PA n O R j
structure CkD (h hh:H)(B id:Nat)(r:fK)(n:Nat)(O:List (List Int))(R:List (List (List Int))):Prop where
 gR:hh.get (B+1)=some (.cells false [aC 3])
 gr:hh.get id=some (.loop (vD r .ret))
 nx:id<hh.next
 fr:Fr h hh
 bad: ¬QP n O R
theorem LG.mono {h j h2:H}{B id b:Nat}{r:fK}{k d:V}{c:List (List Int)}(J:LG h j B id b r n k d O R i c)(p:B+1+1+1<id)(q:b<id)(f:Fr j h2):LG h h2 B id b r n k d O R i c:=by
 obtain⟨m,l,g,o,a⟩:=J.gA;have:=J.nx;exact⟨by rw[f.get _ om];exact J.gB,by rw[f.get _ om];exact J.gR,by rw[f.get _ om];exact J.gN,⟨m,l,by rw[f.get _ om];exact g,o.fr f,a⟩,by rw[f.get _ om];exact J.gr,by rw[f.get _ om];exact J.gb,jM J.nx f.next,J.fr.trans f,J.rows⟩
theorem LG.loop {h d h2:H}{B id b:Nat}{r r2:fK}{j l:V}{c:List (List Int)}(J:LG h d B id b r n j l O R i c)(v:B+1+1+1<id)(x:b<id)(u:h.next<=B)(g:h2.get id=some (.loop r2))(f:h2.next=d.next)(o: ∀k,k≠id->h2.get k=d.get k):LG h h2 B id b r2 n j l O R i c:=by
 obtain⟨t,s,p,q,a⟩:=J.gA;refine⟨by rw[o _ om];exact J.gB,by rw[o _ om];exact J.gR,by rw[o _ om];exact J.gN,⟨t,s,by rw[o _ om];exact p,q.mono om λk _ _ _ _ w _=>o k om,a⟩,g,by rw[o _ om];exact J.gb,by rw[f];exact J.nx,⟨by rw[f];exact J.fr.next,λk m=>by rw[o k om];exact J.fr.get k m⟩,J.rows⟩
theorem WE (vc:V)(d:Int)(O:List (List Int))(R:List (List (List Int)))(h:H)(hc:YD h vc d O R)(hd:d<=7∨64<d)(so:Bf O)(sr:Pw R):
  Ev T 135 [vc] h (λv h'=>v= aC (Wa d O R)/\Fr h h'):=by
 obtain⟨q,o,rfl,sO,sR⟩:=hc
 refine dW lD rfl ?_
 obtain⟨wO,tO,aO⟩:=sO
 obtain⟨wR,tR,aR,kR⟩:=sR
 have lO:=aO.length
 have lR:=aR.length
 have b5:bL q=some (aC (O.length:Int)):=by unfold bL;rw[tO.len (n:=O.length) om om];rfl
 have d7:bL o=some (aC (R.length:Int)):=by unfold bL;rw[tR.len (n:=R.length) om om];rfl
 have a8:=tO.cT.2.1
 have a7:=tR.cT.2.1
 obtain⟨B,hB⟩:=exI h.next
 obtain⟨h1,e1,n1,g1,o1,f1⟩:=dK hB [aC d,q,o]
 obtain⟨h2,e2,n2,g2,o2,f2⟩:=dK n1 [aC 0]
 obtain⟨h3,e3,n3,g3,o3,f3⟩:=dK n2 [aC 0]
 obtain⟨h4,e4,n4,g4,o4⟩:=mV h3 (B+1+1) [aC d]
 have U:h2.get B=some (.cells false [aC d,q,o]):=by rw[o2 _ om];exact g1
 have a4:h4.get B=some (.cells false [aC d,q,o]):=by rw[o4 _ om,o3 _ om];exact U
 have A:h4.get (B+1)=some (.cells false [aC 0]):=by rw[o4 _ om,o3 _ om];exact g2
 have F4:Fr h h4:=by
  refine⟨om,λid b6=>?_⟩;rw[o4 _ om,o3 _ om,o2 _ om,o1 _ om]
 have Z: ∀(l:H) (id:Nat) (x y:Int),eU (some (.cells false [aC x])) l id 0 [aC y]=some (l.set id (some (.cells false [aC y]))):=λl id x y=>bT (by simp) l _ _
 have bx:=bV h (v:= aC d) (u:=q) (w:=o) rfl a8 a7
 have j8:=H.aF A
 have a2: ∀z:Int,(h4.set (B+1) (some (.cells false [aC z]))).cell (B+1) 0=some (aC z)/\Fr h (h4.set (B+1) (some (.cells false [aC z]))):=λz=>⟨by rw[H.Ei];rfl,F4.set om _⟩
 by_cases b7:d<1
 ·have s:=cI b7
  simp(disch:=omega)only[go_sem,lD,aE,bx,hB,e1,n1,e2,n2,e3,H.aF U,g3,Z,e4,H.aF g4,s,A]
  exact⟨by unfold Wa;rw[bJ (.inl b7)],(a2 2).2⟩
 have s:=bI b7
 by_cases c0:64<d
 ·have d2:=cI c0
  simp(disch:=omega)only[go_sem,lD,aE,bx,hB,e1,n1,e2,n2,e3,H.aF U,g3,Z,e4,H.aF g4,s,d2,A]
  exact⟨by unfold Wa;rw[bJ (.inr c0)],(a2 2).2⟩
 have d2:=bI c0
 obtain⟨n,rfl⟩: ∃n:Nat,d=(n:Int):=⟨d.toNat,om⟩
 have Y:1<=n:=om
 have d5:n<=7:=om
 by_cases b2:(O.length:Int)≠(n:Int)
 ·have dl:=cI b2
  simp(disch:=omega)only[go_sem,lD,aE,bx,hB,e1,n1,e2,n2,e3,H.aF U,g3,Z,e4,H.aF g4,s,d2,A,H.aF a4,b5,dl]
  exact⟨by rw[Nb Y om (λf=>b2 (by have:=f.lo;omega))],(a2 3).2⟩
 have dl:=bI b2
 by_cases b0:(R.length:Int)≠(n:Int)
 ·have c1:=cI b0
  simp(disch:=omega)only[go_sem,lD,aE,bx,hB,e1,n1,e2,n2,e3,H.aF U,g3,Z,e4,H.aF g4,s,d2,A,H.aF a4,b5,dl,d7,c1]
  exact⟨by rw[Nb Y om (λf=>b0 (by have:=f.lr;omega))],(a2 3).2⟩
 have c1:=bI b0
 have e7:h4.next=B+1+1+1:=by rw[n4];exact n3
 obtain⟨h5,e5,n5,g5,o5,f5⟩:=dK e7 [.aD]
 have d3:h5.get B=some (.cells false [aC n,q,o]):=by rw[o5 _ om];exact a4
 have rB:=aJ d3
 simp(disch:=omega)only[go_sem,lD,aE,bx,hB,e1,n1,e2,n2,e3,H.aF U,g3,Z,e4,H.aF g4,s,d2,A,H.aF a4,b5,dl,d7,c1,e7,e5,rB]
 refine (HV (n:Int) q o a8 a7 h5).mono ?_
 rintro _ Q ⟨rfl,g6,n6,f6⟩
 simp(disch:=omega)only[go_sem]
 have F6:Fr h Q:=(F4.trans f5).trans f6
 have j2:Q.get B=some (.cells false [aC n,q,o]):=by rw[f6.get _ om];exact d3
 have e9:Q.get (B+1)=some (.cells false [aC 0]):=by rw[f6.get _ om,f5.get _ om];exact A
 have g9:Q.get (B+1+1)=some (.cells false [aC n]):=by rw[f6.get _ om,f5.get _ om];exact g4
 have f0:Q.get (B+1+1+1)=some (.cells false [.aD]):=by rw[f6.get _ om];exact g5
 refine⟨rfl,wF λr hr=>?_⟩
 obtain⟨id,b6⟩:=exI Q.next
 obtain⟨b,hb⟩:=exI h5.next
 rw[hb] at g6 n6
 rw[b6,hb]
 have jI:r.st= .ready:=by rw[hr]
 have b1:r.pend=none:=by rw[hr]
 have i9:R.length=n:=om
 have i8:O.length=n:=om
 have f7:Fr Q (Q.new (.loop r)):=(Fr.refl Q).new _
 have o7: ∀k,k<id->(Q.new (.loop r)).get k=Q.get k:=λk hk=>H.bG Q om _
 have J0:LG h (Q.new (.loop r)) B id b r n q o O R 0 []:=
  ⟨by rw[o7 _ om];exact j2,by rw[o7 _ om];exact e9,by rw[o7 _ om];exact g9,⟨.aD, [],by rw[o7 _ om];exact f0,dH.aD _ _ _,trivial⟩,by rw[←b6,H.aL],by rw[o7 _ om];exact g6,by rw[H.aW];omega,F6.trans f7,λj hj=>om⟩
 refine (Xy id b (n:Int) q o wR _ (by rw[lR];exact sr.1) (λi l=>LG h l B id b r n q o O R i (R.take i).flatten) (λl=>CkD h l B id r n O R) J0 (λi l J=>⟨J.gb,tR.mono J.fr⟩) ?_).mono ?_
 ·rintro i l hi J
  have a1:i<n:=om
  refine uC J.gr (by rw[hr];rfl) jI λK g7 n7 o7=>?_
  rw[congrArg fK.assign hr,congrArg fK.vars hr,congrArg fK.pars hr]
  simp(disch:=omega)only[go_sem,List.zip_cons_cons,List.zip_nil_left]
  rw[congrArg fK.body hr]
  have J7:LG h K B id b (qE r) n q o O R i (R.take i).flatten:=J.loop om om om g7 n7 o7
  have e0:=iJ aO (i:=i) om .undef []
  have e8:=iJ aR (i:=i) om .undef []
  obtain⟨wr,tr,ar⟩:=e8
  have lr:=ar.length
  have c2:bL (wR.getD i .undef)=some (aC ((R.getD i []).length:Int)):=by unfold bL;rw[tr.len (n:=(R.getD i []).length) om om];rfl
  have b8:=e0.lens
  obtain⟨f4,d9,a5,c4,c8⟩:=(tO.mono J7.fr).shape O.length om om
  have co:K.cell f4 (d9+i)=some (wO.getD i .undef):=by rw[c8 i om,List.getD,dD om];rfl
  have cB:=H.aF J7.gB
  have cN:=H.aF J7.gN
  have d0: ∀l P,LG h l B id b (qE r) n q o O R i P-> ¬QP n O R->CkD h ((l.set (B+1) (some (.cells false [aC 3]))).set id (some (.loop (vD r .ret)))) B id r n O R:=λl P J hb=>by
   have:=J.nx;refine⟨by rw[H.aH _ om,H.aU],by rw[H.aU],J.nx,(J.fr.set om _).set om _,hb⟩
  have yq: ∀l p P,LG h l B id b (qE r) n q o O R i P-> ¬QP n O R->Kq id (λv h'=>v= .bool true/\LG h h' B id b r n q o O R (i+1) (R.take (i+1)).flatten∨v= .bool false/\CkD h h' B id r n O R) .ret p (l.set (B+1) (some (.cells false [aC 3]))):=λl p P J hb=>
   Ty (by rw[H.aH _ om];exact J.gr) (.inr ⟨rfl,d0 l P J hb⟩)
  by_cases t:((R.getD i []).length:Int)≠((O.getD i []).length:Int)
  ·have s:=cI t
   simp(disch:=omega)only[go_sem,c2,cB,a5.ixa,co,b8,s,J7.gR,Z]
   exact yq _ _ _ J7 λf=>t (by have:=(f.row i a1).1;omega)
  have s:=bI t
  by_cases c3:(n:Int)-(i:Int)<((R.getD i []).length:Int)
  ·have d2:=cI c3
   simp(disch:=omega)only[go_sem,c2,cB,cN,a5.ixa,co,b8,s,d2,J7.gR,Z]
   exact yq _ _ _ J7 λf=>by have:=(f.row i a1).2;omega
  have d2:=bI c3
  simp(disch:=omega)only[go_sem,c2,cB,cN,a5.ixa,co,b8,s,d2]
  refine aI (λk' p l=> ∃(k:Nat),(∃g:Nat->V,p= [g 0,.ptr B 0,.ptr (B+1) 0,.ptr (B+1+1) 0,.ptr (B+1+1+1) 0,g 5,g 6,g 7,g 8,g 9,g 10,g 11,g 12,g 13,wR.getD i .undef,aC ((R.getD i []).length:Int),aC k,g 17,g 18,g 19])/\k<=(R.getD i []).length/\LG h l B id b (qE r) n q o O R i ((R.take i).flatten++(R.getD i []).take k)/\
    (∀x∈(R.getD i []).take k,x.length=n/\nU x=true)/\k'=(R.getD i []).length-k) (R.getD i []).length
   ⟨0,aB rfl,iB _,by rw[List.take_zero,tZ];exact J7,λx hx=>by simp at hx,rfl⟩ ?_
  clear co cB cN c4 c8 J7 s d2 a5 g7 n7 o7 K
  rintro k' p h8 ⟨k,⟨g,rfl⟩,hk,N,b3,rfl⟩
  by_cases c7:(k:Int)<((R.getD i []).length:Int)
  case neg=>
   have e1:=bI c7;obtain rfl:k=(R.getD i []).length:=om
   rw[List.take_length] at N b3;rw[←MQ om] at N;simp(disch:=omega)only[go_sem,e1];refine pU jI b1 N.gr (.inl ⟨rfl,?_⟩);have a:=N.loop (h2:=h8.set id (some (.loop r))) om om om (by rw[H.aU]) rfl (λk hk=>H.aH _ hk _)
   have b9: ∀j,j<i+1->PA n O R j:=λj hj=>by
    by_cases e:j=i
    ·subst e;exact⟨⟨om,om⟩,b3⟩
    ·exact a.rows j om
   exact⟨a.gB,a.gR,a.gN,a.gA,a.gr,a.gb,a.nx,a.fr,b9⟩
  have e1:=cI c7
  have a3:k<(R.getD i []).length:=om
  obtain⟨x,hx⟩:=exI ((R.getD i []).getD k [])
  have sx:=iJ ar a3 .undef []
  rw[hx] at sx
  have c9:x∈R.getD i []:=by rw[←hx];exact bC a3
  obtain⟨j3,c6,d8,j6,g0⟩:=(tr.mono N.fr).shape (R.getD i []).length om om
  have ck:h8.cell j3 (c6+k)=some (wr.getD k .undef):=by rw[g0 k om,List.getD,dD om];rfl
  have cN:=H.aF N.gN
  generalize wr.getD k .undef=vx at sx ck
  have d4:=sx.lens
  by_cases t:(x.length:Int)≠(n:Int)
  ·have s:=cI t
   simp(disch:=omega)only[go_sem,e1,d8.ixa,ck,d4,cN,s,N.gR,Z]
   exact yq _ _ _ N λf=>t (by have:=(f.perm i a1 x c9).1;omega)
  have s:=bI t
  simp(disch:=omega)only[go_sem,e1,d8.ixa,ck,d4,cN,s]
  refine (wW vx x h8 om (sx.mono N.fr)).mono ?_
  rintro _ h9 ⟨rfl,f9⟩
  have a:=N.mono om om f9
  cases hpk:nU x with
  |false=>
   have e3:decide (BN x≠0)=true:=cI (by unfold BN;rw[bU om,hpk];simp);simp(disch:=omega)only[go_sem,e3,a.gR,Z];exact yq _ _ _ a λf=>by have:=(f.perm i a1 x c9).2;rw[hpk] at this;cases this
  |true=>
   have e3:decide (BN x≠0)=false:=bI (by unfold BN;rw[bU om,hpk];simp);obtain⟨va,ws,gA,ow,al⟩:=a.gA
   have one:vx.cells= [vx]/\vx.one=true:=⟨sx.cT.1,sx.cT.2.1⟩
   have k2:=a.nx;obtain⟨b4,i5,k0,j4,j9,G⟩:=dK (h:=h9) rfl [vx];have cA:=H.aF gA;have j7:b4.cell (B+1+1+1) 0=some va:=by rw[H.aF (by rw[G.get _ om];exact gA)];rfl
   have k4:=al.length
   have j5:((R.take i).flatten++(R.getD i []).take k).length<=400:=by
    have h1:=uK (m:=7) (R:=R) (i:=i) om (λj hj=>by have:=(a.rows j hj).1.2;omega);have h2:i*7<=7*7:=Nat.mul_le_mul_right 7 om;rw[iV,zO];omega
   obtain⟨c5,i2,a6⟩:=(ow.fr G).push (bytes:=24) (SV.one om j4 (.kn 1)) (n:=ws.length) (m:=1) om rfl om om om;have ap: ∀k,k<=id->dR va k:=λk hk k3 i4 m c e e2=>by have:=(ow.in _ _ _ _ e).2.1;omega
   have e6:c5.get (B+1+1+1)=some (.cells false [va]):=by rw[a6.old _ om (ap _ om),G.get _ om];exact gA
   have k1:=a6.next;have i0: ∀(l:H) (y:V),eU (some (.cells false [va])) l (B+1+1+1) 0 [y]=some (l.set (B+1+1+1) (some (.cells false [y]))):=λl y=>bT (by simp) l _ _
   simp(disch:=omega)only[go_sem,e3,cA,cK h9 (z:= .aD) one.1 one.2,i5,i2,e6,i0];rw[fJ k]
   have W: ∀k,k<=id->k≠B+1+1+1->(c5.set (B+1+1+1) (some (.cells false [.sl b4.next 0 (ws.length+1) (.un 1)]))).get k=h9.get k:=λk h1 h2=>by
    rw[H.aH _ h2,a6.old _ om (ap _ h1),G.get _ om]
   have tk:(R.take i).flatten++(R.getD i []).take (k+1)=((R.take i).flatten++(R.getD i []).take k)++ [x]:=by
    rw[Lz,eY [] a3,hx]
   refine⟨(R.getD i []).length-(k+1),om,k+1,aB rfl,om,⟨by rw[W _ om om];exact a.gB,by rw[W _ om om];exact a.gR,by rw[W _ om om];exact a.gN,⟨_,ws++ [vx],by rw[H.aU],?_,?_⟩,by rw[W _ om om];exact a.gr,by rw[W _ om om];exact a.gb,by simp only[H.cV];omega,?_,a.rows⟩,λy hy=>?_,rfl⟩
   ·refine (a6.own (b:=id+1) om rfl om).mono (fN _) λk i4 m c e h1 h2=>H.aH _ om _
   ·rw[tk];exact al.append ⟨sx,trivial⟩
   ·refine⟨by simp only[H.cV];have:=a.fr.next;omega,λk hk=>?_⟩
    rw[W k om om];exact a.fr.get k hk
   ·rw[eY [] a3,hx] at hy
    rcases oD.1 hy with hy|hy
    ·exact b3 y hy
    ·rw[List.mem_singleton.1 hy]
     exact⟨om,hpk⟩
 ·rintro _ l (J|D)
  ·refine⟨r,J.gr,by rw[jI];simp,?_⟩
   have en:r.pend.getD .norm= .norm:=by rw[b1];rfl
   rw[en]
   rw[lR,List.take_length] at J
   have J:=J.loop (r2:={r with st:= .out}) (h2:=l.set id (some (.loop {r with st:= .out}))) om om om (by rw[H.aU]) rfl (λk hk=>H.aH _ hk _)
   generalize l.set id (some (.loop {r with st:= .out}))=K at J
   clear J0 f7 o7 b1 jI hr
   have frm:QP n O R:=QP.of i8 i9 λj hj=>J.rows j om
   obtain⟨R',eR,hP⟩:=frm.nat
   obtain⟨va,ws,gA,ow,al⟩:=J.gA
   have eF:R.flatten=R'.flatten.map zi:=by rw[eR,List.map_flatten]
   rw[eF] at al
   have nx:=J.nx
   have rB:=aJ J.gB
   have cN:=H.aF J.gN
   have cA:=H.aF gA
   have fb:Fr K (H.mk K.tr (K.next+7)):=(Fr.refl K).bH om
   have j1:SP (H.mk K.tr (K.next+7)) va R'.flatten:=⟨ws,(ow.fr fb).sv,al.mono λ_ _ x=>x.mono (J.fr.trans fb)⟩
   have h0:R'.flatten.length<1000000:=by
    have h1:=uK (m:=7) (R:=R) (i:=n) om (λj hj=>by have:=(J.rows j om).1.2;omega);have h2:n*7<=7*7:=Nat.mul_le_mul_right 7 om;rw[Ro om,eF,iA] at h1;omega
   simp(disch:=omega)only[go_sem,aJ (h:=H.mk K.tr (K.next+7)) J.gB,cN,cA]
   refine (BD n va R'.flatten _ Y d5 h0 j1 hP).mono ?_
   rintro _ h8 ⟨i7,L,F,τ,rfl,RR,tl,f8,_⟩
   have F8:Fr K h8:=fb.trans f8
   have N:=J.mono om om F8
   have eO:=tO.dI
   have d6:=tR.dI
   simp(disch:=omega)only[go_sem,aJ N.gB,eO,d6]
   refine (Rw h8 n i7 L F τ d5 RR tl.tw).mono ?_
   rintro g8 h9 ⟨O2,R2,i1,j0,f9⟩
   have a:=N.mono om om f9
   have a9:aV n (BZ n R') O2 R2:=j0.congr tl.group
   obtain⟨i6,i3⟩:=Lg (λx hx=>bM.bF hP hx) om a9
   simp(disch:=omega)only[go_sem,aJ a.gB,eO,d6]
   refine (RW _ g8 (n:Int) (n:Int) O (O2.map zi) R (R2.map (List.map zi)) h9 ⟨q,o,rfl,⟨wO,tO.mono a.fr,aO.mono λ_ _ x=>x.mono a.fr⟩,⟨wR,tR.mono a.fr,aR.mono (λ_ _ x=>x.mono a.fr),kR⟩⟩ i1.ch so i6 (sr.inn (λj hj x hx=>(frm.perm j om x hx).1) om) i3).mono ?_
   rintro _ b4 ⟨rfl,G⟩
   have a0:=a.mono om om G
   have iff:=NI.iff (O:=O) Y om hP a9
   rw[←eR] at iff
   by_cases hq:(n:Int)=(n:Int)/\O=O2.map zi/\R=R2.map (List.map zi)
   ·have ed:=cI hq
    rw[ed]
    simp(disch:=omega)only[go_sem,a0.gR,Z]
    refine⟨?_,a0.fr.set om _⟩
    unfold Wa
    rw[bU om,bJ (iff.2 hq.2)]
   ·have ed:=bI hq
    rw[ed]
    simp(disch:=omega)only[go_sem,a0.gR,Z]
    refine⟨?_,a0.fr.set om _⟩
    unfold Wa
    rw[bU om,bU (λc=>hq ⟨rfl,iff.1 c⟩)]
  ·refine⟨_,D.gr,by simp [vD],?_⟩
   have en:(vD r .ret).pend.getD .norm= .ret:=rfl
   rw[en]
   have nx:=D.nx
   have gR:(l.set id (some (.loop {vD r .ret with st:= .out}))).cell (B+1) 0=some (aC 3):=by rw[H.Ln _ om,H.aF D.gR];rfl
   simp(disch:=omega)only[go_sem,gR]
   exact⟨by rw[Nb Y om D.bad],D.fr.set (by have:=D.fr.next;omega) _⟩
end
theorem IC {x:Nat}:Fq .shr .u64 (x:Int) 1=some (.int .u64 ((x/2:Nat):Int)):=by
 unfold Fq;rw[bU om];simp only;congr 2;show Int.fdiv (x:Int) 2=_;rw[Int.fdiv_eq_ediv_of_nonneg _ om];rfl
theorem Gi (u:V)(a:List Nat)(p:Nat)(h:H)(hn:a.length<1000000)(L:a.Pairwise (· < ·))(O:SI h u (zi a)):
  Ev T 103 [u,aC p] h (λv h'=> ∃k f,v= .tup [aC (k:Nat),.bool f]/\(f=true↔p∈a)/\(f=true->k<a.length/\a.getD k 0=p)/\Fr h h'):=by
 refine dW kF rfl ?_
 have W:=O.lens
 rw[aS] at W
 simp(disch:=omega)only[go_sem,kF,aE,W]
 have mono: ∀i j,i<j->j<a.length->a.getD i 0<a.getD j 0:=λi j r o=>by
  rw[cW om,cW o];exact GP.1 L i j om o r
 refine aI (λP d A=> ∃(i j:Nat),(∃g:Nat->V,d= [u,aC p,g 2,g 3,aC (a.length:Int),aC i,aC j,g 7,g 8,g 9])/\i<=j/\j<=a.length/\(∀m,m<i->a.getD m 0<p)/\(∀m,j<=m->m<a.length->p<=a.getD m 0)/\Fr h A/\P=j-i) a.length
  ⟨0,a.length,aB rfl,om,om,λm b=>om,λm r o=>om,Fr.refl h,rfl⟩ ?_
 rintro P d A ⟨i,j,⟨g,rfl⟩,a0,Z,l,z,F,rfl⟩
 obtain⟨id,J,G,K,R⟩:=(O.mono F).open
 rw[aS] at G K R
 have cell: ∀m,m<a.length->A.cell id (J+m)=some (aC (a.getD m 0:Nat)):=λm b=>by rw[R m b];congr 2;simp [zi,b]
 by_cases w:(i:Int)<(j:Int)
 ·have y:=cI w
  have Y:(i:Int)+(j:Int)=((i+j:Nat):Int):=om
  obtain⟨m,b⟩:=exI ((i+j)/2)
  have sr:=IC (x:=i+j)
  rw[b] at sr
  have cm:=cell m om
  simp(disch:=omega)only[go_sem,y,Y,Hj,Cd,fS (n:=((i+j:Nat):Int)) om om,sr,G.ixa,cm]
  refine (iC _ _ _).mono ?_
  rintro _ h3 ⟨rfl,B⟩
  by_cases U:((a.getD m 0:Nat):Int)<(p:Int)
  ·have c:Go.Sort.ltInt ((a.getD m 0:Nat):Int) (p:Int)=true:=by unfold Go.Sort.ltInt;exact cI U
   rw[c]
   simp(disch:=omega)only[go_sem]
   rw[fJ m]
   refine⟨j-(m+1),om,m+1,j,aB rfl,om,Z,λq hq=>?_,z,F.trans B,rfl⟩
   by_cases e:q=m
   ·rw[e];omega
   ·have:=mono q m om om;omega
  ·have c:Go.Sort.ltInt ((a.getD m 0:Nat):Int) (p:Int)=false:=by unfold Go.Sort.ltInt;exact bI U
   rw[c]
   simp(disch:=omega)only[go_sem]
   refine⟨m-i,om,i,m,aB rfl,om,om,l,λq r o=>?_,F.trans B,rfl⟩
   by_cases e:q=m
   ·rw[e];omega
   ·have:=mono m q om o;omega
 have y:=bI w
 obtain rfl:i=j:=om
 by_cases t:(i:Int)<(a.length:Int)
 ·have c:=cI t
  have ci:=cell i om
  by_cases s:((a.getD i 0:Nat):Int)=(p:Int)
  ·have N:=cI s
   simp(disch:=omega)only[go_sem,y,c,G.ixa,ci,N,xX]
   exact⟨i,true,rfl,⟨λ_=>by rw[show p=a.getD i 0 by omega];exact bC om,λ_=>rfl⟩,λ_=>⟨om,om⟩,F⟩
  ·have N:=bI s
   simp(disch:=omega)only[go_sem,y,c,G.ixa,ci,N,xX]
   refine Ev.mono (Q:=λv h'=>v= .bool false/\Fr A h') ?_ ?_
   ·refine dW uA rfl ?_
    have e: ∀x:Int,decide (x≠x)=false:=λx=>bI om
    simp(disch:=omega)only[go_sem,uA,aE,e]
    exact Fr.refl _
   rintro _ h3 ⟨rfl,B⟩
   simp(disch:=omega)only[go_sem]
   refine⟨i,false,rfl,⟨λh=>(by cases h),λh=>?_⟩,λh=>(by cases h),F.trans B⟩
   exfalso
   obtain⟨m,b,e⟩:=Ad.1 h
   rw[←cW (a:=a) b] at e
   by_cases r:m<i
   ·have:=l m r;omega
   ·have o:m≠i:=λc=>by subst c;omega
    have:=mono i m om b
    have:=z i om om
    omega
 ·have c:=bI t
  simp(disch:=omega)only[go_sem,y,c,xX]
  refine⟨i,false,rfl,⟨λh=>(by cases h),λh=>?_⟩,λh=>(by cases h),F⟩
  exfalso
  obtain⟨m,b,e⟩:=Ad.1 h
  rw[←cW (a:=a) b] at e
  have:=l m om
  omega
theorem oI {α β:Type}(f:α->β){l:List α}{i:Nat}{d:α}{e:β}(h:i<l.length):(l.map f).getD i e=f (l.getD i d):=by
 simp [List.getD,h]
theorem Af.mono {h h' h2:H}{v:V}{l:List Int}(f:Af h h' v l)(g:Fr h' h2):Af h h2 v l:=by
 obtain⟨id,a,e,c,b,d,i⟩:=f.ex;exact⟨⟨id,a,e,c,jM b g.next,by rw[g.get _ b];exact d,i⟩,f.fr.trans g⟩
theorem Ud {h h':H}{v:V}{l:List Nat}(n:Yz h h' v l):Af h h' v (zi l):=by
 obtain⟨e,g,nx,f⟩:=n;exact⟨⟨h.next,_,by rw[e,aS],fN _,om,g,.inr (by rw[aS])⟩,f⟩
theorem Af.le {b h h':H}{v:V}{l:List Int}(f:Af h h' v l)(g:Fr b h):Af b h' v l:=by
 obtain⟨id,a,e,c,d,i,j⟩:=f.ex;exact⟨⟨id,a,e,mY g.next c,d,i,j⟩,g.trans f.fr⟩
section
variable {W:Nat->Prop} {h:H} {vc:V} {n:Nat} {O:LN} {G:List Nat->Prop}
structure GC (W:Nat->Prop)(h:H)(vc:V)(n:Nat)(O:LN)(R:jJ)(G:List Nat->Prop):Prop where
 cw:OP W h vc n O R
 isc:aV n G O R
 cY:dO n G
 n0:1<=n
 n7:n<=7
theorem GC.go {W':Nat->Prop}{h':H}{R:jJ}(g:GC W h vc n O R G)(f:Fx W h h')(a: ∀id,id<h.next->W' id->W id):GC W' h' vc n O R G:=⟨g.cw.go f a,g.isc,g.cY,g.n0,g.n7⟩
theorem GC.ch {R:jJ}(g:GC W h vc n O R G):YD h vc (n:Int) (O.map zi) (R.map (List.map zi)):=g.cw.ch
theorem GC.mono {h':H}{R:jJ}(g:GC W h vc n O R G)(f:Fr h h'):GC W h' vc n O R G:=⟨g.cw.mono f,g.isc,g.cY,g.n0,g.n7⟩
theorem Tb {n:Nat}{G:List Nat->Prop}(b:dO n G){O:LN}{R:jJ}(c:aV n G O R): ∀d i x,i+d=n->G x->Fix i x->BZ n R x
 |0,i,x,h,hx,fx=>by
  have X:=b.bF hx;obtain rfl:i=n:=om
  rw[fx.all X];exact .one
 |d+1,i,x,h,hx,fx=>by
  have hi:i<n:=om
  have X:=b.bF hx;have p:=(c.mem i hi (x.getD i 0)).2 ⟨x,hx,fx,rfl⟩;obtain⟨k,j,e⟩:=Ad.1 p;have a:=c.rep i hi k j;rw[cW j,e] at a;obtain⟨z,l⟩:=exI ((R.getD i []).getD k []);rw[l] at a;have Z:=b.bF a.mem
  have f:z∈R.flatten:=by
   have m:k<(R.getD i []).length:=by rw[c.rl i hi];exact j
   exact List.mem_flatten.2 ⟨R.getD i [],bC (by rw[c.lr];exact hi),by rw[←l];exact bC m⟩
  have o:=Tb b c d (i+1) (aM x (bZ z)) om (b.mul hx (b.inv a.mem)) ((Fix.mul X om fx (Fix.inv Z om a.fix)).succ (by
   rw[dE (by rw[X.len];exact hi)];have:=wY Z hi
   rwa [a.maps] at this))
  have:=bM.mul o f;rwa [aG X Z.inv Z,dL Z,aZ X] at this
theorem Jt {R:jJ}(c:aV n G O R): ∀g∈R.flatten,G g:=λg d=>by
 obtain⟨r,j,d⟩:=List.mem_flatten.1 d;obtain⟨i,hi,rfl⟩:=Ad.1 j;obtain⟨k,f,rfl⟩:=Ad.1 d;have a:i<n:=by have:=c.lr;omega
 have e:R.getD i []=R[i]:=by rw[List.getD,dD hi];rfl
 have b:k<(O.getD i []).length:=by rw[←c.rl i a,e];exact f
 have:=(c.rep i a k b).mem;rw[e,List.getD,dD f] at this;exact this
theorem De (a:dO n G){R:jJ}(c:aV n G O R)(x:List Nat):BZ n R x↔G x:=
 ⟨λh=>h.le a (Jt c),λh=>Tb a c n 0 x om h (λk b=>om)⟩
theorem GC.chk {R:jJ}(g:GC W h vc n O R G):Wa (n:Int) (O.map zi) (R.map (List.map zi))=0:=by
 unfold Wa;have:=g.n0;have:=g.n7;rw[bU om,bJ ⟨n,O,R,rfl,g.n0,om,rfl,rfl,λx a=>g.cY.bF (Jt g.isc x a),g.isc.congr λx=>(De g.cY g.isc x).symm⟩]
theorem GC.small {R:jJ}(g:GC W h vc n O R G):Bf (O.map zi)/\tE (R.map (List.map zi)):=Lg (λx a=>g.cY.bF a) (by have:=g.n7;omega) g.isc
theorem GC.check {R:jJ}(g:GC W h vc n O R G):Ev T 135 [vc] h (λv h'=>v= aC 0/\Fr h h'):=by
 have:=WE vc _ _ _ h g.ch (.inl (by have:=g.n7;omega)) g.small.1 g.small.2.out;rwa [g.chk] at this
theorem Wm {x:List Nat}(X:aY n x)(a:1<=n)(h2:n<=64):BN (zi x)=0:=by
 unfold BN;rw[bU (by rw[aS,X.len];omega),Yf X];rfl
end
theorem Ms (c:V)(n:Nat)(l:LN)(h:H)(Y:1<=n)(N:n<=7)(hl:l.length<=4096)(P:SP h c l)(G: ∀g∈l,aY n g):
  Ev T 101 [aC n,c] h (λv h'=> ∃vc O R,v= .tup [vc,aC 0]/\GC (λid=>id<h.next) h' vc n O R (bM n (· ∈l))/\Fr h h'):=by
 refine dW He rfl ?_
 obtain⟨B,hB⟩:=exI h.next
 obtain⟨Q,e1,n1,g1,o1,f1⟩:=dK hB [aC 0,.aD,.aD]
 have d1:decide ((n:Int)<1)=false:=bI om
 have d2:decide ((64:Int)<(n:Int))=false:=bI om
 have lv:=P.lens
 rw[iA] at lv
 have d3:decide ((4096:Int)<(l.length:Int))=false:=bI om
 obtain⟨id,t,ws,sh,a,z,d,o⟩:=P.open
 rw[iA] at sh a z d
 simp(disch:=omega)only[go_sem,He,aE,hB,e1,d1,d2,lv,d3]
 refine bQ (λy W=>(∃g:Nat->V,y= [aC n,c,.ptr B 0,g 3,g 4,g 5,g 6,g 7,g 8,g 9,g 10,g 11,g 12,g 13])/\Fr Q W) ?_ ?_
 ·refine aI (λk' y W=> ∃(i:Nat),(∃g:Nat->V,y= [aC n,c,.ptr B 0,g 3,g 4,g 5,g 6,g 7,c,aC (l.length:Int),aC i,g 11,g 12,g 13])/\i<=l.length/\Fr Q W/\k'=l.length-i) l.length
   ⟨0,aB rfl,iB _,Fr.refl Q,rfl⟩ ?_
  rintro k' q s ⟨i,⟨g,rfl⟩,hi,f,rfl⟩
  by_cases k:(i:Int)<(l.length:Int)
  ·have Z:=cI k
   have b:i<l.length:=om
   have F2:=f1.trans f
   have ci:s.cell id (t+i)=some (ws.getD i .undef):=by rw[F2.cell (a om),d i b]
   have x:=xJ o b
   have X:aY n (l.getD i []):=G _ (bC b)
   generalize ws.getD i .undef=vx at ci x
   have lx:=x.lens
   rw[aS,X.len] at lx
   simp(disch:=omega)only[go_sem,Z,sh.ixa,ci]
   refine (wW vx _ s (by rw[aS,X.len];omega) (x.mono F2)).mono ?_
   rw[Wm X Y om]
   rintro _ h3 ⟨rfl,j⟩
   simp(disch:=omega)only[go_sem]
   refine bA (λd=>(d rfl).elim) (λ_=>?_)
   simp(disch:=omega)only[go_sem,lx]
   refine bA (λd=>(d rfl).elim) (λ_=>?_)
   simp(disch:=omega)only[go_sem]
   rw[fJ i]
   exact⟨l.length-(i+1),om,i+1,aB rfl,om,f.trans j,rfl⟩
  have Z:=bI k
  simp(disch:=omega)only[go_sem,Z]
  exact⟨aB rfl,f⟩
 rintro q s ⟨⟨g,rfl⟩,f⟩
 have F2:=f1.trans f
 simp(disch:=omega)only[go_sem]
 refine (BD n c l s Y N om (P.mono F2) G).mono ?_
 rintro _ h3 ⟨A,L,F,τ,rfl,R,tl,j,_⟩
 simp(disch:=omega)only[go_sem]
 refine (Rw h3 n A L F τ N R tl.tw).mono ?_
 rintro vc r ⟨O,R',ch,U,J⟩
 have F4:=(F2.trans j).trans J
 have g4:r.get B=some (.cells false [aC 0,.aD,.aD]):=by rw[J.get _ (by have:=j.next;have:=f.next;omega),j.get _ (by have:=f.next;omega),f.get _ om];exact g1
 have K:=ch
 obtain⟨vO,vR,a1,a0,e,t1,_,_,t2,_,_⟩:=ch
 subst e
 have p:=t1.cT.2.1
 have m:=t2.cT.2.1
 obtain⟨h5,e5,n5,g5,o5⟩:=mV r B [aC n,vO,vR]
 have r5:=aJ g5
 simp(disch:=omega)only[go_sem,cF r B 0 (v:= aC n) (u:=vO) (w:=vR) rfl p m,g4,cH,e5,r5]
 have n3:=j.next
 have n2:=f.next
 have n4:=J.next
 have f5:Fx (λid=>id<h3.next) r h5:=⟨om,λid _ a=>o5 id om⟩
 refine⟨_,O,R',rfl,⟨K.go f5 (λid _ h=>om),U.congr tl.group,bM.cY G,Y,N⟩,⟨by have:=F4.next;omega,λid a=>by rw[o5 id om];exact F4.get id a⟩⟩
section
variable {b A:Nat} {hh:H} {l:LN}
theorem GA {h:H}{v:V}{ws:List V}(s:SV h v 1 ws)(m:II v)(n:1<=ws.length): ∃v',rY 1 v (some (aC 1)) none none=some v'/\SV h v' 1 (ws.drop 1):=by
 rcases s with ⟨_,e⟩|⟨id,a,len,r,k,d,rfl,j,f,i,u,o⟩
 ·rw[e] at n;simp at n
 have t:nP none len len=some len:=by simp [nP]
 have p:((d.drop a).take (len*1)).drop 1=(d.drop (a+1)).take (len- 1):=by
  rw[List.drop_take,List.drop_drop,tW]
 rcases m _ _ _ _ rfl with rfl|⟨c,rfl,w⟩
 ·by_cases q:1<len
  ·refine⟨.sl id (a+1) (len- 1) (.un 1),?_,.inr ⟨id,a+1,len- 1,_,k,d,rfl,by rw[Ra,j];omega,f,i,om,by rw[←o,p,tW]⟩⟩
   simp [rY,nP,q,show (1:Int)<=(len:Int) by omega]
  ·refine⟨.sl id a 0 (.un 1),?_,.inr ⟨id,a,0,_,k,d,rfl,by rw[Ra,j];omega,f,i,om,?_⟩⟩
   ·have:len=1:=om
    subst this;simp [rY,nP]
   ·have:ws.drop 1= []:=ON (by rw[Ra];omega)
    rw[this];simp
 ·refine⟨.sl id (if c=1 then a else a+1) (len- 1) (.kn (c- 1)),?_,.inr ⟨id,_,len- 1,_,k,d,rfl,by rw[Ra,j];omega,f,i,by split<;>omega,?_⟩⟩
  ·have:1<=len:=om
   simp [rY,nP,show (1:Int)<=(len:Int) by omega,show 1<=c by omega]
  ·by_cases e:c=1
   ·have:ws.drop 1= []:=ON (by rw[Ra];omega)
    rw[this];have:len- 1=0:=om
    rw[this];simp
   ·rw[bU e,←o,p,tW]
def Mh (b:Nat)(hh:H)(A:Nat)(l:LN):Prop:= ∃va ws W,hh.get A=bB [va]/\dH hh va 1 ws b/\dZ W hh ws l/\Ik W va/\(∀id,id<b->W id)/\ ∀id,W id->id<hh.next
theorem Mh.mono {h2:H}(a:Mh b hh A l)(c:A<hh.next)(f:Fr hh h2):Mh b h2 A l:=by
 obtain⟨j,i,W,g,o,p,k,m,d⟩:=a;exact⟨j,i,W,by rw[f.get _ c];exact g,o.fr f,p.fx (Fx.of f),k,m,λid h=>jM (d id h) f.next⟩
theorem Mh.other {h2:H}(a:Mh b hh A l){k:Nat}(m:k<b)(c:k≠A)(n:h2.next=hh.next)(o: ∀j,j≠k->h2.get j=hh.get j):Mh b h2 A l:=by
 obtain⟨u,s,W,g,r,p,t,d,q⟩:=a
 have f:Fx W hh h2:=⟨om,λid i v=>o id λe=>v (e▸d k m)⟩
 exact⟨u,s,W,by rw[o _ (Ne.symm c)];exact g,r.mono om λid _ _ _ _ i _=>o id om,dZ.go p f (λ_ _ h=>h),t,d,λid h=>by rw[n];exact q id h⟩
theorem Mh.push {d:H}(a:Mh b hh A l)(F:A<b){x:List Nat}{r y:V}(bytes:Nat)(N:bytes<=24)(hl:l.length<1000000)(f:Fr hh d)(a0:b<=hh.next)(L:PV (λid=>id<hh.next) d r x)(Y:SV d y 1 [r]):
  ∃va h6,hh.get A=bB [va]/\zK d 1 bytes va y=some (.sl d.next 0 (l.length+1) (.un 1),h6)/\h6.get A=bB [va]/\h6.next=d.next+1/\(∀k,k<b->h6.get k=d.get k)/\
   (va.cells= [va]/\va.one=true)/\dI va va=true/\ ∀h7,h6.set A (bB [.sl d.next 0 (l.length+1) (.un 1)])=h7->Mh b h7 A (l++ [x]):=by
 obtain⟨va,R,W,g,j,p,U,w,J⟩:=a
 have Z:=aN.length p
 have nx:=f.next
 obtain⟨h6,O,q⟩:=(j.fr f).push (bytes:=bytes) Y (n:=l.length) (m:=1) om rfl om om ⟨by have:=Nat.mul_le_mul_left (2*(l.length+1)+1000) N;omega,om⟩
 have Q: ∀k,k<b->dR va k:=λk G id i m c e e2=>by have:=(j.in _ _ _ _ e).2.1;omega
 have P:=q.next
 have B: ∀k,k<b->h6.get k=d.get k:=λk G=>q.old k om (Q k G)
 refine⟨va,h6,g,O,by rw[B A F,f.get A om];exact g,P,B,⟨j.sv.cT.1,j.sv.cT.2.1⟩,j.sv.dI,λh7 e=>?_⟩
 subst e
 have v:Fx W d h6:=q.fx U
 have u:Fx W h6 (h6.set A (bB [.sl d.next 0 (l.length+1) (.un 1)])):=Fx.set h6 (w A F) _
 have o:=v.trans u (λ_ _ h=>h)
 have z: ∀id,id<d.next->(W id∨id=d.next)->W id:=λid K s=>by
  rcases s with s|s
  ·exact s
  ·omega
 have t:PV W d r x:=L.kO λid _ h=>J id h
 refine⟨_,R++ [r],λid=>W id∨id=d.next,by rw[H.aU],?_,(dZ.go (p.fx (Fx.of f)) o z).append (dZ.one (PV.go t o z)),λid i n c e=>by cases e;exact .inr rfl,λid h=> .inl (w id h),λid h=>?_⟩
 ·exact (q.own (b:=b) om rfl om).mono (fN _) λid i m c e K _=>H.aH h6 om _
 ·simp only[H.cV]
  rcases h with h|h
  ·have:=J id h;omega
  ·omega
end
def cE (R:jJ):LN:=R.flatMap (List.drop 1)
theorem Be {R:jJ}{i:Nat}(hi:i<R.length):cE (R.take (i+1))=cE (R.take i)++(R.getD i []).drop 1:=by
 unfold cE;rw[eY [] hi,List.flatMap_append];simp
theorem uG {n:Nat}{R:jJ}: ∀{i:Nat},i<=R.length->(∀j,j<i->(R.getD j []).length<=n)->(cE (R.take i)).length<=i*n
 |0,_,_=>by simp [cE]
 |i+1,h,hr=>by
  rw[Be om,iV,Ra,Nat.succ_mul];have a:=uG (i:=i) om (λj b=>hr j om);have c:=hr i om;omega
structure ME (h h':H)(v:V)(l:LN):Prop where
 ex: ∃ws W,dH h' v 1 ws h.next/\dZ W h' ws l/\Ik W v/\(∀id,id<h.next->W id)
 fr:Fr h h'
theorem ME.sp {h h':H}{v:V}{l:LN}(n:ME h h' v l):SP h' v l:=by
 obtain⟨a,W,o,p,_⟩:=n.ex;have b:=aN.length p
 exact⟨a,o.sv,aN.lI (by simpa using b) λi hi c=>by
  have:=(aN.get p i hi om).si
  simpa using this⟩
theorem ME.pl {h h':H}{v:V}{l:LN}(n:ME h h' v l):PL (λid=>id<h.next) h' v l:=by
 obtain⟨a,W,o,p,_,b⟩:=n.ex;exact⟨a,o.sv,DM o,p.kO (λid _ h=>b id h),dH.UH o⟩
structure StJ (h hh:H)(id b B:Nat)(r:fK)(n:Nat)(vO vR:V)(R:jJ)(i:Nat):Prop where
 acc:Mh (id+1) hh (B+1) (cE (R.take i))
 gr:hh.get id=some (.loop r)
 gb:hh.get b=bB [aC n,vO,vR]
 nx:id<hh.next
 fr:Fr h hh
theorem Sd {W:Nat->Prop}(vc:V)(n:Nat)(O:LN)(R:jJ)(G:List Nat->Prop)(h:H)(gc:GC W h vc n O R G):
  Ev T 106 [vc] h (λv h'=> ∃vl,v= .tup [vl,aC 0]/\ME h h' vl (cE R)):=by
 obtain⟨Z,vR,e,sO,sR⟩:=gc.ch
 subst e
 refine dW Bx rfl ?_
 obtain⟨wR,tR,aR,kR⟩:=sR
 have lR:=aR.length
 have c:=gc.isc
 rw[iA,c.lr] at lR
 have b1:Z.one=true:=oNs sO
 have a8:=tR.cT.2.1
 have n0:=gc.n0
 have n7:=gc.n7
 obtain⟨B,hB⟩:=exI h.next
 obtain⟨h1,e1,n1,g1,o1,f1⟩:=dK hB [aC n,Z,vR]
 have bx:=bV h (v:= aC n) (u:=Z) (w:=vR) rfl b1 a8
 have rB:=aJ g1
 simp(disch:=omega)only[go_sem,Bx,aE,bx,hB,e1,rB]
 refine ((gc.mono f1).check).mono ?_
 rintro _ h2 ⟨rfl,f2⟩
 simp(disch:=omega)only[go_sem]
 refine bA (λhc=>(hc rfl).elim) (λ_=>?_)
 obtain⟨A,hA⟩:=exI h2.next
 have n2:=f2.next
 obtain⟨h3,e3,n3,g3,o3,f3⟩:=dK hA [.aD]
 have e0:h3.get B=bB [aC n,Z,vR]:=by rw[f3.get _ om,f2.get _ om];exact g1
 have e5:=aJ e0
 simp(disch:=omega)only[go_sem,hA,e3,e5]
 refine (HV (n:Int) Z vR b1 a8 h3).mono ?_
 rintro _ Q ⟨rfl,g4,n4,f4⟩
 simp(disch:=omega)only[go_sem]
 obtain⟨id,b4⟩:=exI Q.next
 obtain⟨b,hb⟩:=exI h3.next
 rw[hb] at g4 n4
 refine⟨rfl,wF λr hr=>?_⟩
 rw[b4,hb]
 have jI:r.st= .ready:=by rw[hr]
 have b9:r.pend=none:=by rw[hr]
 have o5: ∀k,k<id->(Q.new (.loop r)).get k=Q.get k:=λk L=>H.bG Q om _
 have f5:Fr Q (Q.new (.loop r)):=(Fr.refl Q).new _
 have n5:(Q.new (.loop r)).next=id+1:=by rw[H.aW,b4]
 have F4:=((f1.trans f2).trans f3).trans f4
 have rl: ∀j,j<n->(R.getD j []).length<=n:=λj U=>by
  rw[c.rl j U];exact mY (tK (λx hx=>gc.cY.bF hx) U (c.asc j U) (c.mem j U)) om
 obtain⟨t,b6⟩: ∃t,A=t+1:=⟨A- 1,om⟩
 have J0:StJ h (Q.new (.loop r)) id b t r n Z vR R 0:=by
  refine⟨⟨.aD, [],λk=>k<id+1,?_,dH.aD _ _ _,trivial,λ_ _ _ _ e=>(by cases e),λ_ h=>h,λk L=>om⟩,by rw[←b4,H.aL],by rw[o5 _ om];exact g4,om,F4.trans f5⟩;rw[←b6,o5 _ om,f4.get _ om];exact g3
 refine (Xy id b (n:Int) Z vR wR _ om (λi o=>StJ h o id b t r n Z vR R i) (λo=>False) J0 (λi o J=>⟨J.gb,tR.mono J.fr⟩) ?_).mono ?_
 ·rintro i o hi J
  have f:i<n:=om
  refine uC J.gr (by rw[hr];rfl) jI λh9 g9 n9 o9=>?_
  rw[congrArg fK.assign hr,congrArg fK.vars hr,congrArg fK.pars hr]
  simp(disch:=omega)only[go_sem,List.zip_cons_cons,List.zip_nil_left]
  rw[congrArg fK.body hr]
  have nx:=J.nx
  have ri:(R.map (List.map zi)).getD i []=(R.getD i []).map zi:=oI (List.map zi) (by rw[c.lr];exact f)
  have b2:=iJ aR (i:=i) (by rw[iA,c.lr];exact f) .undef []
  rw[ri] at b2
  obtain⟨wr,tr,ar⟩:=b2
  have lr:=ar.length
  rw[iA] at lr
  have d2:1<=wr.length:=by
   rw[lr,c.rl i f];have:=(c.mem i f i).2 ⟨aX n,gc.cY.one,Fix.one n i om,fM f⟩;exact Rl this
  have F9:Fr h h9:=⟨by rw[n9];exact J.fr.next,λk L=>by rw[o9 k om];exact J.fr.get k L⟩
  obtain⟨vt,d5,tt⟩:=GA tr (kR _ (bC om)) d2
  have lt:bL vt=some (aC (wr.length- 1:Nat)):=by unfold bL;rw[tt.len (n:=wr.length- 1) (by rw[Ra];omega) om];rfl
  have g8:wr.length<=7:=by have:=rl i f;omega
  simp(disch:=omega)only[go_sem,d5,lt]
  have A9:Mh (id+1) h9 (t+1) (cE (R.take i)):=J.acc.other (k:=id) om om n9 o9
  refine aI (λk' b0 o=> ∃(k:Nat),(∃g:Nat->V,b0= [g 0,g 1,g 2,g 3,g 4,.ptr A 0,g 6,g 7,g 8,g 9,g 10,g 11,vt,aC (wr.length- 1:Nat),aC k,g 15])/\k<=wr.length- 1/\Mh (id+1) o (t+1) (cE (R.take i)++((R.getD i []).drop 1).take k)/\
    o.get id=some (.loop (qE r))/\o.get b=bB [aC n,Z,vR]/\id<o.next/\Fr h o/\k'=wr.length- 1-k) (wr.length- 1)
   ⟨0,aB rfl,iB _,by rw[List.take_zero,tZ];exact A9,g9,by rw[o9 _ om];exact J.gb,om,F9,rfl⟩ ?_
  rintro k' b0 a ⟨k,⟨g,rfl⟩,L,a5,a9,a7,d0,F,rfl⟩
  have h0:((R.getD i []).drop 1).length=wr.length- 1:=by rw[Ra];omega
  by_cases c1:(k:Int)<((wr.length- 1:Nat):Int)
  case neg=>
   have d1:=bI c1;have ek:k=wr.length- 1:=om
   rw[ek,Ro (l:=(R.getD i []).drop 1) om,←Be (by rw[c.lr];exact f)] at a5;simp(disch:=omega)only[go_sem,d1];refine pU jI b9 a9 (.inl ⟨rfl,a5.other (k:=id) om om rfl (λj U=>H.aH _ U _),by rw[H.aU],by rw[H.aH _ om];exact a7,d0,F.set om _⟩)
  have d1:=cI c1
  have g2:k<wr.length- 1:=om
  have b5:k+1<(R.getD i []).length:=om
  obtain⟨x,hx⟩:=exI ((R.getD i []).getD (k+1) [])
  have d6:((R.getD i []).drop 1).getD k []=x:=by
   rw[←hx];generalize R.getD i []=row;rw[List.getD,List.getD,List.getElem?_drop,Nat.add_comm 1 k]
  have X:aY n x:=by
   rw[←hx];exact gc.cY.bF (c.rep i f (k+1) (by rw[←c.rl i f];exact b5)).mem
  have sx:=iJ ar (i:=k+1) (by rw[iA];exact b5) .undef []
  rw[oI zi (d:= []) b5,hx] at sx
  obtain⟨f8,c0,e8,f9,d3⟩:=(tt.mono F).shape (wr.length- 1) (by rw[Ra];omega) om
  have ck:a.cell f8 (c0+k)=some (wr.getD (k+1) .undef):=by
   rw[d3 k (by rw[Ra];omega),List.getElem?_drop,List.getD,Nat.add_comm 1 k,dD om];rfl
  generalize wr.getD (k+1) .undef=vx at sx ck
  obtain⟨N,gA,e6⟩: ∃N,a.get (t+1)=bB [N]/\dI N N=true:=by
   obtain⟨N,_,_,gA,ow,_⟩:=a5;exact⟨N,gA,ow.sv.dI⟩
  have fb:Fr a (H.mk a.tr (a.next+6)):=(Fr.refl a).bH om
  rw[b6]
  simp(disch:=omega)only[go_sem,d1,e8.ixa,ck,H.aF gA]
  refine (Nh vx (zi x) (H.mk a.tr (a.next+6)) (by rw[aS,X.len];omega) (by rw[aS,X.len];omega) (sx.mono (F.trans fb))).mono ?_
  rintro P p s
  have c9:=fb.trans s.fr
  have d9:=s.fr.next
  have c8:p.get (t+1)=bB [N]:=by rw[c9.get _ om];exact gA
  have c7:PV (λid=>id<a.next) p P x:=s.pv λid h=>by simp;omega
  simp(disch:=omega)only[go_sem,H.aF c8,e6,cK _ (z:= .aD) c7.fG.1 c7.fG.2]
  obtain⟨m,q⟩: ∃m:H,m=H.mk ((H.mk p.tr (a.next+3)).new (Ob.cells false [P])).tr p.next:=⟨_,rfl⟩
  rw[←q]
  have e9:m.get (a.next+3)=bB [P]:=by rw[q];exact H.aL (H.mk p.tr (a.next+3)) _
  have g6:m.next=p.next:=by rw[q]
  have c6: ∀k,k≠a.next+3->m.get k=p.get k:=λk L=>by rw[q];exact H.bG (H.mk p.tr (a.next+3)) (by simpa using L) _
  simp only at d9
  have a6:Fr a m:=⟨om,λk L=>by rw[c6 k om];exact c9.get k L⟩
  have d7:PV (λid=>id<a.next) m P x:=by
   obtain⟨i5,c5,ev,a1,a2,a3,a4⟩:=s.ex;simp only at a1;rw[ev];exact⟨SV.all (by rw[aP,tW]) om (by rw[c6 _ om];exact a3) _,λo=>by have:i5<a.next:=o;omega⟩
  have d8:(cE (R.take i)++((R.getD i []).drop 1).take k).length<1000000:=by
   have h1:=uG (n:=n) (R:=R) (i:=i) (by rw[c.lr];omega) (λj U=>rl j om);have h2:i*n<=7*7:=Nat.mul_le_mul om n7;rw[iV,zO];omega
  obtain⟨c3,b3,c2,e4,f7,g5,b8,one,_,f6⟩:=a5.push om (bytes:=24) (fN _) d8 a6 om d7 (SV.one om e9 (.kn 1))
  have e7:c3=N:=by rw[gA] at c2;cases c2;rfl
  subst e7
  have e2: ∀(o:H) (y:V),eU (bB [c3]) o (t+1) 0 [y]=some (o.set (t+1) (bB [y])):=λo y=>bT (by simp) o _ _
  simp(disch:=omega)only[go_sem,e4,f7,e2]
  rw[fJ k]
  have b7:=f6 _ rfl
  have d4:cE (R.take i)++((R.getD i []).drop 1).take k++ [x]=cE (R.take i)++((R.getD i []).drop 1).take (k+1):=by
   rw[Lz,eY [] om,d6]
  rw[d4] at b7
  have g0:Fr a (b3.set (t+1) (bB [.sl m.next 0 ((cE (R.take i)++((R.getD i []).drop 1).take k).length+1) (.un 1)]))->True:=λ_=>trivial
  obtain⟨Y,K⟩: ∃Y,Y=b3.set (t+1) (bB [.sl m.next 0 ((cE (R.take i)++((R.getD i []).drop 1).take k).length+1) (.un 1)]):=⟨_,rfl⟩
  rw[←K] at b7 ⊢
  have f0: ∀k,k<=id->k≠t+1->Y.get k=a.get k:=λk h1 h2=>by rw[K,H.aH _ h2,b8 k om];exact a6.get k om
  have g7:Y.next=b3.next:=by rw[K];rfl
  refine⟨wr.length- 1-(k+1),om,k+1,aB rfl,om,b7,by rw[b8 id om,a6.get _ om];exact a9,by rw[b8 b om,a6.get _ om];exact a7,om,⟨by have:=F.next;omega,λk L=>by rw[f0 k om om];exact F.get k L⟩,rfl⟩
 ·rintro _ o (J|hf)
  case inr=>exact hf.elim
  refine⟨r,J.gr,by rw[jI];simp,?_⟩
  have en:r.pend.getD .norm= .norm:=by rw[b9];rfl
  rw[en]
  have nx:=J.nx
  have c4:=J.acc
  rw[lR,Ro (by rw[c.lr];omega)] at c4
  obtain⟨h9,a0⟩: ∃h9,h9=o.set id (some (.loop {r with st:= .out})):=⟨_,rfl⟩
  have A9:=c4.other (h2:=h9) (k:=id) om om (by rw[a0];rfl) (λj U=>by rw[a0,H.aH _ U])
  have F9:Fr h h9:=by rw[a0];exact J.fr.set om _
  rw[←a0,b6]
  obtain⟨N,ws,W',gA,ow,pv,bl,l1,l2⟩:=A9
  simp(disch:=omega)only[go_sem,H.aF gA]
  exact⟨N,rfl,⟨ws,W',ow.le om,pv,bl,λid h=>l1 id om⟩,F9⟩
end Go.Proofs.YtcdbmkidaecdiaaGreat
namespace Go.Pm
set_option maxRecDepth 100000
section
variable {x:List Nat} {i:Nat}
def jT (O:Al)(x:List Nat)(i:Nat):List Nat:=(O.getD i []).map λq=>x.getD q 0
def yF (l:List Nat):List Nat:=l.mergeSort λa b=>decide (a<=b)
theorem oL (l:List Nat):(yF l).Perm l:=List.mergeSort_perm l _
theorem Ta (l:List Nat):(yF l).Pairwise (· <= ·):=by
 have:=List.pairwise_mergeSort (le:=λa b:Nat=>decide (a<=b)) (λa b c d f=>by simp at*;omega) (λa b=>by simp;omega) l;exact this.imp λh=>by simpa using h
def fY (O:Al)(R:TH)(x:List Nat)(i im:Nat):List Nat:=aM ((R.getD i []).getD ((jT O x i).idxOf im) []) x
def dM (O:Al)(R:TH):Nat->Nat->List Nat->Al
 |0,_,x=> [x]
 |d+1,i,x=>(yF (jT O x i)).flatMap λim=>dM O R d (i+1) (fY O R x i im)
structure cZ (G:List Nat->Prop)(L:Al):Prop where
 asc:L.Pairwise Lt
 mem: ∀x,x∈L↔G x
theorem Lt.irrefl (h:Lt x x):False:=h.asymm h
theorem Lt.trans {y z:List Nat}(q:x.length=y.length)(a:Lt x y)(b:Lt y z):Lt x z:=by
 obtain⟨k,l,d,o⟩:=a;obtain⟨m,p,f,n⟩:=b;rcases Nat.lt_trichotomy k m with h|h|h
 ·exact⟨k,l,λj c=>(d j c).trans (f j oq),by rw[←f k h];exact o⟩
 ·subst h;exact⟨k,l,λj c=>(d j c).trans (f j c),oq⟩
 ·exact⟨m,oq,λj c=>(d j oq).trans (f j c),by rw[d m h];exact n⟩
theorem IB: ∀{a b:Al},a.Pairwise Lt->b.Pairwise Lt->(∀p,p∈a↔p∈b)->a=b
 | [], [],_,_,_=>rfl
 | [],y::b,_,_,h=>by have:=(h y).2 (by simp);simp at this
 |x::a, [],_,_,h=>by have:=(h x).1 (by simp);simp at this
 |x::a,y::b,ha,hb,h=>by
  obtain⟨l,n⟩:=List.pairwise_cons.1 ha;obtain⟨k,m⟩:=List.pairwise_cons.1 hb
  have e:x=y:=by
   have c:=(h x).1 (by simp);have d:=(h y).2 (by simp);rcases List.mem_cons.1 c with c|c
   ·exact c
   ·rcases List.mem_cons.1 d with d|d
    ·exact d.symm
    ·exact ((k x c).asymm (l y d)).elim
  subst e;congr 1
  refine IB n m λp=>⟨λf=>?_,λf=>?_⟩
  ·rcases List.mem_cons.1 ((h p).1 (List.mem_cons_of_mem _ f)) with e|j
   ·subst e;exact ((l p f).irrefl).elim
   ·exact j
  ·rcases List.mem_cons.1 ((h p).2 (List.mem_cons_of_mem _ f)) with e|j
   ·subst e;exact ((k p f).irrefl).elim
   ·exact j
theorem cZ.uniq {G:List Nat->Prop}{L M:Al}(a:cZ G L)(b:cZ G M):L=M:=IB a.asc b.asc λp=>(a.mem p).trans (b.mem p).symm
theorem cZ.nodup {G:List Nat->Prop}{L:Al}(a:cZ G L):L.Nodup:=by
 rw[List.nodup_iff_pairwise_ne];exact a.asc.imp λh e=>by rw[e] at h;exact h.irrefl
def iW (O:Al):Nat->Nat->Nat
 |0,_=>1
 |d+1,i=>(O.getD i []).length*iW O d (i+1)
section
variable {n:Nat} {G:List Nat->Prop} {O:Al} {R:TH}
theorem SE {im:Nat}:im∈jT O x i↔ ∃q∈O.getD i [],x.getD q 0=im:=by simp [jT]
theorem Ky (b:dO n G)(c:aV n G O R)(hi:i<n){q:Nat}(d:q∈O.getD i []):q<n:=by
 obtain⟨g,a,_,rfl⟩:=(c.mem i hi q).1 d;exact (b.bF a).fX hi
theorem BU (d:dO n G)(c:aV n G O R)(X:aY n x)(hi:i<n):(jT O x i).Nodup:=by
 have nd:(O.getD i []).Pairwise (· < ·):=c.asc i hi;rw[List.nodup_iff_pairwise_ne];unfold jT;rw[List.pairwise_map];refine nd.imp_of_mem λ{a b} f h j e=>?_
 have:=X.inj (Ky d c hi f) (Ky d c hi h) e;omega
theorem xS (q:dO n G)(c:aV n G O R)(X:aY n x)(hi:i<n){im:Nat}(h:im∈jT O x i):
  ∃k,k<(O.getD i []).length/\(jT O x i).idxOf im=k/\x.getD ((O.getD i []).getD k 0) 0=im/\Yl n G i ((O.getD i []).getD k 0) ((R.getD i []).getD k [])/\fY O R x i im=aM ((R.getD i []).getD k []) x/\aY n (fY O R x i im)/\(fY O R x i im).getD i 0=im/\ ∀j,j<i->(fY O R x i im).getD j 0=x.getD j 0:=by
 have f:=List.idxOf_lt_length_iff.2 h
 have a:(jT O x i).idxOf im<(O.getD i []).length:=by simpa [jT] using f
 have p:(jT O x i).getD ((jT O x i).idxOf im) 0=im:=by rw[cW f,List.getElem_idxOf]
 obtain⟨k,e⟩: ∃k,(jT O x i).idxOf im=k:=⟨_,rfl⟩
 rw[e] at a p f
 have o:x.getD ((O.getD i []).getD k 0) 0=im:=by
  rw[←p];unfold jT;rw[List.getD_eq_getElem?_getD (l:=List.map _ _),List.getElem?_map,List.getElem?_eq_getElem a,cW a];rfl
 have b:=c.rep i hi k a
 have m:=q.bF b.mem
 have d:fY O R x i im=aM ((R.getD i []).getD k []) x:=by unfold fY;rw[e]
 refine⟨k,a,e,o,b,d,by rw[d];exact m.mul X,?_,λj r=>?_⟩
 ·rw[d,dE (by rw[m.len];exact hi),b.maps,o]
 ·rw[d,dE (by rw[m.len];omega),b.fix j r]
theorem Ss (o:dO n G)(c:aV n G O R): ∀(d i:Nat) (x:List Nat),i+d=n->aY n x->
  (∀z,z∈dM O R d i x↔ ∃g,G g/\Fix i g/\z=aM g x)/\(dM O R d i x).Pairwise Lt/\(dM O R d i x).length=iW O d i
 |0,i,x,h,X=>by
  obtain rfl:i=n:=oq
  refine⟨λz=>?_,by simp [dM],rfl⟩;simp only[dM,List.mem_singleton];constructor
  ·rintro rfl;exact⟨aX i,o.one,Fix.one i i (Nat.le_refl _),(bX X).symm⟩
  ·rintro⟨g,q,r,rfl⟩;rw[r.all (o.bF q),bX X]
 |d+1,i,x,h,X=>by
  have hi:i<n:=oq
  have u:=λp (f:p∈jT O x i)=>Ss o c d (i+1) (fY O R x i p) oq (xS o c X hi f).choose_spec.2.2.2.2.2.1
  have y: ∀p,p∈yF (jT O x i)↔p∈jT O x i:=λp=>(oL _).mem_iff
  have t: ∀p,p∈jT O x i-> ∀z,z∈dM O R d (i+1) (fY O R x i p)->z.length=n/\z.getD i 0=p/\ ∀j,j<i->z.getD j 0=x.getD j 0:=λp f z A=>by
   obtain⟨g,q,r,rfl⟩:=((u p f).1 z).1 A;obtain⟨k,_,_,_,_,_,_,s1,s2⟩:=xS o c X hi f;have s:=o.bF q;refine⟨by rw[fQ,s.len],?_,λj B=>?_⟩
   ·rw[dE (by rw[s.len];exact hi),r i oq,s1]
   ·rw[dE (by rw[s.len];omega),r j oq,s2 j B]
  refine⟨λz=>?_,?_,?_⟩
  ·simp only[dM,List.mem_flatMap,y]
   constructor
   ·rintro⟨p,f,A⟩
    obtain⟨g,q,r,rfl⟩:=((u p f).1 z).1 A;obtain⟨k,_,_,_,m,J,_⟩:=xS o c X hi f;refine⟨aM g ((R.getD i []).getD k []),o.mul q m.mem,Fix.mul (o.bF q) oq (r.mono oq) m.fix,?_⟩;rw[J,aG (o.bF q) (o.bF m.mem) X]
   ·rintro⟨g,q,r,rfl⟩
    have s:=o.bF q;have P:=(c.mem i hi (g.getD i 0)).2 ⟨g,q,r,rfl⟩;have f:x.getD (g.getD i 0) 0∈jT O x i:=SE.2 ⟨_,P,rfl⟩;refine⟨_,f,((u _ f).1 _).2 ?_⟩;obtain⟨k,N,_,hx,m,J,_⟩:=xS o c X hi f;have F:(O.getD i []).getD k 0=g.getD i 0:=X.inj (Ky o c hi (by rw[cW N];exact List.getElem_mem N)) (Ky o c hi P) hx;rw[F] at m;have v:=o.bF m.mem;refine⟨aM g (bZ ((R.getD i []).getD k [])),o.mul q (o.inv m.mem),(Fix.mul s oq r (Fix.inv v oq m.fix)).succ ?_,?_⟩
    ·rw[dE (by rw[s.len];exact hi)]
     have:=wY v hi;rwa [m.maps] at this
    ·rw[J,←aG (s.mul v.inv) v X,aG s v.inv v,dL v,aZ s]
  ·unfold dM
   rw[List.pairwise_flatMap];refine⟨λp f=>(u p ((y p).1 f)).2.1,?_⟩;have K:=Ta (jT O x i);have nd:(yF (jT O x i)).Nodup:=(oL _).nodup_iff.2 (BU o c X hi);rw[List.nodup_iff_pairwise_ne] at nd;refine (K.and nd).imp_of_mem λ{a b} L U Z z A w Y=>?_
   obtain⟨l1,W,z2⟩:=t a ((y a).1 L) z A;obtain⟨l2,Q,w2⟩:=t b ((y b).1 U) w Y;exact⟨i,oq,λj B=>by rw[z2 j B,w2 j B],by rw[W,Q];omega⟩
  ·unfold dM iW
   rw[List.length_flatMap];have:(yF (jT O x i)).map (λa=>(dM O R d (i+1) (fY O R x i a)).length)=(yF (jT O x i)).map λ_=>iW O d (i+1):=List.map_congr_left λa L=>(u a ((y a).1 L)).2.2
   rw[this];have hl:(yF (jT O x i)).length=(O.getD i []).length:=by rw[(oL _).length_eq];simp [jT]
   rw[←hl];generalize yF (jT O x i)=l
   induction l with
   |nil=>simp
   |cons a l u=>simp only[List.map_cons,List.sum_cons,u,List.length_cons,Nat.succ_mul];omega
theorem dB (a:dO n G)(c:aV n G O R):cZ G (dM O R n 0 (aX n))/\(dM O R n 0 (aX n)).length=iW O n 0:=by
 obtain⟨d,h,f⟩:=Ss a c n 0 (aX n) oq (aY.one n);refine⟨⟨h,λx=>?_⟩,f⟩;rw[d];constructor
 ·rintro⟨g,hg,_,rfl⟩;rw[aZ (a.bF hg)];exact hg
 ·exact λb=>⟨x,b,λk j=>oq,(aZ (a.bF b)).symm⟩
end
end
end Go.Pm
