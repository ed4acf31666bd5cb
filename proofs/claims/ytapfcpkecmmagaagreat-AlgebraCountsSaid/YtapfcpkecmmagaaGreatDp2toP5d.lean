/- Texts of the claim. -/
import Derived.Test.YtapfcpkecmmagaaGreatDp1
import Derived.Test.YtapfcpkecmmagaaGreatP5a
import Derived.Test.YtapfcpkecmmagaaGreatAy39
import Derived.Test.YtapfcpkecmmagaaGreatC27code
import Derived.Sort.AssemblyPlain
import Derived.Test.YtapfcpkecmmagaaGreatAy26
set_option maxHeartbeats 32000000
namespace Go.Pm
set_option maxRecDepth 100000
section
variable {j p:Nat}
structure Lv where
 gens:qX
 orb:List Nat
 to:Nat->Option (List Nat)
 tr:Nat->Nat
abbrev kV:=Nat->Lv
def Fix (i:Nat)(x:List Nat):Prop:= ∀k,k<i->x.getD k 0=k
def FR (n:Nat)(τ:kV):Nat->Nat->List Nat->Prop
 |_,0,x=>x=cG n
 |i,d+1,x=> ∃p y h,(τ i).to p=some y/\FR n τ (i+1) d h/\x=bD h y
def S (n:Nat)(τ:kV)(i:Nat)(x:List Nat):Prop:=FR n τ i (n-i) x
section
variable {n:Nat} {τ τ':kV} {x y z:List Nat} {i:Nat}
theorem oE:S n τ n x↔x=cG n:=by unfold S;rw[Nat.sub_self];exact Iff.rfl
theorem kY (hi:i<n):S n τ i x↔ ∃p y h,(τ i).to p=some y/\S n τ (i+1) h/\x=bD h y:=by
 unfold S;rw[show n-i=(n-(i+1))+1 from oq];exact Iff.rfl
theorem Fe: ∀(d i:Nat) (x:List Nat),(∀j,i<=j->j<i+d->τ j=τ' j)->(FR n τ i d x↔FR n τ' i d x)
 |0,_,_,_=>Iff.rfl
 |d+1,i,x,h=>by
  simp only[FR];rw[h i (Nat.le_refl _) oq];have a:=λg=>Fe d (i+1) g (λj b c=>h j oq oq)
  simp only[a]
theorem Oy (h: ∀j,i<=j->j<n->τ j=τ' j):S n τ i x↔S n τ' i x:=
 Fe _ _ _ λj a b=>h j a oq
structure Wd (n j:Nat)(l:Lv):Prop where
 nd:l.orb.Nodup
 base:j∈l.orb
 one:l.to j=some (cG n)
 iff: ∀p,p∈l.orb↔(l.to p).isSome
 isP: ∀p y,l.to p=some y->bT n y
 fix: ∀p y,l.to p=some y->Fix j y
 maps: ∀p y,l.to p=some y->y.getD j 0=p
 gen: ∀p y,l.to p=some y->fA n (· ∈l.gens) y
 gP: ∀s∈l.gens,bT n s
 gF: ∀s∈l.gens,Fix j s
 gN:l.gens.Nodup
 le: ∀q,l.tr q<=l.gens.length
 zero: ∀q,q∉l.orb->l.tr q=0
theorem Wd.lt {l:Lv}(L:Wd n j l)(b:j<n)(c:p∈l.orb):p<n:=by
 obtain⟨y,a⟩:=Option.isSome_iff_exists.1 ((L.iff p).1 c);rw[←L.maps p y a];exact (L.isP p y a).dZ b
theorem Wd.to {l:Lv}(L:Wd n j l)(a:p∈l.orb): ∃y,l.to p=some y:=Option.isSome_iff_exists.1 ((L.iff p).1 a)
theorem Wd.mem {l:Lv}(L:Wd n j l){y:List Nat}(h:l.to p=some y):p∈l.orb:=(L.iff p).2 (by rw[h];rfl)
def Cl (n j:Nat)(τ:kV):Prop:= ∀q y,(τ j).to q=some y-> ∀k s,k<(τ j).tr q->(τ j).gens[k]? =some s->
 ∃u,(τ j).to ((bD y s).getD j 0)=some u/\S n τ (j+1) (bD (bD y s) (dH u))
def Full (l:Lv):Prop:= ∀q∈l.orb,l.tr q=l.gens.length
def Dn (n j:Nat)(τ:kV):Prop:=j+1<n-> ∀s∈(τ (j+1)).gens,fA n (· ∈(τ j).gens) s
def kM (n i:Nat)(τ:kV):Prop:= ∀j,i<=j->j<n->Wd n j (τ j)/\Cl n j τ/\Full (τ j)/\Dn n j τ
theorem kM.mono (t:kM n i τ){k:Nat}(h:i<=k):kM n k τ:=λj a a=>t j oq a
theorem kM.congr (t:kM n i τ)(h: ∀j,i<=j->j<n->τ j=τ' j):kM n i τ':=λj f g=>by
 obtain⟨a,b,c,d⟩:=t j f g;have e:=h j f g;refine⟨e▸a,λq y f k s g a=>?_,e▸c,λc s a=>?_⟩
 ·rw[←e] at f g a ⊢
  obtain⟨u,m,l⟩:=b q y f k s g a;exact⟨u,m,(Oy λk b b=>h k oq b).1 l⟩
 ·rw[←h (j+1) oq c] at a
  rw[←e];exact d c s a
theorem Fix.one (n i:Nat)(hi:i<=n):Fix i (cG n):=λk a=>eP oq
theorem Fix.mul (X:bT n x)(hi:i<=n)(a:Fix i x)(b:Fix i y):Fix i (bD x y):=λk c=>by
 rw[cX (by rw[X.len];omega),a k c,b k c]
theorem Fix.inv (X:bT n x)(hi:i<=n)(a:Fix i x):Fix i (dH x):=λk b=>by
 have:=nH X (show k<n by omega);rwa [a k b] at this
theorem Fix.mono (a:Fix j x)(h:i<=j):Fix i x:=λk b=>a k oq
theorem Fix.succ (a:Fix i x)(h:x.getD i 0=i):Fix (i+1) x:=λk b=>by
 by_cases e:k=i
 ·rw[e];exact h
 ·exact a k oq
theorem Fix.all (X:bT n x)(a:Fix n x):x=cG n:=by
 refine oP (by rw[X.len,gU]) λk b=>?_
 rw[X.len] at b;rw[a k b,eP b]
theorem fA.fix {L:List Nat->Prop}(a: ∀g,L g->bT n g)(hi:i<=n)(b: ∀g,L g->Fix i g)(h:fA n L x):Fix i x:=by
 induction h with
 |one=>exact Fix.one n i hi
 |mul hx hg ih=>exact Fix.mul (hx.isP a) hi ih (b _ hg)
theorem kM.Ni: ∀(d i:Nat),i+d=n->kM n i τ-> ∀x,(S n τ i x->bT n x/\Fix i x)/\(i<n->(S n τ i x↔fA n (· ∈(τ i).gens) x))
 |0,i,h,_,x=>by
  obtain rfl:i=n:=oq
  refine⟨λa=>?_,λh=>oq⟩;rw[oE] at a;subst a;exact⟨bT.one i,Fix.one i i (Nat.le_refl _)⟩
 |d+1,i,h,t,x=>by
  have hi:i<n:=oq
  have l:=kM.Ni d (i+1) oq (t.mono oq);obtain⟨L,C,F,D⟩:=t i (Nat.le_refl _) hi;have v: ∀g,g∈(τ i).gens->bT n g:=L.gP
  have O: ∀z,S n τ (i+1) z->fA n (· ∈(τ i).gens) z:=by
   intro z f
   by_cases c:i+1<n
   ·exact ((l z).2 c|>.1 f).le (fA.grp v) (D c)
   ·obtain rfl:i+1=n:=oq
    rw[oE] at f;subst f;exact .one
  have o: ∀u z,S n τ (i+1) u->S n τ (i+1) z->S n τ (i+1) (bD u z):=by
   intro u z m f
   by_cases c:i+1<n
   ·obtain⟨N,_⟩:=t (i+1) oq c
    exact ((l _).2 c).2 ((((l u).2 c).1 m).app N.gP (((l z).2 c).1 f))
   ·obtain rfl:i+1=n:=oq
    rw[oE] at m f ⊢;subst m f;exact dA (bT.one _)
  have r:S n τ (i+1) (cG n):=by
   by_cases c:i+1<n
   ·exact ((l _).2 c).2 .one
   ·obtain rfl:i+1=n:=oq
    exact oE.2 rfl
  have b:S n τ i x->fA n (· ∈(τ i).gens) x:=by
   intro a;obtain⟨p,y,g,w,A,rfl⟩:=(kY hi).1 a;exact (O g A).app v (L.gen p y w)
  refine⟨λa=>⟨(b a).isP v,(b a).fix v oq L.gF⟩,λ_=>⟨b,λP=>?_⟩⟩;clear b
  induction P with
  |one=>exact (kY hi).2 ⟨i,cG n,cG n,L.one,r,(dA (bT.one n)).symm⟩
  |mul hx a hind=>
   rename_i R s;obtain⟨q,y,g,w,A,e⟩:=(kY hi).1 hind;obtain⟨k,K,J⟩:=List.mem_iff_getElem.1 a;obtain⟨u,m,Q⟩:=C q y w k s (by rw[F q (L.mem w)];exact K) (by rw[List.getElem?_eq_getElem K,J]);refine (kY hi).2 ⟨_,u,bD g (bD (bD y s) (dH u)),m,o _ _ A Q,?_⟩;have G:=((l g).1 A).1;have Y:=L.isP q y w;have U:=L.isP _ u m;have B:=v s a;rw[e,bN G Y B,bN G ((Y.mul B).mul U.inv) U,bN (Y.mul B) U.inv U,gI U,dA (Y.mul B)]
theorem kM.gen (t:kM n i τ)(hi:i<n):S n τ i x↔fA n (· ∈(τ i).gens) x:=(kM.Ni (n-i) i oq t x).2 hi
theorem kM.isP (t:kM n i τ)(hi:i<=n)(h:S n τ i x):bT n x:=((kM.Ni (n-i) i oq t x).1 h).1
theorem kM.fix (t:kM n i τ)(hi:i<=n)(h:S n τ i x):Fix i x:=((kM.Ni (n-i) i oq t x).1 h).2
theorem kM.grp (t:kM n i τ)(hi:i<=n):mD n (S n τ i):=by
 by_cases h:i<n
 ·have g:=fA.grp (n:=n) (L:=(· ∈(τ i).gens)) (t i (Nat.le_refl _) h).1.gP
  exact⟨λa=>t.isP hi a,(t.gen h).2 g.one,λa b=>(t.gen h).2 (g.mul ((t.gen h).1 a) ((t.gen h).1 b)),λa=>(t.gen h).2 (g.inv ((t.gen h).1 a))⟩
 ·obtain rfl:i=n:=oq
  refine⟨λa=>t.isP hi a,oE.2 rfl,λa b=>?_,λa=>?_⟩
  ·rw[oE] at a b ⊢;subst a b;exact dA (bT.one _)
  ·rw[oE] at a ⊢;subst a;exact rP _
theorem kM.sift (t:kM n i τ)(hi:i<n)(h:S n τ i x): ∃y,(τ i).to (x.getD i 0)=some y/\S n τ (i+1) (bD x (dH y)):=by
 obtain⟨p,y,g,a,b,rfl⟩:=(kY hi).1 h;have L:=(t i (Nat.le_refl _) hi).1;have c:=t.mono (Nat.le_succ i);have G:=c.isP hi b;have Y:=L.isP p y a
 have e:(bD g y).getD i 0=p:=by
  rw[cX (by rw[G.len];exact hi),c.fix hi b i oq,L.maps p y a]
 refine⟨y,by rw[e];exact a,?_⟩;rw[bN G Y Y.inv,iH Y,dA G];exact b
theorem kM.back (t:kM n i τ)(hi:i<n){y:List Nat}(a:bT n x)(b:(τ i).to (x.getD i 0)=some y)(h2:S n τ (i+1) (bD x (dH y))):S n τ i x:=by
 have Y:=(t i (Nat.le_refl _) hi).1.isP _ y b;refine (kY hi).2 ⟨_,y,_,b,h2,?_⟩;rw[bN a Y.inv Y,gI Y,dA a]
theorem kM.HH (t:kM n i τ)(hi:i<n):S n τ (i+1) x↔S n τ i x/\x.getD i 0=i:=by
 have L:=(t i (Nat.le_refl _) hi).1;have b:=t.mono (Nat.le_succ i);constructor
 ·intro h
  have e:=b.fix hi h i oq;have X:=b.isP hi h;refine⟨t.back hi X (y:=cG n) (by rw[e];exact L.one) ?_,e⟩;rw[rP,dA X];exact h
 ·rintro⟨h,e⟩
  obtain⟨y,a,c⟩:=t.sift hi h;rw[e,L.one] at a;cases a;rwa [rP,dA (t.isP oq h)] at c
theorem kM.Ih (t:kM n i τ): ∀{k:Nat},i<=k->k<=n->(S n τ k x↔S n τ i x/\Fix k x):=by
 intro k
 induction k with
 |zero=>
  intro h _;obtain rfl:i=0:=oq
  exact⟨λh=>⟨h,λ_ h=>oq⟩,λh=>h.1⟩
 |succ k ih=>
  intro g f
  by_cases e:i=k+1
  ·subst e
   exact⟨λh=>⟨h,t.fix f h⟩,λh=>h.1⟩
  ·have a:=ih oq oq
   rw[(t.mono oq).HH (i:=k) f,a];constructor
   ·rintro⟨⟨b,c⟩,d⟩;exact⟨b,c.succ d⟩
   ·rintro⟨b,c⟩;exact⟨⟨b,c.mono oq⟩,c k oq⟩
end
end
section
variable {j k q:Nat}
def oI (τ:kV)(i:Nat)(l:Lv):kV:=λj=>if j=i then l else τ j
theorem cH (τ:kV)(i:Nat)(l:Lv):oI τ i l i=l:=by simp [oI]
theorem eD (τ:kV){i:Nat}(l:Lv)(h:j≠i):oI τ i l j=τ j:=by simp [oI,h]
def Lv.tick (l:Lv)(q:Nat):Lv:={l with tr:=λr=>if r=q then l.tr q+1 else l.tr r}
def Lv.reach (l:Lv)(p:Nat)(y:List Nat):Lv:={l with orb:=l.orb++ [p],to:=λr=>if r=p then some y else l.to r}
def Lv.more (l:Lv)(r:List Nat):Lv:={l with gens:=l.gens++ [r]}
structure CI (n i:Nat)(τ:kV):Prop where
 iL:Wd n i (τ i)
 cl:Cl n i τ
 dn:Dn n i τ
 up:kM n (i+1) τ
section
variable {n:Nat} {τ τ':kV} {x y z s u w:List Nat} {i:Nat}
theorem CI.full (c:CI n i τ)(b:Full (τ i)):kM n i τ:=λj d a=>by
 by_cases e:j=i
 ·subst e;exact⟨c.iL,c.cl,b,c.dn⟩
 ·exact c.up j oq a
theorem BV {l:Lv}(h:i<k):S n (oI τ i l) k x↔S n τ k x:=Oy λj a _=>eD τ l oq
theorem kM.DV {l:Lv}(h:i<k)(t:kM n k τ):kM n k (oI τ i l):=t.congr λj a _=>(eD τ l oq).symm
theorem CI.Aa (c:CI n i τ)(hi:i<n)(f:(τ i).to q=some y)(b:s∈(τ i).gens)(a:(τ i).to ((bD y s).getD i 0)=some u):
  bT n (bD (bD y s) (dH u))/\Fix (i+1) (bD (bD y s) (dH u))/\fA n (· ∈(τ i).gens) (bD (bD y s) (dH u)):=by
 have L:=c.iL
 have Y:=L.isP q y f
 have U:=L.isP _ u a
 have d:=L.gP s b
 have e:=Y.mul d
 have d:fA n (· ∈(τ i).gens) (bD (bD y s) (dH u)):=((L.gen q y f).mul b).app L.gP ((L.gen _ u a).inv L.gP)
 refine⟨e.mul U.inv,Fix.succ (d.fix L.gP oq L.gF) ?_,d⟩
 rw[cX (by rw[e.len];exact hi)]
 have:=nH U hi
 rwa [L.maps _ u a] at this
theorem CI.tick (c:CI n i τ)(B:(τ i).to q=some y)(O:(τ i).tr q=k)(m:(τ i).gens[k]? =some s)(N:(τ i).to ((bD y s).getD i 0)=some u)
  (F:S n τ (i+1) (bD (bD y s) (dH u))):CI n i (oI τ i ((τ i).tick q)):=by
 have L:=c.iL
 have l:k<(τ i).gens.length:=(List.getElem?_eq_some_iff.1 m).1
 refine⟨?_,?_,?_,c.up.DV oq⟩
 ·rw[cH]
  refine⟨L.nd,L.base,L.one,L.iff,L.isP,L.fix,L.maps,L.gen,L.gP,L.gF,L.gN,λr=>?_,λr p=>?_⟩
  ·show (if r=q then (τ i).tr q+1 else (τ i).tr r)<=_
   split
   ·rw[O];exact l
   ·exact L.le r
  ·show (if r=q then (τ i).tr q+1 else (τ i).tr r)=0
   have:r≠q:=λe=>p (by rw[e];exact L.mem B)
   rw[if_neg this];exact L.zero r p
 ·intro r v h j t A f
  rw[cH] at h A f ⊢
  simp only[BV (Nat.lt_succ_self i)]
  have d:j<(if r=q then (τ i).tr q+1 else (τ i).tr r):=A
  by_cases e:r=q/\j=k
  ·obtain⟨rfl,rfl⟩:=e
   have b:(τ i).to r=some v:=h
   have a:(τ i).gens[j]? =some t:=f
   rw[B] at b;cases b
   rw[m] at a;cases a
   exact⟨u,N,F⟩
  ·refine c.cl r v h j t ?_ f
   split at d
   ·rename_i G;subst G
    have:j≠k:=λJ=>e ⟨rfl,J⟩
    omega
   ·exact d
 ·intro K g o
  rw[eD τ _ oq] at o
  rw[cH]
  exact c.dn K g o
theorem CI.reach (c:CI n i τ)(hi:i<n){p:Nat}(K:(τ i).to p=none)(Y:bT n y)(F:Fix i y)(W:y.getD i 0=p)(P:fA n (· ∈(τ i).gens) y):CI n i (oI τ i ((τ i).reach p y)):=by
 have L:=c.iL;have m:p∉(τ i).orb:=λh=>by have:=(L.iff p).1 h;rw[K] at this;cases this
 have f: ∀r v,((τ i).reach p y).to r=some v->(r=p/\v=y)∨(r≠p/\(τ i).to r=some v):=by
  intro r v h;have A:(if r=p then some y else (τ i).to r)=some v:=h;split at A
  ·rename_i e;cases A;exact .inl ⟨e,rfl⟩
  ·rename_i e;exact .inr ⟨e,A⟩
 have d: ∀r v,(τ i).to r=some v->((τ i).reach p y).to r=some v:=by
  intro r v h;have:r≠p:=λe=>by rw[e,K] at h;cases h
  show (if r=p then some y else (τ i).to r)=some v;rw[if_neg this];exact h
 refine⟨?_,?_,?_,c.up.DV oq⟩
 ·rw[cH]
  refine⟨?_,List.mem_append_left _ L.base,d _ _ L.one,λr=>?_,λr v h=>?_,λr v h=>?_,λr v h=>?_,λr v h=>?_,L.gP,L.gF,L.gN,L.le,λr Q=>?_⟩
  ·show ((τ i).orb++ [p]).Nodup
   rw[List.nodup_append];exact⟨L.nd,by simp,λa U b G=>by simp at G;subst G;exact λe=>m (e▸U)⟩
  ·show r∈(τ i).orb++ [p]↔(if r=p then some y else (τ i).to r).isSome
   by_cases e:r=p
   ·subst e;simp
   ·rw[if_neg e,←L.iff r];simp [e]
  ·rcases f r v h with ⟨_,rfl⟩|⟨_,h⟩
   ·exact Y
   ·exact L.isP r v h
  ·rcases f r v h with ⟨_,rfl⟩|⟨_,h⟩
   ·exact F
   ·exact L.fix r v h
  ·rcases f r v h with ⟨rfl,rfl⟩|⟨_,h⟩
   ·exact W
   ·exact L.maps r v h
  ·rcases f r v h with ⟨_,rfl⟩|⟨_,h⟩
   ·exact P
   ·exact L.gen r v h
  ·exact L.zero r λh=>Q (List.mem_append_left _ h)
 ·intro r v J j t o B
  rw[cH] at J o B ⊢;simp only[BV (Nat.lt_succ_self i)];rcases f r v J with ⟨rfl,rfl⟩|⟨_,h⟩
  ·have hz:(τ i).tr r=0:=L.zero r m
   have Z:j<(τ i).tr r:=o;omega
  ·obtain⟨a,N,O⟩:=c.cl r v h j t o B
   exact⟨a,d _ _ N,O⟩
 ·intro R g l
  rw[eD τ _ oq] at l;rw[cH];exact c.dn R g l
theorem CI.found (c:CI n i τ)(hi:i<n){p:Nat}(b:(τ i).to q=some y)(v:(τ i).tr q=k)(g:(τ i).gens[k]? =some s)(l:(bD y s).getD i 0=p)(r:(τ i).to p=none):
  CI n i (oI τ i (((τ i).tick q).reach p (bD y s))):=by
 have L:=c.iL
 have a:s∈(τ i).gens:=List.mem_of_getElem? g
 have Y:=L.isP q y b
 have m:=L.gP s a
 have o:=c.reach hi r (Y.mul m) (Fix.mul Y oq (L.fix q y b) (L.gF s a)) l ((L.gen q y b).mul a)
 have d:q≠p:=λe=>by rw[e,r] at b;cases b
 have f:(oI τ i ((τ i).reach p (bD y s)) i).to p=some (bD y s):=by
  rw[cH];show (if p=p then some (bD y s) else (τ i).to p)=_;rw[if_pos rfl]
 have a:S n (oI τ i ((τ i).reach p (bD y s))) (i+1) (bD (bD y s) (dH (bD y s))):=by
  rw[iH (Y.mul m)];exact (o.up.grp oq).one
 have t:=o.tick (q:=q) (k:=k) (y:=y) (s:=s) (u:=bD y s) (by
  rw[cH];show (if q=p then some (bD y s) else (τ i).to q)=_
  rw[if_neg d];exact b) (by rw[cH];exact v) (by rw[cH];exact g) (by rw[l];exact f) a
 have e:oI (oI τ i ((τ i).reach p (bD y s))) i ((oI τ i ((τ i).reach p (bD y s)) i).tick q)=oI τ i (((τ i).tick q).reach p (bD y s)):=by
  funext j
  by_cases h:j=i
  ·subst h;rw[cH,cH,cH];rfl
  ·rw[eD _ _ h,eD _ _ h,eD _ _ h]
 rwa [e] at t
structure xA (n i:Nat)(x:List Nat)(τ τ':kV):Prop where
 low: ∀j,j<i->τ' j=τ j
 tw:kM n i τ'
 old: ∀s∈(τ i).gens,s∈(τ' i).gens
 new: ∀s∈(τ' i).gens,fA n (λg=>g∈(τ i).gens∨g=x) s
 has:fA n (· ∈(τ' i).gens) x
theorem xA.S (a:xA n i x τ τ')(t:kM n i τ)(hi:i<n)(h:Go.Pm.S n τ i z):Go.Pm.S n τ' i z:=
 (a.tw.gen hi).2 (((t.gen hi).1 h).mono a.old)
theorem CI.added (c:CI n i τ)(d:i+1<n)(a:xA n (i+1) z τ τ')(o:fA n (· ∈(τ i).gens) z):CI n i τ'/\Go.Pm.S n τ' (i+1) z:=by
 have e:=a.low i oq;refine⟨⟨e▸c.iL,λq y l k s m f=>?_,λh g b=>?_,a.tw⟩,(a.tw.gen d).2 a.has⟩
 ·rw[e] at l m f ⊢
  obtain⟨u,h,p⟩:=c.cl q y l k s m f;exact⟨u,h,a.S c.up d p⟩
 ·rw[e]
  refine (a.new g b).le (fA.grp c.iL.gP) λg b=>?_
  rcases b with b|rfl
  ·exact c.dn d g b
  ·exact o
def Ip (n:Nat)(τ:kV):Nat->Nat->List Nat->Nat×List Nat
 |0,i,x=>(i,x)
 |d+1,i,x=>match (τ i).to (x.getD i 0) with
  |none=>(i,x)
  |some y=>Ip n τ d (i+1) (if x.getD i 0=i then x else bD x (dH y))
structure BU (n i:Nat)(τ:kV)(x:List Nat)(k:Nat)(r:List Nat):Prop where
 ge:i<=k
 le:k<=n
 isP:bT n r
 fix:Fix k r
 out:k<n->(τ k).to (r.getD k 0)=none
 rest:i<n-> ∃w,fA n (· ∈(τ i).gens) w/\x=bD r w
theorem Vo: ∀(d i:Nat) (x:List Nat),i+d=n->kM n i τ->bT n x->Fix i x->BU n i τ x (Ip n τ d i x).1 (Ip n τ d i x).2
 |0,i,x,h,_,X,F=>⟨Nat.le_refl _,by show i<=n;omega,X,F,λa=>by have:i<n:=a;omega,λa=>oq⟩
 |d+1,i,x,h,t,X,F=>by
  have hi:i<n:=oq
  obtain⟨L,C,A,D⟩:=t i (Nat.le_refl _) hi;unfold Ip
  cases e:(τ i).to (x.getD i 0) with
  |none=>exact⟨Nat.le_refl _,by show i<=n;omega,X,F,λ_=>e,λ_=>⟨cG n,.one,(dA X).symm⟩⟩
  |some y=>
   simp only;have Y:=L.isP _ y e
   have l: ∀f,f=(if x.getD i 0=i then x else bD x (dH y))->bT n f/\Fix (i+1) f/\x=bD f y:=by
    intro f a
    by_cases g:x.getD i 0=i
    ·rw[if_pos g] at a
     subst a;rw[g,L.one] at e;cases e;exact⟨X,F.succ g,(dA X).symm⟩
    ·rw[if_neg g] at a
     subst a;refine⟨X.mul Y.inv,(Fix.mul X oq F (Fix.inv Y oq (L.fix _ y e))).succ ?_,by rw[bN X Y.inv Y,gI Y,dA X]⟩;rw[cX (by rw[X.len];exact hi)];have:=nH Y hi;rwa [L.maps _ y e] at this
   obtain⟨o,F2,ex⟩:=l _ rfl;have b:=Vo d (i+1) _ oq (t.mono oq) o F2;refine⟨by have:=b.ge;omega,b.le,b.isP,b.fix,b.out,λ_=>?_⟩
   by_cases m:i+1<n
   ·obtain⟨w,r,v⟩:=b.rest m
    have c:fA n (· ∈(τ i).gens) w:=r.le (fA.grp L.gP) (D m);refine⟨bD w y,c.app L.gP (L.gen _ y e),?_⟩;rw[←bN b.isP (c.isP L.gP) Y,←v];exact ex
   ·have p:d=0:=oq
    subst p;exact⟨y,L.gen _ y e,ex⟩
theorem BU.in (f:BU n i τ x n w)(t:kM n i τ)(hi:i<n):S n τ i x:=by
 obtain⟨v,a,e⟩:=f.rest hi;have:=f.fix.all f.isP;rw[this,fG (a.isP (t i (Nat.le_refl _) hi).1.gP)] at e;subst e;exact (t.gen hi).2 a
theorem BU.FU (f:BU n i τ x k w)(t:kM n i τ)(b:k<n)(c:i<=j)(h2:j<=k): ¬S n τ j w:=by
 intro h;have d:=t.mono c;have e:=(d.Ih h2 oq).2 ⟨h,f.fix⟩;obtain⟨y,a,_⟩:=(t.mono f.ge).sift b e;rw[f.out b] at a;cases a
def push (τ:kV)(i k:Nat)(r:List Nat):kV:=λj=>if i<=j/\j<=k then (τ j).more r else τ j
theorem Oq (τ:kV){i:Nat}(r:List Nat)(a:i<=j)(h2:j<=k):push τ i k r j=(τ j).more r:=by simp [push,a,h2]
theorem Ba (τ:kV){i:Nat}(r:List Nat)(h:j<i∨k<j):push τ i k r j=τ j:=by
 unfold push;rw[if_neg oq]
structure zO (n i k:Nat)(r:List Nat)(τ τ':kV)(j:Nat):Prop where
 low: ∀m,m<j->τ' m=push τ i k r m
 tw:kM n j τ'
 gens:j<=k->(τ' j).gens=(τ j).gens++ [r]
 same:k<j->τ' j=τ j
theorem zO.start (f:BU n i τ x k w)(t:kM n i τ)(_:k<n):zO n i k w τ (push τ i k w) (k+1):=
 ⟨λ_ _=>rfl,(t.mono (by have:=f.ge;omega)).congr λj a _=>(Ba τ w (.inr oq)).symm,λh=>oq,λ_=>Ba τ w (.inr oq)⟩
theorem zO.ci (f:BU n i τ x k w)(t:kM n i τ)(P:k<n)(a:zO n i k w τ τ' (j+1))(v:i<=j)(h2:j<=k):CI n j τ':=by
 have h:j<n:=oq
 obtain⟨L,C,K,D⟩:=t j v h;have e:τ' j=(τ j).more w:=(a.low j oq).trans (Oq τ w v h2);have K:=t.mono v;have A:w∉(τ j).gens:=λN=>f.FU t P v h2 ((K.gen h).2 (fA.of L.gP N))
 have B: ∀z,S n τ (j+1) z->S n τ' (j+1) z:=by
  intro z p
  by_cases o:j+1<n
  ·have h:=t.mono (show i<=j+1 by omega)
   refine (a.tw.gen o).2 (((h.gen o).1 p).mono λg b=>?_)
   by_cases l:j+1<=k
   ·rw[a.gens l];exact List.mem_append_left _ b
   ·rw[a.same oq];exact b
  ·obtain rfl:j+1=n:=oq
   rw[oE] at p ⊢;exact p
 have d: ∀g,g∈(τ j).gens->g∈(τ j).gens++ [w]:=λg b=>List.mem_append_left _ b
 have r: ∀g,g∈(τ j).gens++ [w]->bT n g:=λg b=>by
  rcases List.mem_append.1 b with b|b
  ·exact L.gP g b
  ·simp at b;subst b;exact f.isP
 refine⟨?_,λq y J m s G c=>?_,λo s c=>?_,a.tw⟩
 ·rw[e]
  refine⟨L.nd,L.base,L.one,L.iff,L.isP,L.fix,L.maps,λp y h=>(L.gen p y h).mono d,r,λg b=>?_,?_,λq=>?_,L.zero⟩
  ·rcases List.mem_append.1 b with b|b
   ·exact L.gF g b
   ·simp at b;subst b;exact f.fix.mono h2
  ·show ((τ j).gens++ [w]).Nodup
   rw[List.nodup_append];exact⟨L.gN,by simp,λa O b F=>by simp at F;subst F;exact λe=>A (e▸O)⟩
  ·show (τ j).tr q<=((τ j).gens++ [w]).length
   have:=L.le q;simp;omega
 ·rw[e] at J G c ⊢
  have g:m<(τ j).tr q:=G;have b:((τ j).gens++ [w])[m]? =some s:=c;rw[List.getElem?_append_left (by have:=L.le q;omega)] at b;obtain⟨u,h,p⟩:=C q y J m s g b;exact⟨u,h,B _ p⟩
 ·rw[e]
  show fA n (· ∈(τ j).gens++ [w]) s
  by_cases l:j+1<=k
  ·rw[a.gens l] at c
   rcases List.mem_append.1 c with c|c
   ·exact (D o s c).mono d
   ·simp at c;subst c
    exact fA.of r (List.mem_append_right _ (by simp))
  ·rw[a.same oq] at c
   exact (D o s c).mono d
theorem zO.next {b:kV}(a:zO n i k w τ τ' (j+1))(d:i<=j)(h2:j<=k)(low: ∀m,m<j->b m=τ' m)(g:(b j).gens=(τ' j).gens)(t:kM n j b):zO n i k w τ b j:=
 ⟨λm c=>(low m c).trans (a.low m oq),t,λ_=>by rw[g,a.low j oq,Oq τ w d h2];rfl,λh=>oq⟩
theorem zO.done (f:BU n i τ x k w)(t:kM n i τ)(X:bT n x)(m:k<n)(a:zO n i k w τ τ' i):xA n i x τ τ':=by
 have hi:i<n:=by have:=f.ge;omega
 have L:=(t i (Nat.le_refl _) hi).1;have c:=a.gens f.ge;obtain⟨v,h,e⟩:=f.rest hi;have V:=h.isP L.gP;refine⟨λj l=>(a.low j l).trans (Ba τ w (.inl l)),a.tw,λs d=>?_,λs d=>?_,?_⟩
 ·rw[c];exact List.mem_append_left _ d
 ·have b: ∀g,(g∈(τ i).gens∨g=x)->bT n g:=λg c=>by
   rcases c with c|rfl
   ·exact L.gP g c
   ·exact X
  rw[c] at d;rcases List.mem_append.1 d with d|d
  ·exact fA.of b (.inl d)
  ·simp at d;subst d
   have d:s=bD x (dH v):=by rw[e,bN f.isP V V.inv,iH V,dA f.isP]
   rw[d];exact (fA.of b (.inr rfl)).app b ((h.mono λg c=>Or.inl c).inv b)
 ·have b: ∀g,g∈(τ' i).gens->bT n g:=(a.tw i (Nat.le_refl _) hi).1.gP
  rw[e];exact (fA.of b (by rw[c];exact List.mem_append_right _ (by simp))).app b (h.mono λg b=>by rw[c];exact List.mem_append_left _ b)
theorem xA.none (t:kM n i τ)(hi:i<n)(h:Go.Pm.S n τ i x):xA n i x τ τ:=by
 have L:=(t i (Nat.le_refl _) hi).1
 have a: ∀g,(g∈(τ i).gens∨g=x)->bT n g:=λg b=>by
  rcases b with b|rfl
  ·exact L.gP g b
  ·exact t.isP oq h
 exact⟨λ_ _=>rfl,t,λ_ b=>b,λs b=>fA.of a (.inl b),(t.gen hi).1 h⟩
theorem Wd.many {l:Lv}(L:Wd n j l):l.gens.length<=n^n:=Bv L.gN L.gP
def Ui (n:Nat):kV:=λj=>⟨[], [j],λp=>if p=j then some (cG n) else none,λ_=>0⟩
theorem Uz (n:Nat):kM n 0 (Ui n):=λj _ f=>by
 refine⟨⟨by simp [Ui],by simp [Ui],by simp [Ui],λp=>?_,λp y h=>?_,λp y h=>?_,λp y h=>?_,λp y h=>?_,λs a=>?_,λs a=>?_,by simp [Ui],λq=>Nat.le_refl _,λ_ _=>rfl⟩,λq y g k s d=>?_,λq _=>rfl,λ_ s a=>?_⟩
 ·show p∈ [j]↔(if p=j then some (cG n) else none).isSome
  by_cases e:p=j<;>simp [e]
 all_goals first
  |(have b:(if p=j then some (cG n) else none)=some y:=h
    split at b
    ·rename_i e
     cases b
     first
      |exact bT.one n
      |exact Fix.one n j oq
      |(rw[e];exact eP f)
      |exact .one
    ·cases b)
  |(cases a;done)
  |(have c:k<0:=d;omega)
end
end
end Go.Pm
namespace Go.Proofs.YtapfcpkecmmagaaGreat
open Go Go.Ay Go.Pm
set_option maxRecDepth 100000
def Slot (W:Nat->Prop)(h:H)(v:V):Option (List Nat)->Prop
 |none=>v= .aD
 |some y=>PV W h v y
def sl2 (F:Nat->V)(s:Nat):V:=F (s/2*194+s%2)
def WT (n L:Nat)(F:Nat->V)(id:Nat):Prop:=id=L∨ ∃s,s<2*n/\ ∃off len c,sl2 F s= .sl id off len c
structure TwR (h:H)(n tid L:Nat)(F:Nat->V)(τ:kV):Prop where
 t:h.get tid=some (.cells false [aB n,.sl L 0 n (.kn n)])
 l:h.get L=some (.cells false (rc (n*194) F))
 tn:tid<h.next
 ln:L<h.next
 tw: ¬WT n L F tid
 to: ∀j p,j<n->p<64->Slot (WT n L F) h (F (j*194+2+p)) ((τ j).to p)
 iv: ∀j p,j<n->p<64->Slot (WT n L F) h (F (j*194+66+p)) (((τ j).to p).map dH)
 tr: ∀j p,j<n->p<64->F (j*194+130+p)= aB ((τ j).tr p:Nat)
 gens: ∀j,j<n-> ∃vs,Own h (F (j*194)) 1 vs 0/\PVs (WT n L F) h vs (τ j).gens
 orb: ∀j,j<n->Own h (F (j*194+1)) 1 (ints (zi (τ j).orb)) 0
 dis: ∀s s',s<2*n->s'<2*n->s≠s'->GN (sl2 F s) (sl2 F s')
 ap: ∀s,s<2*n->dF (sl2 F s) L
section
variable {h h':H} {n tid L:Nat} {F:Nat->V} {τ:kV}
theorem Slot.fx {W:Nat->Prop}{v:V}{o:Option (List Nat)}(s:Slot W h v o)(f:Fx W h h'):Slot W h' v o:=by
 cases o with
 |none=>exact s
 |some y=>exact PV.fx s f
theorem Slot.weak {W a:Nat->Prop}{v:V}{o:Option (List Nat)}(s:Slot W h v o)(b: ∀id,id<h.next->a id->W id):Slot a h v o:=by
 cases o with
 |none=>exact s
 |some y=>exact PV.weak s b
theorem sl2_g (F:Nat->V)(j:Nat):sl2 F (2*j)=F (j*194):=by
 unfold sl2;congr 1;omega
theorem sl2_o (F:Nat->V)(j:Nat):sl2 F (2*j+1)=F (j*194+1):=by
 unfold sl2;congr 1;omega
theorem TwR.own (R:TwR h n tid L F τ){s:Nat}(c:s<2*n): ∃ws,Own h (sl2 F s) 1 ws 0:=by
 rcases Nat.mod_two_eq_zero_or_one s with e|e
 ·obtain⟨a,b,_⟩:=R.gens (s/2) om
  exact⟨a,by unfold sl2;rw[e];exact b⟩
 ·exact⟨_,by unfold sl2;rw[e];exact R.orb (s/2) om⟩
theorem TwR.win (R:TwR h n tid L F τ){id:Nat}(a:WT n L F id):id<h.next:=by
 rcases a with rfl|⟨s,b,c,len,c,e⟩
 ·exact R.ln
 ·obtain⟨c,o⟩:=R.own b
  exact (o.in _ _ _ _ e).1
theorem TwR.mono (R:TwR h n tid L F τ)(f:Fr h h'):TwR h' n tid L F τ:=by
 refine⟨by rw[f.get _ R.tn];exact R.t,by rw[f.get _ R.ln];exact R.l,iO R.tn f.next,iO R.ln f.next,R.tw,
  λj p a b=>(R.to j p a b).fx (Fx.of f),λj p a b=>(R.iv j p a b).fx (Fx.of f),R.tr,λj c=>?_,λj c=>(R.orb j c).fr f,R.dis,R.ap⟩
 obtain⟨d,a,b⟩:=R.gens j c;exact⟨d,a.fr f,b.fx (Fx.of f)⟩
theorem TwR.cell (R:TwR h n tid L F τ){j c:Nat}(a:j<n)(b:c<194):h.cell L (j*194+c)=some (F (j*194+c)):=
 gO R.l (by
         have:(j+1)*194<=n*194:=Nat.mul_le_mul_right _ a
         omega)
theorem TwR.cell2 (R:TwR h n tid L F τ){j c p:Nat}(a:j<n)(b:c+p<194):h.cell L (j*194+c+p)=some (F (j*194+c+p)):=by
 rw[Nat.add_assoc];exact R.cell a b
end
theorem sft_none {n:Nat}{τ:kV}{d i:Nat}{x:List Nat}(h:(τ i).to (x.getD i 0)=none):Ip n τ (d+1) i x=(i,x):=by
 rw[Ip,h]
theorem sft_some {n:Nat}{τ:kV}{d i:Nat}{x z:List Nat}(h:(τ i).to (x.getD i 0)=some z):Ip n τ (d+1) i x=Ip n τ d (i+1) (if x.getD i 0=i then x else bD x (dH z)):=by
 rw[Ip,h]
theorem sift_ok (h:H)(n tid L:Nat)(F:Nat->V)(τ:kV)(W:V)(x:List Nat)(a:Nat)(hn:n<=64)(h0:0<n)(R:TwR h n tid L F τ)(hx:PV (WT n L F) h W x)(X:bT n x)(P:a<=n)(t:kM n a τ):
  Ev T 177 [.ptr tid 0,W,aB a] h (λv h'=> ∃vr,v= .tup [aB (((Ip n τ (n-a) a x).1:Nat):Int),vr]/\PV (WT n L F) h' vr (Ip n τ (n-a) a x).2/\bT n (Ip n τ (n-a) a x).2/\Fr h h'):=by
 refine bH c_chain_tower_sift rfl rfl ?_
 simp(disch:=omega)only[go_sem,c_chain_tower_sift,aF]
 refine aH (λk' m hh=> ∃(i:Nat) (y:List Nat) (q:V),(∃g:Nat->V,m= [.ptr tid 0,q,g 2,g 3,g 4,aB i,g 6,g 7,g 8,g 9])/\a<=i/\i<=n/\Ip n τ (n-i) i y=Ip n τ (n-a) a x/\
   PV (WT n L F) hh q y/\bT n y/\Fr h hh/\k'=n-i) (n-a)
  ⟨a,x,W,aA rfl,fH _,P,rfl,hx,X,Fr.refl h,rfl⟩ ?_
 rintro k' m d ⟨i,y,q,⟨g,rfl⟩,O,a2,e,A,Y,f,rfl⟩
 have J:=R.mono f
 have ct:d.cell tid 0=some (aB n):=by rw[H.aG J.t];rfl
 have cl:d.cell tid 1=some (.sl L 0 n (.kn n)):=by rw[H.aG J.t];rfl
 simp(disch:=omega)only[go_sem,ct,cl]
 by_cases B:(i:Int)<(n:Int)
 ·have b:i<n:=om
  rw[bV B]
  obtain⟨id,a1,G,Q,hc⟩:=A.si.open
  rw[aQ,Y.len] at G Q hc
  have ci:d.cell id (a1+i)=some (aB (y.getD i 0:Nat)):=by rw[hc i b];congr 2;simp [zi,Y.len,b]
  have r:=Y.dZ b
  have lv:=(t i O b).1
  generalize hk:y.getD i 0=k at ci r
  have cb:=J.cell2 (c:=66) (p:=k) b om
  have u:=J.iv i k b om
  simp(disch:=omega)only[go_sem,ct,cl,G.ixa,ci,cb]
  generalize F (i*194+66+k)=U at u cb
  have o:n-i=(n-(i+1))+1:=om
  rw[o] at e
  cases hto:(τ i).to k with
  |none=>
   rw[hto] at u;rw[sft_none (by rw[hk];exact hto)] at e;have l:U= .aD:=u;subst l;simp(disch:=omega)only[go_sem];rw[←e];exact⟨q,rfl,A.fx (Fx.of ((Fr.refl d).bL om)),Y,f.bL om⟩
  |some z=>
   rw[hto] at u;rw[sft_some (by rw[hk];exact hto),hk] at e;have Z:=lv.isP _ _ hto;have l:PV (WT n L F) d U (dH z):=u;have sn:=uY l (bT.ne h0 Z.inv) false;have w:Fr d (H.mk d.tr (d.next+14)):=(Fr.refl d).bL om
   by_cases s:k=i
   ·have e0:decide ((k:Int)≠(i:Int))=false:=bM om
    rw[aV s] at e;simp(disch:=omega)only[go_sem,sn,G.ixa,ci,e0];rw[dX i];exact⟨n-(i+1),om,i+1,y,q,aA rfl,om,om,e,A.fx (Fx.of w),Y,f.trans w,rfl⟩
   ·have e0:decide ((k:Int)≠(i:Int))=true:=bV om
    rw[aZ s] at e;simp(disch:=omega)only[go_sem,sn,G.ixa,ci,e0];have a0:=A.fx (Fx.of w);have N:=l.fx (Fx.of w);have f':=f.trans w;generalize H.mk d.tr (d.next+14)=h3 at*;refine (mul_gen (rfl:T 181=some c_chain_mul) q U y (dH z) h3 (by rw[Y.len];omega) a0.si N.si (λj hj=>by rw[fV,Z.len];exact Y.dZ (by rw[←Y.len];exact hj))).mono ?_;rintro v h4 nw;have f4:=f'.trans nw.fr;simp(disch:=omega)only[go_sem];rw[dX i];refine⟨n-(i+1),om,i+1,_,v,aA rfl,om,om,e,nw.pv (λhw=>?_),Y.mul Z.inv,f4,rfl⟩;have:=R.win hw;have:=f'.next;omega
 ·rw[bM B]
  obtain rfl:i=n:=om
  simp(disch:=omega)only[go_sem,ct,cl]
  rw[Nat.sub_self] at e
  have K:Ip i τ (i-a) a x=(i,y):=e.symm
  rw[K]
  exact⟨q,rfl,A,Y,f⟩
section
variable {h h' h2:H} {n tid L i:Nat} {F F':Nat->V} {τ τ':kV}
theorem WT_congr (b: ∀s,s<2*n->sl2 F' s=sl2 F s)(id:Nat):WT n L F' id↔WT n L F id:=by
 unfold WT;constructor
 ·rintro (e|⟨s,a,h2⟩)
  ·exact .inl e
  ·exact .inr ⟨s,a,by rw[←b s a];exact h2⟩
 ·rintro (e|⟨s,a,h2⟩)
  ·exact .inl e
  ·exact .inr ⟨s,a,by rw[b s a];exact h2⟩
theorem sl2_of {j:Nat}(P: ∀s,s<2*n->sl2 F' s=sl2 F s)(a:j<n):F' (j*194)=F (j*194)/\F' (j*194+1)=F (j*194+1):=
 ⟨(sl2_g F' j).symm.trans ((P _ om).trans (sl2_g F j)),(sl2_o F' j).symm.trans ((P _ om).trans (sl2_o F j))⟩
theorem PV.go {W a:Nat->Prop}{v:V}{l:List Nat}(p:PV W h v l)(f:Fx W h h')(b: ∀id,id<h.next->a id->W id):PV a h' v l:=⟨p.si.fx p.off f,p.off.weak p.si b⟩
theorem Slot.go {W a:Nat->Prop}{v:V}{o:Option (List Nat)}(s:Slot W h v o)(f:Fx W h h')(b: ∀id,id<h.next->a id->W id):Slot a h' v o:=by
 cases o with
 |none=>exact s
 |some y=>exact PV.go s f b
theorem PVs.go {W b:Nat->Prop}{vs:List V}{a:LN}(s:PVs W h vs a)(f:Fx W h h')(c: ∀id,id<h.next->b id->W id):PVs b h' vs a:=s.mono λ_ _ x=>PV.go x f c
theorem TwR.cells (R:TwR h n tid L F τ)(k:h.next<=h'.next)(w: ∀id,id≠L->id<h.next->h'.get id=h.get id)(z:h'.get L=some (.cells false (rc (n*194) F')))
  (g: ∀s,s<2*n->sl2 F' s=sl2 F s) (u: ∀j,j<n->(τ' j).gens=(τ j).gens/\(τ' j).orb=(τ j).orb)
  (q: ∀j p,j<n->p<64->Slot (WT n L F) h' (F' (j*194+2+p)) ((τ' j).to p)) (o: ∀j p,j<n->p<64->Slot (WT n L F) h' (F' (j*194+66+p)) (((τ' j).to p).map dH))
  (r: ∀j p,j<n->p<64->F' (j*194+130+p)= aB ((τ' j).tr p:Nat)):TwR h' n tid L F' τ'/\Fx (WT n L F) h h'/\ ∀id,WT n L F' id↔WT n L F id:=by
 have f:Fx (WT n L F) h h':=⟨k,λid b h2=>w id (λe=>h2 (.inl e)) b⟩
 have v:=WT_congr (L:=L) g
 have m:WT n L F'=WT n L F:=funext λid=>propext (v id)
 have y: ∀s,s<2*n-> ∀id a len c,sl2 F s= .sl id a len c->id<h.next->h'.get id=h.get id:=λs b id a len c e h2=>w id (λd=>(R.ap s b _ _ _ _ e) d.symm) h2
 refine⟨⟨?_,z,iO R.tn k,iO R.ln k,by rw[m];exact R.tw,by rw[m];exact q,by rw[m];exact o,r,λj d=>?_,λj d=>?_,λs x b h2 l=>by rw[g s b,g x h2];exact R.dis s x b h2 l,λs b=>by rw[g s b];exact R.ap s b⟩,f,v⟩
 ·rw[f.get tid R.tn R.tw];exact R.t
 ·obtain⟨v,b,h2⟩:=R.gens j d
  rw[(sl2_of g d).1,m,(u j d).1]
  exact⟨v,b.keep k λid a m c e l=>y (2*j) om id a m c (by rw[sl2_g];exact e) l,h2.fx f⟩
 ·rw[(sl2_of g d).2,(u j d).2]
  exact (R.orb j d).keep k λid a m c e l=>y (2*j+1) om id a m c (by rw[sl2_o];exact e) l
structure Grew (h h':H)(n tid L:Nat)(F F':Nat->V)(s0:Nat):Prop where
 fx:Fx (WT n L F) h h'
 wt: ∀id,id<h.next->WT n L F' id->WT n L F id
 dis: ∀s s',s<2*n->s'<2*n->s≠s'->GN (sl2 F' s) (sl2 F' s')
 ap: ∀s,s<2*n->dF (sl2 F' s) L
 own: ∀s,s<2*n->s≠s0->sl2 F' s=sl2 F s/\ ∀ws,Own h (sl2 F s) 1 ws 0->Own h' (sl2 F s) 1 ws 0
theorem TwR.grew (R:TwR h n tid L F τ){s0 u m:Nat}(t:s0<2*n){ws us:List V}(p:Pushd h (sl2 F s0) u m 1 ws us h2)(g: ∀s,s<2*n->s≠s0->sl2 F' s=sl2 F s){y:mE}(f:sl2 F' s0= .sl h.next 0 (u+m) y)(o:Option Ob):
  Grew h (h2.set L o) n tid L F F' s0:=by
 have l: ∀s,s<2*n-> ∀id a len c,sl2 F s= .sl id a len c->id<h.next:=λs q id a len c e=>by
  obtain⟨ws,o⟩:=R.own q;exact (o.in _ _ _ _ e).1
 have A:Fx (WT n L F) h h2:=p.fx λid a len c e=> .inr ⟨s0,t,a,len,c,e⟩
 refine⟨A.trans (Fx.set h2 (.inl rfl:WT n L F L) o) (λ_ _ h=>h),λid d A=>?_,λs k d h2 r=>?_,λs d=>?_,λs d r=>⟨g s d r,λws z=>?_⟩⟩
 ·rcases A with e|⟨s,q,a,len,c,e⟩
  ·exact .inl e
  ·by_cases b:s=s0
   ·rw[b,f] at e;cases e;omega
   ·exact .inr ⟨s,q,a,len,c,by rw[←g s q b];exact e⟩
 ·by_cases b:s=s0
  ·rw[b,f,g k h2 om]
   intro i o n c e G B x v j
   cases e
   have:=l k h2 _ _ _ _ j
   omega
  ·rw[g s d b]
   by_cases w:k=s0
   ·rw[w,f]
    intro i o n c e G B x v j
    cases j
    have:=l s d _ _ _ _ e
    omega
   ·rw[g k h2 w];exact R.dis s k d h2 r
 ·by_cases b:s=s0
  ·rw[b,f]
   exact dF.sl (by have:=R.ln;omega)
  ·rw[g s d b];exact R.ap s d
 ·refine z.keep (show h.next<=h2.next by rw[p.next];omega) λid a m c e a=>?_
  rw[H.aI h2 (λb:id=L=>(R.ap s d _ _ _ _ e) b.symm)]
  refine p.old id om λa a x v j b=>?_
  exact R.dis s s0 d t r _ _ _ _ e _ _ _ _ j b
def F1 (F:Nat->V)(k:Nat)(v:V):Nat->V:=λc=>if c=k then v else F c
theorem TwR.slot (R:TwR h n tid L F τ){e f m:Nat}(hi:i<n)(B:e<2){ws us:List V}(p:Pushd h (F (i*194+e)) f m 1 ws us h2){h3:H}{v:V}{l:mE}(o:l= .un 1∨l= .kn (f+m))(w:v= .sl h.next 0 (f+m) l)(k:h3=h2.set L (some (.cells false (rc (n*194) (F1 F (i*194+e) v)))))
  (a: ∀j,j<n->(τ' j).to=(τ j).to/\(τ' j).tr=(τ j).tr)
  (y:Fx (WT n L F) h h3->(∀id,id<h.next->WT n L (F1 F (i*194+e) v) id->WT n L F id)->(∀s,s<2*n->s≠2*i+e-> ∀ws,Own h (sl2 F s) 1 ws 0->Own h3 (sl2 F s) 1 ws 0)->Own h3 v 1 (ws++us) 0->ws.length=f*1/\us.length=m*1->
   (∀j,j<n-> ∃vs,Own h3 (F1 F (i*194+e) v (j*194)) 1 vs 0/\PVs (WT n L (F1 F (i*194+e) v)) h3 vs (τ' j).gens)/\ ∀j,j<n->Own h3 (F1 F (i*194+e) v (j*194+1)) 1 (ints (zi (τ' j).orb)) 0)
  (q:ws.length=f*1/\us.length=m*1):
  TwR h3 n tid L (F1 F (i*194+e) v) τ'/\Fx (WT n L F) h h3/\ ∀id,id<h.next->WT n L (F1 F (i*194+e) v) id->WT n L F id:=by
 have u: ∀s,s<2*n->s≠2*i+e->sl2 (F1 F (i*194+e) v) s=sl2 F s:=λs d h2=>by
  unfold sl2 F1;rw[aZ om]
 have b:(2*i+e)/2*194+(2*i+e)%2=i*194+e:=om
 have r:sl2 F (2*i+e)=F (i*194+e):=by unfold sl2;rw[b]
 have g:sl2 (F1 F (i*194+e) v) (2*i+e)= .sl h.next 0 (f+m) l:=by unfold sl2 F1;rw[b,aV rfl,w]
 have G:=R.grew (F':=F1 F (i*194+e) v) (s0:=2*i+e) om (by rw[r];exact p) u g (some (.cells false (rc (n*194) (F1 F (i*194+e) v))))
 rw[←k] at G
 obtain⟨x,z⟩:=y G.fx G.wt (λs d h2=>(G.own s d h2).2) (by
  rw[w,k];have A:Own h2 (.sl h.next 0 (f+m) l) 1 (ws++us) 0:= .inr ⟨h.next,f+m,l, [],rfl,by rw[jD,q.1,q.2];omega,by rcases o with e|e;exact .inl e;exact .inr ⟨e,rfl⟩,eY _,by rw[p.next];omega,by rw[pN];exact p.get⟩;refine A.keep (fH _) λid b m c e b=>?_
  cases e
  exact H.aI h2 (by have:=R.ln;omega) _) q
 have r: ∀j c,2<=c->c<194->F1 F (i*194+e) v (j*194+c)=F (j*194+c):=λj c d h2=>by
  unfold F1;rw[aZ om]
 have g: ∀j b c,2<=b->b+c<194->F1 F (i*194+e) v (j*194+b+c)=F (j*194+b+c):=λj b c d h2=>by
  rw[Nat.add_assoc];exact r j (b+c) om h2
 have b:=G.fx.next
 refine⟨⟨?_,by rw[k,H.aT],iO R.tn b,iO R.ln b,λb=>R.tw (G.wt _ R.tn b),λj p d h2=>?_,λj p d h2=>?_,λj p d h2=>?_,x,z,G.dis,G.ap⟩,G.fx,G.wt⟩
 ·rw[G.fx.get tid R.tn R.tw];exact R.t
 ·rw[g j 2 p om om,(a j d).1];exact (R.to j p d h2).go G.fx G.wt
 ·rw[g j 66 p om om,(a j d).1];exact (R.iv j p d h2).go G.fx G.wt
 ·rw[g j 130 p om om,(a j d).2];exact R.tr j p d h2
theorem TwR.more (R:TwR h n tid L F τ)(hi:i<n){vs:List V}{b:V}{r:List Nat}(pv:PVs (WT n L F) h vs (τ i).gens)(o:PV (WT n L F) h b r)(p:Pushd h (F (i*194)) (τ i).gens.length 1 1 vs [b] h2){h3:H}{v:V}(m:v= .sl h.next 0 ((τ i).gens.length+1) (.un 1))(c:h3=h2.set L (some (.cells false (rc (n*194) (F1 F (i*194) v))))):
  TwR h3 n tid L (F1 F (i*194) v) (oI τ i ((τ i).more r))/\Fx (WT n L F) h h3/\ ∀id,id<h.next->WT n L (F1 F (i*194) v) id->WT n L F id:=by
 refine R.slot (e:=0) hi om p (.inl rfl) m c (λj a=>?_) (λf d k g l=>⟨λj a=>?_,λj a=>?_⟩) ⟨by have:=All2.length pv;omega,rfl⟩
 ·by_cases e:j=i
  ·subst e;rw[cH];exact⟨rfl,rfl⟩
  ·rw[eD _ _ e];exact⟨rfl,rfl⟩
 ·by_cases e:j=i
  ·subst e
   rw[cH]
   refine⟨vs++ [b],?_,(PVs.go pv f d).append (PVs.one (PV.go o f d))⟩
   unfold F1;rw[aV (Nat.add_zero _).symm];exact g
  ·rw[eD _ _ e]
   obtain⟨g,l,h2⟩:=R.gens j a
   refine⟨g,?_,PVs.go h2 f d⟩
   have:=k (2*j) om om g (by rw[sl2_g];exact l)
   rw[sl2_g] at this
   unfold F1;rw[aZ om];exact this
 ·have:=k (2*j+1) om om _ (by rw[sl2_o];exact R.orb j a)
  rw[sl2_o] at this
  unfold F1;rw[aZ om]
  by_cases e:j=i
  ·subst e;rw[cH];exact this
  ·rw[eD _ _ e];exact this
theorem TwR.point (R:TwR h n tid L F τ)(hi:i<n){q:Nat}(p:Pushd h (F (i*194+1)) (τ i).orb.length 1 1 (ints (zi (τ i).orb)) [aB q] h2){h3:H}{v:V}{b:mE}(c:b= .un 1∨b= .kn ((τ i).orb.length+1))(r:v= .sl h.next 0 ((τ i).orb.length+1) b)(d:h3=h2.set L (some (.cells false (rc (n*194) (F1 F (i*194+1) v))))):
  TwR h3 n tid L (F1 F (i*194+1) v) (oI τ i {τ i with orb:=(τ i).orb++ [q]})/\Fx (WT n L F) h h3/\ ∀id,id<h.next->WT n L (F1 F (i*194+1) v) id->WT n L F id:=by
 refine R.slot (e:=1) hi om p c r d (λj a=>?_) (λf l k o g=>⟨λj a=>?_,λj a=>?_⟩) ⟨by rw[aL,aQ,jY],rfl⟩
 ·by_cases e:j=i
  ·subst e;rw[cH];exact⟨rfl,rfl⟩
  ·rw[eD _ _ e];exact⟨rfl,rfl⟩
 ·obtain⟨g,m,h2⟩:=R.gens j a
  have:=k (2*j) om om g (by rw[sl2_g];exact m)
  rw[sl2_g] at this
  refine⟨g,?_,?_⟩
  ·unfold F1;rw[aZ om];exact this
  ·by_cases e:j=i
   ·subst e;rw[cH];exact PVs.go h2 f l
   ·rw[eD _ _ e];exact PVs.go h2 f l
 ·by_cases e:j=i
  ·subst e
   rw[cH]
   have f:ints (zi ((τ j).orb++ [q]))=ints (zi (τ j).orb)++ [aB q]:=by simp [zi,ints]
   show Own h3 _ 1 (ints (zi ((τ j).orb++ [q]))) 0
   rw[f]
   unfold F1;rw[aV rfl];exact o
  ·rw[eD _ _ e]
   have:=k (2*j+1) om om _ (by rw[sl2_o];exact R.orb j a)
   rw[sl2_o] at this
   unfold F1;rw[aZ om];exact this
theorem TwR.tick (R:TwR h n tid L F τ)(hi:i<n){q:Nat}(l:q<64){z:Int}(g:z=((τ i).tr q:Nat)+1){h3:H}(c:h3=h.set L (some (.cells false (rc (n*194) (F1 F (i*194+130+q) (aB z)))))):
  TwR h3 n tid L (F1 F (i*194+130+q) (aB z)) (oI τ i ((τ i).tick q))/\Fx (WT n L F) h h3/\ ∀id,WT n L (F1 F (i*194+130+q) (aB z)) id↔WT n L F id:=by
 subst c
 have f:Fx (WT n L F) h (h.set L (some (.cells false (rc (n*194) (F1 F (i*194+130+q) (aB z)))))):=Fx.set h (.inl rfl) _
 have b: ∀j,(oI τ i ((τ i).tick q) j).to=(τ j).to/\(oI τ i ((τ i).tick q) j).gens=(τ j).gens/\(oI τ i ((τ i).tick q) j).orb=(τ j).orb:=λj=>by
  by_cases e:j=i
  ·subst e;rw[cH];exact⟨rfl,rfl,rfl⟩
  ·rw[eD _ _ e];exact⟨rfl,rfl,rfl⟩
 refine R.cells (fH _) (λid a _=>H.aI h a _) (H.aT ..) (λs k=>?_) (λj _=>(b j).2) (λj p a h2=>?_) (λj p a h2=>?_) (λj p a h2=>?_)
 ·unfold sl2 F1;rw[aZ om]
 ·rw[(b j).1]
  have:=(R.to j p a h2).fx f
  unfold F1;rw[aZ om];exact this
 ·rw[(b j).1]
  have:=(R.iv j p a h2).fx f
  unfold F1;rw[aZ om];exact this
 ·have:=R.tr j p a h2
  unfold F1
  by_cases e:j=i
  ·subst e
   rw[cH]
   show _=aB (if p=q then (τ j).tr q+1 else (τ j).tr p:Nat)
   by_cases d:p=q
   ·subst d;rw[aV rfl,aV rfl,g];rfl
   ·rw[aZ om,aZ d];exact this
  ·rw[aZ om,eD _ _ e];exact this
theorem TwR.way (R:TwR h n tid L F τ)(hi:i<n){q:Nat}(u:q<64){d g:V}{y:List Nat}(o:PV (WT n L F) h d y)(t:PV (WT n L F) h g (dH y)){h3:H}(k:h.next<=h3.next)(l: ∀id,id≠L->id<h.next->h3.get id=h.get id)
  (m:h3.get L=some (.cells false (rc (n*194) (F1 (F1 F (i*194+2+q) d) (i*194+66+q) g)))):
  TwR h3 n tid L (F1 (F1 F (i*194+2+q) d) (i*194+66+q) g) (oI τ i {τ i with to:=λr=>if r=q then some y else (τ i).to r})/\Fx (WT n L F) h h3/\ ∀id,WT n L (F1 (F1 F (i*194+2+q) d) (i*194+66+q) g) id↔WT n L F id:=by
 have f:Fx (WT n L F) h h3:=⟨k,λid a h2=>l id (λe=>h2 (.inl e)) a⟩
 have c: ∀j,(oI τ i {τ i with to:=λr=>if r=q then some y else (τ i).to r} j).tr=(τ j).tr/\(oI τ i {τ i with to:=λr=>if r=q then some y else (τ i).to r} j).gens=(τ j).gens/\(oI τ i {τ i with to:=λr=>if r=q then some y else (τ i).to r} j).orb=(τ j).orb:=λj=>by
  by_cases e:j=i
  ·subst e;rw[cH];exact⟨rfl,rfl,rfl⟩
  ·rw[eD _ _ e];exact⟨rfl,rfl,rfl⟩
 refine R.cells k l m (λs s=>?_) (λj _=>(c j).2) (λj p a h2=>?_) (λj p a h2=>?_) (λj p a h2=>?_)
 ·unfold sl2 F1;rw[aZ om,aZ om]
 ·have:=(R.to j p a h2).fx f
  unfold F1
  by_cases e:j=i
  ·subst e
   rw[cH]
   show Slot _ _ _ (if p=q then some y else (τ j).to p)
   by_cases b:p=q
   ·subst b;rw[aZ om,aV rfl,aV rfl];exact PV.fx o f
   ·rw[aZ om,aZ om,aZ b];exact this
  ·rw[aZ om,aZ om,eD _ _ e];exact this
 ·have:=(R.iv j p a h2).fx f
  unfold F1
  by_cases e:j=i
  ·subst e
   rw[cH]
   show Slot _ _ _ ((if p=q then some y else (τ j).to p).map dH)
   by_cases b:p=q
   ·subst b;rw[aV rfl,aV rfl];exact PV.fx t f
   ·rw[aZ om,aZ om,aZ b];exact this
  ·rw[aZ om,aZ om,eD _ _ e];exact this
 ·rw[(c j).1]
  have:=R.tr j p a h2
  unfold F1;rw[aZ om,aZ om];exact this
end
theorem notin_take {l:List Nat}(nd:l.Nodup){k:Nat}(a:k<l.length):l.getD k 0∉l.take k:=by
 intro h;obtain⟨m,b,e⟩:=vJ.1 h;have c:m<k:=by simp at b;omega
 rw[List.getElem_take,bP a] at e;have b:=nd.idxOf_getElem m om;have c:=nd.idxOf_getElem k a;rw[e] at b;omega
theorem ticked {n i:Nat}{τ b:kV}{y s u z:List Nat}{q k:Nat}(c:CI n i τ)(x:i+1<n)(v:(τ i).to q=some y)(B:(τ i).tr q=k)(g:(τ i).gens[k]? =some s)(t:(τ i).to ((bD y s).getD i 0)=some u)
  (o:z=bD (bD y s) (dH u)) (a:xA n (i+1) z (oI τ i ((τ i).tick q)) b):CI n i b/\b i=(τ i).tick q/\ ∀j,j<i->b j=τ j:=by
 have p:b i=(τ i).tick q:=(a.low i om).trans (cH ..)
 have f: ∀j,j<i->b j=τ j:=λj l=>(a.low j om).trans (eD _ _ om)
 have A:xA n (i+1) z τ (oI b i (τ i)):=by
  have m: ∀j,i<j->oI τ i ((τ i).tick q) j=τ j:=λj l=>eD _ _ om
  have d: ∀j,i<j->oI b i (τ i) j=b j:=λj l=>eD _ _ om
  refine⟨λj l=>?_,a.tw.congr λj l _=>(d j om).symm,λs g=>?_,λs g=>?_,?_⟩
  ·by_cases e:j=i
   ·subst e;exact cH ..
   ·rw[eD _ _ e];exact f j om
  ·rw[d _ om];exact a.old s (by rw[m _ om];exact g)
  ·rw[d _ om] at g
   have:=a.new s g;rwa [m _ om] at this
  ·rw[d _ om];exact a.has
 have d:s∈(τ i).gens:=Rm g
 obtain⟨_,_,l⟩:=c.Aa om v d t
 obtain⟨w,m⟩:=c.added x A (by rw[o];exact l)
 have d:oI b i (τ i) i=τ i:=cH ..
 have r:=w.tick (q:=q) (k:=k) (y:=y) (s:=s) (u:=u) (by rw[d];exact v) (by rw[d];exact B) (by rw[d];exact g) (by rw[d];exact t) (by rw[←o];exact m)
 have e:oI (oI b i (τ i)) i ((oI b i (τ i) i).tick q)=b:=by
  funext j
  by_cases h:j=i
  ·subst h;rw[cH,cH,p]
  ·rw[eD _ _ h,eD _ _ h]
 rw[e] at r
 exact⟨r,p,f⟩
theorem Own.lens {h:H}{v:V}{ws:List V}{b n:Nat}(o:Own h v 1 ws b)(a:ws.length=n):cV v=some (aB n):=by
 unfold cV;rw[o.sv.len (n:=n) om om];rfl
theorem F1_ne {F:Nat->V}{k c:Nat}{v:V}(h:c≠k):F1 F k v c=F c:=aZ h
theorem put_rc {N k:Nat}{F:Nat->V}(a:k<N)(hh:H)(L:Nat)(v:V):dS (some (.cells false (rc N F))) hh L k [v]=some (hh.set L (some (.cells false (rc N (F1 F k v))))):=by
 rw[bE (by rw[cK];exact a),eG];rfl
def AddPost (h:H)(n tid L:Nat)(F:Nat->V)(τ:kV)(i:Nat)(x:List Nat):V->H->Prop:=λ_ h'=> ∃F' τ',TwR h' n tid L F' τ'/\xA n i x τ τ'/\Fx (WT n L F) h h'/\ ∀id,id<h.next->WT n L F' id->WT n L F id
def ClosePost (h:H)(n tid L:Nat)(F:Nat->V)(τ:kV)(i:Nat):V->H->Prop:=λ_ h'=> ∃F' τ',TwR h' n tid L F' τ'/\kM n i τ'/\(∀j,j<i->τ' j=τ j)/\(τ' i).gens=(τ i).gens/\Fx (WT n L F) h h'/\ ∀id,id<h.next->WT n L F' id->WT n L F id
def AddC (n i:Nat):Prop:= ∀(h:H) (tid L:Nat) (F:Nat->V) (τ:kV) (vx:V) (x:List Nat),TwR h n tid L F τ->PV (WT n L F) h vx x->bT n x->Fix i x->kM n i τ->Ev T 156 [.ptr tid 0,vx,aB i] h (AddPost h n tid L F τ i x)
def CloseC (n i:Nat):Prop:= ∀(h:H) (tid L:Nat) (F:Nat->V) (τ:kV),TwR h n tid L F τ->CI n i τ->Ev T 178 [.ptr tid 0,aB i] h (ClosePost h n tid L F τ i)
structure ClS (h:H)(n tid L:Nat)(F:Nat->V)(τ:kV)(i:Nat)(h':H)(F':Nat->V)(τ':kV)(k:Nat):Prop where
 R:TwR h' n tid L F' τ'
 c:CI n i τ'
 hk:k<=(τ' i).orb.length
 done: ∀r∈(τ' i).orb.take k,(τ' i).tr r=(τ' i).gens.length
 low: ∀j,j<i->τ' j=τ j
 gens:(τ' i).gens=(τ i).gens
 fx:Fx (WT n L F) h h'
 wt: ∀id,id<h.next->WT n L F' id->WT n L F id
theorem orbn {n j:Nat}{l:Lv}(V:Wd n j l)(b:j<n):l.orb.length<=n:=by
 have:=List.Nodup.length_le_of_subset V.nd (l₂:=List.range n) λx a=>Ae.2 (V.lt b a)
 simpa using this
theorem close_of_add (n i:Nat)(hn:n<=7)(hi:i<n)(A:i+1<n->AddC n (i+1)):CloseC n i:=by
 intro h a2 L F τ R c;refine bH c_chain_tower_close rfl rfl ?_;have cl:h.cell a2 1=some (.sl L 0 n (.kn n)):=by rw[H.aG R.t];rfl
 simp(disch:=omega)only[go_sem,c_chain_tower_close,aF,cl];refine aH (λm N hh=> ∃(k:Nat) (F':Nat->V) (Z:kV),(∃g:Nat->V,N= [.ptr a2 0,aB i,.ptr L (i*194),aB k,g 4,g 5,g 6,g 7,g 8,g 9,g 10,g 11])/\ClS h n a2 L F τ i hh F' Z k/\m=n-k) n
  ⟨0,F,τ,aA rfl,⟨R,c,eY _,λr d=>by simp at d,λ_ _=>rfl,rfl,Fx.refl _ h,λ_ _ h=>h⟩,rfl⟩ ?_
 rintro m N x ⟨k,a5,o,⟨g,rfl⟩,S,rfl⟩;have co:x.cell L (i*194+1)=some (a5 (i*194+1)):=S.R.cell hi om;have oo:=S.R.orb i hi;have lo:=Own.lens oo (by rw[aL,aQ]);have d2:=orbn S.c.iL hi;simp(disch:=omega)only[go_sem,co,lo]
 by_cases a0:(k:Int)<((o i).orb.length:Int)
 case neg=>
  rw[bM a0];simp(disch:=omega)only[go_sem];refine⟨a5,o,S.R,S.c.full λq hq=>S.done q ?_,S.low,S.gens,S.fx,S.wt⟩;rw[yR om];exact hq
 rw[bV a0];have b:k<(o i).orb.length:=om
 obtain⟨id,d5,sh,d3,hc⟩:=(show SI x (a5 (i*194+1)) (zi (o i).orb) from oo.sv).open;rw[aQ] at sh d3 hc;obtain⟨q,hq⟩:=IP ((o i).orb.getD k 0);have ck:x.cell id (d5+k)=some (aB q):=by rw[hc k b];congr 2;simp [zi,b,←hq]
 simp(disch:=omega)only[go_sem,co,sh.ixa,ck];have b0:q∈(o i).orb:=by rw[←hq,bP b];exact wT b
 have d5:q<n:=S.c.iL.lt hi b0;clear sh d3 hc ck co lo oo d2 b0
 refine aH (λm N hh=> ∃(F':Nat->V) (Z:kV),(∃g:Nat->V,N= [.ptr a2 0,aB i,.ptr L (i*194),aB k,aB q,g 5,g 6,g 7,g 8,g 9,g 10,g 11])/\ClS h n a2 L F τ i hh F' Z k/\
   k<(Z i).orb.length/\(Z i).orb.getD k 0=q/\m=(Z i).gens.length-(Z i).tr q) ((o i).gens.length-(o i).tr q)
  ⟨a5,o,aA rfl,S,b,hq,rfl⟩ ?_
 clear a0 b hq S o a5;rintro m N K ⟨F2,a,⟨g,rfl⟩,S,b,hq,rfl⟩;have R2:=S.R;have iL:=S.c.iL;have b0:q∈(a i).orb:=by rw[←hq,bP b];exact wT b
 obtain⟨y,hy⟩:=iL.to b0;have Y:=iL.isP _ _ hy;have b5:K.cell L (i*194+130+q)=some (aB ((a i).tr q:Nat)):=by rw[R2.cell2 hi om,R2.tr i q hi om]
 have cg:K.cell L (i*194)=some (F2 (i*194)):=by
  have:=R2.cell (c:=0) hi om;rwa [Nat.add_zero] at this
 obtain⟨g,og,a9⟩:=R2.gens i hi;have lg:=Own.lens og (All2.length a9);have d2:=orbn iL hi;simp(disch:=omega)only[go_sem,b5,cg,lg]
 by_cases a0:(((a i).tr q:Nat):Int)<((a i).gens.length:Int)
 case neg=>
  rw[bM a0];simp(disch:=omega)only[go_sem];rw[dX k];have fb:Fr K (H.mk K.tr (K.next+12)):=(Fr.refl K).bL om;have g:=iL.le q;refine⟨n-(k+1),om,k+1,F2,a,aA rfl,⟨R2.mono fb,S.c,b,λr d=>?_,S.low,S.gens,⟨jC S.fx.next fb.next,S.fx.get⟩,S.wt⟩,rfl⟩;rw[List.take_add_one,eX b,←bP b,hq] at d;rcases sP.1 d with d|d
  ·exact S.done r d
  ·simp at d;subst d;omega
 rw[bV a0];obtain⟨t,ht⟩:=IP ((a i).tr q);rw[ht] at a0 b5;have g:(a i).gens.length<=1000000:=jC iL.many (jC (Nat.pow_le_pow_left hn n) (jC (Nat.pow_le_pow_right om hn) (by decide)));obtain⟨d8,c4,d0,c3,c7⟩:=og.sv.shape (a i).gens.length (by have:=All2.length a9;omega) om;obtain⟨vS,c5,pS⟩:=a9.at (i:=t) om;obtain⟨s,g⟩:=IP ((a i).gens.getD t []);rw[g] at pS
 have a3:(a i).gens[t]? =some s:=by
  rw[←g,List.getD,eX om];rfl
 have Sp:=iL.gP s (Rm a3);have cS:K.cell d8 (c4+t)=some vS:=by rw[c7 t (by have:=All2.length a9;omega)];exact c5
 have pT:PV (WT n L F2) K (F2 (i*194+2+q)) y:=by
  have:=R2.to i q hi om;rw[hy] at this;exact this
 have g:i*194+194<=n*194:=om
 simp(disch:=omega)only[go_sem,b5,cg,lg,d0.ixa,cS,R2.l,put_rc,iP,F1_ne];have fb:Fr K (H.mk K.tr (K.next+12+13+11)):=(Fr.refl K).bL om
 obtain⟨h3,b9⟩: ∃h3,h3=(H.mk K.tr (K.next+12+13+11)).set L (some (.cells false (rc (n*194) (F1 F2 (i*194+130+q) (aB ((t:Int)+1)))))):=⟨_,rfl⟩
 rw[←b9];obtain⟨R3,g,w3⟩:=(R2.mono fb).tick hi (q:=q) om (z:=(t:Int)+1) (by rw[ht]) b9;have b8:=(Fx.of (W:=WT n L F2) fb).trans g (λ_ _ h=>h);have c2:=PV.go pT b8 (λid _ h=>(w3 id).1 h);have c8:=PV.go pS b8 (λid _ h=>(w3 id).1 h);generalize F2 (i*194+2+q)=vt at pT c2;clear b9 pT pS b5 cg lg d0 c3 c7 cS c5 a9 og
 obtain⟨J,d7⟩: ∃J,J=F1 F2 (i*194+130+q) (aB ((t:Int)+1)):=⟨_,rfl⟩
 rw[←d7] at R3 w3 c2 c8
 obtain⟨G,w⟩: ∃G,G=oI a i ((a i).tick q):=⟨_,rfl⟩
 rw[←w] at R3;have e3:G i=(a i).tick q:=by rw[w];exact cH ..
 refine (mul_gen (rfl:T 181=some c_chain_mul) vt vS y s h3 (by rw[Y.len];omega) c2.si c8.si (λj hj=>by rw[Sp.len];exact Y.dZ (by rw[←Y.len];exact hj))).mono ?_;rintro v O g;have P:=Y.mul Sp;obtain⟨p,hp⟩:=IP ((bD y s).getD i 0);have o:p<n:=by rw[←hp];exact P.dZ hi
 have R4:=R3.mono g.fr;have pv:=g.pv (W:=WT n L J) (λB=>by have:=R3.win B;omega)
 have N:O.cell h3.next i=some (aB p):=by
  rw[H.aG g.get,tY (by rw[P.len];exact hi),hp]
 have F:O.cell L (i*194+2+p)=some (J (i*194+2+p)):=R4.cell2 hi om;have f:=R4.to i p hi om;have o:=g.val;rw[P.len] at o;have f4:Fx (WT n L F2) K O:=b8.trans (Fx.of (W:=WT n L F2) g.fr) (λ_ _ h=>h);simp(disch:=omega)only[go_sem,o,N,F];rw[←o];have Q: ∀r∈(a i).orb.take k,r≠q:=λr d e=>notin_take iL.nd b (by rw[hq,←e];exact d)
 cases hpo:(a i).to p with
 |none=>
  have a4:J (i*194+2+p)= .aD:=by
   rw[e3] at f;have f:Slot _ _ _ ((a i).to p):=f;rw[hpo] at f;exact f
  simp(disch:=omega)only[go_sem,a4];refine (inv_gen (rfl:T 188=some c_chain_inv) v n (bD y s) (H.mk O.tr (O.next+15)) om P (pv.mono ((Fr.refl O).bL om)).si).mono ?_;rintro vu h5 nu;have f5:Fr O h5:=((Fr.refl O).bL om:Fr O (H.mk O.tr (O.next+15))).trans nu.fr;have R5:=R4.mono f5;have c0:=pv.mono f5;have c1:=nu.pv (W:=WT n L J) (λB=>by have:=R4.win B;simp at this;omega);simp(disch:=omega)only[go_sem,R5.l,fZ c0.dQ.1 c0.dQ.2,fZ c1.dQ.1 c1.dQ.2,put_rc,iP,F1_ne]
  obtain⟨F6,d1⟩: ∃F6,F6=F1 (F1 J (i*194+2+p) v) (i*194+66+p) vu:=⟨_,rfl⟩
  obtain⟨h6,b3⟩: ∃h6,h6=(h5.set L (some (Ob.cells false (rc (n*194) (F1 J (i*194+2+p) v))))).set L (some (Ob.cells false (rc (n*194) (F1 (F1 J (i*194+2+p) v) (i*194+66+p) vu)))):=⟨_,rfl⟩
  rw[←b3];obtain⟨R6,f6,w6⟩:=R5.way hi (q:=p) om c0 c1 (h3:=h6) (by rw[b3];exact fH _) (λid x _=>by rw[b3,H.aI _ x,H.aI _ x]) (by rw[b3,H.aT]);have eO:J (i*194+1)=F6 (i*194+1):=by rw[d1,F1_ne om,F1_ne om]
  rw[←d1] at R6 w6
  obtain⟨a1,a7⟩: ∃a1,a1=oI G i {G i with to:=λr=>if r=p then some (bD y s) else (G i).to r}:=⟨_,rfl⟩
  rw[←a7] at R6;have e6:a1 i={G i with to:=λr=>if r=p then some (bD y s) else (G i).to r}:=by rw[a7];exact cH ..
  have b2:(a1 i).orb=(a i).orb:=by rw[e6,e3];rfl
  simp(disch:=omega)only[go_sem,cJ h6 (z:= aB 0) (v:= aB p) rfl rfl,eO]
  obtain⟨h7,b6⟩: ∃h7,h7=h6.new (.cells false [aB p]):=⟨_,rfl⟩
  have f7:Fr h6 h7:=by rw[b6];exact (Fr.refl h6).new _
  have g:h7.next=h6.next+1:=by rw[b6];exact H.aY ..
  have o:h7.get h6.next=some (.cells false [aB p]):=by rw[b6];exact H.aN ..
  rw[←b6];have R7:=R6.mono f7;have g:=R7.orb i hi;rw[b2] at g;obtain⟨h8,a8,p8⟩:=g.push (bytes:=8) (SV.one om o (.kn 1)) (n:=(a i).orb.length) (m:=1) (by rw[aL,aQ,jY]) rfl om om om
  have g:h8.get L=some (.cells false (rc (n*194) F6)):=by
   rw[p8.old L (by have:=R7.ln;omega) (by have:=R7.ap (2*i+1) om;rw[sl2_o] at this;exact this)];exact R7.l
  simp(disch:=omega)only[go_sem,a8,g,put_rc]
  obtain⟨h9,d4⟩: ∃h9,h9=h8.set L (some (.cells false (rc (n*194) (F1 F6 (i*194+1) (.sl h7.next 0 ((a i).orb.length+1) (.un 1)))))):=⟨_,rfl⟩
  rw[←d4];obtain⟨R9,f9,w9⟩:=R7.point hi (q:=p) (by rw[b2];exact p8) (.inl rfl) (by rw[b2]) d4;rw[b2] at R9
  have eT:oI a1 i {a1 i with orb:=(a i).orb++ [p]}=oI a i (((a i).tick q).reach p (bD y s)):=by
   funext j
   by_cases e:j=i
   ·subst e
    rw[cH,cH,e6,e3];rfl
   ·rw[eD _ _ e,eD _ _ e,a7,eD _ _ e,w,eD _ _ e]
  rw[eT] at R9;have c9:=S.c.found hi hy ht a3 hp hpo;have ei:oI a i (((a i).tick q).reach p (bD y s)) i=((a i).tick q).reach p (bD y s):=cH ..
  have W9: ∀id,id<K.next->WT n L (F1 F6 (i*194+1) (.sl h7.next 0 ((a i).orb.length+1) (.un 1))) id->WT n L F2 id:=λid x B=>
   (w3 id).1 ((w6 id).1 (w9 id (by have:=f4.next;have:=f5.next;have:=f6.next;have:=f7.next;omega) B))
  have b1:WT n L J=WT n L F2:=funext λid=>propext (w3 id)
  have e:WT n L F6=WT n L F2:=(funext λid=>propext (w6 id)).trans b1;rw[b1] at f6;rw[e] at f9;have e0:Fx (WT n L F2) K h9:=f4.trans ((Fx.of f5).trans (f6.trans ((Fx.of f7).trans f9 (λ_ _ h=>h)) (λ_ _ h=>h)) (λ_ _ h=>h)) (λ_ _ h=>h);refine⟨(a i).gens.length-(t+1),om,_,_,aA rfl,⟨R9,c9,?_,?_,λj hj=>(eD _ _ om).trans (S.low j hj),?_,S.fx.trans e0 λid x B=>S.wt id x B,λid x B=>S.wt id x (W9 id (by have:=S.fx.next;omega) B)⟩,?_,?_,?_⟩
  all_goals rw[ei]
  ·show k<=((a i).orb++ [p]).length
   rw[jD];omega
  ·intro r d
   have d:r∈((a i).orb++ [p]).take k:=d;rw[List.take_append_of_le_length om] at d;show (if r=q then (a i).tr q+1 else (a i).tr r)=(a i).gens.length;rw[aZ (Q r d)];exact S.done r d
  ·exact S.gens
  ·show k<((a i).orb++ [p]).length
   rw[jD];omega
  ·show ((a i).orb++ [p]).getD k 0=q
   rw[←hq,List.getD,List.getD,vY b]
  ·show _=(a i).gens.length-(if q=q then (a i).tr q+1 else (a i).tr q)
   rw[aV rfl,ht]
 |some u=>
  have U:=iL.isP _ _ hpo
  have a4:PV (WT n L J) O (J (i*194+2+p)) u:=by
   rw[e3] at f;have f:Slot _ _ _ ((a i).to p):=f;rw[hpo] at f;exact f
  have sn:=uY a4 (bT.ne om U) false;have ct:O.cell a2 0=some (aB n):=by rw[H.aG R4.t];rfl
  have e:O.cell L (i*194+66+p)=some (J (i*194+66+p)):=R4.cell2 hi om
  have d6:PV (WT n L J) O (J (i*194+66+p)) (dH u):=by
   have:=R4.iv i p hi om;rw[e3] at this;have this:Slot _ _ _ (((a i).to p).map dH):=this;rw[hpo] at this;exact this
  simp(disch:=omega)only[go_sem,sn,ct]
  by_cases b7:(i:Int)+1<(n:Int)
  ·rw[bV b7]
   simp(disch:=omega)only[go_sem,e];refine (mul_gen (rfl:T 181=some c_chain_mul) v _ (bD y s) (dH u) O (by rw[P.len];omega) pv.si d6.si (λj hj=>by rw[fV,U.len];exact P.dZ (by rw[←P.len];exact hj))).mono ?_;rintro f h5 nu;have R5:=R4.mono nu.fr;have Z:=P.mul U.inv;have e:=nu.pv (W:=WT n L J) (λB=>by have:=R4.win B;omega);obtain⟨_,b4,_⟩:=S.c.Aa hi hy (Rm a3) (by rw[hp];exact hpo);simp(disch:=omega)only[go_sem];rw[dX i];refine (A om h5 a2 L J G f _ R5 e Z b4 ?_).mono ?_
   ·rw[w];exact S.c.up.DV om
   rintro e h6 ⟨F6,a1,R6,a6,f6,w6⟩;rw[w] at a6;obtain⟨c6,e6,l6⟩:=ticked S.c om hy ht a3 (by rw[hp];exact hpo) rfl a6;have b1:WT n L J=WT n L F2:=funext λid=>propext (w3 id)
   rw[b1] at f6 w6;have d9:Fx (WT n L F2) K h6:=f4.trans ((Fx.of nu.fr).trans f6 (λ_ _ h=>h)) (λ_ _ h=>h);simp(disch:=omega)only[go_sem];refine⟨(a i).gens.length-(t+1),om,_,_,aA rfl,⟨R6,c6,?_,?_,λj hj=>(l6 j hj).trans (S.low j hj),?_,S.fx.trans d9 λid x B=>S.wt id x B,λid x B=>S.wt id x (w6 id (by have:=S.fx.next;have:=f4.next;have:=nu.fr.next;omega) B)⟩,?_,?_,?_⟩
   all_goals rw[e6]
   ·exact Nat.le_of_lt b
   ·intro r d
    have d:r∈(a i).orb.take k:=d;show (if r=q then (a i).tr q+1 else (a i).tr r)=(a i).gens.length;rw[aZ (Q r d)];exact S.done r d
   ·exact S.gens
   ·exact b
   ·exact hq
   ·show _=(a i).gens.length-(if q=q then (a i).tr q+1 else (a i).tr q)
    rw[aV rfl,ht]
  ·rw[bM b7]
   obtain⟨e,b4,_⟩:=S.c.Aa hi hy (Rm a3) (by rw[hp];exact hpo);have f:i+1=n:=om
   have c6:=S.c.tick hy ht a3 (by rw[hp];exact hpo) (by
    rw[f];rw[f] at b4
    exact oE.2 (b4.all e))
   simp(disch:=omega)only[go_sem];rw[w] at R4;have e6:oI a i ((a i).tick q) i=(a i).tick q:=cH ..;refine⟨(a i).gens.length-(t+1),om,_,_,aA rfl,⟨R4,c6,?_,?_,λj hj=>(eD _ _ om).trans (S.low j hj),?_,S.fx.trans f4 λid x B=>S.wt id x B,λid x B=>S.wt id x ((w3 id).1 B)⟩,?_,?_,?_⟩
   all_goals rw[e6]
   ·exact Nat.le_of_lt b
   ·intro r d
    have d:r∈(a i).orb.take k:=d;show (if r=q then (a i).tr q+1 else (a i).tr r)=(a i).gens.length;rw[aZ (Q r d)];exact S.done r d
   ·exact S.gens
   ·exact b
   ·exact hq
   ·show _=(a i).gens.length-(if q=q then (a i).tr q+1 else (a i).tr q)
    rw[aV rfl,ht]
def pushU (τ:kV)(i m:Nat)(r:List Nat):kV:=λj=>if i<=j/\j<m then (τ j).more r else τ j
theorem pushU_zero (τ:kV)(i:Nat)(r:List Nat):pushU τ i i r=τ:=by
 funext j;unfold pushU;rw[aZ om]
theorem pushU_succ (τ:kV){i m:Nat}(r:List Nat)(h:i<=m):oI (pushU τ i m r) m ((pushU τ i m r m).more r)=pushU τ i (m+1) r:=by
 funext j
 by_cases e:j=m
 ·subst e
  rw[cH];unfold pushU;rw[aZ om,aV om]
 ·rw[eD _ _ e]
  unfold pushU
  by_cases a:i<=j/\j<m
  ·rw[aV a,aV om]
  ·rw[aZ a,aZ om]
theorem pushU_push (τ:kV)(i k:Nat)(r:List Nat):pushU τ i (k+1) r=push τ i k r:=by
 funext j;unfold pushU push
 by_cases h:i<=j/\j<=k
 ·rw[aV h,aV om]
 ·rw[aZ h,aZ om]
theorem eqV_sl (a b c:Nat)(d:mE):dJ (.sl a b c d) (.sl a b c d)=true:=by simp [dJ]
theorem add_of_close (n b:Nat)(hn:n<=7)(hi:b<n)(C: ∀j,b<=j->j<n->CloseC n j):AddC n b:=by
 intro h a L F τ vx x R hx X Fi t;refine bH c_chain_tower_add rfl rfl ?_;simp(disch:=omega)only[go_sem,c_chain_tower_add,aF];refine (sift_ok h n a L F τ vx x b om om R hx X om t).mono ?_;have N:=Vo (n-b) b x om t X Fi;obtain⟨k,hk⟩:=IP ((Ip n τ (n-b) b x).1);obtain⟨r,hr⟩:=IP ((Ip n τ (n-b) b x).2);rw[hk,hr] at N ⊢;rintro _ u ⟨vr,rfl,J,x,f1⟩;have R1:=R.mono f1;have ct:u.cell a 0=some (aB n):=by rw[H.aG R1.t];rfl
 simp(disch:=omega)only[go_sem,ct]
 by_cases a2:(k:Int)=(n:Int)
 ·rw[bV a2]
  have e:k=n:=om
  subst e;simp(disch:=omega)only[go_sem];exact⟨F,τ,R1,xA.none t hi (N.in t hi),Fx.of f1,λ_ _ h=>h⟩
 rw[bM a2];have o:k<n:=by have:=N.le;omega
 have x:=N.ge;simp(disch:=omega)only[go_sem]
 refine aH (λw d P=> ∃(m:Nat) (O:Nat->V),(∃g:Nat->V,d= [.ptr a 0,g 1,aB b,aB k,vr,aB m,g 6,g 7,g 8,g 9])/\b<=m/\m<=k+1/\TwR P n a L O (pushU τ b m r)/\PV (WT n L O) P vr r/\
   Fx (WT n L F) h P/\(∀id,id<h.next->WT n L O id->WT n L F id)/\w=k+1-m) (k+1-b)
  ⟨b,F,aA rfl,fH _,om,by rw[pushU_zero];exact R1,J,Fx.of f1,λ_ _ h=>h,rfl⟩ ?_
 clear R1 ct J f1;rintro w d i ⟨m,F2,⟨g,rfl⟩,s,U,A,J,f2,w2,rfl⟩;simp(disch:=omega)only[go_sem]
 by_cases f:(m:Int)<=(k:Int)
 ·rw[bV f]
  have q:m<n:=om
  have cl:i.cell a 1=some (.sl L 0 n (.kn n)):=by rw[H.aG A.t];rfl
  have x:i.cell L (m*194)=some (F2 (m*194)):=by
   have:=A.cell (c:=0) q om;rwa [Nat.add_zero] at this
  have z:pushU τ b m r m=τ m:=by unfold pushU;rw[aZ om]
  have R:=A.ln;have R:=A.tn;simp(disch:=omega)only[go_sem,cl,x,cJ _ J.dQ.1 J.dQ.2]
  obtain⟨y,p⟩: ∃y:H,y=H.mk ((H.mk i.tr (i.next+14)).new (Ob.cells false [vr])).tr (i.next+19):=⟨_,rfl⟩
  rw[←p];have g3:y.get (i.next+14)=bX [vr]:=by rw[p];exact H.aN (H.mk i.tr (i.next+14)) _
  have x:y.next=i.next+19:=by rw[p]
  have K:Fr i y:=⟨om,λid x=>by rw[p];exact H.bJ (H.mk i.tr (i.next+14)) (by simp;omega) _⟩
  have v:=A.mono K;have a1:=J.mono K;obtain⟨i,p,G⟩:=v.gens m q;rw[z] at G;have iL:=(t m s q).1;have i:(τ m).gens.length<=1000000:=jC iL.many (jC (Nat.pow_le_pow_left hn n) (jC (Nat.pow_le_pow_right om hn) (by decide)));obtain⟨Z,a4,p4⟩:=p.push (bytes:=24) (SV.one om g3 (.kn 1)) (n:=(τ m).gens.length) (m:=1) (by have:=All2.length G;omega) rfl om om om;have gt:Z.get a=y.get a:=p4.old a om (λid i x c e p=>v.tw (.inr ⟨2*m,om,i,x,c,by rw[sl2_g,p];exact e⟩))
  have gL:Z.get L=bX (rc (n*194) F2):=by
   rw[p4.old L om (by have:=v.ap (2*m) om;rw[sl2_g] at this;exact this)];exact v.l
  have a3:Z.cell a 1=some (.sl L 0 n (.kn n)):=by unfold H.cell;rw[gt,v.t];rfl
  have c:m*194+194<=n*194:=om
  simp(disch:=omega)only[go_sem,a4,a3,eqV_sl,gL,put_rc]
  obtain⟨c,a0⟩: ∃c,c=Z.set L (bX (rc (n*194) (F1 F2 (m*194) (.sl y.next 0 ((τ m).gens.length+1) (.un 1))))):=⟨_,rfl⟩
  rw[←a0];obtain⟨R5,f5,w5⟩:=v.more q (by rw[z];exact G) a1 (by rw[z];exact p4) (by rw[z]) a0;rw[pushU_succ τ r s] at R5;rw[dX m];refine⟨k+1-(m+1),om,m+1,_,aA rfl,om,om,R5,PV.go a1 f5 w5,f2.trans ((Fx.of (W:=WT n L F2) K).trans f5 (λ_ _ h=>h)) (λid u B=>w2 id u B),λid u B=>w2 id u (w5 id (by have:=f2.next;omega) B),rfl⟩
 rw[bM f];have z:m=k+1:=om
 subst z;rw[pushU_push] at A;simp(disch:=omega)only[go_sem];have Y:=zO.start N t o
 refine aH (λw d P=> ∃(m:Nat) (O:Nat->V) (c:kV),(∃g:Nat->V,d= [.ptr a 0,g 1,aB b,g 3,g 4,g 5,aB ((m:Int)- 1),g 7,g 8,g 9])/\b<=m/\m<=k+1/\TwR P n a L O c/\zO n b k r τ c m/\
   Fx (WT n L F) h P/\(∀id,id<h.next->WT n L O id->WT n L F id)/\w=m) (k+1)
  ⟨k+1,F2,_,aA (by rw[show ((k+1:Nat):Int)- 1=(k:Int) from om];rfl),om,om,A,Y,f2,w2,rfl⟩ ?_
 clear A Y f2 w2 J f s U;rintro w d y ⟨m,F3,Q,⟨g3,rfl⟩,s,U,v,AI,K,w3,hm⟩;subst hm;simp(disch:=omega)only[go_sem]
 by_cases f:(b:Int)<=(w:Int)- 1
 ·rw[bV f]
  obtain⟨j,rfl⟩: ∃j,w=j+1:=⟨w- 1,om⟩
  have ci:=AI.ci N t o om om;simp(disch:=omega)only[go_sem];rw[show ((j+1:Nat):Int)- 1=(j:Int) from om];refine (C j om om y a L F3 Q v ci).mono ?_;rintro _ Z ⟨c,a,R4,t4,l4,g4,f4,w4⟩;simp(disch:=omega)only[go_sem];refine⟨j,om,j,c,a,aA rfl,om,om,R4,AI.next om om l4 g4 t4,K.trans f4 (λid u B=>w3 id u B),λid u B=>w3 id u (w4 id (by have:=K.next;omega) B),rfl⟩
 rw[bM f];have z:w=b:=om
 rw[z] at AI;simp(disch:=omega)only[go_sem];exact⟨F3,Q,v,AI.done N t X o,K,w3⟩
theorem add_all (n:Nat)(b:n<=7): ∀d i,i+d=n->(i<n->AddC n i)/\(i<n->CloseC n i)
 |0,i,h=>⟨λa=>om,λa=>om⟩
 |d+1,i,h=>by
  have f:=add_all n b d (i+1) om
  have c: ∀j,i<=j->j<n->CloseC n j:=λj k a=>by
   by_cases e:j=i
   ·subst e;exact close_of_add n j b a λg=>f.1 g
   ·exact (add_all n b (n-j) j om).2 a
  exact⟨λa=>add_of_close n i b a c,λa=>c i (fH _) a⟩
termination_by d=>d
theorem add_ok (n:Nat)(a:n<=7)(b:0<n):AddC n 0:=(add_all n a n 0 om).1 b
end Go.Proofs.YtapfcpkecmmagaaGreat
namespace Go.Pm
set_option maxRecDepth 100000
section
variable {x y:List Nat} {R:Ti}
def Lt (x y:List Nat):Prop:= ∃k,k<x.length/\(∀j,j<k->x.getD j 0=y.getD j 0)/\x.getD k 0<y.getD k 0
def Le (x y:List Nat):Prop:=x=y∨Lt x y
theorem Lt.asymm (a:Lt x y)(b:Lt y x):False:=by
 obtain⟨k,_,c,d⟩:=a;obtain⟨m,_,d,e⟩:=b;rcases Nat.lt_trichotomy k m with h|h|h
 ·have:=d k h;omega
 ·subst h;omega
 ·have:=c m h;omega
theorem Le.antisymm (a:Le x y)(b:Le y x):x=y:=by
 rcases a with a|a
 ·exact a
 ·rcases b with b|b
  ·exact b.symm
  ·exact (a.asymm b).elim
def kI (x:List Nat):Nat->List Nat->Nat
 |b, []=>b
 |b,q::l=>kI x (if x.getD q 0<x.getD b 0 then q else b) l
theorem Ot (x:List Nat): ∀(l:List Nat) (b:Nat),kI x b l∈b::l/\ ∀q∈b::l,x.getD (kI x b l) 0<=x.getD q 0
 | [],b=>⟨by simp [kI],λq d=>by simp at d;subst d;exact Nat.le_refl _⟩
 |q::l,b=>by
  have c:=Ot x l (if x.getD q 0<x.getD b 0 then q else b);unfold kI;refine⟨?_,λr a=>?_⟩
  ·rcases List.mem_cons.1 c.1 with h|h
   ·rw[h];split<;>simp
   ·exact List.mem_cons_of_mem _ (List.mem_cons_of_mem _ h)
  ·have e:=c.2 _ (List.mem_cons_self ..)
   rcases List.mem_cons.1 a with rfl|a
   ·split at e<;>(split<;>omega)
   ·rcases List.mem_cons.1 a with rfl|a
    ·split at e<;>(split<;>omega)
    ·exact c.2 r (List.mem_cons_of_mem _ a)
def xY (τ:kV):Nat->Nat->List Nat->List Nat
 |0,_,x=>x
 |d+1,k,x=>xY τ d (k+1) (if kI x k (τ k).orb=k then x else bD (((τ k).to (kI x k (τ k).orb)).getD []) x)
section
variable {n:Nat} {τ:kV} {G:List Nat->Prop}
theorem Vi: ∀(d k:Nat) (x:List Nat),k+d=n->kM n k τ->bT n x-> ∃h,S n τ k h/\xY τ d k x=bD h x/\ ∀g,S n τ k g->Le (xY τ d k x) (bD g x)
 |0,k,x,h,_,X=>by
  obtain rfl:k=n:=oq
  refine⟨cG k,oE.2 rfl,(fG X).symm,λg f=> .inl ?_⟩;rw[oE] at f;subst f;exact (fG X).symm
 |d+1,k,x,h,t,X=>by
  have a:k<n:=oq
  have L:=(t k (Nat.le_refl _) a).1;have m:=t.mono (Nat.le_succ k);obtain⟨N,K⟩:=Ot x (τ k).orb k
  have A:kI x k (τ k).orb∈(τ k).orb:=by
   rcases List.mem_cons.1 N with h|h
   ·rw[h];exact L.base
   ·exact h
  obtain⟨y,c⟩:=L.to A;have Y:=L.isP _ y c
  have o:(if kI x k (τ k).orb=k then x else bD (((τ k).to (kI x k (τ k).orb)).getD []) x)=bD y x:=by
   split
   ·rename_i e
    rw[e,L.one] at c;cases c;exact (fG X).symm
   ·rw[c];rfl
  unfold xY;rw[o];obtain⟨g,f,e,q⟩:=Vi d (k+1) (bD y x) oq m (Y.mul X);have l:=m.isP a f;have r:S n τ k (bD g y):=(kY a).2 ⟨_,y,g,c,f,rfl⟩;refine⟨bD g y,r,by rw[e,bN l Y X],λu z=>?_⟩;have U:=t.isP oq z;obtain⟨v,i,p⟩:=t.sift a z;have b:=L.mem i;have V:=L.isP _ v i;have F:(bD u x).getD k 0=x.getD (u.getD k 0) 0:=cX (by rw[U.len];exact a)
  have J:(bD g (bD y x)).getD k 0=x.getD (kI x k (τ k).orb) 0:=by
   rw[cX (by rw[l.len];exact a),m.fix a f k oq,cX (by rw[Y.len];exact a),L.maps _ y c]
  have O:=K _ (List.mem_cons_of_mem _ b)
  by_cases w:x.getD (kI x k (τ k).orb) 0<x.getD (u.getD k 0) 0
  ·rw[e]
   refine .inr ⟨k,by rw[eH,l.len];exact a,λj B=>?_,by rw[F,J];exact w⟩;rw[cX (by rw[l.len];omega),m.fix a f j oq,cX (by rw[Y.len];omega),L.fix _ y c j B,cX (by rw[U.len];omega),t.fix oq z j B]
  ·have s:kI x k (τ k).orb=u.getD k 0:=X.inj (L.lt a A) (L.lt a b) oq
   rw[←s,c] at i;cases i;have:=q _ p;rwa [bN U Y.inv (Y.mul X),←bN Y.inv Y X,gI Y,fG X] at this
structure yM (n:Nat)(G:List Nat->Prop)(i p:Nat)(x:List Nat):Prop where
 mem:G x
 fix:Fix i x
 maps:x.getD i 0=p
 least: ∀y,G y->Fix i y->y.getD i 0=p->Le x y
theorem yM.uniq {i p:Nat}(a:yM n G i p x)(b:yM n G i p y):x=y:=
 (a.least y b.mem b.fix b.maps).antisymm (b.least x a.mem a.fix a.maps)
structure dU (n:Nat)(G:List Nat->Prop)(O:qX)(R:Ti):Prop where
 lo:O.length=n
 lr:R.length=n
 asc: ∀i,i<n->(O.getD i []).Pairwise (· < ·)
 mem: ∀i,i<n-> ∀p,p∈O.getD i []↔ ∃x,G x/\Fix i x/\x.getD i 0=p
 rl: ∀i,i<n->(R.getD i []).length=(O.getD i []).length
 rep: ∀i,i<n-> ∀k,k<(O.getD i []).length->yM n G i ((O.getD i []).getD k 0) ((R.getD i []).getD k [])
theorem Iz: ∀{a b:List Nat},a.Pairwise (· < ·)->b.Pairwise (· < ·)->(∀p,p∈a↔p∈b)->a=b
 | [], [],_,_,_=>rfl
 | [],y::b,_,_,h=>by have:=(h y).2 (by simp);simp at this
 |x::a, [],_,_,h=>by have:=(h x).1 (by simp);simp at this
 |x::a,y::b,ha,hb,h=>by
  obtain⟨j,l⟩:=List.pairwise_cons.1 ha;obtain⟨i,k⟩:=List.pairwise_cons.1 hb
  have e:x=y:=by
   have c:=(h x).1 (by simp);have f:=(h y).2 (by simp);rcases List.mem_cons.1 c with c|c
   ·exact c
   ·rcases List.mem_cons.1 f with f|f
    ·exact f.symm
    ·have:=i x c;have:=j y f;omega
  subst e;congr 1
  refine Iz l k λp=>⟨λd=>?_,λd=>?_⟩
  ·rcases List.mem_cons.1 ((h p).1 (List.mem_cons_of_mem _ d)) with e|g
   ·subst e;have:=j p d;omega
   ·exact g
  ·rcases List.mem_cons.1 ((h p).2 (List.mem_cons_of_mem _ d)) with e|g
   ·subst e;have:=i p d;omega
   ·exact g
theorem uI {α:Type}{d:α}{a b:List α}(f:a.length=b.length)(h: ∀i,i<a.length->a.getD i d=b.getD i d):a=b:=by
 refine List.ext_getElem f λi c e=>?_
 have:=h i c;simpa [List.getD,c,e] using this
theorem dU.uniq {O c:qX}{f:Ti}(a:dU n G O R)(b:dU n G c f):O=c/\R=f:=by
 have e:O=c:=uI (d:= []) (by rw[a.lo,b.lo]) λi hi=>by
  rw[a.lo] at hi;exact Iz (a.asc i hi) (b.asc i hi) λp=>(a.mem i hi p).trans (b.mem i hi p).symm
 subst e;refine⟨rfl,uI (d:= []) (by rw[a.lr,b.lr]) λi hi=>?_⟩;rw[a.lr] at hi;refine uI (d:= []) (by rw[a.rl i hi,b.rl i hi]) λk e=>?_
 rw[a.rl i hi] at e;exact (a.rep i hi k e).uniq (b.rep i hi k e)
theorem dU.congr {H:List Nat->Prop}{O:qX}(a:dU n G O R)(h: ∀x,G x↔H x):dU n H O R:=by
 have:G=H:=funext λx=>propext (h x)
 exact this▸a
theorem kM.chain (t:kM n 0 τ){O:qX}(u:O.length=n)(A:R.length=n)
  (l: ∀i,i<n->(O.getD i []).Pairwise (· < ·)) (mem: ∀i,i<n-> ∀p,p∈O.getD i []↔p∈(τ i).orb) (w: ∀i,i<n->(R.getD i []).length=(O.getD i []).length)
  (j: ∀i,i<n-> ∀k,k<(O.getD i []).length-> ∀y,(τ i).to ((O.getD i []).getD k 0)=some y->(R.getD i []).getD k []=xY τ (n-(i+1)) (i+1) y):dU n (S n τ 0) O R:=by
 refine⟨u,A,l,λi hi p=>?_,w,λi hi k q=>?_⟩
 ·have L:=(t i (Nat.zero_le _) hi).1
  have d:=t.mono (Nat.zero_le i)
  rw[mem i hi p]
  constructor
  ·intro h
   obtain⟨y,a⟩:=L.to h
   have v:S n τ i y:=(d.gen hi).2 (L.gen p y a)
   have:=(t.Ih (Nat.zero_le i) oq).1 v
   exact⟨y,this.1,this.2,L.maps p y a⟩
  ·rintro⟨x,c,f,rfl⟩
   obtain⟨y,a,_⟩:=d.sift hi ((t.Ih (Nat.zero_le i) oq).2 ⟨c,f⟩)
   exact L.mem a
 ·have L:=(t i (Nat.zero_le _) hi).1
  have d:=t.mono (Nat.zero_le i)
  have o:=t.mono (Nat.zero_le (i+1))
  have h:(O.getD i []).getD k 0∈O.getD i []:=by
   rw[bP q];exact List.getElem_mem q
  obtain⟨y,a⟩:=L.to ((mem i hi _).1 h)
  rw[j i hi k q y a]
  generalize (O.getD i []).getD k 0=p at a
  have Y:=L.isP p y a
  obtain⟨h,g,e,b⟩:=Vi (n-(i+1)) (i+1) y oq o Y
  have H:=o.isP hi g
  have m:S n τ i (bD h y):=(kY hi).2 ⟨p,y,h,a,g,rfl⟩
  have h:=(t.Ih (Nat.zero_le i) oq).1 m
  rw[e] at b ⊢
  refine⟨h.1,h.2,?_,λz c f e=>?_⟩
  ·rw[cX (by rw[H.len];exact hi),o.fix hi g i oq,L.maps p y a]
  ·obtain⟨v,s,r⟩:=d.sift hi ((t.Ih (Nat.zero_le i) oq).2 ⟨c,f⟩)
   rw[e,a] at s
   cases s
   have Z:=t.isP (Nat.zero_le _) c
   have:=b _ r
   rwa [bN Z Y.inv Y,gI Y,dA Z] at this
theorem xA.group {i:Nat}{c:kV}(a:xA n i x τ c)(t:kM n i τ)(hi:i<n)(X:bT n x)(z:List Nat):Go.Pm.S n c i z↔fA n (λg=>Go.Pm.S n τ i g∨g=x) z:=by
 have L:=(t i (Nat.le_refl _) hi).1
 have d: ∀g,(Go.Pm.S n τ i g∨g=x)->bT n g:=λg b=>by
  rcases b with b|rfl
  ·exact t.isP oq b
  ·exact X
 rw[a.tw.gen hi];constructor
 ·intro h
  refine h.le (fA.grp d) λg b=>(a.new g b).mono λu d=>?_
  rcases d with d|d
  ·exact .inl ((t.gen hi).2 (fA.of L.gP d))
  ·exact .inr d
 ·intro h
  refine h.le (fA.grp (a.tw i (Nat.le_refl _) hi).1.gP) λg b=>?_
  rcases b with b|rfl
  ·exact ((t.gen hi).1 b).mono a.old
  ·exact a.has
end
end
section
variable {j:Nat} {y:List Nat}
abbrev mF:=Nat->Nat->Option (List Nat)
def ins (t:mF):Nat->Nat->List Nat->Option (Nat×List Nat)
 |0,_,_=>none
 |d+1,i,x=>if x.getD i 0=i then ins t d (i+1) x else
  match t i (x.getD i 0) with
  |none=>some (i,x)
  |some y=>ins t d (i+1) (bD x (dH y))
def dd:qX->qX
 | []=> []
 |a::l=>if a∈dd l then dd l else a::dd l
theorem Fw {a:List Nat}: ∀{l:qX},a∈dd l↔a∈l
 | []=>Iff.rfl
 |b::l=>by
  unfold dd;have d:=Fw (a:=a) (l:=l);split
  ·rename_i h
   rw[d];constructor
   ·exact List.mem_cons_of_mem _
   ·intro c
    rcases List.mem_cons.1 c with rfl|c
    ·exact d.1 h
    ·exact c
  ·simp [d]
theorem Ar: ∀l:qX,(dd l).Nodup
 | []=>List.nodup_nil
 |b::l=>by
  unfold dd;split
  ·exact Ar l
  ·rename_i h;exact List.nodup_cons.2 ⟨h,Ar l⟩
def eU (n:Nat)(t:mF)(j:Nat):qX:=(List.range n).flatMap λi=>if j<=i then (List.range n).filterMap λp=>t i p else []
theorem fE {n:Nat}{t:mF}:y∈eU n t j↔ ∃i p,j<=i/\i<n/\p<n/\t i p=some y:=by
 simp only[eU,List.mem_flatMap,List.mem_range];constructor
 ·rintro⟨i,hi,h⟩
  split at h
  ·rename_i a
   obtain⟨p,b,e⟩:=List.mem_filterMap.1 h;exact⟨i,p,a,hi,List.mem_range.1 b,e⟩
  ·simp at h
 ·rintro⟨i,p,a,hi,b,e⟩
  refine⟨i,hi,?_⟩;rw[if_pos a];exact List.mem_filterMap.2 ⟨p,List.mem_range.2 b,e⟩
def iW (n:Nat)(t:mF):kV:=λj=>
 {gens:=dd (eU n t j)
  orb:=(List.range n).filter λp=>p==j||(t j p).isSome
  to:=λp=>if p=j then some (cG n) else t j p
  tr:=λq=>if q=j∨(t j q).isSome then (dd (eU n t j)).length else 0}
structure kF (n:Nat)(t:mF):Prop where
 lt: ∀i p y,t i p=some y->i<n/\p<n/\p≠i
 isP: ∀i p y,t i p=some y->bT n y
 fix: ∀i p y,t i p=some y->Fix i y
 maps: ∀i p y,t i p=some y->y.getD i 0=p
def wQ (n:Nat)(t:mF):Prop:= ∀a b,a∈eU n t 0->b∈eU n t 0->ins t n 0 (bD a b)=none
section
variable {n:Nat} {t:mF}
theorem nY {p:Nat}(T:kF n t)(b:j<n)(h:(iW n t j).to p=some y):bT n y/\Fix j y/\y.getD j 0=p/\(p=j/\y=cG n∨t j p=some y):=by
 have a:(if p=j then some (cG n) else t j p)=some y:=h;split at a
 ·rename_i e
  cases a;exact⟨bT.one n,Fix.one n j oq,by rw[e];exact eP b,.inl ⟨e,rfl⟩⟩
 ·exact⟨T.isP _ _ _ a,T.fix _ _ _ a,T.maps _ _ _ a,.inr a⟩
theorem Td (T:kF n t): ∀(d j:Nat) (x:List Nat),j+d=n->S n (iW n t) j x->bT n x/\Fix j x
 |0,j,x,h,hs=>by
  obtain rfl:j=n:=oq
  rw[oE] at hs;subst hs;exact⟨bT.one j,Fix.one j j (Nat.le_refl _)⟩
 |d+1,j,x,h,hs=>by
  obtain⟨p,y,g,a,b,rfl⟩:=(kY oq).1 hs;obtain⟨G,F⟩:=Td T d (j+1) g oq b;obtain⟨Y,F2,_⟩:=nY T oq a;exact⟨G.mul Y,Fix.mul G oq (F.mono oq) F2⟩
theorem Aj (j:Nat)(a:j<n){x:List Nat}(X:bT n x)(h:S n (iW n t) (j+1) x):S n (iW n t) j x:=
 (kY a).2 ⟨j,cG n,x,by show (if j=j then some (cG n) else t j j)=_;rw[if_pos rfl],h,(dA X).symm⟩
theorem Kk: ∀(d j:Nat),j+d=n->S n (iW n t) j (cG n)
 |0,j,h=>by
         obtain rfl:j=n:=oq
         exact oE.2 rfl
 |d+1,j,h=>Aj j oq (bT.one n) (Kk d (j+1) oq)
theorem zQ (T:kF n t): ∀(d j:Nat) (x:List Nat),j+d=n->bT n x->Fix j x->ins t d j x=none->S n (iW n t) j x
 |0,j,x,h,X,F,_=>by
  obtain rfl:j=n:=oq
  exact oE.2 (F.all X)
 |d+1,j,x,h,X,F,hi=>by
  unfold ins at hi;split at hi
  ·rename_i e
   exact Aj j oq X (zQ T d (j+1) x oq X (F.succ e) hi)
  ·rename_i e
   split at hi
   ·cases hi
   ·rename_i y a
    have Y:=T.isP _ _ _ a;have F2:=T.fix _ _ _ a;refine (kY oq).2 ⟨x.getD j 0,y,bD x (dH y),?_,?_,by rw[bN X Y.inv Y,gI Y,dA X]⟩
    ·show (if x.getD j 0=j then some (cG n) else t j (x.getD j 0))=_
     rw[if_neg e];exact a
    ·refine zQ T d (j+1) _ oq (X.mul Y.inv) ((Fix.mul X oq F (Fix.inv Y oq F2)).succ ?_) hi
     rw[cX (by rw[X.len];omega)];have:=nH Y (show j<n by omega);rwa [T.maps _ _ _ a] at this
theorem Hx: ∀(k d j:Nat) (x:List Nat),Fix (j+k) x->ins t (d+k) j x=ins t d (j+k) x
 |0,_,_,_,_=>rfl
 |k+1,d,j,x,F=>by
  have e:ins t (d+k+1) j x=ins t (d+k) (j+1) x:=by
   show (if x.getD j 0=j then ins t (d+k) (j+1) x else _)=_;rw[if_pos (F j oq)]
  rw[show d+(k+1)=(d+k)+1 from rfl,e,Hx k d (j+1) x (by rw[show j+1+k=j+(k+1) from oq];exact F),show j+1+k=j+(k+1) from oq]
theorem Tt (T:kF n t)(c:wQ n t){a b:List Nat}(g:j<=n)(i:a∈eU n t 0)(e:b∈eU n t 0)(A:bT n a)(B:bT n b)(d:Fix j a)(f:Fix j b):S n (iW n t) j (bD a b):=by
 have F:=Fix.mul A g d f;have h:=c a b i e;rw[show n=(n-j)+j from oq,Hx j (n-j) 0 _ (by rw[Nat.zero_add];exact F),Nat.zero_add] at h;exact zQ T (n-j) j _ oq (A.mul B) F h
theorem FW (T:kF n t)(h:y∈eU n t j):S n (iW n t) j y:=by
 obtain⟨i,p,b,b,c,e⟩:=fE.1 h;have Y:=T.isP _ _ _ e
 have a:S n (iW n t) i y:=by
  refine (kY b).2 ⟨p,y,cG n,?_,Kk (n-(i+1)) (i+1) oq,(fG Y).symm⟩;show (if p=i then some (cG n) else t i p)=_;rw[if_neg (T.lt _ _ _ e).2.2];exact e
 have: ∀k,k<=i->S n (iW n t) (i-k) y:=by
  intro k
  induction k with
  |zero=>intro _;exact a
  |succ k ih=>
   intro a;refine Aj (i-(k+1)) oq Y ?_;rw[show i-(k+1)+1=i-k from oq];exact ih oq
 have:=this (i-j) oq;rwa [show i-(i-j)=j from oq] at this
theorem Oj (T:kF n t)(c:wQ n t):kM n 0 (iW n t):=λj _ f=>by
 have d: ∀p,p∈(iW n t j).orb↔((iW n t j).to p).isSome:=by
  intro p;show p∈(List.range n).filter (λp=>p==j||(t j p).isSome)↔(if p=j then some (cG n) else t j p).isSome;rw[List.mem_filter,List.mem_range]
  by_cases e:p=j
  ·subst e;simp [f]
  ·simp only[beq_iff_eq,e,if_neg,Bool.or_eq_true,false_or]
   constructor
   ·exact λh=>h.2
   ·intro h
    obtain⟨y,G⟩:=Option.isSome_iff_exists.1 h;exact⟨(T.lt _ _ _ G).2.1,h⟩
 have a: ∀s,s∈(iW n t j).gens↔s∈eU n t j:=λs=>Fw
 have b: ∀s,s∈eU n t j->bT n s/\Fix j s/\s∈eU n t 0:=λs l=>by
  obtain⟨i,p,v,o,r,e⟩:=fE.1 l;exact⟨T.isP _ _ _ e,(T.fix _ _ _ e).mono v,fE.2 ⟨i,p,Nat.zero_le _,o,r,e⟩⟩
 refine⟨⟨List.nodup_range.filter _,(d j).2 ?_,?_,d,λp y h=>(nY T f h).1,λp y h=>(nY T f h).2.1,λp y h=>(nY T f h).2.2.1,λp y h=>?_,λs l=>(b s ((a s).1 l)).1,λs l=>(b s ((a s).1 l)).2.1,Ar _,λq=>?_,λq x=>?_⟩,λq y G k s Z l=>?_,λq x=>?_,λh s l=>?_⟩
 ·show (if j=j then some (cG n) else t j j).isSome
  rw[if_pos rfl];rfl
 ·show (if j=j then some (cG n) else t j j)=_
  rw[if_pos rfl]
 ·rcases (nY T f h).2.2.2 with ⟨_,rfl⟩|e
  ·exact .one
  ·refine fA.of (λg A=>(b g ((a g).1 A)).1) ((a y).2 (fE.2 ⟨j,p,Nat.le_refl _,f,(T.lt _ _ _ e).2.1,e⟩))
 ·show (if q=j∨(t j q).isSome then (dd (eU n t j)).length else 0)<=_
  split
  ·exact Nat.le_refl _
  ·exact Nat.zero_le _
 ·show (if q=j∨(t j q).isSome then (dd (eU n t j)).length else 0)=0
  rw[if_neg];rintro (e|e)
  ·exact x ((d q).2 (by show (if q=j then some (cG n) else t j q).isSome;rw[if_pos e];rfl))
  ·refine x ((d q).2 ?_)
   show (if q=j then some (cG n) else t j q).isSome;split
   ·rfl
   ·exact e
 ·--closure
  have w:s∈eU n t j:=(a s).1 (List.mem_of_getElem? l);obtain⟨J,L,F⟩:=b s w;obtain⟨Y,R,my,m⟩:=nY T f G
  have O:S n (iW n t) j (bD y s):=by
   rcases m with ⟨_,rfl⟩|e
   ·rw[fG J];exact FW T w
   ·exact Tt T c oq (fE.2 ⟨j,q,Nat.zero_le _,f,(T.lt _ _ _ e).2.1,e⟩) F Y J R L
  obtain⟨p,u,g,v,o,r⟩:=(kY f).1 O;obtain⟨U,W,P,_⟩:=nY T f v;obtain⟨B,Q⟩:=Td T (n-(j+1)) (j+1) g oq o
  have N:(bD y s).getD j 0=p:=by
   rw[r,cX (by rw[B.len];exact f),Q j oq,P]
  refine⟨u,by rw[N];exact v,?_⟩;rw[r,bN B U U.inv,iH U,dA B];exact o
 ·show (if q=j∨(t j q).isSome then (dd (eU n t j)).length else 0)=(dd (eU n t j)).length
  rw[if_pos];have:=(d q).1 x;have K:(if q=j then some (cG n) else t j q).isSome:=this;split at K
  ·rename_i e;exact .inl e
  ·exact .inr K
 ·have z:s∈eU n t (j+1):=Fw.1 l
  obtain⟨i,p,v,o,r,e⟩:=fE.1 z;exact fA.of (λg A=>(b g ((a g).1 A)).1) ((a s).2 (fE.2 ⟨i,p,oq,o,r,e⟩))
theorem Mf (T:kF n t)(c:wQ n t)(a:0<n)(x:List Nat):S n (iW n t) 0 x↔fA n (· ∈eU n t 0) x:=by
 rw[(Oj T c).gen a];have:(λg=>g∈(iW n t 0).gens)=λg=>g∈eU n t 0:=funext λg=>propext Fw
 rw[this]
def put (t:mF)(i p:Nat)(x:List Nat):mF:=λj q=>if j=i/\q=p then some x else t j q
def iA (t:mF)(n:Nat)(x:List Nat):mF:=match ins t n 0 x with
 |none=>t
 |some (i,r)=>put t i (r.getD i 0) r
theorem rV (T:kF n t): ∀(d j:Nat) (x:List Nat) (i:Nat) (r:List Nat),j+d=n->bT n x->Fix j x->ins t d j x=some (i,r)->
  j<=i/\i<n/\bT n r/\Fix i r/\r.getD i 0≠i/\t i (r.getD i 0)=none/\ ∃w,fA n (· ∈eU n t 0) w/\x=bD r w
 |0,_,_,_,_,_,_,_,h=>by cases h
 |d+1,j,x,i,r,h,X,F,hi=>by
  unfold ins at hi;split at hi
  ·rename_i e
   obtain⟨l,b⟩:=rV T d (j+1) x i r oq X (F.succ e) hi;exact⟨oq,b⟩
  ·rename_i e
   split at hi
   ·rename_i q
    cases hi;exact⟨Nat.le_refl _,oq,X,F,e,q,cG n,.one,(dA X).symm⟩
   ·rename_i y a
    have Y:=T.isP _ _ _ a
    have u: ∀g,g∈eU n t 0->bT n g:=λg m=>by
     obtain⟨_,_,_,_,_,e⟩:=fE.1 m;exact T.isP _ _ _ e
    obtain⟨l,b,k,o,p,v,w,f,s⟩:=rV T d (j+1) _ i r oq (X.mul Y.inv) ((Fix.mul X oq F (Fix.inv Y oq (T.fix _ _ _ a))).succ (by
     rw[cX (by rw[X.len];omega)];have:=nH Y (show j<n by omega)
     rwa [T.maps _ _ _ a] at this)) hi
    have c:y∈eU n t 0:=fE.2 ⟨j,_,Nat.zero_le _,oq,(T.lt _ _ _ a).2.1,a⟩;refine⟨oq,b,k,o,p,v,bD w y,f.mul c,?_⟩;rw[←bN k (f.isP u) Y,←s,bN X Y.inv Y,gI Y,dA X]
theorem qI (T:kF n t): ∀(d j:Nat) (x:List Nat),j+d=n->bT n x->Fix j x->ins t d j x=none->fA n (· ∈eU n t 0) x
 |0,j,x,h,X,F,_=>by
  obtain rfl:j=n:=oq
  rw[F.all X];exact .one
 |d+1,j,x,h,X,F,hi=>by
  unfold ins at hi;split at hi
  ·rename_i e
   exact qI T d (j+1) x oq X (F.succ e) hi
  ·rename_i e
   split at hi
   ·cases hi
   ·rename_i y a
    have Y:=T.isP _ _ _ a
    have b:=qI T d (j+1) _ oq (X.mul Y.inv) ((Fix.mul X oq F (Fix.inv Y oq (T.fix _ _ _ a))).succ (by
     rw[cX (by rw[X.len];omega)];have:=nH Y (show j<n by omega)
     rwa [T.maps _ _ _ a] at this)) hi
    have:=b.mul (fE.2 ⟨j,_,Nat.zero_le _,oq,(T.lt _ _ _ a).2.1,a⟩);rwa [bN X Y.inv Y,gI Y,dA X] at this
def Sub (t t':mF):Prop:= ∀i p y,t i p=some y->t' i p=some y
theorem vH {a:mF}(s:Sub t a): ∀(d j:Nat) (x:List Nat),ins t d j x=none->ins a d j x=none
 |0,_,_,_=>rfl
 |d+1,j,x,h=>by
  unfold ins at h ⊢;split at h
  ·rename_i e;rw[if_pos e];exact vH s d _ _ h
  ·rename_i e
   rw[if_neg e];split at h
   ·cases h
   ·rename_i y b
    rw[s _ _ _ b];exact vH s d _ _ h
theorem Np {i p:Nat}{x:List Nat}(h:t i p=none):Sub t (put t i p x):=λj q y a=>by
 unfold put;rw[if_neg (λe=>by rw[e.1,e.2,h] at a;cases a)];exact a
theorem Fy (T:kF n t): ∀(d j:Nat) (x:List Nat) (i:Nat) (r:List Nat),j+d=n->bT n x->Fix j x->ins t d j x=some (i,r)->ins (put t i (r.getD i 0) r) d j x=none
 |0,_,_,_,_,_,_,_,h=>by cases h
 |d+1,j,x,i,r,h,X,F,hi=>by
  obtain⟨o,g,m,f,l,c,_⟩:=rV T (d+1) j x i r h X F hi;have sub:=Np (t:=t) (x:=r) c;unfold ins at hi ⊢;split at hi
  ·rename_i e;rw[if_pos e];exact Fy T d (j+1) x i r oq X (F.succ e) hi
  ·rename_i e
   rw[if_neg e];split at hi
   ·cases hi
    have:put t j (x.getD j 0) x j (x.getD j 0)=some x:=by unfold put;rw[if_pos ⟨rfl,rfl⟩]
    rw[this];simp only;rw[iH X]
    have: ∀(d j:Nat),j+d=n-> ∀b:mF,ins b d j (cG n)=none:=by
     intro d
     induction d with
     |zero=>intro _ _ _;rfl
     |succ d ih=>intro j k b;unfold ins;rw[if_pos (eP oq)];exact ih (j+1) oq b
    exact this d (j+1) oq _
   ·rename_i y a
    have Y:=T.isP _ _ _ a;rw[sub _ _ _ a]
    exact Fy T d (j+1) _ i r oq (X.mul Y.inv) ((Fix.mul X oq F (Fix.inv Y oq (T.fix _ _ _ a))).succ (by
     rw[cX (by rw[X.len];omega)];have:=nH Y (show j<n by omega)
     rwa [T.maps _ _ _ a] at this)) hi
end
end
section
variable {x:List Nat}
section
variable {n:Nat} {t:mF}
theorem kF.Ru (T:kF n t){j:Nat}: ∀g,g∈eU n t j->bT n g:=λg a=>by
 obtain⟨_,_,_,_,_,e⟩:=fE.1 a;exact T.isP _ _ _ e
theorem Sub.refl (t:mF):Sub t t:=λ_ _ _ h=>h
theorem Sub.trans {a b c:mF}(x:Sub a b)(y:Sub b c):Sub a c:=λi p z h=>y i p z (x i p z h)
theorem kF.empty (n:Nat):kF n (λ_ _=>none):=⟨λ_ _ _ h=>(by cases h),λ_ _ _ h=>(by cases h),λ_ _ _ h=>(by cases h),λ_ _ _ h=>(by cases h)⟩
theorem AZ (T:kF n t)(X:bT n x):kF n (iA t n x)/\Sub t (iA t n x)/\ins (iA t n x) n 0 x=none/\ ∀g,g∈eU n (iA t n x) 0->fA n (λu=>u∈eU n t 0∨u=x) g:=by
 unfold iA
 cases h:ins t n 0 x with
 |none=>exact⟨T,Sub.refl t,h,λg l=>fA.of (λu c=>by rcases c with c|rfl;exact T.Ru u c;exact X) (.inl l)⟩
 |some q=>
  obtain⟨i,r⟩:=q;have o:Fix 0 x:=λk L=>oq
  obtain⟨K,m,f,s,z,A,w,p,B⟩:=rV T n 0 x i r oq X o h
  have a: ∀j q y,put t i (r.getD i 0) r j q=some y->(j=i/\q=r.getD i 0/\y=r)∨t j q=some y:=λj q y b=>by
   unfold put at b;split at b
   ·rename_i e;cases b;exact .inl ⟨e.1,e.2,rfl⟩
   ·exact .inr b
  refine⟨⟨λj q y b=>?_,λj q y b=>?_,λj q y b=>?_,λj q y b=>?_⟩,Np A,Fy T n 0 x i r oq X o h,λg l=>?_⟩
  ·rcases a j q y b with ⟨rfl,rfl,rfl⟩|h
   ·exact⟨m,f.dZ m,z⟩
   ·exact T.lt _ _ _ h
  ·rcases a j q y b with ⟨rfl,rfl,rfl⟩|h
   ·exact f
   ·exact T.isP _ _ _ h
  ·rcases a j q y b with ⟨rfl,rfl,rfl⟩|h
   ·exact s
   ·exact T.fix _ _ _ h
  ·rcases a j q y b with ⟨rfl,rfl,rfl⟩|h
   ·rfl
   ·exact T.maps _ _ _ h
  ·have d: ∀u,(u∈eU n t 0∨u=x)->bT n u:=λu c=>by
    rcases c with c|rfl
    ·exact T.Ru u c
    ·exact X
   obtain⟨j,q,F,v,J,e⟩:=fE.1 l;rcases a j q g e with ⟨_,_,rfl⟩|h
   ·have W:=p.isP T.Ru
    have G:g=bD x (dH w):=by rw[B,bN f W W.inv,iH W,dA f]
    rw[G];exact (fA.of d (.inr rfl)).app d ((p.mono λu c=>Or.inl c).inv d)
   ·exact fA.of d (.inl (fE.2 ⟨j,q,F,v,J,h⟩))
structure Az (n:Nat)(L:List Nat->Prop)(t:mF):Prop where
 tab:kF n t
 gen: ∀g,g∈eU n t 0->fA n L g
variable {L:List Nat->Prop}
theorem Az.ins (a:Az n L t)(c: ∀g,L g->bT n g)(d:fA n L x):Az n L (iA t n x)/\Sub t (iA t n x)/\Go.Pm.ins (iA t n x) n 0 x=none:=by
 obtain⟨e,f,i,h⟩:=AZ a.tab (d.isP c);refine⟨⟨e,λg e=>(h g e).le (fA.grp c) λu b=>?_⟩,f,i⟩;rcases b with b|rfl
 ·exact a.gen u b
 ·exact d
theorem Az.group (a:Az n L t)(b: ∀g,L g->bT n g)(e:0<n)(c:wQ n t)(hi: ∀g,L g->Go.Pm.ins t n 0 g=none)(x:List Nat):S n (iW n t) 0 x↔fA n L x:=by
 rw[Mf a.tab c e];constructor
 ·exact λh=>h.le (fA.grp b) a.gen
 ·exact λh=>h.le (fA.grp a.tab.Ru) λg d=>qI a.tab n 0 g oq (b g d) (λk f=>oq) (hi g d)
structure Wh (n:Nat)(L:List Nat->Prop)(τ:kV):Prop where
 tw:kM n 0 τ
 group: ∀x,S n τ 0 x↔fA n L x
theorem Wh.start (a:0<n):Wh n (λ_=>False) (Ui n):=by
 refine⟨Uz n,λx=>?_⟩;rw[(Uz n).gen a];have:(λg=>g∈(Ui n 0).gens)=λ_=>False:=funext λg=>propext ⟨λh=>(by cases h),λh=>h.elim⟩
 rw[this]
theorem Wh.add {τ d:kV}(a:Wh n L τ)(j:0<n)(e: ∀g,L g->bT n g)(X:bT n x)(b:xA n 0 x τ d):Wh n (λg=>L g∨g=x) d:=by
 refine⟨b.tw,λz=>?_⟩
 have f: ∀g,(L g∨g=x)->bT n g:=λg c=>by
  rcases c with c|rfl
  ·exact e g c
  ·exact X
 rw[b.group a.tw j X z];constructor
 ·intro h
  refine h.le (fA.grp f) λg c=>?_
  rcases c with c|rfl
  ·exact ((a.group g).1 c).mono λu i=> .inl i
  ·exact fA.of f (.inr rfl)
 ·intro h
  refine h.mono λg c=>?_
  rcases c with c|rfl
  ·exact .inl ((a.group g).2 (fA.of e c))
  ·exact .inr rfl
theorem Wh.congr {M:List Nat->Prop}{τ:kV}(a:Wh n L τ)(h: ∀g,L g↔M g):Wh n M τ:=by
 have:L=M:=funext λg=>propext (h g)
 exact this▸a
end
def Co (n:Nat)(R:Ti):List Nat->Prop:=fA n λg=>g∈R.flatten
def Valid (n:Nat)(O:qX)(R:Ti):Prop:=(∀g∈R.flatten,bT n g)/\dU n (Co n R) O R
theorem Valid.iff {n:Nat}{O a:qX}{R b:Ti}(d: ∀g∈R.flatten,bT n g)(c:dU n (Co n R) a b):Valid n O R↔O=a/\R=b:=by
 constructor
 ·rintro⟨_,h⟩;exact h.uniq c
 ·rintro⟨rfl,rfl⟩;exact⟨d,c⟩
theorem Valid.grp {n:Nat}{O:qX}{R:Ti}(v:Valid n O R):mD n (Co n R):=fA.grp v.1
end
end Go.Pm
namespace Go.Proofs.YtapfcpkecmmagaaGreat
open Go Go.Ay Go.Pm
set_option maxRecDepth 100000
def zlev (c:Nat):V:=if c<130 then .aD else aB 0
def lv0:Lv:=⟨[], [],λ_=>none,λ_=>0⟩
theorem zlev_rc: [V.aD,V.aD,V.aD,V.aD,V.aD,V.aD,V.aD,V.aD,V.aD,V.aD,V.aD,V.aD,V.aD,V.aD,V.aD,V.aD,V.aD,V.aD,V.aD,V.aD,V.aD,V.aD,V.aD,V.aD,V.aD,V.aD,V.aD,V.aD,V.aD,V.aD,V.aD,V.aD,V.aD,V.aD,V.aD,V.aD,V.aD,V.aD,V.aD,V.aD,V.aD,V.aD,V.aD,V.aD,V.aD,V.aD,V.aD,V.aD,V.aD,V.aD,V.aD,V.aD,V.aD,V.aD,V.aD,V.aD,V.aD,V.aD,V.aD,V.aD,V.aD,V.aD,V.aD,V.aD,V.aD,V.aD,V.aD,V.aD,V.aD,V.aD,V.aD,V.aD,V.aD,V.aD,V.aD,V.aD,V.aD,V.aD,V.aD,V.aD,V.aD,V.aD,V.aD,V.aD,V.aD,V.aD,V.aD,V.aD,V.aD,V.aD,V.aD,V.aD,V.aD,V.aD,V.aD,V.aD,V.aD,V.aD,V.aD,V.aD,V.aD,V.aD,V.aD,V.aD,V.aD,V.aD,V.aD,V.aD,V.aD,V.aD,V.aD,V.aD,V.aD,V.aD,V.aD,V.aD,V.aD,V.aD,V.aD,V.aD,V.aD,V.aD,V.aD,V.aD,V.aD,V.aD,V.aD,V.aD,V.aD,V.aD,(aB 0),(aB 0),(aB 0),(aB 0),(aB 0),(aB 0),(aB 0),(aB 0),(aB 0),(aB 0),(aB 0),(aB 0),(aB 0),(aB 0),(aB 0),(aB 0),(aB 0),(aB 0),(aB 0),(aB 0),(aB 0),(aB 0),(aB 0),(aB 0),(aB 0),(aB 0),(aB 0),(aB 0),(aB 0),(aB 0),(aB 0),(aB 0),(aB 0),(aB 0),(aB 0),(aB 0),(aB 0),(aB 0),(aB 0),(aB 0),(aB 0),(aB 0),(aB 0),(aB 0),(aB 0),(aB 0),(aB 0),(aB 0),(aB 0),(aB 0),(aB 0),(aB 0),(aB 0),(aB 0),(aB 0),(aB 0),(aB 0),(aB 0),(aB 0),(aB 0),(aB 0),(aB 0),(aB 0),(aB 0)]=rc 194 zlev:=rfl
theorem zeros_lev (n:Nat):dN (rc 194 zlev) (n*194)=rc (n*194) λc=>zlev (c%194):=by
 refine List.ext_getElem (by simp [dN,cK]) λi a a=>?_
 simp [dN,rc];rw[List.getElem?_range (Nat.mod_lt _ om)];rfl
def twU (n i:Nat):kV:=λj=>if j<i then Ui n j else lv0
theorem TwR.congr {h:H}{n d L:Nat}{F:Nat->V}{τ c:kV}(R:TwR h n d L F τ)(e: ∀j,j<n->τ j=c j):TwR h n d L F c:=
 ⟨R.t,R.l,R.tn,R.ln,R.tw,λj p a b=>by rw[←e j a];exact R.to j p a b,λj p a b=>by rw[←e j a];exact R.iv j p a b,λj p a b=>by rw[←e j a];exact R.tr j p a b,
  λj a=>by rw[←e j a];exact R.gens j a,λj a=>by rw[←e j a];exact R.orb j a,R.dis,R.ap⟩
theorem newTower_ok (n:Nat)(h:H)(h0:0<n)(hn:n<=7):
  Ev T 155 [aB n] h (λv h'=> ∃tid L F,v= .ptr tid 0/\TwR h' n tid L F (Ui n)/\Fr h h'/\ ∀id,WT n L F id->h.next<=id):=by
 refine bH c_chain_newTower rfl rfl ?_
 have hm:uJ h 194 3632 (rc 194 zlev) (aB n) (aB n)=some (.sl h.next 0 n (.kn n),h.new (.cells false (rc (n*194) λc=>zlev (c%194)))):=by
  rw[lZ om (Int.le_refl _) om om,Cd,zeros_lev]
 obtain⟨w,K⟩: ∃w:Nat->V,w=λc=>zlev (c%194):=⟨_,rfl⟩
 obtain⟨L,U⟩:=IP h.next
 rw[U,←K] at hm
 simp(disch:=omega)only[go_sem,c_chain_newTower,aF,zlev_rc,hm,Vk (z1:= aB 0) (z2:= .aD) (v:= aB n) (u:= .sl L 0 n (.kn n)) rfl rfl rfl rfl,Eh _ (v:= aB n) (u:= .sl L 0 n (.kn n)) rfl rfl,U]
 obtain⟨d,m⟩: ∃d,d=(h.new (.cells false (rc (n*194) w))).new (.cells false [aB n,.sl L 0 n (.kn n)]):=⟨_,rfl⟩
 rw[←m]
 have g1:d.get L=some (.cells false (rc (n*194) w)):=by rw[m,H.bJ _ (by rw[H.aY];omega),←U,H.aN]
 have g2:d.get (L+1)=some (.cells false [aB n,.sl L 0 n (.kn n)]):=by
  rw[m];have:=H.aN (h.new (.cells false (rc (n*194) w))) (.cells false [aB n,.sl L 0 n (.kn n)]);rwa [H.aY,U] at this
 have n2:d.next=L+2:=by rw[m,H.aY,H.aY,U]
 have f2:Fr h d:=by rw[m];exact ((Fr.refl h).new _).new _
 clear m hm
 have s0: ∀s,s<2*n->sl2 w s= .aD:=λs _=>by
  unfold sl2 zlev at*;rw[K];simp only;rw[aV om]
 have w0: ∀id,WT n L w id->id=L:=λid x=>by
  rcases x with e|⟨s,hs,a4,len,c,e⟩
  ·exact e
  ·rw[s0 s hs] at e;cases e
 have Z: ∀j c,c<194->w (j*194+c)=zlev c:=λj c hc=>by
  rw[K];simp only;rw[Nat.mul_comm,Nat.mul_add_mod,Nat.mod_eq_of_lt hc]
 have z1: ∀j b c,b+c<194->w (j*194+b+c)=zlev (b+c):=λj b c hc=>by rw[Nat.add_assoc];exact Z j (b+c) hc
 have R:TwR d n (L+1) L w (twU n 0):=by
  refine⟨g2,g1,om,om,λx=>by have:=w0 _ x;omega,λj p a d=>?_,λj p a d=>?_,λj p a d=>?_,λj hj=>⟨[],?_,trivial⟩,λj hj=>?_,λs s' a d _=>?_,λs a=>?_⟩
  ·rw[z1 j 2 p om];unfold zlev;rw[aV om];rfl
  ·rw[z1 j 66 p om];unfold zlev;rw[aV om];rfl
  ·rw[z1 j 130 p om];unfold zlev;rw[aZ om];rfl
  ·have:=Z j 0 om
   rw[Nat.add_zero] at this;rw[this];exact Own.aD ..
  ·rw[Z j 1 om];exact Own.aD ..
  ·rw[s0 s a];intro i o n c e;cases e
  ·rw[s0 s a];exact dF.aD _
 have a1:d.cell (L+1) 1=some (.sl L 0 n (.kn n)):=by rw[H.aG g2];rfl
 simp(disch:=omega)only[go_sem,a1]
 refine aH (λk' G hh=> ∃(i:Nat) (F:Nat->V),(∃g:Nat->V,G= [aB n,g 1,.ptr (L+1) 0,g 3,g 4,aB n,aB i,g 7])/\i<=n/\TwR hh n (L+1) L F (twU n i)/\Fr h hh/\(∀id,WT n L F id->h.next<=id)/\k'=n-i) n
  ⟨0,w,aA rfl,eY _,R,f2,λid x=>by rw[w0 id x];omega,rfl⟩ ?_
 clear R g1 g2 n2 f2 s0 w0 Z z1
 rintro k' G h3 ⟨i,F,⟨g,rfl⟩,hi,R,f,x,rfl⟩
 simp(disch:=omega)only[go_sem]
 by_cases Q:(i:Int)<(n:Int)
 ·rw[bV Q]
  have O:i<n:=om
  have cl:h3.cell (L+1) 1=some (.sl L 0 n (.kn n)):=by rw[H.aG R.t];rfl
  have ln:=R.ln
  have hN:i*194+194<=n*194:=om
  have e0:twU n i i=lv0:=by unfold twU;rw[aZ om]
  simp(disch:=omega)only[go_sem,cl,cJ h3 (z:= aB 0) (v:= aB i) rfl rfl,R.l,put_rc]
  obtain⟨B,A⟩: ∃B,B=(h3.new (.cells false [aB i])).set L (some (.cells false (rc (n*194) (F1 F (i*194+1) (.sl h3.next 0 1 (.kn 1)))))):=⟨_,rfl⟩
  rw[←A]
  have p4:Pushd h3 (F (i*194+1)) 0 1 1 [] [aB i] (h3.new (.cells false [aB i])):=⟨H.aN ..,H.aY ..,λk hk _=>H.bJ h3 hk _⟩
  obtain⟨Y,f4,w4⟩:=R.point O (q:=i) (v:= .sl h3.next 0 1 (.kn 1)) (by rw[e0];exact p4) (.inr rfl) (by rw[e0];rfl) A
  obtain⟨J,a2⟩: ∃J,J=F1 F (i*194+1) (.sl h3.next 0 1 (.kn 1)):=⟨_,rfl⟩
  rw[←a2] at Y w4
  have n4:B.next=h3.next+1:=by rw[A,H.cZ,H.aY]
  have P: ∀id,WT n L J id->h.next<=id:=λid a=>by
   by_cases d:id<h3.next
   ·exact x id (w4 id d a)
   ·have:=f.next;omega
  have a0:Fr h B:=⟨jC f.next f4.next,λid a=>(f4.get id (iO a f.next) λd=>by have:=x id d;omega).trans (f.get id a)⟩
  clear A
  generalize N:oI (twU n i) i {twU n i i with orb:=(twU n i i).orb++ [i]}=y at Y
  have e4:y i={lv0 with orb:= [i]}:=by rw[←N,cH,e0];rfl
  refine (one_gen (rfl:T 176=some c_chain_one) n (H.mk B.tr (h3.next+1+16)) om).mono ?_
  rintro va h5 na
  simp(disch:=omega)only[go_sem]
  refine (one_gen (rfl:T 176=some c_chain_one) n h5 om).mono ?_
  rintro vb h6 nb
  have f5:Fr B h5:=((Fr.refl B).bL om:Fr B (H.mk B.tr (h3.next+1+16))).trans na.fr
  have R6:=Y.mono (f5.trans nb.fr)
  have pa:=(na.pv (W:=WT n L J) (λa=>by have:=Y.win a;simp at this;omega)).mono nb.fr
  have pb:=nb.pv (W:=WT n L J) (λa=>by have:=Y.win a;have:=f5.next;omega)
  have a3:PV (WT n L J) h6 vb (dH (cG n)):=by rw[rP];exact pb
  simp(disch:=omega)only[go_sem,R6.l,fZ pa.dQ.1 pa.dQ.2,fZ pb.dQ.1 pb.dQ.2,put_rc]
  obtain⟨R7,f7,w7⟩:=R6.way O (q:=i) om pa a3 (h3:=(h6.set L (some (Ob.cells false (rc (n*194) (F1 J (i*194+2+i) va))))).set L (some (Ob.cells false (rc (n*194) (F1 (F1 J (i*194+2+i) va) (i*194+66+i) vb))))) (fH _) (λid a _=>by rw[H.aI _ a,H.aI _ a]) (by rw[H.aT])
  have eT:oI y i {y i with to:=λr=>if r=i then some (cG n) else (y i).to r}=twU n (i+1):=by
   funext j
   by_cases e:j=i
   ·subst e
    rw[cH,e4];unfold twU;rw[aV om]
    rfl
   ·rw[eD _ _ e,←N,eD _ _ e]
    unfold twU
    by_cases e2:j<i
    ·rw[aV e2,aV om]
    ·rw[aZ e2,aZ om]
  rw[eT] at R7
  have f6:=a0.trans (f5.trans nb.fr)
  rw[dX i]
  refine⟨n-(i+1),om,i+1,_,aA rfl,om,R7,⟨jC f6.next f7.next,λid a=>(f7.get id (iO a f6.next) λd=>by have:=P id d;omega).trans (f6.get id a)⟩,λid a=>P id ((w7 id).1 a),rfl⟩
 rw[bM Q]
 obtain rfl:i=n:=om
 simp(disch:=omega)only[go_sem]
 have eT:TwR h3 i (L+1) L F (Ui i):=R.congr λj hj=>by unfold twU;rw[aV hj]
 exact⟨L+1,L,F,rfl,eT,f,λid a=>by have:=x id a;omega⟩
abbrev SP (h:H)(v:V)(l:LN):Prop:=SR h v (l.map zi)
theorem sp_at {h:H}{ws:List V}{l:LN}(a:All2 (SI h) ws (l.map zi)){i:Nat}(hi:i<l.length):SI h (ws.getD i .undef) (zi (l.getD i [])):=by
 have:=Hf a (i:=i) (by simpa using hi);rwa [show (l.map zi).getD i []=zi (l.getD i []) by simp [List.getD,hi]] at this
theorem off_old {W:Nat->Prop}{h:H}{b:Nat}{v:V}{l:List Int}(s:SI h v l)(d:h.next<=b)(c: ∀id,W id->b<=id):Ho W v:=by
 cases v with
 |sl id off len cap=>exact λa=>by have:=s.in _ _ _ _ rfl;have:=c id a;omega
 |_=>trivial
theorem take_more {l:LN}{i:Nat}(hi:i<l.length)(g:List Nat):g∈l.take (i+1)↔g∈l.take i∨g=l.getD i []:=by
 rw[List.take_add_one,eX hi,sP];simp [List.getD,hi]
theorem build_ok (n:Nat)(p:V)(l:LN)(h:H)(o:0<n)(u:n<=7)(O:l.length<1000000)(y:SP h p l)(z: ∀g∈l,bT n g):
  Ev T 116 [aB n,p] h (λv h'=> ∃tid L F τ,v= .ptr tid 0/\TwR h' n tid L F τ/\Wh n (· ∈l) τ/\Fr h h'/\ ∀id,WT n L F id->h.next<=id):=by
 refine bH c_chain_build rfl rfl ?_
 simp(disch:=omega)only[go_sem,c_chain_build,aF]
 refine (newTower_ok n h o u).mono ?_
 rintro _ d ⟨tid,L,F,rfl,R,f,b⟩
 have w:=y.lens
 rw[iK] at w
 obtain⟨id,r,A,s,c,k,G,e⟩:=y.open
 rw[iK] at s c k G
 simp(disch:=omega)only[go_sem,w]
 refine aH (λx a k=> ∃(i:Nat) (F:Nat->V) (τ:kV),(∃g:Nat->V,a= [aB n,p,g 2,.ptr tid 0,g 4,p,aB (l.length:Int),aB i,g 8])/\i<=l.length/\TwR k n tid L F τ/\Wh n (· ∈l.take i) τ/\Fr h k/\(∀id,WT n L F id->h.next<=id)/\x=l.length-i) l.length
  ⟨0,F,Ui n,aA rfl,eY _,R,(Wh.start o).congr (by simp),f,b,rfl⟩ ?_
 clear R f b F
 rintro x a m ⟨i,F,τ,⟨g,rfl⟩,hi,R,t,f,b,rfl⟩
 simp(disch:=omega)only[go_sem]
 by_cases j:(i:Int)<(l.length:Int)
 ·rw[bV j]
  have a:i<l.length:=om
  have ci:m.cell id (r+i)=some (A.getD i .undef):=by rw[f.cell (c om),G i a]
  have c:=sp_at e a
  have pv:PV (WT n L F) m (A.getD i .undef) (l.getD i []):=⟨c.mono f,off_old c (fH _) b⟩
  have X:bT n (l.getD i []):=z _ (by simp [List.getD,a])
  simp(disch:=omega)only[go_sem,s.ixa,ci]
  refine (add_ok n u o m tid L F τ _ _ R pv X (λk c=>om) t.tw).mono ?_
  rintro c c ⟨r,c,N,k,B,K⟩
  have J:=(t.add o (λg e=>z g (List.mem_of_mem_take e)) X k).congr λg=>(take_more a g).symm
  simp(disch:=omega)only[go_sem]
  rw[dX i]
  refine⟨l.length-(i+1),om,i+1,r,c,aA rfl,om,N,J,⟨jC f.next B.next,λid d=>(B.get id (iO d f.next) λq=>by have:=b id q;omega).trans (f.get id d)⟩,λid d=>?_,rfl⟩
  by_cases q:id<m.next
  ·exact b id (K id q d)
  ·have:=f.next;omega
 rw[bM j]
 obtain rfl:i=l.length:=om
 simp(disch:=omega)only[go_sem]
 exact⟨tid,L,F,τ,rfl,R,t.congr λg=>by rw[List.take_length],f,b⟩
theorem best_drop (x:List Nat)(l:List Nat){i:Nat}(hi:i<l.length)(b:Nat):kI x b (l.drop i)=kI x (if x.getD (l.getD i 0) 0<x.getD b 0 then l.getD i 0 else b) (l.drop (i+1)):=by
 rw[Tb hi,bP hi];rfl
theorem least_ok (h:H)(n i L:Nat)(F:Nat->V)(τ:kV)(vx:V)(x:List Nat)(l:Nat)(hn:n<=7)(R:TwR h n i L F τ)(hx:PV (WT n L F) h vx x)(X:bT n x)(a4:l<n)(t:kM n (l+1) τ):
  Ev T 159 [.ptr i 0,vx,aB l] h (λv h'=>PV (WT n L F) h' v (xY τ (n-(l+1)) (l+1) x)/\bT n (xY τ (n-(l+1)) (l+1) x)/\Fr h h'):=by
 refine bH c_chain_tower_least rfl rfl ?_
 simp(disch:=omega)only[go_sem,c_chain_tower_least,aF]
 rw[dX l]
 refine aH (λk' c hh=> ∃(k:Nat) (y:List Nat) (J:V),(∃g:Nat->V,c= [.ptr i 0,J,g 2,g 3,aB k,g 5,g 6,g 7,g 8,g 9,g 10,g 11,g 12,g 13])/\l<k/\k<=n/\xY τ (n-k) k y=xY τ (n-(l+1)) (l+1) x/\
   PV (WT n L F) hh J y/\bT n y/\Fr h hh/\k'=n-k) (n-(l+1))
  ⟨l+1,x,vx,aA rfl,om,om,rfl,hx,X,Fr.refl h,rfl⟩ ?_
 rintro k' c z ⟨k,y,J,⟨g,rfl⟩,a3,a3,o,hy,Y,f,rfl⟩
 have Q:=R.mono f
 have ct:z.cell i 0=some (aB n):=by rw[H.aG Q.t];rfl
 have cl:z.cell i 1=some (.sl L 0 n (.kn n)):=by rw[H.aG Q.t];rfl
 simp(disch:=omega)only[go_sem,ct,cl]
 by_cases q:(k:Int)<(n:Int)
 case neg=>
  rw[bM q];obtain rfl:k=n:=om
  rw[Nat.sub_self] at o;simp(disch:=omega)only[go_sem];rw[←o];exact⟨hy,Y,f⟩
 have d:k<n:=om
 rw[bV q]
 have co:z.cell L (k*194+1)=some (F (k*194+1)):=Q.cell d om
 have q:=Q.orb k d
 have lo:=Own.lens q (by rw[aL,aQ])
 have iL:=(t k om d).1
 have a3:=orbn iL d
 simp(disch:=omega)only[go_sem,cl,co,lo]
 obtain⟨id,a2,sh,O,hc⟩:=(show SI z (F (k*194+1)) (zi (τ k).orb) from q.sv).open
 rw[aQ] at sh O hc
 obtain⟨K,r,Z,e,B⟩:=hy.si.open
 rw[aQ,Y.len] at Z e B
 refine aH (λm' c hh=> ∃(m b:Nat),(∃g:Nat->V,c= [.ptr i 0,J,g 2,g 3,aB k,aB b,g 6,g 7,F (k*194+1),aB ((τ k).orb.length:Int),aB m,g 11,g 12,g 13])/\m<=(τ k).orb.length/\b<n/\b∈k::(τ k).orb/\
   kI y b ((τ k).orb.drop m)=kI y k (τ k).orb/\Fr z hh/\m'=(τ k).orb.length-m) (τ k).orb.length
  ⟨0,k,aA rfl,eY _,d,zA ..,rfl,Fr.refl z,rfl⟩ ?_
 rintro m' c p ⟨m,b,⟨c,rfl⟩,c,hb,P,a,s,rfl⟩
 simp(disch:=omega)only[go_sem]
 by_cases w:(m:Int)<((τ k).orb.length:Int)
 ·rw[bV w]
  have c:m<(τ k).orb.length:=om
  rw[best_drop _ _ c] at a
  have cq:p.cell id (a2+m)=some (aB ((τ k).orb.getD m 0:Nat)):=by rw[s.cell (O om),hc m c];congr 2;simp [zi,c]
  have A:(τ k).orb.getD m 0∈(τ k).orb:=by rw[bP c];exact wT c
  have j:=iL.lt d A
  generalize (τ k).orb.getD m 0=q at cq A j a
  have c:p.cell K (r+q)=some (aB (y.getD q 0:Nat)):=by rw[s.cell (e om),B q j];congr 2;simp [zi,Y.len,j]
  have g:p.cell K (r+b)=some (aB (y.getD b 0:Nat)):=by rw[s.cell (e om),B b hb];congr 2;simp [zi,Y.len,hb]
  simp(disch:=omega)only[go_sem,sh.ixa,cq,Z.ixa,c,g]
  have fb:Fr z (H.mk p.tr (p.next+9)):=s.bL om
  by_cases W:((y.getD q 0:Nat):Int)<((y.getD b 0:Nat):Int)
  ·rw[bV W]
   rw[aV om] at a
   simp(disch:=omega)only[go_sem]
   rw[dX m]
   exact⟨(τ k).orb.length-(m+1),om,m+1,q,aA rfl,om,j,xS _ A,a,fb,rfl⟩
  ·rw[bM W]
   rw[aZ om] at a
   simp(disch:=omega)only[go_sem]
   rw[dX m]
   exact⟨(τ k).orb.length-(m+1),om,m+1,b,aA rfl,om,hb,P,a,fb,rfl⟩
 rw[bM w]
 have c:m=(τ k).orb.length:=om
 rw[c,List.drop_length] at a
 have a:b=kI y k (τ k).orb:=a
 have c:n-k=(n-(k+1))+1:=om
 rw[c] at o
 have o:xY τ (n-(k+1)) (k+1) (if kI y k (τ k).orb=k then y else bD (((τ k).to (kI y k (τ k).orb)).getD []) y)=xY τ (n-(l+1)) (l+1) x:=o
 rw[←a] at o
 have R3:=Q.mono s
 have N:=hy.mono s
 simp(disch:=omega)only[go_sem]
 by_cases G:b=k
 ·rw[aV G] at o
  have e0:decide ((b:Int)≠(k:Int))=false:=bM om
  simp(disch:=omega)only[go_sem,e0]
  rw[dX k]
  exact⟨n-(k+1),om,k+1,y,J,aA rfl,om,om,o,N,Y,f.trans s,rfl⟩
 rw[aZ G] at o
 have e0:decide ((b:Int)≠(k:Int))=true:=bV om
 have a1:p.cell i 1=some (.sl L 0 n (.kn n)):=by rw[H.aG R3.t];rfl
 have a:b∈(τ k).orb:=by
  rcases Dk.1 P with e|e
  ·exact absurd e G
  ·exact e
 obtain⟨u,c⟩:=iL.to a
 have U:=iL.isP _ _ c
 have a:p.cell L (k*194+2+b)=some (F (k*194+2+b)):=R3.cell2 d om
 have a0:PV (WT n L F) p (F (k*194+2+b)) u:=by
  have:=R3.to k b d om;rw[c] at this;exact this
 rw[c] at o
 simp(disch:=omega)only[go_sem,e0,a1,a]
 refine (mul_gen (rfl:T 181=some c_chain_mul) _ J u y p (by rw[U.len];omega) a0.si N.si (λj a=>by rw[Y.len];exact U.dZ (by rw[←U.len];exact a))).mono ?_
 rintro v a nw
 simp(disch:=omega)only[go_sem]
 rw[dX k]
 exact⟨n-(k+1),om,k+1,_,v,aA rfl,om,om,o,nw.pv (λa=>by have:=R3.win a;omega),U.mul Y,(f.trans s).trans nw.fr,rfl⟩
end Go.Proofs.YtapfcpkecmmagaaGreat
namespace Go.Proofs.YtapfcpkecmmagaaGreat
open Go Go.Ay Go.Sort
set_option maxRecDepth 100000
section
variable {h:H} {S N i j a:Nat} {d:Array Int} {lt:Int->Int->Bool}
structure Arr (h:H)(S N:Nat)(d:Array Int):Prop where
 get:h.get S=bX (ints d.toList)
 size:d.size=N
 lt:S<h.next
theorem Arr.rd (A:Arr h S N d)(hi:i<N):h.cell S i=some (aB d[i]!):=by
 have b:i<d.size:=by rw[A.size];exact hi
 rw[H.aG A.get];simp [ints,b]
theorem Arr.fr {h':H}(A:Arr h S N d)(f:Fr h h'):Arr h' S N d:=⟨by rw[f.get _ A.lt];exact A.get,A.size,iO A.lt f.next⟩
theorem put_cont (hi:i<d.size)(hh:H)(S:Nat)(x:Int):dS (bX (ints d.toList)) hh S i [aB x]=some (hh.set S (bX (ints (d.setIfInBounds i x).toList))):=by
 rw[Fg (by simpa using hi),Array.toList_setIfInBounds]
theorem put_cont' {y:Int}(hi:i<d.size)(hh:H)(S:Nat)(x:Int):dS (bX (ints (d.setIfInBounds j y).toList)) hh S i [aB x]=some (hh.set S (bX (ints ((d.setIfInBounds j y).setIfInBounds i x).toList))):=
 put_cont (by simpa using hi) hh S x
theorem Arr.swap {h2:H}(A:Arr h S N d){nx:Nat}(b:h.next<=nx)(e:h2=((H.mk h.tr nx).set S (bX (ints (d.setIfInBounds i d[j]!).toList))).set S (bX (ints ((d.setIfInBounds i d[j]!).setIfInBounds j d[i]!).toList))):Arr h2 S N (swp d i j)/\Fx (· =S) h h2:=by
 subst e;refine⟨⟨?_,?_,iO A.lt b⟩,⟨b,λid _ c=>?_⟩⟩
 ·rw[H.aT];rfl
 ·have:=A.size;simp [swp,this]
 ·rw[H.aI _ c,H.aI _ c];rfl
theorem isNaN_int (a:Int)(h:H):Ev T 147 [aB a] h (λv h'=>v= .bool false/\h'=h):=by
 refine bH c_cmp_isNaN_int rfl rfl ?_;have e:decide (a≠a)=false:=bM om;simp(disch:=omega)only[go_sem,c_cmp_isNaN_int,aF,e]
theorem less_int (a b:Int)(h:H):Ev T 134 [aB a,aB b] h (λv h'=>v= .bool (ltInt a b)/\Fr h h'):=by
 refine bH c_cmp_Less_int rfl rfl ?_;simp(disch:=omega)only[go_sem,c_cmp_Less_int,aF];refine (isNaN_int a h).mono ?_;rintro _ c ⟨rfl,rfl⟩;simp(disch:=omega)only[go_sem];exact⟨rfl,Fr.refl _⟩
theorem fxt {a b c:H}(x:Fx (· =S) a b)(y:Fx (· =S) b c):Fx (· =S) a c:=x.trans y λ_ _ h=>h
theorem insI_t (b:a<j+1)(h2:lt d[j+1]! d[j]! =true):insInner lt a (j+1) d=insInner lt a j (swp d (j+1) j):=by
 rw[insInner,aV (by simp [b,h2])]
theorem insI_f (h2:lt d[j+1]! d[j]! =false):insInner lt a (j+1) d=d:=by
 rw[insInner,aZ (by simp [h2])]
theorem insI_s (h:j<=a):insInner lt a j d=d:=by
 cases j with
 |zero=>rfl
 |succ j=>rw[insInner,aZ (by simp;omega)]
theorem insertion_ok (h:H)(S N a b:Nat)(d:Array Int)(u:mE)(K:N<1000000)(A:Arr h S N d)(J:b<=N)(G:a<=b):
  Ev T 128 [.sl S 0 N u,aB a,aB b] h (λ_ h'=>Arr h' S N (insertionSort ltInt d a b)/\Fx (· =S) h h'):=by
 refine bH c_slices_insertionSortOrdered_int rfl rfl ?_
 simp(disch:=omega)only[go_sem,c_slices_insertionSortOrdered_int,aF]
 rw[dX a]
 refine aH (λp c r=> ∃(i:Nat) (e:Array Int),(∃g:Nat->V,c= [.sl S 0 N u,aB a,aB b,aB i,g 4,g 5,g 6])/\a<i/\i<=b+1/\Arr r S N e/\insOuter ltInt a b i e=insertionSort ltInt d a b/\Fx (· =S) h r/\p=b+1-i) (b+1-(a+1))
  ⟨a+1,d,aA rfl,om,om,A,rfl,Fx.refl _ h,rfl⟩ ?_
 clear A
 rintro p c s ⟨i,e,⟨g,rfl⟩,s,s,A,l,F,rfl⟩
 simp(disch:=omega)only[go_sem]
 by_cases s:(i:Int)<(b:Int)
 case neg=>
  rw[bM s];simp(disch:=omega)only[go_sem];rw[insOuter,aZ om] at l;rw[←l];exact⟨A,F⟩
 rw[bV s]
 rw[insOuter,aV om] at l
 simp(disch:=omega)only[go_sem]
 refine aH (λp c r=> ∃(j:Nat) (f:Array Int),(∃g:Nat->V,c= [.sl S 0 N u,aB a,aB b,aB i,aB j,g 5,g 6])/\a<=j/\j<=i/\Arr r S N f/\insInner ltInt a j f=insInner ltInt a i e/\Fx (· =S) h r/\p=j) i
  ⟨i,e,aA rfl,om,om,A,rfl,F,rfl⟩ ?_
 clear A F
 rintro p c n ⟨j,f,⟨c,rfl⟩,c,c,A,o,F,c⟩
 have c:=A.size
 by_cases q:(a:Int)<(j:Int)
 ·obtain⟨m,rfl⟩: ∃m,j=m+1:=⟨j- 1,om⟩
  have c:=A.rd (i:=m+1) om
  have e:=A.rd (i:=m) om
  have v:=bV q
  have w:((m+1:Nat):Int)- 1=(m:Int):=om
  simp(disch:=omega)only[go_sem,v,w,c,e]
  refine (less_int _ _ _).mono ?_
  rintro _ y ⟨rfl,c⟩
  have k:Fr n y:=Fr.trans ((Fr.refl n).bL om) c
  have t:=A.fr k
  have z:=t.rd (i:=m+1) om
  have B:=t.rd (i:=m) om
  cases hl:ltInt f[m+1]! f[m]! with
  |false=>
   rw[insI_f hl] at o;simp(disch:=omega)only[go_sem,hl];rw[dX i];rw[←o] at l;exact⟨b+1-(i+1),om,i+1,f,aA rfl,om,om,t,l,fxt F (Fx.of k),rfl⟩
  |true=>
   rw[insI_t om hl] at o;simp(disch:=omega)only[go_sem,hl,w,z,B,t.get,put_cont,put_cont'];have W:=t.swap (i:=m+1) (j:=m) (nx:=y.next+18) om rfl;exact⟨m,om,m,_,aA rfl,om,om,W.1,o,fxt (fxt F (Fx.of k)) W.2,rfl⟩
 ·have v:=bM q
  rw[insI_s om] at o
  simp(disch:=omega)only[go_sem,v]
  rw[dX i]
  rw[←o] at l
  have x:Fr n (H.mk n.tr (n.next+15)):=(Fr.refl n).bL om
  exact⟨b+1-(i+1),om,i+1,f,aA rfl,om,om,A.fr x,l,fxt F (Fx.of x),rfl⟩
end
def chd (lt:Int->Int->Bool)(hi first root:Nat)(d:Array Int):Nat:=if 2*root+1+1<hi/\lt d[first+(2*root+1)]! d[first+(2*root+1)+1]! =true then 2*root+2 else 2*root+1
theorem sift_eq {lt:Int->Int->Bool}(hi first a:Nat)(d:Array Int):siftDown lt hi first a d=if 2*a+1≥hi then d else
  if lt d[first+a]! d[first+chd lt hi first a d]! =true then siftDown lt hi first (chd lt hi first a d) (swp d (first+a) (first+chd lt hi first a d)) else d:=by
 rw[siftDown]
 unfold chd
 by_cases b:2*a+1≥hi
 ·rw[dif_pos b,aV b]
 ·rw[dif_neg b,aZ b]
  by_cases c:2*a+1+1<hi/\lt d[first+(2*a+1)]! d[first+(2*a+1)+1]! =true
  ·rw[aV (by simpa using c),aV c]
   cases h3:lt d[first+a]! d[first+(2*a+2)]!
   ·simp
   ·simp [show 2*a+2<hi by omega]
  ·rw[aZ (by simpa using c),aZ c]
   cases h3:lt d[first+a]! d[first+(2*a+1)]! <;>simp
theorem siftDown_ok  (h:H)(S N u hi first:Nat)(d:Array Int)(P:mE)(Y:N<1000000)(A:Arr h S N d)(U:first+hi<=N)(J:u<=hi):
  Ev T 168 [.sl S 0 N P,aB u,aB hi,aB first] h (λ_ h'=>Arr h' S N (siftDown ltInt hi first u d)/\Fx (· =S) h h'):=by
 refine bH c_slices_siftDownOrdered_int rfl rfl ?_
 simp(disch:=omega)only[go_sem,c_slices_siftDownOrdered_int,aF]
 refine aH (λQ o R=> ∃(r:Nat) (e:Array Int),(∃g:Nat->V,o= [.sl S 0 N P,aB u,aB hi,aB first,aB r,g 5,g 6,g 7,g 8])/\r<=hi/\Arr R S N e/\siftDown ltInt hi first r e=siftDown ltInt hi first u d/\Fx (· =S) h R/\Q=hi-r) (hi-u)
  ⟨u,d,aA rfl,J,A,rfl,Fx.refl _ h,rfl⟩ ?_
 clear A
 rintro Q o p ⟨r,e,⟨g,rfl⟩,g,A,a,F,rfl⟩
 have K:2*(r:Int)+1=((2*r+1:Nat):Int):=om
 by_cases g:(hi:Int)<=((2*r+1:Nat):Int)
 ·have G:=bV g
  simp(disch:=omega)only[go_sem,K,G]
  rw[sift_eq,aV om] at a
  rw[←a]
  exact⟨A,F⟩
 have G:=bM g
 rw[sift_eq,aZ om] at a
 have O:((2*r+1:Nat):Int)+1=((2*r+2:Nat):Int):=om
 have c:(first:Int)+(r:Int)=((first+r:Nat):Int):=om
 have l:(first:Int)+((2*r+1:Nat):Int)=((first+(2*r+1):Nat):Int):=om
 have B:(first:Int)+((2*r+2:Nat):Int)=((first+(2*r+2):Nat):Int):=om
 have g:((first+(2*r+1):Nat):Int)+1=((first+(2*r+1)+1:Nat):Int):=om
 have o:=A.size
 by_cases z:((2*r+2:Nat):Int)<(hi:Int)
 ·have L:=bV z
  have n:=A.rd (i:=first+(2*r+1)) om
  have x:=A.rd (i:=first+(2*r+1)+1) om
  simp(disch:=omega)only[go_sem,K,G,O,L,l,g,n,x]
  refine (less_int _ _ _).mono ?_
  rintro _ w ⟨rfl,g⟩
  have y:Fr p w:=Fr.trans ((Fr.refl p).bL om) g
  have v:=A.fr y
  have m:=v.rd (i:=first+r) om
  have n:=v.rd (i:=first+(2*r+1)) om
  have x:=v.rd (i:=first+(2*r+2)) om
  cases hl:ltInt e[first+(2*r+1)]! e[first+(2*r+1)+1]! with
  |false=>
   have k:chd ltInt hi first r e=2*r+1:=aZ (by rw[hl];simp)
   rw[k] at a;simp(disch:=omega)only[go_sem,hl,c,l,m,n];refine (less_int _ _ _).mono ?_;rintro _ t ⟨rfl,f⟩;have q:Fr w t:=Fr.trans ((Fr.refl w).bL om) f;have b:=v.fr q;have m:=b.rd (i:=first+r) om;have n:=b.rd (i:=first+(2*r+1)) om;have s:=fxt (fxt F (Fx.of y)) (Fx.of q)
   cases hl2:ltInt e[first+r]! e[first+(2*r+1)]! with
   |false=>
    rw[aZ (by rw[hl2];simp)] at a;simp(disch:=omega)only[go_sem,hl2];rw[←a];exact⟨b,s⟩
   |true=>
    rw[aV hl2] at a;simp(disch:=omega)only[go_sem,hl2,c,l,m,n,b.get,put_cont,put_cont'];have W:=b.swap (i:=first+r) (j:=first+(2*r+1)) (nx:=t.next+24) om rfl;exact⟨hi-(2*r+1),om,2*r+1,_,aA rfl,om,W.1,a,fxt s W.2,rfl⟩
  |true=>
   have k:chd ltInt hi first r e=2*r+2:=aV ⟨om,hl⟩
   rw[k] at a;simp(disch:=omega)only[go_sem,hl,O,c,B,m,x];refine (less_int _ _ _).mono ?_;rintro _ t ⟨rfl,f⟩;have q:Fr w t:=Fr.trans ((Fr.refl w).bL om) f;have b:=v.fr q;have m:=b.rd (i:=first+r) om;have x:=b.rd (i:=first+(2*r+2)) om;have s:=fxt (fxt F (Fx.of y)) (Fx.of q)
   cases hl2:ltInt e[first+r]! e[first+(2*r+2)]! with
   |false=>
    rw[aZ (by rw[hl2];simp)] at a;simp(disch:=omega)only[go_sem,hl2];rw[←a];exact⟨b,s⟩
   |true=>
    rw[aV hl2] at a;simp(disch:=omega)only[go_sem,hl2,c,B,m,x,b.get,put_cont,put_cont'];have W:=b.swap (i:=first+r) (j:=first+(2*r+2)) (nx:=t.next+24) om rfl;exact⟨hi-(2*r+2),om,2*r+2,_,aA rfl,om,W.1,a,fxt s W.2,rfl⟩
 ·have L:=bM z
  have k:chd ltInt hi first r e=2*r+1:=aZ om
  rw[k] at a
  have y:Fr p (H.mk p.tr (p.next+20)):=(Fr.refl p).bL om
  have v:=A.fr y
  have m:=A.rd (i:=first+r) om
  have n:=A.rd (i:=first+(2*r+1)) om
  simp(disch:=omega)only[go_sem,K,G,O,L,c,l,m,n]
  refine (less_int _ _ _).mono ?_
  rintro _ t ⟨rfl,f⟩
  have q:Fr p t:=Fr.trans ((Fr.refl p).bL om) f
  have b:=A.fr q
  have m:=b.rd (i:=first+r) om
  have n:=b.rd (i:=first+(2*r+1)) om
  have s:=fxt F (Fx.of q)
  cases hl2:ltInt e[first+r]! e[first+(2*r+1)]! with
  |false=>
   rw[aZ (by rw[hl2];simp)] at a;simp(disch:=omega)only[go_sem,hl2];rw[←a];exact⟨b,s⟩
  |true=>
   rw[aV hl2] at a;simp(disch:=omega)only[go_sem,hl2,c,l,m,n,b.get,put_cont,put_cont'];have W:=b.swap (i:=first+r) (j:=first+(2*r+1)) (nx:=t.next+24) om rfl;exact⟨hi-(2*r+1),om,2*r+1,_,aA rfl,om,W.1,a,fxt s W.2,rfl⟩
theorem heapSort_ok  (h:H)(S N a b:Nat)(d:Array Int)(p:mE)(z:N<1000000)(A:Arr h S N d)(U:b<=N)(Q:a<=b):
  Ev T 129 [.sl S 0 N p,aB a,aB b] h (λ_ h'=>Arr h' S N (heapSort ltInt d a b)/\Fx (· =S) h h'):=by
 refine bH c_slices_heapSortOrdered_int rfl rfl ?_
 obtain⟨n,B⟩:=IP (b-a)
 have J:(b:Int)-(a:Int)=(n:Int):=om
 have O:((n:Int)- 1).tdiv 2=(((n- 1)/2+1:Nat):Int)- 1:=by
  by_cases G:n=0
  ·subst G;decide
  ·rw[Int.tdiv_eq_ediv_of_nonneg om];omega
 simp(disch:=omega)only[go_sem,c_slices_heapSortOrdered_int,aF,J,O]
 refine aH (λf c s=> ∃(k:Nat) (e:Array Int),(∃g:Nat->V,c= [.sl S 0 N p,aB a,aB b,aB a,aB 0,aB n,aB ((k:Int)- 1),g 7,g 8,g 9])/\k<=n+1/\(k=1∨k<=n)/\Arr s S N e/\heapBuild ltInt n a k e=heapBuild ltInt n a ((n- 1)/2+1) d/\Fx (· =S) h s/\f=k) ((n- 1)/2+1)
  ⟨(n- 1)/2+1,d,aA rfl,om,om,A,rfl,Fx.refl _ h,rfl⟩ ?_
 clear A
 rintro f c L ⟨k,e,⟨g,rfl⟩,t,w,A,v,F,x⟩
 subst x
 by_cases l:(0:Int)<=(f:Int)- 1
 ·have o:=bV l
  obtain⟨m,rfl⟩: ∃m,f=m+1:=⟨f- 1,om⟩
  have r:((m+1:Nat):Int)- 1=(m:Int):=om
  rw[r] at o
  rw[r]
  simp(disch:=omega)only[go_sem,o]
  refine (siftDown_ok L S N m n a e p z A om om).mono ?_
  rintro _ y ⟨K,F2⟩
  simp(disch:=omega)only[go_sem]
  exact⟨m,om,m,_,aA rfl,om,om,K,v,fxt F F2,rfl⟩
 have o:=bM l
 obtain rfl:f=0:=om
 have v:e=heapBuild ltInt n a ((n- 1)/2+1) d:=v
 simp(disch:=omega)only[go_sem,o]
 refine aH (λf c s=> ∃(k:Nat) (q:Array Int),(∃g:Nat->V,c= [.sl S 0 N p,aB a,aB b,aB a,aB 0,aB n,g 6,aB ((k:Int)- 1),g 8,g 9])/\k<=n/\Arr s S N q/\heapPop ltInt a k q=heapPop ltInt a n e/\Fx (· =S) h s/\f=k) n
  ⟨n,e,aA rfl,om,A,rfl,F,rfl⟩ ?_
 clear A F l o t w
 rintro f c y ⟨k,q,⟨g,rfl⟩,t,A,u,F,x⟩
 subst x
 have c:=A.size
 by_cases l:(0:Int)<=(f:Int)- 1
 ·have o:=bV l
  obtain⟨m,rfl⟩: ∃m,f=m+1:=⟨f- 1,om⟩
  have r:((m+1:Nat):Int)- 1=(m:Int):=om
  rw[r] at o
  rw[r]
  have k:(a:Int)+(m:Int)=((a+m:Nat):Int):=om
  have c:=A.rd (i:=a+m) om
  have g:=A.rd (i:=a) om
  simp(disch:=omega)only[go_sem,o,k,c,g,A.get,put_cont,put_cont']
  have W:=A.swap (i:=a) (j:=a+m) (nx:=y.next+20) om rfl
  have c:=siftDown_ok _ S N 0 m a _ p z W.1 om om
  refine c.mono ?_
  rintro _ c ⟨P,R⟩
  simp(disch:=omega)only[go_sem]
  exact⟨m,om,m,_,aA rfl,om,P,u,fxt (fxt F W.2) R,rfl⟩
 have o:=bM l
 obtain rfl:f=0:=om
 simp(disch:=omega)only[go_sem,o]
 have u:q=heapPop ltInt a n e:=u
 have:heapSort ltInt d a b=q:=by unfold heapSort;rw[B,u,v]
 rw[this]
 exact⟨A,F⟩
def shfV (op:BinOp)(k:IntKind)(x y:V):Option V:=match x,y with
 | .int j a,.int _ b=>if j=k then wK op k a b else none
 |_,_=>none
theorem evI_shf (ρ:X->V)(h:H)(op:BinOp)(k:IntKind)(x y:X):cW ρ h (.shf op k x y)=(shfV op k (ρ x) (ρ y)).map (·,h):=by
 simp only[cW,shfV];cases ρ x<;>cases ρ y<;>try rfl
 simp only;split<;>rfl
theorem shfV_int (op:BinOp)(k j:IntKind)(a b:Int):shfV op k (.int k a) (.int j b)=wK op k a b:=by simp [shfV]
theorem wrap_u64 (n:Int):0<=IntKind.u64.wrap n/\IntKind.u64.wrap n<18446744073709551616:=by
 unfold IntKind.wrap;simp only[IntKind.bits,IntKind.signed];have:=Int.emod_nonneg n (show (18446744073709551616:Int)≠0 by omega);have:=Int.emod_lt_of_pos n (show (0:Int)<18446744073709551616 by omega);simp;omega
theorem wrap_u64_in {n:Int}(a:0<=n)(h2:n<18446744073709551616):IntKind.u64.wrap n=n:=by
 unfold IntKind.wrap;simp only[IntKind.bits,IntKind.signed];have:n%18446744073709551616=n:=Int.emod_eq_of_lt a h2;simp;exact this
theorem wrap_u8_in {n:Int}(a:0<=n)(h2:n<256):IntKind.u8.wrap n=n:=by
 unfold IntKind.wrap;simp only[IntKind.bits,IntKind.signed];have:n%256=n:=Int.emod_eq_of_lt a h2;simp;exact this
theorem shl_u64 (a b:Int)(c:0<=b): ∃y,wK .shl .u64 a b=some (.int .u64 y)/\0<=y/\y<18446744073709551616:=by
 unfold wK;rw[aZ om];exact⟨_,rfl,wrap_u64 _⟩
theorem shr_u64 (a b:Int)(c:0<=b): ∃y,wK .shr .u64 a b=some (.int .u64 y):=by
 unfold wK;rw[aZ om];exact⟨_,rfl⟩
theorem shr_eight {x:Nat}:wK .shr .u64 (x:Int) 8=some (.int .u64 ((x/256:Nat):Int)):=by
 unfold wK;rw[aZ om];simp only;congr 2;show Int.fdiv (x:Int) 256=_;rw[Int.fdiv_eq_ediv_of_nonneg _ om];rfl
theorem xor_u64 (a b:Int): ∃y,arith .xor .u64 a b=some (.int .u64 y)/\0<=y/\y<18446744073709551616:=⟨_,rfl,wrap_u64 _⟩
theorem and_u64 (a:Int)(b:Nat)(c:b<18446744073709551616): ∃y:Nat,arith .and .u64 a (b:Int)=some (.int .u64 (y:Int))/\y<=b:=by
 refine⟨(BitVec.ofInt 64 a&&&BitVec.ofInt 64 (b:Int)).toNat,?_,?_⟩
 ·rw[Sx]
  congr 2;show IntKind.u64.wrap (((BitVec.ofInt 64 a&&&BitVec.ofInt 64 (b:Int)).toNat:Nat):Int)=_;have:=(BitVec.ofInt 64 a&&&BitVec.ofInt 64 (b:Int)).isLt;generalize (BitVec.ofInt 64 a&&&BitVec.ofInt 64 (b:Int)).toNat=w at*;exact wrap_u64_in om om
 ·rw[BitVec.toNat_and]
  have:(BitVec.ofInt 64 (b:Int)).toNat=b:=by
   simp [BitVec.toNat_ofInt];omega
  rw[this];exact Nat.and_le_right
theorem bits_tab: ∀z,z<256->([0,1,2,2,3,3,3,3,4,4,4,4,4,4,4,4,5,5,5,5,5,5,5,5,5,5,5,5,5,5,5,5,6,6,6,6,6,6,6,6,6,6,6,6,6,6,6,6,6,6,6,6,6,6,6,6,6,6,6,6,6,6,6,6,7,7,7,7,7,7,7,7,7,7,7,7,7,7,7,7,7,7,7,7,7,7,7,7,7,7,7,7,7,7,7,7,7,7,7,7,7,7,7,7,7,7,7,7,7,7,7,7,7,7,7,7,7,7,7,7,7,7,7,7,7,7,7,7,8,8,8,8,8,8,8,8,8,8,8,8,8,8,8,8,8,8,8,8,8,8,8,8,8,8,8,8,8,8,8,8,8,8,8,8,8,8,8,8,8,8,8,8,8,8,8,8,8,8,8,8,8,8,8,8,8,8,8,8,8,8,8,8,8,8,8,8,8,8,8,8,8,8,8,8,8,8,8,8,8,8,8,8,8,8,8,8,8,8,8,8,8,8,8,8,8,8,8,8,8,8,8,8,8,8,8,8,8,8,8,8,8,8,8,8,8,8,8,8,8,8,8,8,8,8,8,8][z]? :Option Nat)=some (bitsLen z):=by decide+kernel
theorem six_tab {z:Nat}(a:z<256):Yv (.str [0,1,2,2,3,3,3,3,4,4,4,4,4,4,4,4,5,5,5,5,5,5,5,5,5,5,5,5,5,5,5,5,6,6,6,6,6,6,6,6,6,6,6,6,6,6,6,6,6,6,6,6,6,6,6,6,6,6,6,6,6,6,6,6,7,7,7,7,7,7,7,7,7,7,7,7,7,7,7,7,7,7,7,7,7,7,7,7,7,7,7,7,7,7,7,7,7,7,7,7,7,7,7,7,7,7,7,7,7,7,7,7,7,7,7,7,7,7,7,7,7,7,7,7,7,7,7,7,8,8,8,8,8,8,8,8,8,8,8,8,8,8,8,8,8,8,8,8,8,8,8,8,8,8,8,8,8,8,8,8,8,8,8,8,8,8,8,8,8,8,8,8,8,8,8,8,8,8,8,8,8,8,8,8,8,8,8,8,8,8,8,8,8,8,8,8,8,8,8,8,8,8,8,8,8,8,8,8,8,8,8,8,8,8,8,8,8,8,8,8,8,8,8,8,8,8,8,8,8,8,8,8,8,8,8,8,8,8,8,8,8,8,8,8,8,8,8,8,8,8,8,8,8,8,8,8]) (.int .u8 (z:Int))=some (.int .u8 ((bitsLen z:Nat):Int)):=by
 have c:bitsLen z<=8:=(bitsLen_le_iff z 8).2 om;have b:=bits_tab z a;generalize ([0,1,2,2,3,3,3,3,4,4,4,4,4,4,4,4,5,5,5,5,5,5,5,5,5,5,5,5,5,5,5,5,6,6,6,6,6,6,6,6,6,6,6,6,6,6,6,6,6,6,6,6,6,6,6,6,6,6,6,6,6,6,6,6,7,7,7,7,7,7,7,7,7,7,7,7,7,7,7,7,7,7,7,7,7,7,7,7,7,7,7,7,7,7,7,7,7,7,7,7,7,7,7,7,7,7,7,7,7,7,7,7,7,7,7,7,7,7,7,7,7,7,7,7,7,7,7,7,8,8,8,8,8,8,8,8,8,8,8,8,8,8,8,8,8,8,8,8,8,8,8,8,8,8,8,8,8,8,8,8,8,8,8,8,8,8,8,8,8,8,8,8,8,8,8,8,8,8,8,8,8,8,8,8,8,8,8,8,8,8,8,8,8,8,8,8,8,8,8,8,8,8,8,8,8,8,8,8,8,8,8,8,8,8,8,8,8,8,8,8,8,8,8,8,8,8,8,8,8,8,8,8,8,8,8,8,8,8,8,8,8,8,8,8,8,8,8,8,8,8,8,8,8,8,8,8]:List Nat)=l at*;unfold Yv;simp only;rw[aV om,Cd,b];simp only[Option.map_some];rw[Nat.mod_eq_of_lt om]
theorem bits_256 {x:Nat}(h:256<=x):bitsLen x=8+bitsLen (x/256):=by
 apply Nat.le_antisymm
 ·rw[bitsLen_le_iff,Nat.pow_add]
  have:=lt_two_pow_bitsLen (x/256);omega
 ·have a:=lt_two_pow_bitsLen x
  have b: ¬bitsLen x<=8:=λb=>by rw[bitsLen_le_iff] at b;omega
  obtain⟨k,b⟩: ∃k,bitsLen x=8+k:=⟨bitsLen x- 8,om⟩
  rw[b,Nat.pow_add] at a;have:bitsLen (x/256)<=k:=(bitsLen_le_iff _ _).2 om;omega
theorem len64_ok (x:Nat)(h:H)(f:x<65536):Ev T 138 [.int .u64 (x:Int)] h (λv h'=>v= aB (bitsLen x:Nat)/\h'=h):=by
 refine bH c_math_bits_Len64 rfl rfl ?_;have c:decide ((4294967296:Int)<=(x:Int))=false:=bM om;have b:decide ((65536:Int)<=(x:Int))=false:=bM om
 by_cases d:256<=x
 ·have a:decide ((256:Int)<=(x:Int))=true:=bV om
  have e:=bits_256 d;have d:bitsLen (x/256)<=8:=(bitsLen_le_iff _ 8).2 om;simp(disch:=omega)only[go_sem,c_math_bits_Len64,aF,c,b,a,evI_shf,shfV_int,shr_eight,Ny,six_tab,wrap_u8_in];exact⟨by congr 1;omega,trivial⟩
 ·have a:decide ((256:Int)<=(x:Int))=false:=bM om
  have d:bitsLen x<=8:=(bitsLen_le_iff _ 8).2 om;simp(disch:=omega)only[go_sem,c_math_bits_Len64,aF,c,b,a,Ny,six_tab,wrap_u8_in];exact⟨by congr 1;omega,trivial⟩
theorem len_ok (x:Nat)(h:H)(a:x<65536):Ev T 112 [.int .u64 (x:Int)] h (λv h'=>v= aB (bitsLen x:Nat)/\h'=h):=by
 refine bH c_math_bits_Len rfl rfl ?_;simp(disch:=omega)only[go_sem,c_math_bits_Len,aF];refine (len64_ok x h a).mono ?_;rintro _ _ ⟨rfl,rfl⟩;simp(disch:=omega)only[go_sem]
theorem pow2_ok (n:Nat)(h:H)(d:n<65536):Ev T 169 [aB n] h (λv h'=>v= .int .u64 ((2^bitsLen n:Nat):Int)/\h'=h):=by
 refine bH c_slices_nextPowerOfTwo rfl rfl ?_;have a:bitsLen n<=16:=(bitsLen_le_iff _ 16).2 om;have c:2^bitsLen n<=2^16:=Nat.pow_le_pow_right om a;obtain⟨m,a⟩:=IP (2^bitsLen n);rw[a] at c ⊢
 have b:wK .shl .u64 1 ((bitsLen n:Nat):Int)=some (.int .u64 (m:Int)):=by
  unfold wK;rw[aZ om];simp only[Cd,IntKind.bits];rw[Nat.min_eq_left om];have e:(1:Int)*2^bitsLen n=(m:Int):=by rw[Int.one_mul,←a];push_cast;rfl
  rw[e,wrap_u64_in om om]
 simp(disch:=omega)only[go_sem,c_slices_nextPowerOfTwo,aF,wrap_u64_in (n:=(n:Int)) om om];refine (len_ok n h d).mono ?_;rintro _ _ ⟨rfl,rfl⟩;simp(disch:=omega)only[go_sem,evI_shf,shfV_int,b]
theorem next_ok (R:Nat)(x:Int)(h:H)(j:h.get R=some (.cells false [.int .u64 x]))(m:R<h.next):
  Ev T 170 [.ptr R 0] h (λv h'=> ∃y,v= .int .u64 y/\h'.get R=some (.cells false [.int .u64 y])/\Fx (· =R) h h'):=by
 refine bH c_slices_xorshift_Next rfl rfl ?_
 have l:h.cell R 0=some (.int .u64 x):=by rw[H.aG j];rfl
 obtain⟨c,b,_⟩:=shl_u64 x 13 om
 obtain⟨a,d,_⟩:=xor_u64 x c
 obtain⟨c,e⟩:=shr_u64 a 7 om
 obtain⟨i,f,_⟩:=xor_u64 a c
 obtain⟨a,g,_⟩:=shl_u64 i 17 om
 obtain⟨k,c,_⟩:=xor_u64 i a
 have i: ∀(u w:Int) (a:H),dS (some (.cells false [.int .u64 u])) a R 0 [.int .u64 w]=some (a.set R (some (.cells false [.int .u64 w]))):=λu w a=>bE (by simp) a R _
 simp(disch:=omega)only[go_sem,c_slices_xorshift_Next,aF,l,evI_shf,shfV_int,b,d,e,f,g,c,j,i]
 exact⟨k,rfl,rfl,⟨by simp only[H.cZ];omega,λid _ a=>by
  rw[H.aI _ a,H.lG,H.aI _ a,H.lG,H.aI _ a,H.lG]⟩⟩
theorem Arr.fxo  {h h':H}{S N R:Nat}{d:Array Int}(A:Arr h S N d)(f:Fx (· =R) h h')(a:R≠S):Arr h' S N d:=⟨by rw[f.get S A.lt (λe=>a e.symm)];exact A.get,A.size,iO A.lt f.next⟩
theorem reverse_ok  (h:H)(S N a b:Nat)(d:Array Int)(n:mE)(t:N<1000000)(A:Arr h S N d)(s:b<=N)(q:a<b):
  Ev T 132 [.sl S 0 N n,aB a,aB b] h (λ_ h'=>Arr h' S N (reverseRange d a b)/\Fx (· =S) h h'):=by
 refine bH c_slices_reverseRangeOrdered_int rfl rfl ?_
 have o:(b:Int)- 1=((b- 1:Nat):Int):=om
 simp(disch:=omega)only[go_sem,c_slices_reverseRangeOrdered_int,aF,o]
 refine aH (λc f o=> ∃(i j:Nat) (e:Array Int),(∃g:Nat->V,f= [.sl S 0 N n,aB a,aB b,aB i,aB j,g 5])/\j<b/\i<=b/\Arr o S N e/\reverseLoop i j e=reverseLoop a (b- 1) d/\Fx (· =S) h o/\c=j) (b- 1)
  ⟨a,b- 1,d,aA rfl,om,om,A,rfl,Fx.refl _ h,rfl⟩ ?_
 clear A
 rintro c f p ⟨i,j,e,⟨g,rfl⟩,e,hi,A,l,F,r⟩
 subst r
 have e:=A.size
 rw[reverseLoop] at l
 by_cases k:(i:Int)<(c:Int)
 ·have m:=bV k
  rw[aV om] at l
  have e:=A.rd (i:=i) om
  have f:=A.rd (i:=c) om
  simp(disch:=omega)only[go_sem,m,e,f,A.get,put_cont,put_cont']
  have W:=A.swap (i:=i) (j:=c) (nx:=p.next+16) om rfl
  rw[show (i:Int)+1=((i+1:Nat):Int) from om,show (c:Int)- 1=((c- 1:Nat):Int) from om]
  exact⟨c- 1,om,i+1,c- 1,_,aA rfl,om,om,W.1,l,fxt F W.2,rfl⟩
 have m:=bM k
 rw[aZ om] at l
 simp(disch:=omega)only[go_sem,m]
 unfold reverseRange
 rw[←l]
 exact⟨A,F⟩
theorem tdivN (n:Nat){k:Int}{m:Nat}(a:k=(m:Int)):(n:Int).tdiv k=((n/m:Nat):Int):=by
 rw[a,Int.tdiv_eq_ediv_of_nonneg om];rfl
theorem break_ok  (h:H)(S N a b:Nat)(d:Array Int)(cp:mE)(hN:N<60000)(A:Arr h S N d)(hb:b<=N)(a0:a<=b):
  Ev T 130 [.sl S 0 N cp,aB a,aB b] h (λ_ h'=> ∃e,Arr h' S N e/\PermIn a b d e/\Fx (· =S) h h'):=by
 refine bH c_slices_breakPatternsOrdered_int rfl rfl ?_
 obtain⟨n,t⟩:=IP (b-a)
 have en:(b:Int)-(a:Int)=(n:Int):=om
 by_cases t:(8:Int)<=(n:Int)
 case neg=>
  have Q:=bM t;simp(disch:=omega)only[go_sem,c_slices_breakPatternsOrdered_int,aF,en,Q];exact⟨d,A,permIn_refl d a b,Fx.refl _ h⟩
 have Q:=bV t
 have G:=tdivN n (k:=4) (m:=4) rfl
 obtain⟨q,t⟩:=IP (n/4)
 rw[t] at G
 have ei:(a:Int)+(q:Int)*2- 1=((a+q*2- 1:Nat):Int):=om
 have ej:(a:Int)+(q:Int)*2+1=((a+q*2+1:Nat):Int):=om
 have U:=two_pow_bitsLen_le (show 0<n by omega)
 have t:=lt_two_pow_bitsLen n
 obtain⟨m,hm⟩:=IP (2^bitsLen n)
 rw[hm] at U t
 obtain⟨R,hR⟩:=IP h.next
 have Y:R≠S:=by have:=A.lt;omega
 have U: ∀c:H,dS (bX [.int .u64 0]) c R 0 [.int .u64 (n:Int)]=some (c.set R (bX [.int .u64 (n:Int)])):=λc=>bE (by simp) c R _
 have t:(h.new (.cells false [.int .u64 0])).get R=bX [.int .u64 0]:=by rw[←hR,H.aN]
 simp(disch:=omega)only[go_sem,c_slices_breakPatternsOrdered_int,aF,en,Q,hR,wrap_u64_in (n:=(n:Int)) om om,t,U]
 obtain⟨o,f⟩: ∃o,o=(h.new (.cells false [.int .u64 0])).set R (bX [.int .u64 (n:Int)]):=⟨_,rfl⟩
 rw[←f]
 have g1:o.get R=bX [.int .u64 (n:Int)]:=by rw[f,H.aT]
 have n1:o.next=R+1:=by rw[f,H.cZ,H.aY,hR]
 have Z:Fr h o:=by rw[f];exact ((Fr.refl h).new _).set om _
 clear f
 refine (pow2_ok n o om).mono ?_
 rintro _ f ⟨rfl,c⟩
 rw[c,hm]
 simp(disch:=omega)only[go_sem,G,ei]
 refine aH (λk' p c=> ∃(i:Nat) (e:Array Int) (x:Int),(∃g:Nat->V,p= [.sl S 0 N cp,aB a,aB b,aB n,.ptr R 0,.int .u64 (m:Int),aB i,g 7,g 8,g 9,g 10])/\a<=i/\i<=a+q*2+2/\Arr c S N e/\PermIn a b d e/\c.get R=bX [.int .u64 x]/\R<c.next/\Fx (· =S) h c/\k'=a+q*2+2-i) (a+q*2+2-(a+q*2- 1))
  ⟨a+q*2- 1,d,_,aA rfl,om,om,A.fr Z,permIn_refl d a b,g1,om,Fx.of Z,rfl⟩ ?_
 clear A g1 n1 Z c o
 rintro k' p o ⟨i,e,x,⟨g,rfl⟩,z,c,A,J,gR,nR,F,rfl⟩
 by_cases c:(i:Int)<=((a+q*2+1:Nat):Int)
 case neg=>
  have f:=bM c;simp(disch:=omega)only[go_sem,G,ej,f];exact⟨e,A,J,F⟩
 have f:=bV c
 simp(disch:=omega)only[go_sem,G,ej,f]
 refine (next_ok R x o gR nR).mono ?_
 rintro _ B ⟨y,rfl,u,F2⟩
 have l:=A.fxo F2 Y
 obtain⟨w,hw,c⟩:=and_u64 y (m- 1) om
 have em:(m:Int)- 1=((m- 1:Nat):Int):=om
 have c:=l.size
 have v:Fx (· =S) h B:=⟨jC F.next F2.next,λid c f=>(F2.get id (iO c F.next) (λe=>by have:id=R:=e;omega)).trans (F.get id c f)⟩
 have s:R<B.next:=iO nR F2.next
 by_cases r:(n:Int)<=(w:Int)
 ·have K:=bV r
  have c:(w:Int)-(n:Int)=((w-n:Nat):Int):=om
  have P:(a:Int)+((w-n:Nat):Int)=((a+(w-n):Nat):Int):=om
  have L:=l.rd (i:=i) om
  have O:=l.rd (i:=a+(w-n)) om
  simp(disch:=omega)only[go_sem,em,wrap_u64_in (n:=((m- 1:Nat):Int)) om om,hw,K,c,P,L,O,l.get,put_cont,put_cont']
  have W:=l.swap (i:=i) (j:=a+(w-n)) (nx:=B.next+20) om rfl
  rw[dX i]
  refine⟨a+q*2+2-(i+1),om,i+1,_,y,aA rfl,om,om,W.1,permIn_trans _ _ _ a b J (swp_permIn e a b i (a+(w-n)) z om om om om),?_,iO s W.2.next,fxt v W.2,rfl⟩
  exact u
 ·have K:=bM r
  have P:(a:Int)+(w:Int)=((a+w:Nat):Int):=om
  have L:=l.rd (i:=i) om
  have O:=l.rd (i:=a+w) om
  simp(disch:=omega)only[go_sem,em,wrap_u64_in (n:=((m- 1:Nat):Int)) om om,hw,K,P,L,O,l.get,put_cont,put_cont']
  have W:=l.swap (i:=i) (j:=a+w) (nx:=B.next+20) om rfl
  rw[dX i]
  refine⟨a+q*2+2-(i+1),om,i+1,_,y,aA rfl,om,om,W.1,permIn_trans _ _ _ a b J (swp_permIn e a b i (a+w) z om om om om),?_,iO s W.2.next,fxt v W.2,rfl⟩
  exact u
structure Chs (h h':H)(R:Nat):Prop where
 get: ∃s,h'.get R=bX [aB s]
 fx:Fx (· =R) h h'
theorem Chs.trans {a b c:H}{R:Nat}(x:Chs a b R)(y:Chs b c R):Chs a c R:=⟨y.get,x.fx.trans y.fx λ_ _ h=>h⟩
theorem order2_ok  (h:H)(S N a b R:Nat)(d:Array Int)(k:mE)(q:N<1000000)(A:Arr h S N d)(o:a<N)(n:b<N)(p:R≠S)(j:R<h.next)(s:Int)(l:h.get R=bX [aB s]):
  Ev T 186 [.sl S 0 N k,aB a,aB b,.ptr R 0] h (λv h'=>(v= .tup [aB a,aB b]∨v= .tup [aB b,aB a])/\Chs h h' R):=by
 refine bH c_slices_order2Ordered_int rfl rfl ?_
 have f:=A.rd (i:=a) om
 have m:=A.rd (i:=b) om
 simp(disch:=omega)only[go_sem,c_slices_order2Ordered_int,aF,f,m]
 refine (less_int _ _ _).mono ?_
 rintro _ e ⟨rfl,f⟩
 have g:Fr h e:=Fr.trans ((Fr.refl h).bL om) f
 have c:e.get R=bX [aB s]:=by rw[g.get R j];exact l
 cases hl:ltInt d[b]! d[a]! with
 |false=>
  simp(disch:=omega)only[go_sem,hl];exact⟨.inl trivial,⟨s,c⟩,Fx.of g⟩
 |true=>
  have cR:e.cell R 0=some (aB s):=by rw[H.aG c];rfl
  have m: ∀(w:Int) (f:H),dS (bX [aB s]) f R 0 [aB w]=some (f.set R (bX [aB w])):=λw f=>bE (by simp) f R _
  simp(disch:=omega)only[go_sem,hl,cR,c,m];exact⟨.inr trivial,⟨_,by rw[H.aT]⟩,(Fx.of (W:=(· =R)) g).trans (Fx.set e (W:=(· =R)) rfl _) (λ_ _ h=>h)⟩
theorem median_ok  (h:H)(S N a b c R:Nat)(d:Array Int)(i:mE)(o:N<1000000)(A:Arr h S N d)(r:a<N)(n:b<N)(G:c<N)(f:R≠S)(g:R<h.next)(s:Int)(P:h.get R=bX [aB s]):
  Ev T 172 [.sl S 0 N i,aB a,aB b,aB c,.ptr R 0] h (λv h'=>(∃m,v= aB (m:Nat)/\(m=a∨m=b∨m=c))/\Chs h h' R):=by
 refine bH c_slices_medianOrdered_int rfl rfl ?_
 simp(disch:=omega)only[go_sem,c_slices_medianOrdered_int,aF]
 refine (order2_ok h S N a b R d i o A r n f g s P).mono ?_
 rintro L O ⟨q,j⟩
 obtain⟨B,k,rfl,t,e,J⟩: ∃x y,L= .tup [aB (x:Nat),aB (y:Nat)]/\x<N/\y<N/\((x=a∨x=b)/\(y=a∨y=b)):=by
  rcases q with rfl|rfl
  ·exact⟨a,b,rfl,r,n,.inl rfl,.inr rfl⟩
  ·exact⟨b,a,rfl,n,r,.inr rfl,.inl rfl⟩
 have z:=A.fxo j.fx f
 obtain⟨J,q⟩:=j.get
 have w:=iO g j.fx.next
 simp(disch:=omega)only[go_sem]
 refine (order2_ok O S N k c R d i o z e G f w J q).mono ?_
 rintro Q K ⟨p,l⟩
 obtain⟨F,q,rfl,u,q⟩: ∃x y,Q= .tup [aB (x:Nat),aB (y:Nat)]/\x<N/\(x=k∨x=c):=by
  rcases p with rfl|rfl
  ·exact⟨k,c,rfl,e,.inl rfl⟩
  ·exact⟨c,k,rfl,G,.inr rfl⟩
 have k:=z.fxo l.fx f
 obtain⟨q,e⟩:=l.get
 have p:=iO w l.fx.next
 simp(disch:=omega)only[go_sem]
 refine (order2_ok K S N B F R d i o k t u f p q e).mono ?_
 rintro e e ⟨e,k⟩
 have C:=(j.trans l).trans k
 rcases e with rfl|rfl
 ·simp(disch:=omega)only[go_sem]
  exact⟨⟨F,rfl,om⟩,C⟩
 ·simp(disch:=omega)only[go_sem]
  exact⟨⟨B,rfl,om⟩,C⟩
theorem medianA_ok  (h:H)(S N a R:Nat)(d:Array Int)(c:mE)(k:N<1000000)(A:Arr h S N d)(l:0<a)(n:a+1<N)(j:R≠S)(b:R<h.next)(s:Int)(e:h.get R=bX [aB s]):
  Ev T 171 [.sl S 0 N c,aB a,.ptr R 0] h (λv h'=>(∃m,v= aB (m:Nat)/\(m=a- 1∨m=a∨m=a+1))/\Chs h h' R):=by
 refine bH c_slices_medianAdjacentOrdered_int rfl rfl ?_
 have i:(a:Int)- 1=((a- 1:Nat):Int):=om
 have f:(a:Int)+1=((a+1:Nat):Int):=om
 simp(disch:=omega)only[go_sem,c_slices_medianAdjacentOrdered_int,aF,i,f]
 refine (median_ok h S N (a- 1) a (a+1) R d c k A om om om j b s e).mono ?_
 rintro _ f ⟨⟨m,rfl,g⟩,C⟩
 simp(disch:=omega)only[go_sem]
 exact⟨⟨m,rfl,g⟩,C⟩
theorem pivot_ok  (h:H)(S N a b:Nat)(d:Array Int)(B:mE)(O:N<1000000)(A:Arr h S N d)(hb:b<=N)(a1:a<b):
  Ev T 131 [.sl S 0 N B,aB a,aB b] h (λv h'=> ∃(p:Nat) (t:Int),v= .tup [aB p,aB t]/\a<=p/\p<b/\Fr h h'):=by
 refine bH c_slices_choosePivotOrdered_int rfl rfl ?_
 obtain⟨n,e⟩:=IP (b-a)
 have Y:(b:Int)-(a:Int)=(n:Int):=om
 have Q:=tdivN n (k:=4) (m:=4) rfl
 obtain⟨q,e⟩:=IP (n/4)
 rw[e] at Q
 have ei:(a:Int)+(q:Int)*1=((a+q:Nat):Int):=om
 have ej:(a:Int)+(q:Int)*2=((a+q*2:Nat):Int):=om
 have W:(a:Int)+(q:Int)*3=((a+q*3:Nat):Int):=om
 obtain⟨R,L⟩:=IP h.next
 have c:R≠S:=by have:=A.lt;omega
 obtain⟨l,g⟩: ∃l,l=h.new (.cells false [aB 0]):=⟨_,rfl⟩
 have g1:l.get R=bX [aB 0]:=by rw[g,←L,H.aN]
 have e:l.next=R+1:=by rw[g,H.aY,L]
 have f1:Fr h l:=by rw[g];exact (Fr.refl h).new _
 have Z:=A.fr f1
 have K: ∀(p:Nat) (f:H),a<=p->p<b->Fx (· =R) l f->a<=p/\p<b/\Fr h f:=λp f x1 x2 e=>⟨x1,x2,jC f1.next e.next,λid a0=>(e.get id om (λe=>by have:id=R:=e;omega)).trans (f1.get id a0)⟩
 by_cases h8:(8:Int)<=(n:Int)
 case neg=>
  have U:=bM h8;simp(disch:=omega)only[go_sem,c_slices_choosePivotOrdered_int,aF,Y,Q,ei,ej,W,U];rw[←g];have cR:l.cell R 0=some (aB 0):=by rw[H.aG g1];rfl
  simp(disch:=omega)only[go_sem,L,cR];refine bB (λ_=>?_) (λe=>(e (by trivial)).elim);simp(disch:=omega)only[go_sem];exact⟨a+q*2,1,rfl,K _ _ om om (Fx.refl _ _)⟩
 have U:=bV h8
 have r: ∀(i j k:Nat) (f:H) (G:Int),a<=i->i<b->a<=j->j<b->a<=k->k<b->Arr f S N d->f.get R=bX [aB G]->R<f.next->Fx (· =R) l f->
   Ev T 172 [.sl S 0 N B,aB i,aB j,aB k,.ptr R 0] f (λv h'=> ∃p o,v= aB (p:Nat)/\a<=p/\p<b/\h'.get R=bX [aB o]/\Fr h h'):=by
  intro i j k f G e e e e e e P g2 n2 F2
  refine (median_ok f S N i j k R d B O P om om om c n2 G g2).mono ?_
  rintro _ y ⟨⟨p,rfl,e⟩,⟨o,w⟩,J⟩
  exact⟨p,o,rfl,om,om,w,(K p y om om (F2.trans J λ_ _ h=>h)).2.2⟩
 by_cases F:(50:Int)<=(n:Int)
 case neg=>
  have u:=bM F;simp(disch:=omega)only[go_sem,c_slices_choosePivotOrdered_int,aF,Y,Q,ei,ej,W,U,u];rw[←g];simp(disch:=omega)only[go_sem,L];refine (r (a+q) (a+q*2) (a+q*3) l 0 om om om om om om Z g1 om (Fx.refl _ _)).mono ?_;rintro _ y ⟨p,o,rfl,x,s,w,z⟩;have cR:y.cell R 0=some (aB o):=by rw[H.aG w];rfl
  simp(disch:=omega)only[go_sem,cR];refine bB (λ_=>?_) (λ_=>?_)
  ·simp(disch:=omega)only[go_sem]
   exact⟨p,1,rfl,x,s,z⟩
  ·simp(disch:=omega)only[go_sem]
   refine bB (λ_=>?_) (λ_=>?_)
   ·simp(disch:=omega)only[go_sem]
    exact⟨p,2,rfl,x,s,z⟩
   ·simp(disch:=omega)only[go_sem]
    exact⟨p,0,rfl,x,s,z⟩
 have u:=bV F
 simp(disch:=omega)only[go_sem,c_slices_choosePivotOrdered_int,aF,Y,Q,ei,ej,W,U,u]
 rw[←g]
 simp(disch:=omega)only[go_sem,L]
 refine (medianA_ok l S N (a+q) R d B O Z om om c om 0 g1).mono ?_
 rintro _ f ⟨⟨i,rfl,hi⟩,⟨G,g2⟩,F2⟩
 have P:=Z.fxo F2 c
 have n2:=F2.next
 simp(disch:=omega)only[go_sem]
 refine (medianA_ok f S N (a+q*2) R d B O P om om c om G g2).mono ?_
 rintro _ y ⟨⟨j,rfl,e⟩,⟨o,w⟩,J⟩
 have A3:=P.fxo J c
 have e:=J.next
 simp(disch:=omega)only[go_sem]
 refine (medianA_ok y S N (a+q*3) R d B O A3 om om c om o w).mono ?_
 rintro _ h4 ⟨⟨k,rfl,e⟩,⟨f,g⟩,e⟩
 have A4:=A3.fxo e c
 have c:=e.next
 simp(disch:=omega)only[go_sem]
 refine (r i j k h4 f om om om om om om A4 g om ((F2.trans J λ_ _ h=>h).trans e λ_ _ h=>h)).mono ?_
 rintro _ y ⟨p,o,rfl,x,s,w,z⟩
 have cR:y.cell R 0=some (aB o):=by rw[H.aG w];rfl
 simp(disch:=omega)only[go_sem,cR]
 refine bB (λ_=>?_) (λ_=>?_)
 ·simp(disch:=omega)only[go_sem]
  exact⟨p,1,rfl,x,s,z⟩
 ·simp(disch:=omega)only[go_sem]
  refine bB (λ_=>?_) (λ_=>?_)
  ·simp(disch:=omega)only[go_sem]
   exact⟨p,2,rfl,x,s,z⟩
  ·simp(disch:=omega)only[go_sem]
   exact⟨p,0,rfl,x,s,z⟩
section
variable {lt:Int->Int->Bool} {j b:Nat} {d:Array Int}
theorem shD_t (h:lt d[j+1]! d[j]! =true):shiftDown lt (j+1) d=shiftDown lt j (swp d (j+1) j):=by rw[shiftDown,aZ (by simp [h])]
theorem shD_f (h:lt d[j+1]! d[j]! =false):shiftDown lt (j+1) d=d:=by rw[shiftDown,aV (by simp [h])]
theorem shU_t (a:j<b)(h:lt d[j]! d[j- 1]! =true):shiftUp lt b j d=shiftUp lt b (j+1) (swp d j (j- 1)):=by rw[shiftUp,aV a,aZ (by simp [h])]
theorem shU_f (a:j<b)(h:lt d[j]! d[j- 1]! =false):shiftUp lt b j d=d:=by rw[shiftUp,aV a,aV (by simp [h])]
theorem scS_t {i:Nat}(hi:i<b)(h:lt d[i]! d[i- 1]! =false):scanSorted lt d b i=scanSorted lt d b (i+1):=by rw[scanSorted,aV (by simp [h,hi])]
theorem scS_f {i:Nat}(h: ¬(i<b/\lt d[i]! d[i- 1]! =false)):scanSorted lt d b i=i:=by rw[scanSorted,aZ (by simpa using h)]
theorem pIns_eq (lt:Int->Int->Bool)(a b s i:Nat)(d:Array Int):partialIns lt a b (s+1) i d=if scanSorted lt d b i=b then (d,true) else if b-a<50 then (d,false) else
  partialIns lt a b s (scanSorted lt d b i) (if b-scanSorted lt d b i≥2 then shiftUp lt b (scanSorted lt d b i+1) (if scanSorted lt d b i-a≥2 then shiftDown lt (scanSorted lt d b i- 1) (swp d (scanSorted lt d b i) (scanSorted lt d b i- 1)) else swp d (scanSorted lt d b i) (scanSorted lt d b i- 1)) else
   (if scanSorted lt d b i-a≥2 then shiftDown lt (scanSorted lt d b i- 1) (swp d (scanSorted lt d b i) (scanSorted lt d b i- 1)) else swp d (scanSorted lt d b i) (scanSorted lt d b i- 1))):=by rw[partialIns]
theorem partial_ok (h:H)(S N a b:Nat)(d:Array Int)(R:mE)(hN:N<1000000)(A:Arr h S N d)(hb:b<=N)(b1:a<b):
  Ev T 133 [.sl S 0 N R,aB a,aB b] h (λv h'=>v= .bool (partialInsertionSort ltInt d a b).2/\Arr h' S N (partialInsertionSort ltInt d a b).1/\Fx (· =S) h h'):=by
 refine bH c_slices_partialInsertionSortOrdered_int rfl rfl ?_
 simp(disch:=omega)only[go_sem,c_slices_partialInsertionSortOrdered_int,aF]
 rw[dX a]
 refine aH (λf c r=> ∃(s i:Nat) (e:Array Int),(∃g:Nat->V,c= [.sl S 0 N R,aB a,aB b,g 3,aB i,aB (5-(s:Int)),g 6,g 7,g 8,g 9,g 10,g 11,g 12,g 13,g 14,g 15,g 16,g 17])/\s<=5/\a<i/\i<=b/\Arr r S N e/\partialIns ltInt a b s i e=partialInsertionSort ltInt d a b/\Fx (· =S) h r/\f=s) 5
  ⟨5,a+1,d,aA rfl,om,om,om,A,rfl,Fx.refl _ h,rfl⟩ ?_
 clear A
 rintro f c Z ⟨s,i,e,⟨g,rfl⟩,hs,a9,b0,A,k,F,hk⟩
 subst hk
 by_cases B:(5:Int)-(f:Int)<5
 case neg=>
  have l:=bM B;obtain rfl:f=0:=om
  simp(disch:=omega)only[go_sem,l];have k:(e,false)=partialInsertionSort ltInt d a b:=k;rw[←k];exact⟨rfl,A,F⟩
 have l:=bV B
 obtain⟨s,rfl⟩: ∃s,f=s+1:=⟨f- 1,om⟩
 simp(disch:=omega)only[go_sem,l]
 rw[pIns_eq] at k
 refine aH (λf c r=> ∃(m:Nat),(∃g:Nat->V,c= [.sl S 0 N R,aB a,aB b,g 3,aB m,aB (5-((s+1:Nat):Int)),g 6,g 7,g 8,g 9,g 10,g 11,g 12,g 13,g 14,g 15,g 16,g 17])/\a<m/\m<=b/\Arr r S N e/\scanSorted ltInt e b m=scanSorted ltInt e b i/\Fx (· =S) h r/\f=b-m) (b-i)
  ⟨i,aA rfl,a9,b0,A,rfl,F,rfl⟩ ?_
 clear A F B l
 rintro f c t ⟨m,⟨g,rfl⟩,B,B,A,Q,F,rfl⟩
 have B:=A.size
 have L:(m:Int)- 1=((m- 1:Nat):Int):=om
 have a4:(m:Int)+1=((m+1:Nat):Int):=om
 by_cases a6:(m:Int)<(b:Int)
 case neg=>
  have l:=bM a6;have B:m=b:=om
  rw[scS_f om] at Q;rw[←Q,aV B] at k;have e2:decide ((m:Int)=(b:Int))=true:=bV om;simp(disch:=omega)only[go_sem,l,e2];rw[←k];exact⟨rfl,A.fr ((Fr.refl t).bL om),fxt F (Fx.of ((Fr.refl t).bL om))⟩
 have l:=bV a6
 have n:=A.rd (i:=m) om
 have o:=A.rd (i:=m- 1) om
 simp(disch:=omega)only[go_sem,l,L,n,o]
 refine (less_int _ _ _).mono ?_
 rintro _ h3 ⟨rfl,a1⟩
 have z:Fr t h3:=Fr.trans ((Fr.refl t).bL om) a1
 have G:=A.fr z
 have F3:=fxt F (Fx.of z)
 cases hl:ltInt e[m]! e[m- 1]! with
 |false=>
  rw[scS_t om hl] at Q;simp(disch:=omega)only[go_sem,hl,a4];exact⟨b-(m+1),om,m+1,aA rfl,om,om,G,Q,F3,rfl⟩
 |true=>
  rw[scS_f (by rw[hl];simp)] at Q;rw[←Q,aZ om] at k;have e2:decide ((m:Int)=(b:Int))=false:=bM om
  by_cases a3:(b:Int)-(a:Int)<50
  ·have y:=bV a3
   rw[aV om] at k;simp(disch:=omega)only[go_sem,hl,e2,y];rw[←k];exact⟨rfl,G,F3⟩
  have y:=bM a3;rw[aZ om] at k;have n:=G.rd (i:=m) om;have o:=G.rd (i:=m- 1) om;simp(disch:=omega)only[go_sem,hl,e2,y,L,n,o,G.get,put_cont,put_cont'];have W:=G.swap (i:=m) (j:=m- 1) (nx:=h3.next+18) om rfl
  obtain⟨y,a7⟩: ∃y,y=((H.mk h3.tr (h3.next+18)).set S (bX (ints (e.setIfInBounds m e[m- 1]!).toList))).set S (bX (ints ((e.setIfInBounds m e[m- 1]!).setIfInBounds (m- 1) e[m]!).toList)):=⟨_,rfl⟩
  rw[←a7] at W ⊢;obtain⟨A4,y⟩:=W;have w:=fxt F3 y;clear a7 y G F3 z a1 n o;obtain⟨U,a5⟩:=IP (swp e m (m- 1));rw[a5] at A4 k;refine kB (λe O=> ∃Y,(∃g:Nat->V,e= [.sl S 0 N R,aB a,aB b,g 3,aB m,aB (5-((s+1:Nat):Int)),g 6,g 7,g 8,g 9,g 10,g 11,g 12,g 13,g 14,g 15,g 16,g 17])/\Arr O S N Y/\Y=(if m-a≥2 then shiftDown ltInt (m- 1) U else U)/\Fx (· =S) h O) ?_ ?_
  ·refine bB (λt=>?_) (λt=>?_)
   ·simp(disch:=omega)only[go_sem,L]
    refine aH (λf c r=> ∃(j:Nat) (x:Array Int),(∃g:Nat->V,c= [.sl S 0 N R,aB a,aB b,g 3,aB m,aB (5-((s+1:Nat):Int)),aB j,g 7,g 8,g 9,g 10,g 11,g 12,g 13,g 14,g 15,g 16,g 17])/\j<b/\Arr r S N x/\shiftDown ltInt j x=shiftDown ltInt (m- 1) U/\Fx (· =S) h r/\f=j) (m- 1)
     ⟨m- 1,U,aA rfl,om,A4,rfl,w,rfl⟩ ?_
    rintro f c O ⟨j,x,⟨g,rfl⟩,hj,u,J,F5,hk⟩;subst hk;have e:=u.size
    by_cases Z:(1:Int)<=(f:Int)
    ·have l:=bV Z
     obtain⟨q,rfl⟩: ∃q,f=q+1:=⟨f- 1,om⟩
     have a0:((q+1:Nat):Int)- 1=(q:Int):=om
     have n:=u.rd (i:=q+1) om;have o:=u.rd (i:=q) om;simp(disch:=omega)only[go_sem,l,a0,n,o];refine (less_int _ _ _).mono ?_;rintro _ h6 ⟨rfl,e⟩;have y:Fr O h6:=Fr.trans ((Fr.refl O).bL om) e;have p:=u.fr y;have F6:=fxt F5 (Fx.of y)
     cases hl:ltInt x[q+1]! x[q]! with
     |false=>
      rw[shD_f hl] at J;simp(disch:=omega)only[go_sem,hl];exact .inl ⟨x,aA rfl,p,by rw[aV om,←J],F6⟩
     |true=>
      rw[shD_t hl] at J;have n:=p.rd (i:=q+1) om;have o:=p.rd (i:=q) om;simp(disch:=omega)only[go_sem,hl,a0,n,o,p.get,put_cont,put_cont'];have W:=p.swap (i:=q+1) (j:=q) (nx:=h6.next+18) om rfl;exact⟨q,om,q,_,aA rfl,om,W.1,J,fxt F6 W.2,rfl⟩
    ·have l:=bM Z
     obtain rfl:f=0:=om
     simp(disch:=omega)only[go_sem,l];have J:x=shiftDown ltInt (m- 1) U:=J;exact .inl ⟨x,aA rfl,u,by rw[aV om,←J],F5⟩
   ·simp(disch:=omega)only[go_sem]
    exact .inl ⟨U,aA rfl,A4,by rw[aZ om],w⟩
  ·rintro c O ⟨Y,⟨g,rfl⟩,u,e,F5⟩
   rw[←e] at k;clear A4 w e a5;simp(disch:=omega)only[go_sem];have K:(5:Int)-((s+1:Nat):Int)+1=5-(s:Int):=om
   refine bB (λt=>?_) (λt=>?_)
   ·rw[aV om] at k
    simp(disch:=omega)only[go_sem,a4];refine aH (λf c r=> ∃(j:Nat) (x:Array Int),(∃g:Nat->V,c= [.sl S 0 N R,aB a,aB b,g 3,aB m,aB (5-((s+1:Nat):Int)),g 6,aB j,g 8,g 9,g 10,g 11,g 12,g 13,g 14,g 15,g 16,g 17])/\0<j/\j<=b/\Arr r S N x/\shiftUp ltInt b j x=shiftUp ltInt b (m+1) Y/\Fx (· =S) h r/\f=b-j) (b-(m+1))
     ⟨m+1,Y,aA rfl,om,om,u,rfl,F5,rfl⟩ ?_
    rintro f c h6 ⟨j,x,⟨g,rfl⟩,c,hj,p,P,F6,rfl⟩;have c:=p.size
    by_cases Z:(j:Int)<(b:Int)
    ·have l:=bV Z
     have a2:(j:Int)- 1=((j- 1:Nat):Int):=om
     have a8:(j:Int)+1=((j+1:Nat):Int):=om
     have n:=p.rd (i:=j) om;have o:=p.rd (i:=j- 1) om;simp(disch:=omega)only[go_sem,l,a2,n,o];refine (less_int _ _ _).mono ?_;rintro _ h7 ⟨rfl,c⟩;have e:Fr h6 h7:=Fr.trans ((Fr.refl h6).bL om) c;have A7:=p.fr e;have F7:=fxt F6 (Fx.of e)
     cases hl:ltInt x[j]! x[j- 1]! with
     |false=>
      rw[shU_f om hl] at P;rw[←P] at k;simp(disch:=omega)only[go_sem,hl,K];exact⟨s,om,s,m,x,aA rfl,om,om,om,A7,k,F7,rfl⟩
     |true=>
      rw[shU_t om hl] at P;have n:=A7.rd (i:=j) om;have o:=A7.rd (i:=j- 1) om;simp(disch:=omega)only[go_sem,hl,a2,a8,n,o,A7.get,put_cont,put_cont'];have W:=A7.swap (i:=j) (j:=j- 1) (nx:=h7.next+18) om rfl;exact⟨b-(j+1),om,j+1,_,aA rfl,om,om,W.1,P,fxt F7 W.2,rfl⟩
    ·have l:=bM Z
     rw[shiftUp,aZ om] at P;rw[←P] at k;simp(disch:=omega)only[go_sem,l,K];exact⟨s,om,s,m,x,aA rfl,om,om,om,p,k,F6,rfl⟩
   ·rw[aZ om] at k
    simp(disch:=omega)only[go_sem,K];exact⟨s,om,s,m,Y,aA rfl,om,om,om,u,k,F5,rfl⟩
end
section
variable {p:Int->Bool} {d:Array Int} {j i:Nat}
theorem scU_t (a:i<=j)(h2:p d[i]! =true):scanUp p d j i=scanUp p d j (i+1):=by rw[scanUp,aV (by simp [a,h2])]
theorem scU_f (h: ¬(i<=j/\p d[i]! =true)):scanUp p d j i=i:=by rw[scanUp,aZ (by simpa using h)]
theorem scD_t (a:i<=j+1)(h2:p d[j+1]! =true):scanDown p d i (j+1)=scanDown p d i j:=by rw[scanDown,aV (by simp [a,h2])]
theorem scD_f (h: ¬(i<=j/\p d[j]! =true)):scanDown p d i j=j:=by
 cases j with
 |zero=>rfl
 |succ j=>rw[scanDown,aZ (by simpa using h)]
theorem scanUp_hi (p:Int->Bool)(d:Array Int)(j i:Nat):scanUp p d j i<=max i (j+1):=by
 obtain⟨n,a⟩:=IP (j+1-i)
 induction n generalizing i with
 |zero=>rw[scU_f (λh=>by have:=h.1;omega)];omega
 |succ n ih=>
  by_cases h:i<=j/\p d[i]! =true
  ·rw[scU_t h.1 h.2]
   have:=ih (i+1) om;omega
  ·rw[scU_f h];omega
theorem partition_ok (h:H)(S N a b pv:Nat)(d:Array Int)(Q:mE)(hN:N<1000000)(A:Arr h S N d)(hb:b<=N)(b4:a<=pv)(b3:pv<b):
  Ev T 136 [.sl S 0 N Q,aB a,aB b,aB pv] h (λv h'=>v= .tup [aB ((partition ltInt d a b pv).1:Nat),.bool (partition ltInt d a b pv).2.1]/\Arr h' S N (partition ltInt d a b pv).2.2/\Fx (· =S) h h'):=by
 refine bH c_slices_partitionOrdered_int rfl rfl ?_
 have sz:=A.size
 have J:=A.rd (i:=a) om
 have K:=A.rd (i:=pv) om
 simp(disch:=omega)only[go_sem,c_slices_partitionOrdered_int,aF,J,K,A.get,put_cont,put_cont']
 have W:=A.swap (i:=a) (j:=pv) (nx:=h.next+16) om rfl
 obtain⟨h1,R⟩: ∃h1,h1=((H.mk h.tr (h.next+16)).set S (bX (ints (d.setIfInBounds a d[pv]!).toList))).set S (bX (ints ((d.setIfInBounds a d[pv]!).setIfInBounds pv d[a]!).toList)):=⟨_,rfl⟩
 rw[←R] at W ⊢
 obtain⟨A1,F1⟩:=W
 obtain⟨e,he⟩:=IP (swp d a pv)
 rw[he] at A1
 clear R J K A
 have eb:(b:Int)- 1=((b- 1:Nat):Int):=om
 have ea:(a:Int)+1=((a+1:Nat):Int):=om
 have hP:partition ltInt d a b pv=if scanUp (λx=>ltInt x e[a]!) e (b- 1) (a+1)>scanDown (λx=>!ltInt x e[a]!) e (scanUp (λx=>ltInt x e[a]!) e (b- 1) (a+1)) (b- 1) then
   (scanDown (λx=>!ltInt x e[a]!) e (scanUp (λx=>ltInt x e[a]!) e (b- 1) (a+1)) (b- 1),true,swp e (scanDown (λx=>!ltInt x e[a]!) e (scanUp (λx=>ltInt x e[a]!) e (b- 1) (a+1)) (b- 1)) a) else
   ((partLoop ltInt a (scanUp (λx=>ltInt x e[a]!) e (b- 1) (a+1)+1) (scanDown (λx=>!ltInt x e[a]!) e (scanUp (λx=>ltInt x e[a]!) e (b- 1) (a+1)) (b- 1)- 1) (swp e (scanUp (λx=>ltInt x e[a]!) e (b- 1) (a+1)) (scanDown (λx=>!ltInt x e[a]!) e (scanUp (λx=>ltInt x e[a]!) e (b- 1) (a+1)) (b- 1)))).1,false,
    swp (partLoop ltInt a (scanUp (λx=>ltInt x e[a]!) e (b- 1) (a+1)+1) (scanDown (λx=>!ltInt x e[a]!) e (scanUp (λx=>ltInt x e[a]!) e (b- 1) (a+1)) (b- 1)- 1) (swp e (scanUp (λx=>ltInt x e[a]!) e (b- 1) (a+1)) (scanDown (λx=>!ltInt x e[a]!) e (scanUp (λx=>ltInt x e[a]!) e (b- 1) (a+1)) (b- 1)))).2 (partLoop ltInt a (scanUp (λx=>ltInt x e[a]!) e (b- 1) (a+1)+1) (scanDown (λx=>!ltInt x e[a]!) e (scanUp (λx=>ltInt x e[a]!) e (b- 1) (a+1)) (b- 1)- 1) (swp e (scanUp (λx=>ltInt x e[a]!) e (b- 1) (a+1)) (scanDown (λx=>!ltInt x e[a]!) e (scanUp (λx=>ltInt x e[a]!) e (b- 1) (a+1)) (b- 1)))).1 a):=by
  rw[←he];rfl
 obtain⟨R,R⟩:=IP (partition ltInt d a b pv)
 rw[R] at hP
 rw[R]
 simp(disch:=omega)only[go_sem,ea,eb]
 refine bW (λF c=>(∃g:Nat->V,F= [.sl S 0 N Q,aB a,aB b,aB pv,g 4,g 5,aB (scanUp (λx=>ltInt x e[a]!) e (b- 1) (a+1):Nat),aB ((b- 1):Nat),g 8,g 9,g 10,g 11,g 12,g 13])/\Arr c S N e/\Fx (· =S) h c) ?_ ?_
 ·refine aH (λB F c=> ∃(k:Nat),(∃g:Nat->V,F= [.sl S 0 N Q,aB a,aB b,aB pv,g 4,g 5,aB (k:Nat),aB ((b- 1):Nat),g 8,g 9,g 10,g 11,g 12,g 13])/\(a+1)<=k/\k<=N+2/\Arr c S N e/\scanUp (λx=>ltInt x e[a]!) e (b- 1) k=scanUp (λx=>ltInt x e[a]!) e (b- 1) (a+1)/\Fx (· =S) h c/\B=(b- 1)+1-k) ((b- 1)+1-(a+1))
   ⟨(a+1),aA rfl,om,om,A1,rfl,F1,rfl⟩ ?_
  rintro B l G ⟨k,⟨g,rfl⟩,a6,b1,q,m,Y,rfl⟩
  by_cases f:(k:Int)<=(((b- 1):Nat):Int)
  ·have o:decide ((k:Int)<=(((b- 1):Nat):Int))=true:=bV f
   have eK:(k:Int)+1=((k+1:Nat):Int):=om
   have a5:=q.size
   have J:=q.rd (i:=k) om
   have K:=q.rd (i:=a) om
   simp(disch:=omega)only[go_sem,o,J,K]
   refine (less_int _ _ _).mono ?_
   rintro _ L ⟨rfl,r⟩
   have y:Fr G L:=Fr.trans ((Fr.refl G).bL om) r
   have s:=q.fr y
   have t:=fxt Y (Fx.of y)
   cases hl:ltInt e[k]! e[a]! with
   |false=>
    rw[scU_f (λc=>by have:=c.2;simp [hl] at this)] at m;simp(disch:=omega)only[go_sem,hl];exact⟨by rw[←m];exact aA rfl,s,t⟩
   |true=>
    rw[scU_t om (by simp [hl])] at m;simp(disch:=omega)only[go_sem,hl,eK];exact⟨(b- 1)+1-(k+1),om,k+1,aA rfl,om,om,s,m,t,rfl⟩
  ·have o:decide ((k:Int)<=(((b- 1):Nat):Int))=false:=bM f
   rw[scU_f (λc=>f (by have:=c.1;omega))] at m
   simp(disch:=omega)only[go_sem,o]
   exact⟨by rw[←m];exact aA rfl,q.fr ((Fr.refl G).bL om),fxt Y (Fx.of ((Fr.refl G).bL om))⟩
 ·rintro l h9 ⟨⟨g,rfl⟩,A9,F9⟩
  have a0:=scanUp_ge (λx=>ltInt x e[a]!) e (b- 1) (a+1)
  have a3:=scanUp_hi (λx=>ltInt x e[a]!) e (b- 1) (a+1)
  obtain⟨n,U⟩: ∃x,scanUp (λx=>ltInt x e[a]!) e (b- 1) (a+1)=x:=⟨_,rfl⟩
  rw[U] at a0 a3
  rw[U]
  simp(disch:=omega)only[go_sem]
  refine bW (λF c=>(∃g:Nat->V,F= [.sl S 0 N Q,aB a,aB b,aB pv,g 4,g 5,aB (n:Nat),aB (scanDown (λx=>!ltInt x e[a]!) e n (b- 1):Nat),g 8,g 9,g 10,g 11,g 12,g 13])/\Arr c S N e/\Fx (· =S) h c) ?_ ?_
  ·refine aH (λB F c=> ∃(k:Nat),(∃g:Nat->V,F= [.sl S 0 N Q,aB a,aB b,aB pv,g 4,g 5,aB (n:Nat),aB (k:Nat),g 8,g 9,g 10,g 11,g 12,g 13])/\k<=(b- 1)/\Arr c S N e/\scanDown (λx=>!ltInt x e[a]!) e n k=scanDown (λx=>!ltInt x e[a]!) e n (b- 1)/\Fx (· =S) h c/\B=k) (b- 1)
    ⟨(b- 1),aA rfl,om,A9,rfl,F9,rfl⟩ ?_
   rintro B l G ⟨k,⟨g,rfl⟩,a6,q,m,Y,a4⟩
   subst a4
   by_cases f:((n:Nat):Int)<=(B:Int)
   ·have o:=bV f
    obtain⟨k,rfl⟩: ∃k,B=k+1:=⟨B- 1,om⟩
    have eK:((k+1:Nat):Int)- 1=(k:Int):=om
    have a5:=q.size
    have J:=q.rd (i:=k+1) om
    have K:=q.rd (i:=a) om
    simp(disch:=omega)only[go_sem,o,J,K]
    refine (less_int _ _ _).mono ?_
    rintro _ L ⟨rfl,r⟩
    have y:Fr G L:=Fr.trans ((Fr.refl G).bL om) r
    have s:=q.fr y
    have t:=fxt Y (Fx.of y)
    cases hl:ltInt e[k+1]! e[a]! with
    |true=>
     rw[scD_f (λc=>by have:=c.2;simp [hl] at this)] at m;simp(disch:=omega)only[go_sem,hl];exact⟨by rw[←m];exact aA rfl,s,t⟩
    |false=>
     rw[scD_t om (by simp [hl])] at m;simp(disch:=omega)only[go_sem,hl,eK];exact⟨k,om,k,aA rfl,om,s,m,t,rfl⟩
   ·have o:=bM f
    rw[scD_f (λc=>f (by have:=c.1;omega))] at m
    simp(disch:=omega)only[go_sem,o]
    exact⟨by rw[←m];exact aA rfl,q.fr ((Fr.refl G).bL om),fxt Y (Fx.of ((Fr.refl G).bL om))⟩
  ·rintro l h2 ⟨⟨g,rfl⟩,Z,F2⟩
   have a2:=scanDown_le (λx=>!ltInt x e[a]!) e n (b- 1)
   obtain⟨z,a1⟩: ∃x,scanDown (λx=>!ltInt x e[a]!) e n (b- 1)=x:=⟨_,rfl⟩
   rw[a1] at a2
   rw[a1]
   rw[U,a1] at hP
   have b2:=Z.size
   by_cases O:(z:Int)<(n:Int)
   ·have o:=bV O
    rw[aV om] at hP
    have J:=Z.rd (i:=z) om
    have K:=Z.rd (i:=a) om
    simp(disch:=omega)only[go_sem,o,J,K,Z.get,put_cont,put_cont']
    have W:=Z.swap (i:=z) (j:=a) (nx:=h2.next+16) om rfl
    rw[hP]
    exact⟨rfl,W.1,fxt F2 W.2⟩
   have o:=bM O
   rw[aZ om] at hP
   have J:=Z.rd (i:=n) om
   have K:=Z.rd (i:=z) om
   simp(disch:=omega)only[go_sem,o,J,K,Z.get,put_cont,put_cont']
   have W:=Z.swap (i:=n) (j:=z) (nx:=h2.next+16) om rfl
   obtain⟨h3,a8⟩: ∃h3,h3=((H.mk h2.tr (h2.next+16)).set S (bX (ints (e.setIfInBounds n e[z]!).toList))).set S (bX (ints ((e.setIfInBounds n e[z]!).setIfInBounds z e[n]!).toList)):=⟨_,rfl⟩
   rw[←a8] at W ⊢
   obtain⟨A3,a9⟩:=W
   have F3:=fxt F2 a9
   have a7:n<=z:=om
   obtain⟨e0,b0⟩:=IP (swp e n z)
   rw[b0] at A3 hP
   clear a8 J K Z A9 F9 A1 F1 he O o
   have ei:(n:Int)+1=((n+1:Nat):Int):=om
   have ej:(z:Int)- 1=((z- 1:Nat):Int):=om
   simp(disch:=omega)only[go_sem,ei,ej]
   refine bW (λF c=>(∃g:Nat->V,F= [.sl S 0 N Q,aB a,aB b,aB pv,g 4,g 5,g 6,aB (((partLoop ltInt a (n+1) (z- 1) e0).1:Nat):Int),g 8,g 9,g 10,g 11,g 12,g 13])/\Arr c S N (partLoop ltInt a (n+1) (z- 1) e0).2/\(partLoop ltInt a (n+1) (z- 1) e0).1<b/\Fx (· =S) h c) ?_ ?_
   ·refine aH (λB F c=> ∃(i j:Nat) (e:Array Int),(∃g:Nat->V,F= [.sl S 0 N Q,aB a,aB b,aB pv,g 4,g 5,aB i,aB j,g 8,g 9,g 10,g 11,g 12,g 13])/\a<i/\i<=b+1/\j<b/\Arr c S N e/\partLoop ltInt a i j e=partLoop ltInt a (n+1) (z- 1) e0/\Fx (· =S) h c/\B=j) (z- 1)
     ⟨n+1,z- 1,e0,aA rfl,om,om,om,A3,rfl,F3,rfl⟩ ?_
    obtain⟨R,R⟩:=IP (partLoop ltInt a (n+1) (z- 1) e0)
    rw[R]
    clear hP R U a1 b0 ei ej a2 a0 a3 F3 a9 A3 b2 h3 a7
    clear n z
    rintro B l h3 ⟨i,j,e,⟨g,rfl⟩,R,U,R,A3,hL,F3,a4⟩
    rw[partLoop_eq] at hL
    simp(disch:=omega)only[go_sem]
    refine bW (λF c=>(∃g:Nat->V,F= [.sl S 0 N Q,aB a,aB b,aB pv,g 4,g 5,aB (scanUp (λx=>ltInt x e[a]!) e j i:Nat),aB (j:Nat),g 8,g 9,g 10,g 11,g 12,g 13])/\Arr c S N e/\Fx (· =S) h c) ?_ ?_
    ·refine aH (λB F c=> ∃(k:Nat),(∃g:Nat->V,F= [.sl S 0 N Q,aB a,aB b,aB pv,g 4,g 5,aB (k:Nat),aB (j:Nat),g 8,g 9,g 10,g 11,g 12,g 13])/\i<=k/\k<=N+2/\Arr c S N e/\scanUp (λx=>ltInt x e[a]!) e j k=scanUp (λx=>ltInt x e[a]!) e j i/\Fx (· =S) h c/\B=j+1-k) (j+1-i)
      ⟨i,aA rfl,om,om,A3,rfl,F3,rfl⟩ ?_
     rintro B l G ⟨k,⟨g,rfl⟩,a6,b1,q,m,Y,rfl⟩
     by_cases f:(k:Int)<=((j:Nat):Int)
     ·have o:=bV f
      have eK:(k:Int)+1=((k+1:Nat):Int):=om
      have a5:=q.size
      have J:=q.rd (i:=k) om
      have K:=q.rd (i:=a) om
      simp(disch:=omega)only[go_sem,o,J,K]
      refine (less_int _ _ _).mono ?_
      rintro _ L ⟨rfl,r⟩
      have y:Fr G L:=Fr.trans ((Fr.refl G).bL om) r
      have s:=q.fr y
      have t:=fxt Y (Fx.of y)
      cases hl:ltInt e[k]! e[a]! with
      |false=>
       rw[scU_f (λc=>by have:=c.2;simp [hl] at this)] at m;simp(disch:=omega)only[go_sem,hl];exact⟨by rw[←m];exact aA rfl,s,t⟩
      |true=>
       rw[scU_t om (by simp [hl])] at m;simp(disch:=omega)only[go_sem,hl,eK];exact⟨j+1-(k+1),om,k+1,aA rfl,om,om,s,m,t,rfl⟩
     ·have o:=bM f
      rw[scU_f (λc=>f (by have:=c.1;omega))] at m
      simp(disch:=omega)only[go_sem,o]
      exact⟨by rw[←m];exact aA rfl,q.fr ((Fr.refl G).bL om),fxt Y (Fx.of ((Fr.refl G).bL om))⟩
    ·rintro l h9 ⟨⟨g,rfl⟩,A9,F9⟩
     have a0:=scanUp_ge (λx=>ltInt x e[a]!) e j i
     have a3:=scanUp_hi (λx=>ltInt x e[a]!) e j i
     obtain⟨u,hu⟩: ∃x,scanUp (λx=>ltInt x e[a]!) e j i=x:=⟨_,rfl⟩
     rw[hu] at a0 a3
     rw[hu]
     simp(disch:=omega)only[go_sem]
     refine bW (λF c=>(∃g:Nat->V,F= [.sl S 0 N Q,aB a,aB b,aB pv,g 4,g 5,aB (u:Nat),aB (scanDown (λx=>!ltInt x e[a]!) e u j:Nat),g 8,g 9,g 10,g 11,g 12,g 13])/\Arr c S N e/\Fx (· =S) h c) ?_ ?_
     ·refine aH (λB F c=> ∃(k:Nat),(∃g:Nat->V,F= [.sl S 0 N Q,aB a,aB b,aB pv,g 4,g 5,aB (u:Nat),aB (k:Nat),g 8,g 9,g 10,g 11,g 12,g 13])/\k<=j/\Arr c S N e/\scanDown (λx=>!ltInt x e[a]!) e u k=scanDown (λx=>!ltInt x e[a]!) e u j/\Fx (· =S) h c/\B=k) j
       ⟨j,aA rfl,om,A9,rfl,F9,rfl⟩ ?_
      rintro B l G ⟨k,⟨g,rfl⟩,a6,q,m,Y,a4⟩
      subst a4
      by_cases f:((u:Nat):Int)<=(B:Int)
      ·have o:=bV f
       obtain⟨k,rfl⟩: ∃k,B=k+1:=⟨B- 1,om⟩
       have eK:((k+1:Nat):Int)- 1=(k:Int):=om
       have a5:=q.size
       have J:=q.rd (i:=k+1) om
       have K:=q.rd (i:=a) om
       simp(disch:=omega)only[go_sem,o,J,K]
       refine (less_int _ _ _).mono ?_
       rintro _ L ⟨rfl,r⟩
       have y:Fr G L:=Fr.trans ((Fr.refl G).bL om) r
       have s:=q.fr y
       have t:=fxt Y (Fx.of y)
       cases hl:ltInt e[k+1]! e[a]! with
       |true=>
        rw[scD_f (λc=>by have:=c.2;simp [hl] at this)] at m;simp(disch:=omega)only[go_sem,hl];exact⟨by rw[←m];exact aA rfl,s,t⟩
       |false=>
        rw[scD_t om (by simp [hl])] at m;simp(disch:=omega)only[go_sem,hl,eK];exact⟨k,om,k,aA rfl,om,s,m,t,rfl⟩
      ·have o:=bM f
       rw[scD_f (λc=>f (by have:=c.1;omega))] at m
       simp(disch:=omega)only[go_sem,o]
       exact⟨by rw[←m];exact aA rfl,q.fr ((Fr.refl G).bL om),fxt Y (Fx.of ((Fr.refl G).bL om))⟩
     ·rintro l h4 ⟨⟨g,rfl⟩,A4,F4⟩
      have a2:=scanDown_le (λx=>!ltInt x e[a]!) e u j
      obtain⟨w,hw⟩: ∃x,scanDown (λx=>!ltInt x e[a]!) e u j=x:=⟨_,rfl⟩
      rw[hw] at a2
      rw[hw]
      rw[hu,hw] at hL
      have c:=A4.size
      by_cases O:(w:Int)<(u:Int)
      ·have o:=bV O
       rw[aV om] at hL
       simp(disch:=omega)only[go_sem,o]
       rw[←hL]
       exact⟨aA rfl,A4,om,F4⟩
      have o:=bM O
      rw[aZ om] at hL
      have J:=A4.rd (i:=u) om
      have K:=A4.rd (i:=w) om
      have ei:(u:Int)+1=((u+1:Nat):Int):=om
      have ej:(w:Int)- 1=((w- 1:Nat):Int):=om
      simp(disch:=omega)only[go_sem,o,J,K,A4.get,put_cont,put_cont',ei,ej]
      have W:=A4.swap (i:=u) (j:=w) (nx:=h4.next+16) om rfl
      exact⟨w- 1,om,u+1,w- 1,_,aA rfl,om,om,om,W.1,hL,fxt F4 W.2,rfl⟩
   ·rintro l h5 ⟨⟨g,rfl⟩,A5,P,F5⟩
    generalize partLoop ltInt a (n+1) (z- 1) e0=r at hP A5 P
    obtain⟨m,c⟩:=r
    have P:m<b:=P
    have A5:Arr h5 S N c:=A5
    have c:=A5.size
    have J:=A5.rd (i:=m) om
    have K:=A5.rd (i:=a) om
    simp(disch:=omega)only[go_sem,J,K,A5.get,put_cont,put_cont']
    have W:=A5.swap (i:=m) (j:=a) (nx:=h5.next+16) om rfl
    rw[hP]
    exact⟨rfl,W.1,fxt F5 W.2⟩
theorem partEq_ok (h:H)(S N a b pv:Nat)(d:Array Int)(J:mE)(hN:N<1000000)(A:Arr h S N d)(hb:b<=N)(a6:a<=pv)(a5:pv<b):
  Ev T 135 [.sl S 0 N J,aB a,aB b,aB pv] h (λv h'=>v= aB ((partitionEqual ltInt d a b pv).1:Nat)/\Arr h' S N (partitionEqual ltInt d a b pv).2/\Fx (· =S) h h'):=by
 refine bH c_slices_partitionEqualOrdered_int rfl rfl ?_
 have sz:=A.size
 have F:=A.rd (i:=a) om
 have G:=A.rd (i:=pv) om
 simp(disch:=omega)only[go_sem,c_slices_partitionEqualOrdered_int,aF,F,G,A.get,put_cont,put_cont']
 have W:=A.swap (i:=a) (j:=pv) (nx:=h.next+16) om rfl
 obtain⟨h1,P⟩: ∃h1,h1=((H.mk h.tr (h.next+16)).set S (bX (ints (d.setIfInBounds a d[pv]!).toList))).set S (bX (ints ((d.setIfInBounds a d[pv]!).setIfInBounds pv d[a]!).toList)):=⟨_,rfl⟩
 rw[←P] at W ⊢
 obtain⟨Y,F1⟩:=W
 have eb:(b:Int)- 1=((b- 1:Nat):Int):=om
 have ea:(a:Int)+1=((a+1:Nat):Int):=om
 unfold partitionEqual
 obtain⟨O,he⟩: ∃e,swp d a pv=e:=⟨_,rfl⟩
 rw[he] at Y ⊢
 clear P F G A
 simp(disch:=omega)only[go_sem,ea,eb]
 refine bW (λo c=>(∃g:Nat->V,o= [.sl S 0 N J,aB a,aB b,aB pv,g 4,aB (((partEqLoop ltInt a (a+1) (b- 1) O).1:Nat):Int),g 6,g 7,g 8,g 9])/\Arr c S N (partEqLoop ltInt a (a+1) (b- 1) O).2/\Fx (· =S) h c) ?_ ?_
 ·refine aH (λq o c=> ∃(i j:Nat) (e:Array Int),(∃g:Nat->V,o= [.sl S 0 N J,aB a,aB b,aB pv,g 4,aB i,aB j,g 7,g 8,g 9])/\a<i/\i<=b+1/\j<b/\Arr c S N e/\partEqLoop ltInt a i j e=partEqLoop ltInt a (a+1) (b- 1) O/\Fx (· =S) h c/\q=j) (b- 1)
   ⟨a+1,b- 1,O,aA rfl,om,om,om,Y,rfl,F1,rfl⟩ ?_
  obtain⟨P,P⟩:=IP (partEqLoop ltInt a (a+1) (b- 1) O)
  rw[P]
  clear P F1 Y h1 he O
  rintro q f O ⟨i,j,e,⟨g,rfl⟩,O,O,O,A3,L,F3,R⟩
  rw[partEqLoop_eq] at L
  simp(disch:=omega)only[go_sem]
  refine bW (λo c=>(∃g:Nat->V,o= [.sl S 0 N J,aB a,aB b,aB pv,g 4,aB (scanUp (λx=>!ltInt e[a]! x) e j i:Nat),aB (j:Nat),g 7,g 8,g 9])/\Arr c S N e/\Fx (· =S) h c) ?_ ?_
  ·refine aH (λq o c=> ∃(k:Nat),(∃g:Nat->V,o= [.sl S 0 N J,aB a,aB b,aB pv,g 4,aB (k:Nat),aB (j:Nat),g 7,g 8,g 9])/\i<=k/\k<=N+2/\Arr c S N e/\scanUp (λx=>!ltInt e[a]! x) e j k=scanUp (λx=>!ltInt e[a]! x) e j i/\Fx (· =S) h c/\q=j+1-k) (j+1-i)
    ⟨i,aA rfl,om,om,A3,rfl,F3,rfl⟩ ?_
   rintro q f B ⟨k,⟨g,rfl⟩,a3,O,n,m,U,rfl⟩
   by_cases l:(k:Int)<=((j:Nat):Int)
   ·have t:=bV l
    have eK:(k:Int)+1=((k+1:Nat):Int):=om
    have a1:=n.size
    have F:=n.rd (i:=k) om
    have G:=n.rd (i:=a) om
    simp(disch:=omega)only[go_sem,t,F,G]
    refine (less_int _ _ _).mono ?_
    rintro _ K ⟨rfl,r⟩
    have z:Fr B K:=Fr.trans ((Fr.refl B).bL om) r
    have s:=n.fr z
    have y:=fxt U (Fx.of z)
    cases hl:ltInt e[a]! e[k]! with
    |true=>
     rw[scU_f (λc=>by have:=c.2;simp [hl] at this)] at m;simp(disch:=omega)only[go_sem,hl];exact⟨by rw[←m];exact aA rfl,s,y⟩
    |false=>
     rw[scU_t om (by simp [hl])] at m;simp(disch:=omega)only[go_sem,hl,eK];exact⟨j+1-(k+1),om,k+1,aA rfl,om,om,s,m,y,rfl⟩
   ·have t:=bM l
    rw[scU_f (λc=>l (by have:=c.1;omega))] at m
    simp(disch:=omega)only[go_sem,t]
    exact⟨by rw[←m];exact aA rfl,n.fr ((Fr.refl B).bL om),fxt U (Fx.of ((Fr.refl B).bL om))⟩
  ·rintro f O ⟨⟨g,rfl⟩,A9,F9⟩
   have a0:=scanUp_ge (λx=>!ltInt e[a]! x) e j i
   have a4:=scanUp_hi (λx=>!ltInt e[a]! x) e j i
   obtain⟨u,hu⟩: ∃x,scanUp (λx=>!ltInt e[a]! x) e j i=x:=⟨_,rfl⟩
   rw[hu] at a0 a4
   rw[hu]
   simp(disch:=omega)only[go_sem]
   refine bW (λo c=>(∃g:Nat->V,o= [.sl S 0 N J,aB a,aB b,aB pv,g 4,aB (u:Nat),aB (scanDown (λx=>ltInt e[a]! x) e u j:Nat),g 7,g 8,g 9])/\Arr c S N e/\Fx (· =S) h c) ?_ ?_
   ·refine aH (λq o c=> ∃(k:Nat),(∃g:Nat->V,o= [.sl S 0 N J,aB a,aB b,aB pv,g 4,aB (u:Nat),aB (k:Nat),g 7,g 8,g 9])/\k<=j/\Arr c S N e/\scanDown (λx=>ltInt e[a]! x) e u k=scanDown (λx=>ltInt e[a]! x) e u j/\Fx (· =S) h c/\q=k) j
     ⟨j,aA rfl,om,A9,rfl,F9,rfl⟩ ?_
    rintro q f B ⟨k,⟨g,rfl⟩,a3,n,m,U,R⟩
    subst R
    by_cases l:((u:Nat):Int)<=(q:Int)
    ·have t:=bV l
     obtain⟨k,rfl⟩: ∃k,q=k+1:=⟨q- 1,om⟩
     have eK:((k+1:Nat):Int)- 1=(k:Int):=om
     have a1:=n.size
     have F:=n.rd (i:=k+1) om
     have G:=n.rd (i:=a) om
     simp(disch:=omega)only[go_sem,t,F,G]
     refine (less_int _ _ _).mono ?_
     rintro _ K ⟨rfl,r⟩
     have z:Fr B K:=Fr.trans ((Fr.refl B).bL om) r
     have s:=n.fr z
     have y:=fxt U (Fx.of z)
     cases hl:ltInt e[a]! e[k+1]! with
     |false=>
      rw[scD_f (λc=>by have:=c.2;simp [hl] at this)] at m;simp(disch:=omega)only[go_sem,hl];exact⟨by rw[←m];exact aA rfl,s,y⟩
     |true=>
      rw[scD_t om (by simp [hl])] at m;simp(disch:=omega)only[go_sem,hl,eK];exact⟨k,om,k,aA rfl,om,s,m,y,rfl⟩
    ·have t:=bM l
     rw[scD_f (λc=>l (by have:=c.1;omega))] at m
     simp(disch:=omega)only[go_sem,t]
     exact⟨by rw[←m];exact aA rfl,n.fr ((Fr.refl B).bL om),fxt U (Fx.of ((Fr.refl B).bL om))⟩
   ·rintro f h4 ⟨⟨g,rfl⟩,A4,F4⟩
    have a2:=scanDown_le (λx=>ltInt e[a]! x) e u j
    obtain⟨w,Z⟩: ∃x,scanDown (λx=>ltInt e[a]! x) e u j=x:=⟨_,rfl⟩
    rw[Z] at a2
    rw[Z]
    rw[hu,Z] at L
    have c:=A4.size
    by_cases Q:(w:Int)<(u:Int)
    ·have t:=bV Q
     rw[aV om] at L
     simp(disch:=omega)only[go_sem,t]
     rw[←L]
     exact⟨aA rfl,A4,F4⟩
    have t:=bM Q
    rw[aZ om] at L
    have F:=A4.rd (i:=u) om
    have G:=A4.rd (i:=w) om
    have c:(u:Int)+1=((u+1:Nat):Int):=om
    have e:(w:Int)- 1=((w- 1:Nat):Int):=om
    simp(disch:=omega)only[go_sem,t,F,G,A4.get,put_cont,put_cont',c,e]
    have W:=A4.swap (i:=u) (j:=w) (nx:=h4.next+16) om rfl
    exact⟨w- 1,om,u+1,w- 1,_,aA rfl,om,om,om,W.1,L,fxt F4 W.2,rfl⟩
 ·rintro f c ⟨⟨g,rfl⟩,c,e⟩
  simp(disch:=omega)only[go_sem]
  exact⟨c,e⟩
end
def PdqC  (n:Nat):Prop:= ∀(h:H) (S N a b:Nat) (lim:Int) (d:Array Int) (cp:mE),N<60000->Arr h S N d->a<=b->b<=N->b-a<=n->0<=lim->lim<1000000->Below ltInt a b d->
 Ev T 111 [.sl S 0 N cp,aB a,aB b,aB lim] h (λ_ h'=> ∃e,Arr h' S N e/\PermIn a b d e/\SortedIn ltInt a b e/\Fx (· =S) h h')
theorem pdq_ok  (n:Nat)(ih: ∀m,m<n->PdqC m):PdqC n:=by
 intro h S N a b a7 d o hN A x a5 hn s q hB;refine bH c_slices_pdqsortOrdered_int rfl rfl ?_;simp(disch:=omega)only[go_sem,c_slices_pdqsortOrdered_int,aF]
 refine aH (λk' u P=> ∃(c f:Nat) (l':Int) (O wp:Bool) (e:Array Int),(∃g:Nat->V,u= [.sl S 0 N o,aB (c:Int),aB (f:Int),aB l',.bool O,.bool wp,g 6,g 7,g 8,g 9,g 10,g 11,g 12,g 13,g 14,g 15,g 16,g 17,g 18,g 19,g 20,g 21,g 22])/\c<=f/\f<=N/\a<=c/\f<=b/\0<=l'/\l'<1000000/\Below ltInt c f e/\Arr P S N e/\Fx (· =S) h P/\
   (∀R,PermIn c f e R->SortedIn ltInt c f R->PermIn a b d R/\SortedIn ltInt a b R)/\k'=f-c) (b-a)
  ⟨a,b,a7,true,true,d,aA rfl,x,a5,fH _,fH _,s,q,hB,A,Fx.refl _ h,λR h1 h2=>⟨h1,h2⟩,rfl⟩ ?_
 clear A hB s q;rintro k' u h1 ⟨c,f,l',O,wp,e,⟨g,rfl⟩,w,j,a4,a3,s,q,hB,A,F,K,rfl⟩;obtain⟨m,a⟩:=IP (f-c);have b:(f:Int)-(c:Int)=(m:Int):=om
 have ez: ∀{x:Array Int} {hx:H},Arr hx S N x->f<=x.size:=λA=>by rw[A.size];exact j
 by_cases a:(m:Int)<=12
 ·have U:=bV a
  simp(disch:=omega)only[go_sem,b,U];refine (insertion_ok h1 S N c f e o om A j w).mono ?_;rintro _ h2 ⟨A2,F2⟩;obtain⟨d,Z⟩:=insertionSort_holds swo_ltInt e c f w (ez A);obtain⟨Y,q2⟩:=K _ d Z;simp(disch:=omega)only[go_sem];exact⟨_,A2,Y,q2,fxt F F2⟩
 have U:=bM a
 by_cases hl:l'=0
 ·have z:=bV hl
  simp(disch:=omega)only[go_sem,b,U,z];refine (heapSort_ok h1 S N c f e o om A j w).mono ?_;rintro _ h2 ⟨A2,F2⟩;obtain⟨d,Z⟩:=heapSort_holds swo_ltInt e c f w (ez A);obtain⟨Y,q2⟩:=K _ d Z;simp(disch:=omega)only[go_sem];exact⟨_,A2,Y,q2,fxt F F2⟩
 have z:=bM hl;simp(disch:=omega)only[go_sem,b,U,z];refine kB (λQ P=> ∃(z:Array Int) (y:Int) (g:Nat->V),Q= [.sl S 0 N o,aB (c:Int),aB (f:Int),aB y,.bool O,.bool wp,aB m,g 7,g 8,g 9,g 10,g 11,g 12,g 13,g 14,g 15,g 16,g 17,g 18,g 19,g 20,g 21,g 22]/\0<=y/\y<1000000/\Arr P S N z/\PermIn c f e z/\Fx (· =S) h P) ?_ ?_
 ·cases O with
  |true=>
   simp(disch:=omega)only[go_sem];exact .inl ⟨e,l',_,(aA rfl: ∃g:Nat->V,_= [.sl S 0 N o,aB (c:Int),aB (f:Int),aB l',.bool true,.bool wp,aB m,g 7,g 8,g 9,g 10,g 11,g 12,g 13,g 14,g 15,g 16,g 17,g 18,g 19,g 20,g 21,g 22]).choose_spec,s,q,A,permIn_refl e c f,F⟩
  |false=>
   simp(disch:=omega)only[go_sem];refine (break_ok h1 S N c f e o hN A j w).mono ?_;rintro _ h2 ⟨z,A2,Z,F2⟩;simp(disch:=omega)only[go_sem];exact .inl ⟨z,l'- 1,_,(aA rfl: ∃g:Nat->V,_= [.sl S 0 N o,aB (c:Int),aB (f:Int),aB (l'- 1),.bool false,.bool wp,aB m,g 7,g 8,g 9,g 10,g 11,g 12,g 13,g 14,g 15,g 16,g 17,g 18,g 19,g 20,g 21,g 22]).choose_spec,om,om,A2,Z,fxt F F2⟩
 clear A F s q hl z g;rintro u h2 ⟨z,y,g,rfl,s,q,A,P2,F⟩;have B2:=hB.perm (by rw[←P2.1];exact ez A) P2;simp(disch:=omega)only[go_sem];refine (pivot_ok h2 S N c f z o om A j om).mono ?_;rintro _ h3 ⟨p,t,rfl,G,J,f3⟩;have A3:=A.fr f3;have F3:=fxt F (Fx.of f3);clear A F;simp(disch:=omega)only[go_sem];refine kB (λQ P=> ∃(e3:Array Int) (Z:Nat) (t2:Int) (g:Nat->V),Q= [.sl S 0 N o,aB (c:Int),aB (f:Int),aB y,.bool O,.bool wp,aB m,aB Z,aB t2,g 9,g 10,g 11,g 12,g 13,g 14,g 15,g 16,g 17,g 18,g 19,g 20,g 21,g 22]/\c<=Z/\Z<f/\Arr P S N e3/\PermIn c f z e3/\Fx (· =S) h P) ?_ ?_
 ·refine bB (λht=>?_) (λht=>?_)
  ·simp(disch:=omega)only[go_sem]
   refine (reverse_ok h3 S N c f z o om A3 j om).mono ?_;rintro _ h4 ⟨A4,F4⟩;have W:(f:Int)- 1-((p:Int)-(c:Int))=(((f- 1)-(p-c):Nat):Int):=om
   simp(disch:=omega)only[go_sem,W];exact .inl ⟨_,(f- 1)-(p-c),1,_,(aA rfl: ∃g:Nat->V,_= [.sl S 0 N o,aB (c:Int),aB (f:Int),aB y,.bool O,.bool wp,aB m,aB ((f- 1)-(p-c):Nat),aB 1,g 9,g 10,g 11,g 12,g 13,g 14,g 15,g 16,g 17,g 18,g 19,g 20,g 21,g 22]).choose_spec,om,om,A4,reverseRange_holds z c f w (ez A3),fxt F3 F4⟩
  ·simp(disch:=omega)only[go_sem]
   exact .inl ⟨z,p,t,_,(aA rfl: ∃g:Nat->V,_= [.sl S 0 N o,aB (c:Int),aB (f:Int),aB y,.bool O,.bool wp,aB m,aB p,aB t,g 9,g 10,g 11,g 12,g 13,g 14,g 15,g 16,g 17,g 18,g 19,g 20,g 21,g 22]).choose_spec,G,J,A3,permIn_refl z c f,F3⟩
 have a1:=ez A3;clear A3 F3 G J f3 p t g;rintro u h4 ⟨e3,p,t,g,rfl,G,J,A,P3,F⟩;have B3:=B2.perm a1 P3;have a0:=permIn_trans _ _ _ c f P2 P3;have a6:f<=z.size:=a1;clear a1 B2 hB;refine yW (λQ P=> ∃(B:Array Int) (g:Nat->V),Q= [.sl S 0 N o,aB (c:Int),aB (f:Int),aB y,.bool O,.bool wp,aB m,aB p,g 8,g 9,g 10,g 11,g 12,g 13,g 14,g 15,g 16,g 17,g 18,g 19,g 20,g 21,g 22]/\Arr P S N B/\PermIn c f e B/\Below ltInt c f B/\Fx (· =S) h P) ?_ ?_
 ·have skip: ∀(Q:List V),(∃g:Nat->V,Q= [.sl S 0 N o,aB (c:Int),aB (f:Int),aB y,.bool O,.bool wp,aB m,aB p,g 8,g 9,g 10,g 11,g 12,g 13,g 14,g 15,g 16,g 17,g 18,g 19,g 20,g 21,g 22])-> ∃(B:Array Int) (g:Nat->V),Q= [.sl S 0 N o,aB (c:Int),aB (f:Int),aB y,.bool O,.bool wp,aB m,aB p,g 8,g 9,g 10,g 11,g 12,g 13,g 14,g 15,g 16,g 17,g 18,g 19,g 20,g 21,g 22]/\Arr h4 S N B/\PermIn c f e B/\Below ltInt c f B/\Fx (· =S) h h4:=λQ ⟨g,a⟩=>⟨e3,g,a,A,a0,B3,F⟩
  have run: ∀g:Nat->V,Ev T 133 [.sl S 0 N o,aB (c:Int),aB (f:Int)] h4 (λv b=> ∃r:Array Int×Bool,v= .bool r.2/\Arr b S N r.1/\Fx (· =S) h4 b/\PermIn c f e3 r.1/\(r.2=true->SortedIn ltInt c f r.1)):=λ_=>by
   refine (partial_ok h4 S N c f e3 o om A j om).mono ?_;rintro v h5 ⟨a,A5,F5⟩;obtain⟨Y,q2⟩:=partialInsertionSort_holds swo_ltInt e3 c f om (ez A) B3;exact⟨_,a,A5,F5,Y,q2⟩
  cases O with
  |false=>
   simp(disch:=omega)only[go_sem];exact .inl (skip _ (aA rfl))
  |true=>cases wp with
   |false=>
    simp(disch:=omega)only[go_sem]
    exact .inl (skip _ (aA rfl))
   |true=>
    simp(disch:=omega)only[go_sem]
    refine bB (λht=>?_) (λht=>?_)
    ·simp(disch:=omega)only[go_sem]
     refine (run g).mono ?_
     rintro v h5 ⟨⟨W,r5⟩,rfl,A5,F5,Y,q2⟩
     have A5:Arr h5 S N W:=A5
     have Y:PermIn c f e3 W:=Y
     have P5:=permIn_trans _ _ _ c f a0 Y
     cases r5 with
     |false=>
      simp(disch:=omega)only[go_sem];exact .inl ⟨W,_,(aA rfl: ∃g:Nat->V,_= [.sl S 0 N o,aB (c:Int),aB (f:Int),aB y,.bool true,.bool true,aB m,aB p,g 8,g 9,g 10,g 11,g 12,g 13,g 14,g 15,g 16,g 17,g 18,g 19,g 20,g 21,g 22]).choose_spec,A5,P5,B3.perm (ez A) Y,fxt F F5⟩
     |true=>
      obtain⟨w1,w2⟩:=K _ P5 (q2 rfl);simp(disch:=omega)only[go_sem];exact .inr ⟨by simp,W,A5,w1,w2,fxt F F5⟩
    ·simp(disch:=omega)only[go_sem]
     exact .inl (skip _ (aA rfl))
 clear A P3 a0 B3 F P2 a6 e3 z;rintro u h5 ⟨B,g,rfl,A,P4,B4,F⟩;have a2:=ez A;refine yW (λQ P=> ∃(g:Nat->V),Q= [.sl S 0 N o,aB (c:Int),aB (f:Int),aB y,.bool O,.bool wp,aB m,aB p,g 8,g 9,g 10,g 11,g 12,g 13,g 14,g 15,g 16,g 17,g 18,g 19,g 20,g 21,g 22]/\Arr P S N B/\Fx (· =S) h P) ?_ ?_
 ·by_cases h0:(0:Int)<(c:Int)
  case neg=>
   have U:=bM h0;simp(disch:=omega)only[go_sem,U];exact .inl ⟨_,(aA rfl: ∃g:Nat->V,_= [.sl S 0 N o,aB (c:Int),aB (f:Int),aB y,.bool O,.bool wp,aB m,aB p,g 8,g 9,g 10,g 11,g 12,g 13,g 14,g 15,g 16,g 17,g 18,g 19,g 20,g 21,g 22]).choose_spec,A.fr ((Fr.refl h5).bL om),fxt F (Fx.of ((Fr.refl h5).bL om))⟩
  have U:=bV h0;have a:(c:Int)- 1=((c- 1:Nat):Int):=om
  have b:=A.rd (i:=c- 1) om;have d:=A.rd (i:=p) om;simp(disch:=omega)only[go_sem,U,a,b,d];refine (less_int _ _ _).mono ?_;rintro _ h6 ⟨rfl,a⟩;have b:Fr h5 h6:=Fr.trans ((Fr.refl h5).bL om) a;have A6:=A.fr b;have F6:=fxt F (Fx.of b)
  cases hl:ltInt B[c- 1]! B[p]! with
  |true=>
   simp(disch:=omega)only[go_sem,hl];exact .inl ⟨_,(aA rfl: ∃g:Nat->V,_= [.sl S 0 N o,aB (c:Int),aB (f:Int),aB y,.bool O,.bool wp,aB m,aB p,g 8,g 9,g 10,g 11,g 12,g 13,g 14,g 15,g 16,g 17,g 18,g 19,g 20,g 21,g 22]).choose_spec,A6,F6⟩
  |false=>
   obtain⟨w1,w2,w3,w4,w5⟩:=round_eq swo_ltInt (partitionEqual_holds ltInt) om G J a2 B4 hl (Prod.eta (partitionEqual ltInt B c f p)).symm;simp(disch:=omega)only[go_sem,hl];refine (partEq_ok h6 S N c f p B o om A6 j G J).mono ?_;rintro _ h7 ⟨rfl,A7,F7⟩;simp(disch:=omega)only[go_sem];refine .inr ⟨by simp,f-(partitionEqual ltInt B c f p).1,om,(partitionEqual ltInt B c f p).1,f,y,O,wp,_,aA rfl,w2,j,om,a3,s,q,w4,A7,fxt F6 F7,λR r1 r2=>?_,rfl⟩;obtain⟨t1,t2⟩:=w5 R r1 r2;exact K R (permIn_trans _ _ _ c f P4 t1) t2
 clear A F;rintro u h6 ⟨g,rfl,A,F⟩;have e8:=tdivN m (k:=8) (m:=8) rfl;simp(disch:=omega)only[go_sem];refine (partition_ok h6 S N c f p B o om A j G J).mono ?_;obtain⟨r,a⟩:=IP (partition ltInt B c f p);rw[a];obtain⟨l,ap,W⟩:=r;obtain⟨w1,w2,w3,w4,w5,w6,w7⟩:=round_part swo_ltInt (partition_holds ltInt) G J a2 B4 a;rintro _ h7 ⟨rfl,A7,F7⟩;have A7:Arr h7 S N W:=A7;have F7:=fxt F F7;have el:(l:Int)-(c:Int)=((l-c:Nat):Int):=om
 have a:(f:Int)-(l:Int)=((f-l:Nat):Int):=om
 have U:(l:Int)+1=((l+1:Nat):Int):=om
 simp(disch:=omega)only[go_sem,el,a,e8];refine bB (λht=>?_) (λht=>?_)
 ·simp(disch:=omega)only[go_sem]
  refine (ih (l-c) om h7 S N c l y W o hN A7 w1 om (fH _) s q w4).mono ?_;rintro _ h8 ⟨L,A8,p8,s8,F8⟩;obtain⟨u1,u2⟩:=w6 L p8 s8;simp(disch:=omega)only[go_sem,U];refine⟨f-(l+1),om,l+1,f,y,_,ap,L,aA rfl,om,j,om,a3,s,q,u1,A8,fxt F7 F8,λR r1 r2=>?_,rfl⟩;obtain⟨t1,t2⟩:=u2 R r1 r2;exact K R (permIn_trans _ _ _ c f P4 t1) t2
 ·simp(disch:=omega)only[go_sem,U]
  refine (ih (f-(l+1)) om h7 S N (l+1) f y W o hN A7 om j (fH _) s q w5).mono ?_;rintro _ h8 ⟨L,A8,p8,s8,F8⟩;obtain⟨u1,u2⟩:=w7 L p8 s8;simp(disch:=omega)only[go_sem];refine⟨l-c,om,c,l,y,_,ap,L,aA rfl,om,om,a4,om,s,q,u1,A8,fxt F7 F8,λR r1 r2=>?_,rfl⟩;obtain⟨t1,t2⟩:=u2 R r1 r2;exact K R (permIn_trans _ _ _ c f P4 t1) t2
theorem pdq_all  (n:Nat):PdqC n:=by
 induction n using Nat.strongRecOn with
 |_ n ih=>exact pdq_ok n  ih
theorem sortArr_ok (h:H)(S N:Nat)(d:Array Int)(a:mE)(f:N<60000)(A:Arr h S N d):
  Ev T 87 [.sl S 0 N a] h (λ_ h'=> ∃e,Arr h' S N e/\PermIn 0 N d e/\SortedIn ltInt 0 N e/\Fx (· =S) h h'):=by
 refine bH c_slices_Sort_int_int rfl rfl ?_
 have g:bitsLen N<=16:=(bitsLen_le_iff _ 16).2 om
 simp(disch:=omega)only[go_sem,c_slices_Sort_int_int,aF,wrap_u64_in (n:=(N:Int)) om om]
 refine (len_ok N h om).mono ?_
 rintro _ b ⟨rfl,c⟩
 subst c
 simp(disch:=omega)only[go_sem]
 refine (pdq_all N b S N 0 N _ d a f A om om om om om (.inl rfl)).mono ?_
 rintro _ b ⟨e,b,p,s,F⟩
 simp(disch:=omega)only[go_sem]
 exact⟨e,b,p,s,F⟩
theorem arr_list {l:List Int}{N:Nat}(f:l.length=N){e:Array Int}(h:PermIn 0 N l.toArray e)(g:SortedIn ltInt 0 N e):e.toList.Perm l/\e.toList.Pairwise (· <= ·):=by
 obtain⟨b,a,c⟩:=h;have a:e.size=N:=by rw[b];simpa using f
 refine⟨?_,?_⟩
 ·have d:(e.extract 0 N).toList=e.toList:=by rw[←a];simp
  have b:(l.toArray.extract 0 N).toList=l:=by rw[←f];simp
  rwa [d,b] at c
 ·rw[Po]
  intro i j hi d b;have c:j<N:=by simpa [a] using d
  have:=g i j (eY _) b c;unfold ltInt at this;have b:e[i]! =e.toList[i]:=by simp at hi;simp [hi]
  have a:e[j]! =e.toList[j]:=by simp at d;simp [d]
  rw[b,a] at this;simpa using this
theorem sort_ok (h:H)(S:Nat)(l:List Int)(a:mE)(g:l.length<60000)(d:h.get S=bX (ints l))(f:S<h.next):
  Ev T 87 [.sl S 0 l.length a] h (λ_ h'=> ∃l',h'.get S=bX (ints l')/\l'.Perm l/\l'.Pairwise (· <= ·)/\Fx (· =S) h h'):=by
 refine (sortArr_ok h S l.length l.toArray a g ⟨d,by simp,f⟩).mono ?_
 rintro _ h' ⟨e,A,p,s,F⟩
 obtain⟨c,b⟩:=arr_list rfl p s
 exact⟨e.toList,A.get,c,b,F⟩
theorem asc_perm {a b:List Int}(h:a.Perm b)(f:a.Pairwise (· <= ·))(d:b.Pairwise (· <= ·)):a=b:=
 h.eq_of_pairwise (λ_ _ _ _ c e=>Int.le_antisymm c e) f d
end Go.Proofs.YtapfcpkecmmagaaGreat
namespace Go.Proofs.YtapfcpkecmmagaaGreat
open Go Go.Ay Go.Pm
set_option maxRecDepth 100000
theorem values1_ok (id b:Nat)(d:V)(l:List Int)(h:H)(t:l.length<1000000)(J:Nat->H->Prop)(D:H->Prop)(m:J 0 h)
  (o: ∀i hh,J i hh->hh.get b=bX [d]/\SI hh d l)
  (s: ∀i hh,i<l.length->J i hh->Ey T id [aB (l.getD i 0)] hh (λv h'=>v= .bool true/\J (i+1) h'∨v= .bool false/\D h')):
  Ev T 180 [.yl id,.ptr b 0] h (λ_ h'=>J l.length h'∨D h'):=by
 refine bH c_slices_Values_int_int_1 rfl rfl ?_
 obtain⟨p,q⟩:=o 0 h m
 have r:h.cell b 0=some d:=by rw[H.aG p];rfl
 have p:=q.lens
 simp(disch:=omega)only[go_sem,c_slices_Values_int_int_1,aF,r,p]
 refine aH (λn a hh=> ∃(i:Nat),(∃g:Nat->V,a= [.yl id,.ptr b 0,g 2,d,aB (l.length:Int),aB i,g 6,g 7])/\i<=l.length/\J i hh/\n=l.length-i) l.length
  ⟨0,aA rfl,eY _,m,rfl⟩ ?_
 rintro n a k ⟨i,⟨g,rfl⟩,hi,j,rfl⟩
 by_cases c:(i:Int)<(l.length:Int)
 ·have f:=bV c
  obtain⟨a,n⟩:=o i k j
  obtain⟨a,a,a,g,g⟩:=n.open
  have ci:=g i om
  simp(disch:=omega)only[go_sem,f,a.ixa,ci]
  refine (s i k om j).mono ?_
  rintro v a (⟨rfl,e⟩|⟨rfl,e⟩)
  ·simp(disch:=omega)only[go_sem]
   rw[dX i]
   exact⟨l.length-(i+1),om,i+1,aA rfl,om,e,rfl⟩
  ·simp(disch:=omega)only[go_sem]
   exact .inr e
 have f:=bM c
 obtain rfl:i=l.length:=om
 simp(disch:=omega)only[go_sem,f]
 exact .inl j
theorem collect_ok (b:Nat)(P:V)(l:List Int)(h:H)(hn:l.length<100000)(hb:h.get b=bX [P])(O:b<h.next)(L:SI h P l):
  Ev T 179 [.fn 180 [] [.ptr b 0]] h (λv h'=>Own h' v 1 (ints l) h.next/\(v= .aD∨ ∃id cap,v= .sl id 0 l.length cap/\h.next<=id/\id<h'.next/\h'.get id=bX (ints l))/\Fr h h'):=by
 refine bH c_slices_Collect_int rfl rfl ?_
 simp(disch:=omega)only[go_sem,c_slices_Collect_int,aF]
 refine Ev.mono (Q:=λv h'=>Own h' v 1 (ints l) h.next/\(v= .aD∨ ∃id cap,v= .sl id 0 l.length cap/\h.next<=id/\id<h'.next/\h'.get id=bX (ints l))/\Fr h h') ?_ (λv h' L=>by simp(disch:=omega)only[go_sem];exact L)
 refine bH c_slices_AppendSeq_int_int rfl rfl ?_
 simp(disch:=omega)only[go_sem,c_slices_AppendSeq_int_int,aF,kC (x:= .aD) rfl rfl]
 obtain⟨B,U⟩:=IP h.next
 obtain⟨u,q⟩: ∃u,u=h.new (.cells false [.aD]):=⟨_,rfl⟩
 have g1:u.get B=bX [.aD]:=by rw[q,←U,H.aN]
 have n1:u.next=B+1:=by rw[q,H.aY,U]
 have f1:Fr h u:=by rw[q];exact (Fr.refl h).new _
 rw[←q,U]
 refine⟨rfl,?_⟩
 refine sJ λr p=>?_
 refine (values1_ok (B+1) b P l _ om (λi d=>d.get (B+1)=some (.loop r)/\B+1<d.next/\Fr h d/\ ∃g,d.get B=bX [g]/\Own d g 1 (ints (l.take i)) (B+2)/\(g= .aD∨ ∃id cap,g= .sl id 0 i cap/\B+2<=id/\id<d.next/\d.get id=bX (ints (l.take i)))) (λ_=>False) ?_ ?_ ?_).mono ?_
 ·have e:=H.aN u (.loop r)
  rw[n1] at e
  refine⟨e,by rw[H.aY];omega,f1.new _,.aD,by rw[H.bJ u om];exact g1,Own.aD _ _ _,.inl rfl⟩
 ·rintro i d ⟨_,_,f,_⟩
  exact⟨by rw[f.get b O];exact hb,L.mono f⟩
 ·rintro i d hi ⟨K,nr,f,g,G,F,J⟩
  have gY:r.st= .ready:=by rw[p]
  have W:r.pend=none:=by rw[p]
  refine pM K (by rw[p];rfl) gY λs g2 Y o2=>?_
  rw[congrArg fM.assign p,congrArg fM.vars p,congrArg fM.pars p]
  simp(disch:=omega)only[go_sem,List.zip_cons_cons,List.zip_nil_left]
  rw[congrArg fM.body p]
  have N:s.cell B 0=some g:=by unfold H.cell;rw[o2 B om,G];rfl
  simp(disch:=omega)only[go_sem,N,cJ s (z:= aB 0) (v:= aB (l.getD i 0)) rfl rfl,Y]
  obtain⟨a,o⟩: ∃a,a=s.new (.cells false [aB (l.getD i 0)]):=⟨_,rfl⟩
  have q:a.get d.next=bX [aB (l.getD i 0)]:=by rw[o,←Y,H.aN]
  have u:a.next=d.next+1:=by rw[o,H.aY,Y]
  have Z: ∀k,k<d.next->k≠B+1->a.get k=d.get k:=λk j w=>by rw[o,H.bJ s om,o2 k w]
  have r3:a.get (B+1)=some (.loop (nW r)):=by rw[o,H.bJ s om,g2]
  rw[←o]
  have d:Own a g 1 (ints (l.take i)) (B+2):=F.mono om λid y n c e j w=>Z id w om
  have o:(l.take i).length=i:=by rw[xV];omega
  obtain⟨j,a4,A⟩:=d.push (bytes:=8) (SV.one om q (.kn 1)) (n:=i) (m:=1) (by rw[aL,o,jY]) rfl om om om
  have R: ∀k,k<B+2->dF g k:=λk d id y n c e d=>by
   have:=(F.in _ _ _ _ e).2.1;omega
  have k:j.get B=bX [g]:=by rw[A.old B om (R B om),Z B om om];exact G
  have o:j.get (B+1)=some (.loop (nW r)):=by rw[A.old (B+1) om (R (B+1) om)];exact r3
  have d:dS (bX [g]) j B 0 [.sl a.next 0 (i+1) (.un 1)]=some (j.set B (bX [.sl a.next 0 (i+1) (.un 1)])):=bE (by simp) j B _
  simp(disch:=omega)only[go_sem,a4,k,d]
  refine pG gY W (by rw[H.aI j om];exact o) (.inl ⟨rfl,?_⟩)
  have d:ints (l.take (i+1))=ints (l.take i)++ [aB (l.getD i 0)]:=by
   rw[←List.take_append_getElem hi,jZ];simp [ints,List.getD,hi]
  have k:=A.next
  have g5:((j.set B (bX [.sl a.next 0 (i+1) (.un 1)])).set (B+1) (some (.loop r))).get a.next=bX (ints (l.take (i+1))):=by
   rw[H.aI _ om,H.aI _ om,A.get,d]
  refine⟨by rw[H.aT],by simp only[H.cZ];omega,⟨by simp only[H.cZ];have:=f.next;omega,λid t=>?_⟩,_,by rw[H.aI _ om,H.aT],?_,.inr ⟨a.next,_,rfl,om,by simp only[H.cZ];omega,g5⟩⟩
  ·rw[H.aI _ om,H.aI _ om,A.old id (by have:=f.next;omega) (R id om),Z id (by have:=f.next;omega) om]
   exact f.get id t
  ·exact .inr ⟨a.next,i+1,_, [],rfl,by rw[aL,xV];omega,.inl rfl,om,by simp only[H.cZ];omega,by rw[pN];exact g5⟩
 ·rintro _ s (⟨K,nr,f,g,G,F,J⟩|h)
  case inr=>exact h.elim
  refine⟨r,K,by rw[p];simp,?_⟩
  have N:(s.set (B+1) (some (.loop {r with st:= .out}))).cell B 0=some g:=by unfold H.cell;rw[H.aI _ om,G];rfl
  have en:r.pend.getD .norm= .norm:=by rw[p];rfl
  rw[en]
  simp(disch:=omega)only[go_sem,N]
  rw[List.take_length] at F J
  refine⟨?_,?_,⟨by simp only[H.cZ];have:=f.next;omega,λid t=>by rw[H.aI _ om];exact f.get id t⟩⟩
  ·refine (F.mono (by simp only[H.cZ];omega) λid y n c e j w=>H.aI _ om _).le om
  ·rcases J with rfl|⟨id,cap,rfl,a,j,w⟩
   ·exact .inl rfl
   ·exact .inr ⟨id,cap,rfl,om,j,by rw[H.aI _ om];exact w⟩
theorem sorted_ok (b:Nat)(d:V)(l:List Int)(h:H)(u:0<l.length)(t:l.length<50000)(j:h.get b=bX [d])(c:b<h.next)(r:SI h d l):
  Ev T 157 [.fn 180 [] [.ptr b 0]] h (λv h'=> ∃id cap l',v= .sl id 0 l.length cap/\h.next<=id/\id<h'.next/\h'.get id=bX (ints l')/\l'.Perm l/\l'.Pairwise (· <= ·)/\Fr h h'):=by
 refine bH c_slices_Sorted_int rfl rfl ?_
 simp(disch:=omega)only[go_sem,c_slices_Sorted_int,aF]
 refine (collect_ok b d l h om j c r).mono ?_
 rintro v i ⟨p,k,a⟩
 rcases k with rfl|⟨id,cap,rfl,m,g,o⟩
 ·exfalso
  rcases p with ⟨_,e⟩|⟨_,_,_,_,e,_⟩
  ·have:=congrArg List.length e
   rw[aL,List.length_nil] at this
   omega
  ·cases e
 simp(disch:=omega)only[go_sem]
 refine (sort_ok i id l cap om o g).mono ?_
 rintro _ i ⟨l',q,s,n,f⟩
 simp(disch:=omega)only[go_sem]
 exact⟨id,cap,l',rfl,m,iO g f.next,q,s,n,jC a.next f.next,λk g=>(f.get k (iO g a.next) (λe=>by have:k=id:=e;omega)).trans (a.get k g)⟩
section
variable {v vO vR:V} {b C D n:Nat} {r O:LN} {wsO wsR:List V}
structure Frsh (h h':H)(v:V)(l:List Int):Prop where
 ex: ∃id cap,v= .sl id 0 l.length cap/\h.next<=id/\id<h'.next/\h'.get id=bX (ints l)/\(cap= .un 1∨cap= .kn l.length)
 fr:Fr h h'
theorem Frsh.pv {h h':H}{l:List Nat}(f:Frsh h h' v (zi l)){W:Nat->Prop}(c: ∀id,W id->id<h.next):PV W h' v l:=by
 obtain⟨id,a,rfl,a,d,a,_⟩:=f.ex;exact⟨SV.all (by rw[aL,jY]) d a _,λa=>by have:=c id a;omega⟩
theorem Frsh.si {h h':H}{l:List Int}(f:Frsh h h' v l):SI h' v l:=by
 obtain⟨id,a,rfl,a,a,c,_⟩:=f.ex;exact SV.all (by rw[aL,jY]) a c _
theorem Frsh.own {h h':H}{l:List Int}(f:Frsh h h' v l):Own h' v 1 (ints l) h.next:=by
 obtain⟨id,a,rfl,d,g,c,e⟩:=f.ex;exact .inr ⟨id,l.length,a, [],rfl,by rw[aL,jY],by rcases e with e|e;exact .inl e;exact .inr ⟨e,rfl⟩,d,g,by rw[pN];exact c⟩
theorem clone_ok (u:V)(l:List Int)(h:H)(o:0<l.length)(s:l.length<1000000)(k:SI h u l):
  Ev T 100 [u] h (λv h'=>Frsh h h' v l):=by
 refine bH c_slices_Clone_api_Perm_int rfl rfl ?_
 have p:Bo false u=some (.bool false):=by
  rcases k with ⟨_,e⟩|⟨id,c,len,g,g,g,rfl,_⟩
  ·have:=congrArg List.length e
   rw[aL,List.length_nil] at this;omega
  ·rfl
 simp(disch:=omega)only[go_sem,c_slices_Clone_api_Perm_int,aF,p]
 have f:Fr h (h.new (.cells false [])):=(Fr.refl h).new _
 have q:Own (h.new (.cells false [])) (.sl h.next 0 0 (.kn 0)) 1 [] 0:=Own.new h 1 0 0 [] rfl (eY _)
 obtain⟨g,j,a⟩:=q.push (bytes:=8) (k.mono f) (n:=0) (m:=l.length) rfl (by rw[aL,jY]) om o om
 have g:(h.new (.cells false [])).next=h.next+1:=H.aY ..
 rw[g] at j
 have p:=a.next
 have i:=a.get
 rw[g] at p i
 simp(disch:=omega)only[go_sem,j]
 refine⟨⟨h.next+1,_,rfl,om,om,i,.inl rfl⟩,om,λid d=>?_⟩
 rw[a.old id om (λa c n c e a=>by cases e;omega)]
 exact f.get id d
def CapOk (v:V):Prop:= ∀id off len cap,v= .sl id off len cap->cap= .un 1∨ ∃c,cap= .kn c/\len<=c
theorem Own.capOk {h:H}{ws:List V}(o:Own h v 1 ws b):CapOk v:=by
 rintro id c len c rfl;rcases o with ⟨e,_⟩|⟨_,_,_,_,e,_,a,_⟩
 ·cases e
 ·cases e
  rcases a with e|⟨e,_⟩
  ·exact .inl e
  ·exact .inr ⟨_,e,fH _⟩
def SRR (h:H)(v:V)(R:List (List (List Int))):Prop:= ∃ws,SV h v 1 ws/\All2 (SR h) ws R/\ ∀w∈ws,CapOk w
theorem SRR.mono {h h':H}{R:List (List (List Int))}(s:SRR h v R)(f:Fr h h'):SRR h' v R:=by
 obtain⟨c,s,a,k⟩:=s;exact⟨c,s.mono f,a.mono λ_ _ x=>x.mono f,k⟩
def ChI (h:H)(v:V)(d:Int)(O:List (List Int))(R:List (List (List Int))):Prop:= ∃vO vR,v= .agg [aB d,vO,vR]/\SR h vO O/\SRR h vR R
theorem ChI.mono {h h':H}{d:Int}{O:List (List Int)}{R:List (List (List Int))}(s:ChI h v d O R)(f:Fr h h'):ChI h' v d O R:=by
 obtain⟨vO,vR,e,a,c⟩:=s;exact⟨vO,vR,e,a.mono f,c.mono f⟩
def PL (W:Nat->Prop)(h:H)(v:V)(r:LN):Prop:= ∃ws,SV h v 1 ws/\Ho W v/\PVs W h ws r/\CapOk v
section
variable {W W':Nat->Prop} {h h' hh:H}
theorem PL.go (p:PL W h v r)(f:Fx W h h')(c: ∀id,id<h.next->W' id->W id):PL W' h' v r:=by
 obtain⟨d,s,o,a,k⟩:=p;exact⟨d,s.fx o f,o.weak s c,PVs.go a f c,k⟩
theorem PL.sp (p:PL W h v r):SP h v r:=by
 obtain⟨c,s,o,a,_⟩:=p;refine⟨c,s,?_⟩;have c:=All2.length a
 exact All2.iC (by simpa using c) λi hi c=>by
  have:=(All2.get a i hi om).si;simpa using this
def BlkIn (W:Nat->Prop)(v:V):Prop:= ∀id off n c,v= .sl id off n c->W id
structure CAcc (h hh:H)(C D:Nat)(W:Nat->Prop)(n:Nat)(O:LN)(R:jL)(vO vR:V)(wsO wsR:List V):Prop where
 get:hh.get C=bX [aB n,vO,vR]
 oO:Own hh vO 1 wsO h.next
 oR:Own hh vR 1 wsR h.next
 aO:PVs W hh wsO O
 aR:All2 (PL W hh) wsR R
 bO:BlkIn W vO
 bR:BlkIn W vR
 pO:dF vO C
 pR:dF vR C
 qO:dF vO D
 qR:dF vR D
 d:W D
 cd:C≠D
 dis:GN vO vR
 wb: ∀id,W id->id<hh.next
 low: ∀id,id<h.next->W id
 hC:h.next<=C
 hD:h.next<=D
 c:W C
 fr:Fr h hh
theorem CAcc.start (j:h.next<=C)(c:C<hh.next)(g:h.next<=D)(a:D<hh.next)(d:C≠D)(f:Fr h hh)(i:hh.get C=bX [aB n,.aD,.aD]):CAcc h hh C D (λid=>id=C∨id=D∨id<h.next) n [] [] .aD .aD [] []:=
 ⟨i,Own.aD _ _ _,Own.aD _ _ _,trivial,trivial,λ_ _ _ _ e=>(by cases e),λ_ _ _ _ e=>(by cases e),dF.aD _,dF.aD _,dF.aD _,dF.aD _,.inr (.inl rfl),d,λ_ _ _ _ e=>(by cases e),λid e=>by rcases e with rfl|rfl|e;exact c;exact a;exact iO e f.next,λid e=> .inr (.inr e),j,g,.inl rfl,f⟩
theorem CAcc.mono {R:jL}(A:CAcc h hh C D W n O R vO vR wsO wsR){h2:H}(f:Fr hh h2):CAcc h h2 C D W n O R vO vR wsO wsR:=
 ⟨by rw[f.get C (A.wb C A.c)];exact A.get,A.oO.fr f,A.oR.fr f,PVs.go A.aO (Fx.of f) (λ_ _ h=>h),A.aR.mono λ_ _ x=>x.go (Fx.of f) (λ_ _ h=>h),A.bO,A.bR,A.pO,A.pR,A.qO,A.qR,A.d,A.cd,A.dis,λid h=>iO (A.wb id h) f.next,A.low,A.hC,A.hD,A.c,A.fr.trans f⟩
theorem CAcc.step {R:jL}(A:CAcc h hh C D W n O R vO vR wsO wsR){v4 v5:V}{o:List Nat}(y:PV W hh v4 o)(z:PL W hh v5 r)
  {h6:H} {a k1 k2:Nat} (N:hh.next<=a) (L:hh.next<=b) (u:a≠b) (t:a<h6.next) (s:b<h6.next) (K:wsO.length+1=k1) (G:wsR.length+1=k2)
  (B:h6.get C=bX [aB n,.sl a 0 k1 (.un 1),.sl b 0 k2 (.un 1)]) (F:h6.get a=bX (wsO++ [v4])) (J:h6.get b=bX (wsR++ [v5]))
  (m: ∀k,k<hh.next->k≠C->dF vO k->dF vR k->h6.get k=hh.get k):
  CAcc h h6 C D (λid=>W id∨id=a∨id=b) n (O++ [o]) (R++ [r]) (.sl a 0 k1 (.un 1)) (.sl b 0 k2 (.un 1)) (wsO++ [v4]) (wsR++ [v5]):=by
 have q:Fx W hh h6:=⟨om,λid g i=>m id g (λe=>i (e▸A.c)) (λj f n c e l=>i (l▸A.bO _ _ _ _ e)) (λj f n c e l=>i (l▸A.bR _ _ _ _ e))⟩
 have p: ∀id,id<hh.next->(W id∨id=a∨id=b)->W id:=λid g i=>by
  rcases i with i|i|i
  ·exact i
  ·omega
  ·omega
 have i:=A.wb C A.c
 have i:=A.wb D A.d
 have i:=A.fr.next
 refine⟨B,.inr ⟨a,k1,_, [],rfl,by rw[jD];simp;omega,.inl rfl,om,t,by rw[pN];exact F⟩,.inr ⟨b,k2,_, [],rfl,by rw[jD];simp;omega,.inl rfl,om,s,by rw[pN];exact J⟩,
  (PVs.go A.aO q p).append (PVs.one (PV.go y q p)),(A.aR.mono λ_ _ x=>x.go q p).append ⟨z.go q p,trivial⟩,λid f n c e=>by cases e;exact .inr (.inl rfl),λid f n c e=>by cases e;exact .inr (.inr rfl),
  dF.sl om,dF.sl om,dF.sl om,dF.sl om,.inl A.d,A.cd,λi o n c e i i i i w=>by cases e;cases w;exact u,λid g=>?_,λid g=> .inl (A.low id g),A.hC,A.hD,.inl A.c,⟨om,λid i=>?_⟩⟩
 ·rcases g with g|g|g
  ·have:=A.wb id g;omega
  ·omega
  ·omega
 ·have p:=A.hC
  rw[m id om om (λj f n c e l=>by have:=(A.oO.in _ _ _ _ e).2.1;omega) (λj f n c e l=>by have:=(A.oR.in _ _ _ _ e).2.1;omega)]
  exact A.fr.get id i
theorem CAcc.box {R:jL}(A:CAcc h hh C D W n O R vO vR wsO wsR){h3:H}{o:Option Ob}(e:h3=hh.set D o):CAcc h h3 C D W n O R vO vR wsO wsR:=by
 subst e;have f:Fx W hh (hh.set D o):=Fx.set hh A.d o;have i:=A.wb D A.d
 refine⟨by rw[H.aI hh A.cd];exact A.get,A.oO.mono (fH _) λid g m c e _ _=>H.aI hh (λa=>A.qO _ _ _ _ e a.symm) o,A.oR.mono (fH _) λid g m c e _ _=>H.aI hh (λa=>A.qR _ _ _ _ e a.symm) o,
  PVs.go A.aO f (λ_ _ h=>h),A.aR.mono λ_ _ x=>x.go f (λ_ _ h=>h),A.bO,A.bR,A.pO,A.pR,A.qO,A.qR,A.d,A.cd,A.dis,A.wb,A.low,A.hC,A.hD,A.c,?_⟩
 exact A.fr.set A.hD o
end
def ChW (W:Nat->Prop)(h:H)(v:V)(n:Nat)(O:LN)(R:jL):Prop:= ∃vO vR wsO wsR,v= .agg [aB n,vO,vR]/\SV h vO 1 wsO/\Ho W vO/\PVs W h wsO O/\SV h vR 1 wsR/\Ho W vR/\All2 (PL W h) wsR R
section
variable {W W':Nat->Prop} {h h' hh:H}
theorem ChW.go {R:jL}(c:ChW W h v n O R)(f:Fx W h h')(a: ∀id,id<h.next->W' id->W id):ChW W' h' v n O R:=by
 obtain⟨vO,vR,wsO,wsR,e,i,d,k,j,g,l⟩:=c;exact⟨vO,vR,wsO,wsR,e,i.fx d f,d.weak i a,PVs.go k f a,j.fx g f,g.weak j a,l.mono λ_ _ x=>x.go f a⟩
theorem ChW.mono {R:jL}(c:ChW W h v n O R)(f:Fr h h'):ChW W h' v n O R:=c.go (Fx.of f) λ_ _ h=>h
theorem ChW.ch {R:jL}(c:ChW W h v n O R):ChI h v (n:Int) (O.map zi) (R.map (List.map zi)):=by
 obtain⟨vO,vR,wsO,wsR,e,j,f,f,k,l,d⟩:=c;refine⟨vO,vR,e,⟨wsO,j,?_⟩,⟨wsR,k,?_,λw g=>?_⟩⟩
 ·have a:=All2.length f
  exact All2.iC (by simpa using a) λi hi e=>by
   have:=(All2.get f i hi om).si;simpa using this
 ·have a:=All2.length d
  exact All2.iC (by simpa using a) λi hi e=>by
   have:=(All2.get d i hi om).sp;simpa using this
 ·obtain⟨i,hi,rfl⟩:=vJ.1 g
  have a:=All2.length d;obtain⟨_,_,_,_,k⟩:=All2.get d i hi om;exact k
theorem off_of {sz:Nat}{ws:List V}(o:Own h v sz ws b):Ho (λid=>id<b) v:=by
 cases v with
 |sl id off m c=>exact λe=>by have:=(o.in _ _ _ _ rfl).2.1;omega
 |_=>trivial
theorem CAcc.chw {R:jL}(A:CAcc h hh C D W n O R vO vR wsO wsR):ChW (λid=>id<h.next) hh (.agg [aB n,vO,vR]) n O R:=
 ⟨vO,vR,wsO,wsR,rfl,A.oO.sv,off_of A.oO,PVs.weak A.aO λid _ h=>A.low id h,A.oR.sv,off_of A.oR,A.aR.mono λ_ _ x=>x.go (Fx.refl _ _) λid _ h=>A.low id h⟩
end
theorem tH {h:H}{O:List (List Int)}(s:SR h v O):v.one=true:=by
 obtain⟨_,t,_⟩:=s;exact t.dC.2.1
theorem sT {h:H}{O:List (List (List Int))}(s:SRR h v O):v.one=true:=by
 obtain⟨_,t,_⟩:=s;exact t.dC.2.1
end
def ChL (τ:kV)(n j:Nat)(o:List Nat)(r:LN):Prop:=o.Pairwise (· < ·)/\(∀p,p∈o↔p∈(τ j).orb)/\r.length=o.length/\ ∀k,k<o.length-> ∀y,(τ j).to (o.getD k 0)=some y->r.getD k []=xY τ (n-(j+1)) (j+1) y
theorem perm_zi {l:List Int}{a:List Nat}(h:l.Perm (zi a)): ∃q,l=zi q/\q.Perm a:=by
 refine⟨l.map Int.toNat,?_,?_⟩
 ·unfold zi
  rw[List.map_map];refine (List.map_id l).symm.trans (zD λx b=>?_);have:=h.mem_iff.1 b;obtain⟨k,_,rfl⟩:=pU.1 this;simp
 ·have:=h.map Int.toNat
  have e:(zi a).map Int.toNat=a:=by
   unfold zi;rw[List.map_map];exact (zD λx _=>by simp).trans (List.map_id a)
  rwa [e] at this
theorem zi_asc {q:List Nat}(h:(zi q).Pairwise (· <= ·))(nd:q.Nodup):q.Pairwise (· < ·):=by
 unfold zi at h;rw[List.pairwise_map] at h;rw[EX] at nd;exact (h.and nd).imp λ⟨a,h2⟩=>om
theorem values_ok (u:V)(b:u.cells= [u])(a:u.one=true)(h:H):Ev T 158 [u] h (λv h'=>v= .fn 180 [] [.ptr h.next 0]/\h'.get h.next=bX [u]/\h'.next=h.next+1/\Fr h h'):=by
 refine bH c_slices_Values_int_int rfl rfl ?_;simp(disch:=omega)only[go_sem,c_slices_Values_int_int,aF,kC b a];exact (Fr.refl h).new _
theorem getD_app_old {α:Type}{a:List α}{x:α}{j:Nat}{d:α}(h:j<a.length):(a++ [x]).getD j d=a.getD j d:=by
 rw[List.getD,List.getD,vY h]
theorem getD_app_new {α:Type}{a:List α}{x d:α}:(a++ [x]).getD a.length d=x:=by
 rw[List.getD,Dw (fH _),Nat.sub_self];rfl
theorem tchain_ok (h:H)(n s L:Nat)(F:Nat->V)(τ:kV)(hn:n<=7)(R:TwR h n s L F τ)(t:kM n 0 τ):
  Ev T 117 [.ptr s 0] h (λv h'=> ∃O R',ChW (λid=>id<h.next) h' v n O R'/\dU n (S n τ 0) O R'/\Fr h h'):=by
 refine bH c_chain_tower_chain rfl rfl ?_
 obtain⟨B,hB⟩:=IP h.next
 have tn:=R.tn
 have ln:=R.ln
 have ct:h.cell s 0=some (aB n):=by rw[H.aG R.t];rfl
 have bl:kU [aB 0,.aD,.aD] [(0,1,aB n)]=some (.agg [aB n,.aD,.aD]):=by
  have e1:putAt [aB 0,.aD,.aD] 0 [aB n]=some [aB n,.aD,.aD]:=by simp [putAt]
  simp [kU,gG,e1,V.cells,V.one]
 obtain⟨Q,a3⟩: ∃Q,Q=(h.new (.cells false [aB 0,.aD,.aD])).new (.cells false [aB 0,.aD,.aD]):=⟨_,rfl⟩
 have n1:Q.next=B+2:=by rw[a3,H.aY,H.aY,hB]
 have g1:Q.get (B+1)=bX [aB 0,.aD,.aD]:=by
  rw[a3];have:=H.aN (h.new (.cells false [aB 0,.aD,.aD])) (.cells false [aB 0,.aD,.aD]);rwa [H.aY,hB] at this
 have g0:Q.get B=bX [aB 0,.aD,.aD]:=by rw[a3,H.bJ _ (by rw[H.aY,hB];omega),←hB,H.aN]
 have f1:Fr h Q:=by rw[a3];exact ((Fr.refl h).new _).new _
 have d5:Q.cell s 0=some (aB n):=by rw[f1.cell tn];exact ct
 simp(disch:=omega)only[go_sem,c_chain_tower_chain,aF,hB,ct,bl]
 rw[←a3]
 simp(disch:=omega)only[go_sem,dO Q (B+1) 0 (v:= aB n) (u:= .aD) (w:= .aD) rfl rfl rfl,g1,dD]
 obtain⟨l,a2⟩: ∃l,l=Q.set (B+1) (bX [aB n,.aD,.aD]):=⟨_,rfl⟩
 have n2:l.next=B+2:=by rw[a2];exact n1
 have f2:Fr h l:=by rw[a2];exact f1.set om _
 have g2:l.get (B+1)=bX [aB n,.aD,.aD]:=by rw[a2,H.aT]
 have b8:l.get B=bX [aB 0,.aD,.aD]:=by rw[a2,H.aI _ om];exact g0
 have d0:Q.cell s 1=some (.sl L 0 n (.kn n)):=by rw[H.aG (R.mono f1).t];rfl
 rw[←a2]
 simp(disch:=omega)only[go_sem,d0]
 clear a3 a2 f1 g0 g1 d5 d0 n1 Q
 refine aH (λk' a0 J=> ∃(i:Nat) (W:Nat->Prop) (O:LN) (R':jL) (vO K:V) (c3 b7:List V),(∃g:Nat->V,a0= [.ptr s 0,.ptr B 0,.ptr (B+1) 0,g 3,g 4,g 5,g 6,aB n,aB i,g 9,g 10,g 11,g 12,g 13])/\i<=n/\CAcc h J (B+1) B W n O R' vO K c3 b7/\
   J.get B=bX [aB 0,.aD,.aD]/\O.length=i/\R'.length=i/\(∀j,j<i->ChL τ n j (O.getD j []) (R'.getD j []))/\k'=n-i) n
  ⟨0,_, [], [],_,_,_,_,aA rfl,eY _,CAcc.start om om om om om f2 g2,b8,rfl,rfl,λj hj=>om,rfl⟩ ?_
 clear f2 g2 b8 n2 l
 rintro k' a0 l ⟨i,W,O,R',vO,K,c3,b7,⟨g,rfl⟩,hi,A,gB,lO,lR,hC,rfl⟩
 by_cases c9:(i:Int)<(n:Int)
 case neg=>
  have e1:=bM c9;obtain rfl:i=n:=om
  have hr:=aS A.get;have nB:=A.fr.next;simp(disch:=omega)only[go_sem,e1,hr,dO l B 0 (v:= aB i) (u:=vO) (w:=K) rfl (SV.dC A.oO.sv).2.1 (SV.dC A.oR.sv).2.1,gB,dD];have d3:=aS (h:=l.set B (bX [aB i,vO,K])) (H.aT ..);have fB:Fx (· =B) l (l.set B (bX [aB i,vO,K])):=Fx.set l (W:=(· =B)) rfl _;simp(disch:=omega)only[go_sem,d3]
  obtain⟨h3,c5⟩: ∃h3,h3=l.set B (bX [aB i,vO,K]):=⟨_,rfl⟩
  rw[←c5] at fB ⊢;have A3:=A.box c5;refine⟨O,R',by rw[←hB];exact A3.chw,?_,A3.fr⟩;have X:=t.chain (O:=O) (R:=R') lO lR (λj hj=>(hC j hj).1) (λj hj=>(hC j hj).2.1) (λj hj=>(hC j hj).2.2.1) (λj hj=>(hC j hj).2.2.2);exact X
 have e1:=bV c9
 have Z:i<n:=om
 have R2:=R.mono A.fr
 have cl:l.cell s 1=some (.sl L 0 n (.kn n)):=by rw[H.aG R2.t];rfl
 have co:l.cell L (i*194+1)=some (F (i*194+1)):=R2.cell Z om
 have oo:=R2.orb i Z
 obtain⟨iL,_⟩:=t i (eY _) Z
 have a2:=orbn iL Z
 have c6:0<(τ i).orb.length:=Py iL.base
 simp(disch:=omega)only[go_sem,e1,cl,co]
 refine (values_ok (F (i*194+1)) (SV.dC oo.sv).1 (SV.dC oo.sv).2.1 l).mono ?_
 rintro _ h3 ⟨rfl,g3,n3,f3⟩
 simp(disch:=omega)only[go_sem]
 have c8:SI h3 (F (i*194+1)) (zi (τ i).orb):=(show SI l _ _ from oo.sv).mono f3
 refine (sorted_ok l.next _ (zi (τ i).orb) h3 (by rw[aQ];exact c6) (by rw[aQ];omega) g3 om c8).mono ?_
 rintro _ h4 ⟨P,cp,l',rfl,a2,c7,gP,pm,c1,f4⟩
 obtain⟨q,rfl,a2⟩:=perm_zi pm
 have c2:=zi_asc c1 (a2.nodup_iff.2 iL.nd)
 have lq:q.length=(τ i).orb.length:=a2.length_eq
 have b4: ∀p,p∈q↔p∈(τ i).orb:=λp=>a2.mem_iff
 rw[aQ,←lq]
 have A4:=A.mono (f3.trans f4)
 have pq:PV W h4 (.sl P 0 q.length cp) q:=⟨SV.all (by rw[aL,aQ,jY]) c7 gP _,λhw=>by have:=A.wb P hw;omega⟩
 have d9:h4.get B=bX [aB 0,.aD,.aD]:=by rw[(f3.trans f4).get B (A.wb B A.d)];exact gB
 clear A gB g3 c8 oo co cl R2 pm c1
 simp(disch:=omega)only[go_sem]
 refine bW (λA J=> ∃(U:V) (r:LN),(∃g:Nat->V,A= [.ptr s 0,.ptr B 0,.ptr (B+1) 0,aB i,.sl P 0 q.length cp,U,g 6,aB n,aB i,g 9,g 10,g 11,g 12,g 13])/\PL W J U r/\ChL τ n i q r/\Fr h4 J) ?_ ?_
 ·refine aH (λk' A J=> ∃(k:Nat) (U:V) (ws:List V) (r:LN) (W':Nat->Prop),(∃g:Nat->V,A= [.ptr s 0,.ptr B 0,.ptr (B+1) 0,aB i,.sl P 0 q.length cp,U,g 6,aB n,aB i,g 9,.sl P 0 q.length cp,aB (q.length:Int),aB k,g 13])/\k<=q.length/\Own J U 1 ws h4.next/\PVs W' J ws r/\BlkIn W' U/\(∀id,W id->W' id)/\(∀id,W' id->id<J.next/\(W id∨h4.next<=id))/\r.length=k/\
    (∀j,j<k-> ∀y,(τ i).to (q.getD j 0)=some y->r.getD j []=xY τ (n-(i+1)) (i+1) y)/\Fr h4 J/\k'=q.length-k) q.length
   ⟨0,.aD, [], [],W,aA rfl,eY _,Own.aD _ _ _,trivial,λ_ _ _ _ e=>(by cases e),λ_ h=>h,λid h=>⟨A4.wb id h,.inl h⟩,rfl,λj hj=>om,Fr.refl _,rfl⟩ ?_
  rintro k' a0 f ⟨k,U,ws,r,W',⟨g,rfl⟩,hk,ow,b6,e3,c4,d1,lr,hr,f5,rfl⟩
  by_cases b3:(k:Int)<(q.length:Int)
  case neg=>
   have e2:=bM b3;obtain rfl:k=q.length:=om
   simp(disch:=omega)only[go_sem,e2];refine⟨U,r,aA rfl,⟨ws,ow.sv,?_,b6.weak (λid _ h=>c4 id h),Own.capOk ow⟩,⟨c2,b4,lr,hr⟩,f5⟩
   cases U with
   |sl id b0 m c=>exact λh=>by have:=(ow.in _ _ _ _ rfl).2.1;have:=A4.wb id h;omega
   |_=>trivial
  have e2:=bV b3
  have A:k<q.length:=om
  obtain⟨p,hp⟩:=IP (q.getD k 0)
  have d2:=pq.mono f5
  have ck:f.cell P k=some (aB p):=by
   rw[H.aG (by rw[f5.get P c7];exact gP),tY A,hp]
  have a2:p∈(τ i).orb:=(b4 p).1 (by rw[←hp,bP A];exact wT A)
  have A:=iL.lt Z a2
  obtain⟨y,hy⟩:=iL.to a2
  have Y:=iL.isP _ _ hy
  have R5:=R.mono (A4.fr.trans f5)
  have cl:f.cell s 1=some (.sl L 0 n (.kn n)):=by rw[H.aG R5.t];rfl
  have a2:f.cell L (i*194+2+p)=some (F (i*194+2+p)):=R5.cell2 Z om
  have A:PV (WT n L F) f (F (i*194+2+p)) y:=by
   have:=R5.to i p Z om;rw[hy] at this;exact this
  simp(disch:=omega)only[go_sem,e2,ck,cl,a2]
  refine (least_ok f n s L F τ _ y i hn R5 A Y Z (t.mono om)).mono ?_
  rintro Y h6 ⟨A,p,f6⟩
  simp(disch:=omega)only[go_sem]
  refine (clone_ok Y _ h6 (by rw[aQ,p.len];omega) (by rw[aQ,p.len];omega) A.si).mono ?_
  rintro v7 h7 p
  have f7:=p.fr
  have p7:PV W' h7 v7 (xY τ (n-(i+1)) (i+1) y):=p.pv λid h=>iO (d1 id h).1 f6.next
  simp(disch:=omega)only[go_sem,cJ h7 (z:= .aD) p7.dQ.1 p7.dQ.2]
  obtain⟨N,x⟩: ∃N,N=h7.new (.cells false [v7]):=⟨_,rfl⟩
  have g8:N.get h7.next=bX [v7]:=by rw[x,H.aN]
  have n8:N.next=h7.next+1:=by rw[x,H.aY]
  have f8:Fr h7 N:=by rw[x];exact (Fr.refl h7).new _
  rw[←x]
  have a8:=(f6.trans f7).trans f8
  have p:=ow.fr a8
  have A:=All2.length b6
  obtain⟨h9,a9,p9⟩:=p.push (bytes:=24) (SV.one om g8 (.kn 1)) (n:=k) (m:=1) om rfl om om om
  simp(disch:=omega)only[go_sem,a9]
  rw[dX k]
  have n9:=p9.next
  have f9:Fx W' N h9:=p9.fx e3
  have p:=a8.next
  have c0: ∀id,id<N.next->(W' id∨id=N.next)->W' id:=λid Q l=>by
   rcases l with l|l
   ·exact l
   ·omega
  refine⟨q.length-(k+1),om,k+1,_,_,r++ [xY τ (n-(i+1)) (i+1) y],λid=>W' id∨id=N.next,aA rfl,om,p9.own om rfl (by have:=f5.next;omega),?_,λid b0 m c e=>by cases e;exact .inr rfl,λid h=> .inl (c4 id h),λid h=>?_,by rw[jD,lr];rfl,λj hj z hz=>?_,?_,rfl⟩
  ·exact (PVs.go (PVs.go b6 (Fx.of a8) (λ_ _ h=>h)) f9 c0).append (PVs.one (PV.go (p7.mono f8) f9 c0))
  ·rcases h with h|h
   ·have:=d1 id h;exact⟨om,this.2⟩
   ·have:=f5.next;exact⟨om,.inr om⟩
  ·by_cases e:j=k
   ·subst e
    rw[hp,hy] at hz
    cases hz
    rw[←lr,getD_app_new]
   ·rw[getD_app_old om]
    exact hr j om z hz
  ·refine⟨by have:=f5.next;omega,λid b2=>?_⟩
   rw[p9.old id (by have:=f5.next;omega) (λd6 b0 m c e e2=>by have:=(ow.in _ _ _ _ e).2.1;omega),a8.get id (by have:=f5.next;omega)]
   exact f5.get id b2
 rintro a0 f ⟨U,r,⟨g,rfl⟩,pl,d4,f5⟩
 have G:=A4.mono f5
 have d2:=pq.mono f5
 have e0:f.get B=bX [aB 0,.aD,.aD]:=by rw[f5.get B (A4.wb B A4.d)];exact d9
 have cO:f.cell (B+1) 1=some vO:=by rw[H.aG G.get];rfl
 have cR:f.cell (B+1) 2=some K:=by rw[H.aG G.get];rfl
 obtain⟨ws,b5,p,g,A⟩:=pl
 have pl:PL W f U r:=⟨ws,b5,p,g,A⟩
 have g:=G.fr.next
 have b9:=G.wb _ G.c
 simp(disch:=omega)only[go_sem,cO,cR,cJ _ (z:= .aD) (v:= .sl P 0 q.length cp) rfl rfl]
 obtain⟨h6,b1⟩: ∃h6:H,h6=H.mk ((H.mk f.tr (f.next+3)).new (Ob.cells false [.sl P 0 q.length cp])).tr (f.next+14):=⟨_,rfl⟩
 rw[←b1]
 have p:h6.get (f.next+3)=bX [.sl P 0 q.length cp]:=by rw[b1];exact H.aN (H.mk f.tr (f.next+3)) _
 have n6:h6.next=f.next+14:=by rw[b1]
 have o6: ∀k,k≠f.next+3->h6.get k=f.get k:=λk hk=>by rw[b1];exact H.bJ (H.mk f.tr (f.next+3)) (by simpa using hk) _
 have f6:Fr f h6:=⟨om,λid b2=>o6 id om⟩
 have g:=All2.length G.aO
 have g:=All2.length G.aR
 obtain⟨h7,a7,p7⟩:=(G.oO.fr f6).push (bytes:=24) (SV.one om p (.kn 1)) (n:=i) (m:=1) om rfl om om om
 have g:=p7.next
 have a4: ∀k,k<f.next->dF vO k->h7.get k=f.get k:=λk Q l=>by rw[p7.old k om l,o6 k om]
 have e4:h7.cell (B+1) 2=some K:=by unfold H.cell;rw[a4 (B+1) b9 G.pO,G.get];rfl
 have eR:dJ K K=true:=G.oR.sv.dJ
 have g:U.cells= [U]/\U.one=true:=⟨(SV.dC b5).1,(SV.dC b5).2.1⟩
 simp(disch:=omega)only[go_sem,a7,e4,eR,cJ _ (z:= .aD) g.1 g.2]
 obtain⟨N,x⟩: ∃N:H,N=H.mk ((H.mk h7.tr (f.next+8)).new (Ob.cells false [U])).tr h7.next:=⟨_,rfl⟩
 rw[←x]
 have g8:N.get (f.next+8)=bX [U]:=by rw[x];exact H.aN (H.mk h7.tr (f.next+8)) _
 have n8:N.next=h7.next:=by rw[x]
 have o8: ∀k,k≠f.next+8->N.get k=h7.get k:=λk hk=>by rw[x];exact H.bJ (H.mk h7.tr (f.next+8)) (by simpa using hk) _
 have g:Own N K 1 b7 h.next:=G.oR.mono om λid b0 m c e _ b2=>by
  rw[o8 id om,a4 id b2 (λd6 p p p p e2=>G.dis _ _ _ _ p _ _ _ _ e e2.symm)]
 obtain⟨h9,a9,p9⟩:=g.push (bytes:=24) (SV.one om g8 (.kn 1)) (n:=i) (m:=1) om rfl om om om
 have n9:=p9.next
 have d7: ∀k,f.next<=k->dF K k:=λk hk id b0 m c e e2=>by have:=(G.oR.in _ _ _ _ e).1;omega
 have a6: ∀k,k<f.next->dF vO k->dF K k->h9.get k=f.get k:=λk Q l h3=>by rw[p9.old k om h3,o8 k om,a4 k Q l]
 have m:h9.get (B+1)=bX [aB n,vO,K]:=by rw[a6 _ b9 G.pO G.pR];exact G.get
 have g: ∀(J:H) (x:V),dS (bX [aB n,vO,K]) J (B+1) 1 [x]=some (J.set (B+1) (bX [aB n,x,K])):=λJ x=>bE (by simp) J _ x
 have c: ∀(J:H) (x y:V),dS (bX [aB n,x,K]) J (B+1) 2 [y]=some (J.set (B+1) (bX [aB n,x,y])):=λJ x y=>bE (by simp) J _ y
 simp(disch:=omega)only[go_sem,a9,m,g,c]
 rw[dX i]
 obtain⟨ha,hb⟩:h6.next=f.next+14/\N.next=f.next+15:=⟨n6,om⟩
 rw[ha,hb]
 obtain⟨a5,a1⟩: ∃a5,a5=(h9.set (B+1) (bX [aB n,.sl (f.next+14) 0 (i+1) (.un 1),K])).set (B+1) (bX [aB n,.sl (f.next+14) 0 (i+1) (.un 1),.sl (f.next+15) 0 (i+1) (.un 1)]):=⟨_,rfl⟩
 rw[←a1]
 have c: ∀k,k≠B+1->a5.get k=h9.get k:=λk hk=>by rw[a1,H.aI _ hk,H.aI _ hk]
 have g:a5.next=f.next+16:=by rw[a1];show h9.next=_;omega
 have d8:=G.step (v4:= .sl P 0 q.length cp) (v5:=U) (o:=q) (r:=r) (h6:=a5) (a:=f.next+14) (b:=f.next+15) (k1:=i+1) (k2:=i+1) d2 pl om om om om om om om (by rw[a1,H.aT])
  (by rw[c _ om,p9.old _ om (d7 _ om),o8 _ om,←ha];exact p7.get) (by rw[c _ om,←hb];exact p9.get) (λk Q l h3 h4=>by rw[c k l];exact a6 k Q h3 h4)
 refine⟨n-(i+1),om,i+1,_,_,_,_,_,_,_,aA rfl,om,d8,?_,by rw[jD,lO];rfl,by rw[jD,lR];rfl,λj hj=>?_,rfl⟩
 ·rw[a6 B (G.wb B G.d) G.qO G.qR];exact e0
 ·by_cases e:j=i
  ·subst e
   have e1:(O++ [q]).getD j []=q:=by rw[←lO];exact getD_app_new
   have e2:(R'++ [r]).getD j []=r:=by rw[←lR];exact getD_app_new
   rw[e1,e2]
   exact d4
  ·rw[getD_app_old om,getD_app_old om]
   exact hC j om
end Go.Proofs.YtapfcpkecmmagaaGreat
namespace Go.Ay
set_option maxRecDepth 100000
def sm:Nat->(Nat->Int)->Int
 |0,_=>0
 |n+1,f=>sm n f+f n
theorem On (f:Nat->Int):sm 0 f=0:=rfl
theorem nZ (n:Nat)(f:Nat->Int):sm (n+1) f=sm n f+f n:=rfl
theorem pL {n:Nat}{f g:Nat->Int}(h: ∀k,k<n->f k=g k):sm n f=sm n g:=by
 induction n with
 |zero=>rfl
 |succ n ih=>rw[nZ,nZ,ih λk a=>h k (by omega),h n (by omega)]
theorem DQ (n:Nat):sm n (λ_=>0)=0:=by
 induction n with
 |zero=>rfl
 |succ n ih=>rw[nZ,ih];rfl
theorem Wn {n:Nat}{f:Nat->Int}(h: ∀k,k<n->f k=0):sm n f=0:=by
 rw[pL h,DQ]
theorem DP (n:Nat)(f g:Nat->Int):sm n (λk=>f k+g k)=sm n f+sm n g:=by
 induction n with
 |zero=>rfl
 |succ n ih=>rw[nZ,nZ,nZ,ih];omega
def ab (x:Int):Int:=if x<0 then -x else x
end Go.Ay
namespace Go.Proofs.YtapfcpkecmmagaaGreat
open Go Go.Ay
set_option maxRecDepth 100000
section
variable {h h' a:H} {l:List Int} {n:Int} {u:V} {b x:Nat}
def Copy (h:H)(l:List Int)(v:V)(h':H):Prop:=Own h' v 1 (ints l) h.next/\Fr h h'/\(0<l.length-> ∃id,v= .sl id 0 l.length (.un 1)/\h.next<=id/\id<h'.next/\h'.get id=bX (ints l))
theorem copy_of {v:V}(d:SI h v l)(i:l.length<1000000): ∃v' h',qV (h.new (.cells false [])) 1 8 (.sl h.next 0 0 (.kn 0)) v=some (v',h')/\Copy h l v' h':=by
 obtain⟨v',h',e,a⟩:=(Own.new h 1 0 h.next [] rfl (fH _)).app (bytes:=8) (n:=0) (by rw[H.aY];omega) (SV.mono d ((Fr.refl h).new _)) (m:=l.length) rfl (by rw[aL,jY]) om om;refine⟨v',h',e,a.own,a.fr h ((Fr.refl h).new _) (fH _),λc=>?_⟩;rcases a.dC with ⟨c,_⟩|⟨id,c,e,g,f⟩
 ·omega
 ·exact⟨id,by rw[c,Nat.zero_add],e,g,f⟩
theorem own_ok (v:V)(l:List Int)(h:H)(f:SI h v l)(d:l.length<1000000):Ev T 55 [v] h (Copy h l):=by
 refine bH c_kit_Own_int rfl rfl ?_;simp only[c_kit_Own_int,aF,go_sem];obtain⟨c,h',e,c⟩:=copy_of f d;simp only[e,go_sem];exact c
theorem tmod_nat (n d:Nat):(n:Int).tmod (d:Int)=((n%d:Nat):Int):=rfl
theorem tmod_bd (a:Int)(c:0<n): -n<a.tmod n/\a.tmod n<n:=by
 have d:=Int.tmod_lt_of_pos a c;refine⟨?_,d⟩;rcases Int.le_total 0 a with h|h
 ·have:=Int.tmod_nonneg n h;omega
 ·have d:=Int.tmod_lt_of_pos (-a) c
  rw[Int.neg_tmod] at d;omega
theorem tmod_fix (a:Int)(d:0<n):(if a.tmod n<0 then a.tmod n+n else a.tmod n)=a%n:=by
 have c:=tmod_bd a d;have e:a.tmod n=a-n*(a.tdiv n):=by have:=Int.mul_tdiv_add_tmod a n;omega
 have c:a%n=a-n*(a/n):=Int.emod_def a n;have c:=Int.emod_nonneg a (show n≠0 by omega);have c:=Int.emod_lt_of_pos a d
 have c:(a.tmod n)%n=a%n:=by
  rw[e,Int.sub_emod,Int.mul_emod_right,Int.sub_zero,Int.emod_emod]
 split
 ·rw[←c,←Int.emod_eq_of_lt (a:=a.tmod n+n) (b:=n) om om,Int.add_emod_right]
 ·rw[←c,Int.emod_eq_of_lt om om]
theorem pick_ok (a n:Int)(h:H)(f:0<n)(g:n<1000000000):Ev T 22 [aB a,aB n] h (λv h'=>v= aB (a%n)/\h'=h):=by
 refine bH c_kit_Pick rfl rfl ?_;have c:=tmod_bd a f;have c:=tmod_fix a f;simp (disch:=first|omega|(simp only[Qn];(try omega);done)|fail) only[go_sem,c_kit_Pick,aF];refine bB (λd=>?_) (λe=>?_)
 ·rw[aV d] at c
  simp (disch:=first|omega|(simp only[Qn];(try omega);done)|fail) only[go_sem];exact⟨by rw[c],trivial⟩
 ·rw[aZ e] at c
  simp (disch:=first|omega|(simp only[Qn];(try omega);done)|fail) only[go_sem];exact⟨by rw[c],trivial⟩
theorem eq_of_getD {a b:List Int}(e:a.length=b.length)(h: ∀j,j<a.length->a.getD j 0=b.getD j 0):a=b:=by
 apply List.ext_getElem e;intro i c d;have:=h i c;rw[Cs,eX c,Cs,eX d] at this;exact this
theorem equal_gen {g:Nat}(w:T g=some c_slices_Equal_int_int)(r t:V)(a b:List Int)(h:H)(y:SI h r a)(B:SI h t b)(P:a.length<1000000)(O:b.length<1000000):Ev T g [r,t] h (λv h'=>v= .bool (decide (a=b))/\Fr h h'):=by
 refine yH w rfl ?_;obtain⟨id,K,A,s,Q⟩:=y.open;obtain⟨K,K,q,o,z⟩:=B.open;simp (disch:=first|omega|(simp only[Qn];(try omega);done)|fail) only[go_sem,c_slices_Equal_int_int,aF,y.lens,B.lens];refine bB (λm=>?_) (λp=>?_)
 ·simp (disch:=first|omega|(simp only[Qn];(try omega);done)|fail) only[go_sem]
  have:a≠b:=λe=>m (by rw[e])
  exact⟨by rw[bM this],Fr.refl h⟩
 have p:a.length=b.length:=om
 simp (disch:=first|omega|(simp only[Qn];(try omega);done)|fail) only[go_sem,y.lens];refine aH (λk d F=> ∃(i:Nat) (L G J:V),d= [r,t,.bool false,L,.bool (decide ((a.length:Int)≠(b.length:Int))),aB (a.length:Int),aB i,G,J]/\i<=a.length/\(∀j,j<i->a.getD j 0=b.getD j 0)/\Fr h F/\k=a.length-i) a.length
  ⟨0,_,_,_,rfl,eY _,λj N=>om,Fr.refl h,rfl⟩ ?_
 rintro k d F ⟨i,L,G,J,rfl,hi,f,c,rfl⟩;simp (disch:=first|omega|(simp only[Qn];(try omega);done)|fail) only[go_sem];refine bB (λd=>?_) (λd=>?_)
 ·have k:=uH c s Q
  have d:=uH c o z;simp (disch:=first|omega|(simp only[Qn];(try omega);done)|fail) only[go_sem,A.ixa,q.ixa,k,d,Cd];refine bB (λm=>?_) (λR=>?_)
  ·simp (disch:=first|omega|(simp only[Qn];(try omega);done)|fail) only[go_sem]
   have:a≠b:=λe=>m (by rw[e])
   exact⟨by rw[bM this],c.bL om⟩
  ·simp (disch:=first|omega|(simp only[Qn];(try omega);done)|fail) only[go_sem]
   rw[dX i];refine⟨a.length-(i+1),om,i+1,_,_,_,rfl,om,λj N=>?_,c.bL om,rfl⟩
   by_cases d:j=i
   ·rw[d];exact Decidable.byContradiction R
   ·exact f j om
 ·simp (disch:=first|omega|(simp only[Qn];(try omega);done)|fail) only[go_sem]
  have:a=b:=eq_of_getD p λj N=>f j om
  exact⟨by rw[bV this],c⟩
theorem equal_ok (d e:V)(a b:List Int)(h:H)(i:SI h d a)(g:SI h e b)(f:a.length<1000000)(c:b.length<1000000):Ev T 149 [d,e] h (λv h'=>v= .bool (decide (a=b))/\Fr h h'):=equal_gen (rfl:T 149=some c_slices_Equal_int_int) d e a b h i g f c
theorem same_ok (r t:V)(a b:List Int)(h:H)(q:SI h r a)(z:SI h t b)(L:a.length<1000000)(G:b.length<1000000):Ev T 16 [r,t] h (λv h'=>v= .bool (decide (a=b))/\Fr h h'):=by
 refine bH c_kit_Same_int rfl rfl ?_;obtain⟨id,B,y,s,N⟩:=q.open;obtain⟨B,B,p,m,w⟩:=z.open;simp (disch:=first|omega|(simp only[Qn];(try omega);done)|fail) only[go_sem,c_kit_Same_int,aF,q.lens,z.lens];refine bB (λg=>?_) (λo=>?_)
 ·simp (disch:=first|omega|(simp only[Qn];(try omega);done)|fail) only[go_sem]
  have:a≠b:=λe=>g (by rw[e])
  exact⟨by rw[bM this],Fr.refl h⟩
 have o:a.length=b.length:=om
 simp (disch:=first|omega|(simp only[Qn];(try omega);done)|fail) only[go_sem,q.lens];refine aH (λk d A=> ∃(i:Nat) (K J B:V),d= [r,t,.bool false,aB i,K,J,B]/\i<=a.length/\(∀j,j<i->a.getD j 0=b.getD j 0)/\Fr h A/\k=a.length-i) a.length
  ⟨0,_,_,_,rfl,eY _,λj F=>om,Fr.refl h,rfl⟩ ?_
 rintro k d A ⟨i,d,d,d,rfl,hi,f,c,rfl⟩;simp (disch:=first|omega|(simp only[Qn];(try omega);done)|fail) only[go_sem,q.lens];refine bB (λd=>?_) (λd=>?_)
 ·have k:=uH c s N
  have d:=uH c m w;simp (disch:=first|omega|(simp only[Qn];(try omega);done)|fail) only[go_sem,y.ixa,p.ixa,k,d,Cd];refine bB (λg=>?_) (λO=>?_)
  ·simp (disch:=first|omega|(simp only[Qn];(try omega);done)|fail) only[go_sem]
   have:a≠b:=λe=>g (by rw[e])
   exact⟨by rw[bM this],c.bL om⟩
  ·simp (disch:=first|omega|(simp only[Qn];(try omega);done)|fail) only[go_sem]
   rw[dX i];refine⟨a.length-(i+1),om,i+1,_,_,_,rfl,om,λj F=>?_,c.bL om,rfl⟩
   by_cases d:j=i
   ·rw[d];exact Decidable.byContradiction O
   ·exact f j om
 ·simp (disch:=first|omega|(simp only[Qn];(try omega);done)|fail) only[go_sem]
  have:a=b:=eq_of_getD o λj F=>f j om
  exact⟨by rw[bV this],c⟩
def Frs (u:V)(b:Nat):Prop:= ∀id off n c,u= .sl id off n c->b<=id
theorem Frs.ne {id off n:Nat}{c:mE}(f:Frs u b)(h:id<b):u≠ .sl id off n c:=λe=>by have:=f _ _ _ _ e;omega
theorem Frs.le {g:Nat}(f:Frs u b)(h:g<=b):Frs u g:=λid d n c e=>jC h (f id d n c e)
theorem Frs.own {v:V}{sz:Nat}{ws:List V}(o:Own h v sz ws b):Frs v b:=λid c n c e=>by
 rcases o with ⟨d,_⟩|⟨c,_,_,_,d,_,_,f,_⟩
 ·rw[d] at e;cases e
 ·rw[d] at e;cases e;exact f
structure FxT (x:Nat)(h h':H):Prop where
 next:h.next<=h'.next
 get: ∀id,id<h.next->id≠x->h'.get id=h.get id
theorem FxT.refl (x:Nat)(h:H):FxT x h h:=⟨fH _,λ_ _ _=>rfl⟩
theorem FxT.of (f:Fr h h'):FxT x h h':=⟨f.next,λid c _=>f.get id c⟩
theorem FxT.trans {b c:H}(f:FxT x a b)(g:FxT x b c):FxT x a c:=⟨jC f.next g.next,λid d e=>(g.get id (iO d f.next) e).trans (f.get id d e)⟩
theorem FxT.set {b:H}(f:FxT x a b)(o:Option Ob):FxT x a (b.set x o):=⟨f.next,λid c d=>(H.aI b d o).trans (f.get id c d)⟩
theorem FxT.fr {b c:H}(f:Fr a b)(e:a.next<=x)(g:FxT x b c):Fr a c:=⟨jC f.next g.next,λid d=>(g.get id (iO d f.next) om).trans (f.get id d)⟩
theorem SI.fx {g:Nat}(s:SI h u l)(i:Frs u g)(t:x<g)(f:FxT x h h'):SI h' u l:=by
 rcases s with s|⟨id,d,len,c,j,o,rfl,k,e,m,p,r⟩
 ·exact .inl s
 ·have q:=i _ _ _ _ rfl
  exact .inr ⟨id,d,len,c,j,o,rfl,k,iO e f.next,by rw[f.get id e om];exact m,p,r⟩
def Tk (h:H)(x:Nat)(l:List Int):Prop:= ∃vl,∃a:Nat,h.get x=bX [vl,aB a]/\SI h vl l/\(∀id off len c,vl= .sl id off len c->id<x)/\a<=l.length/\x<h.next
theorem Tk.mono (t:Tk h x l)(f:Fr h h'):Tk h' x l:=by
 obtain⟨i,a,e,g,j,d,c⟩:=t;exact⟨i,a,(f.get x c).trans e,g.mono f,j,d,iO c f.next⟩
theorem Tk.low (t:Tk h x l)(g:h.next<=h'.next)(f: ∀id,id<=x->h'.get id=h.get id):Tk h' x l:=by
 obtain⟨k,a,c,d,i,e,j⟩:=t;refine⟨k,a,(f x (fH _)).trans c,?_,i,e,iO j g⟩;rcases d with m|⟨id,d,len,c,p,j,e,o,q,s,k,r⟩
 ·exact .inl m
 ·have:=i _ _ _ _ e
  exact .inr ⟨id,d,len,c,p,j,e,o,iO q g,(f id om).trans s,k,r⟩
theorem Tk.set {y:Nat}(t:Tk h x l)(c:h.next<=y)(o:Option Ob):Tk (h.set y o) x l:=t.mono ((Fr.refl h).set c o)
theorem tmod_range (a:Int)(c:0<n):0<=a%n/\a%n<n:=⟨Int.emod_nonneg a om,Int.emod_lt_of_pos a c⟩
def divG (n:Nat):Nat->Nat->Nat
 |0,_=>n
 |f+1,d=>if d*d<=n then (if n%d=0 then d else divG n f (d+1)) else n
def divF (n:Nat):Nat:=divG n 1000 2
def isP (n:Int):Bool:=decide (1<n)&&(decide (n<1000000)&&decide (divF n.toNat=n.toNat))
end
end Go.Proofs.YtapfcpkecmmagaaGreat
namespace Go.Proofs.YtapfcpkecmmagaaGreat
open Go Go.Ay Go.Pm
set_option maxRecDepth 100000
theorem equalFunc_gen {g:Nat}(x:T g=some c_slices_EqualFunc_int_int_int_int)(f:Nat)(l r:V)(a b:List V)(e:Nat->Bool)(h:H)(L:SV h l 1 a)(B:SV h r 1 b)(U:a.length<1000000)(N:b.length<1000000)
  (Q:a.length=b.length-> ∀i,i<a.length-> ∀hh,Fr h hh->Ev T f [a.getD i .undef,b.getD i .undef] hh (λv h'=>v= .bool (e i)/\Fr hh h')):
  Ev T g [l,r,.fn f [] []] h (λv h'=>v= .bool (decide (a.length=b.length/\ ∀i,i<a.length->e i=true))/\Fr h h'):=by
 refine yH x rfl ?_
 have J:cV l=some (aB (a.length:Int)):=by unfold cV;rw[L.len (n:=a.length) om om];rfl
 have t:cV r=some (aB (b.length:Int)):=by unfold cV;rw[B.len (n:=b.length) om om];rfl
 obtain⟨id,z,O,w,Y⟩:=L.shape a.length om om
 obtain⟨s,o,A,m,y⟩:=B.shape b.length om om
 simp(disch:=omega)only[go_sem,c_slices_EqualFunc_int_int_int_int,aF,J,t]
 refine bB (λt=>?_) (λk=>?_)
 ·simp(disch:=omega)only[go_sem]
  exact⟨by rw[bM (λh=>t om)],Fr.refl h⟩
 have k:a.length=b.length:=om
 simp(disch:=omega)only[go_sem,J]
 refine aH (λG d hh=> ∃(i:Nat),(∃g:Nat->V,d= [l,r,.fn f [] [],g 3,g 4,g 5,g 6,g 7,l,aB (a.length:Int),aB i,g 11,g 12])/\i<=a.length/\(∀j,j<i->e j=true)/\Fr h hh/\G=a.length-i) a.length
  ⟨0,aA rfl,eY _,λj W=>om,Fr.refl h,rfl⟩ ?_
 rintro G d hh ⟨i,⟨g,rfl⟩,hi,p,F,rfl⟩
 by_cases q:(i:Int)<(a.length:Int)
 ·have u:=bV q
  have c:i<a.length:=om
  have P:hh.cell id (z+i)=some (a.getD i .undef):=by rw[F.cell (w om),Y i c,List.getD,eX c];rfl
  have R:hh.cell s (o+i)=some (b.getD i .undef):=by rw[F.cell (m om),y i om,List.getD,eX om];rfl
  simp(disch:=omega)only[go_sem,u,O.ixa,A.ixa,P,R]
  refine (Q k i c hh F).mono ?_
  rintro _ d ⟨rfl,K⟩
  cases he:e i with
  |true=>
   simp(disch:=omega)only[go_sem];rw[dX i];refine⟨a.length-(i+1),om,i+1,aA rfl,om,λj W=>?_,F.trans K,rfl⟩
   by_cases d:j=i
   ·rw[d];exact he
   ·exact p j om
  |false=>
   simp(disch:=omega)only[go_sem];exact⟨by rw[bM (λh=>by have:=h.2 i c;rw[he] at this;cases this)],F.trans K⟩
 have u:=bM q
 obtain rfl:i=a.length:=om
 simp(disch:=omega)only[go_sem,u]
 exact⟨by rw[bV ⟨k,p⟩],F⟩
theorem getD_row {α β:Type}{R:α->β->Prop}{as:List α}{b:List β}(a:All2 R as b){i:Nat}(hi:i<b.length)(d:α)(e:β):R (as.getD i d) (b.getD i e):=by
 have c:=a.length;rw[List.getD,eX om,List.getD,eX hi];exact a.get i om hi
theorem list_ext_getD {α:Type}[DecidableEq α]{a b:List α}(d:α):decide (a=b)=decide (a.length=b.length/\ ∀i,i<a.length->decide (a.getD i d=b.getD i d)=true):=by
 congr 1;rw[eq_iff_iff];constructor
 ·rintro rfl;exact⟨rfl,λi _=>by simp⟩
 ·rintro⟨h1,h2⟩
  exact uI (d:=d) h1 λi hi=>by simpa using h2 i hi
def SmallR (R:List (List (List Int))):Prop:=R.length<1000000/\ ∀i,i<R.length->(R.getD i []).length<1000000
def SmallRR (R:List (List (List Int))):Prop:=R.length<1000000/\ ∀i,i<R.length->(R.getD i []).length<1000000/\ ∀k,k<(R.getD i []).length->((R.getD i []).getD k []).length<1000000
def SmallO (O:List (List Int)):Prop:=O.length<1000000/\ ∀i,i<O.length->(O.getD i []).length<1000000
theorem csame_ok (va vb:V)(d m:Int)(O t:List (List Int))(R p:List (List (List Int)))(h:H)(ha:ChI h va d O R)(hb:ChI h vb m t p)(so:SmallO O)(o:SmallO t)(sr:SmallRR R)(n:SmallRR p):
  Ev T 115 [va,vb] h (λv h'=>v= .bool (decide (d=m/\O=t/\R=p))/\Fr h h'):=by
 obtain⟨q,G,rfl,sO,sR⟩:=ha
 obtain⟨e,c,rfl,a0,a1⟩:=hb
 refine bH c_chain_same rfl rfl ?_
 obtain⟨wO,tO,aO⟩:=sO
 obtain⟨U,F,A⟩:=a0
 obtain⟨wR,tR,aR,_⟩:=sR
 obtain⟨Z,z,x,_⟩:=a1
 have lO:=aO.length
 have y:=A.length
 have lR:=aR.length
 have s:=x.length
 simp(disch:=omega)only[go_sem,c_chain_same,aF,bF h (v:= aB d) (u:=q) (w:=G) rfl tO.dC.2.1 tR.dC.2.1]
 obtain⟨b,l⟩: ∃b,b=h.new (.cells false [aB d,q,G]):=⟨_,rfl⟩
 have W:b.get h.next=some (.cells false [aB d,q,G]):=by rw[l,H.aN]
 have n1:b.next=h.next+1:=by rw[l,H.aY]
 have f1:Fr h b:=by rw[l];exact (Fr.refl h).new _
 rw[←l]
 simp(disch:=omega)only[go_sem,bF b (v:= aB m) (u:=e) (w:=c) rfl F.dC.2.1 z.dC.2.1]
 obtain⟨a,j⟩: ∃a,a=b.new (.cells false [aB m,e,c]):=⟨_,rfl⟩
 have g2:a.get b.next=some (.cells false [aB m,e,c]):=by rw[j,H.aN]
 have l:a.next=b.next+1:=by rw[j,H.aY]
 have l:Fr b a:=by rw[j];exact (Fr.refl b).new _
 rw[←j]
 have Q: ∀g,Fr a g-> ∀i,g.cell h.next i= [aB d,q,G][i]? :=λg f i=>by rw[H.aG (by rw[f.get _ om,l.get _ om];exact W)]
 have gb: ∀g,Fr a g-> ∀i,g.cell b.next i= [aB m,e,c][i]? :=λg f i=>by rw[H.aG (by rw[f.get _ om];exact g2)]
 have F2:=f1.trans l
 by_cases J:d=m
 case neg=>
  have b:=bM J;simp(disch:=omega)only[go_sem,H.aG W,Q a (Fr.refl _),gb a (Fr.refl _),b];exact⟨by rw[bM (λh=>J h.1)],F2⟩
 have b:=bV J
 simp(disch:=omega)only[go_sem,H.aG W,Q a (Fr.refl _),gb a (Fr.refl _),b]
 refine (equalFunc_gen (rfl:T 148=some c_slices_EqualFunc_int_int_int_int) 149 q e wO U (λi=>decide (O.getD i []=t.getD i [])) a (tO.mono F2) (F.mono F2) (by rw[lO];exact so.1) (by rw[y];exact o.1) (λhl i hi g f=>?_)).mono ?_
 ·exact equal_ok _ _ _ _ g ((getD_row aO om _ _).mono (F2.trans f)) ((getD_row A om _ _).mono (F2.trans f)) (so.2 i om) (o.2 i om)
 rw[lO,y,←list_ext_getD]
 rintro _ h3 ⟨rfl,a⟩
 by_cases L:O=t
 case neg=>
  rw[bM L];simp(disch:=omega)only[go_sem];exact⟨by rw[bM (λh=>L h.2.1)],F2.trans a⟩
 rw[bV L]
 simp(disch:=omega)only[go_sem,Q h3 a,gb h3 a]
 have B:=F2.trans a
 refine (equalFunc_gen (rfl:T 150=some c_slices_EqualFunc_api_Perm_api_Perm_api_Perm_api_Perm) 151 G c wR Z (λi=>decide (R.getD i []=p.getD i [])) h3 (tR.mono B) (z.mono B) (by rw[lR];exact sr.1) (by rw[s];exact n.1) (λhl i hi g f=>?_)).mono ?_
 ·refine bH c_chain_same_1 rfl rfl ?_
  simp(disch:=omega)only[go_sem,c_chain_same_1,aF]
  obtain⟨ws,s1,s2⟩:=(getD_row aR (i:=i) om .undef []).mono (B.trans f)
  obtain⟨P,Y,r⟩:=(getD_row x (i:=i) om .undef []).mono (B.trans f)
  have k1:=s2.length
  have k2:=r.length
  refine (equalFunc_gen (rfl:T 152=some c_slices_EqualFunc_api_Perm_api_Perm_api_Perm_api_Perm_x152) 153 _ _ ws P (λk=>decide ((R.getD i []).getD k []=(p.getD i []).getD k [])) g s1 Y (by rw[k1];exact (sr.2 i om).1) (by rw[k2];exact (n.2 i om).1) (λa k a h4 K=>?_)).mono ?_
  ·refine bH c_chain_same_1_1 rfl rfl ?_
   simp(disch:=omega)only[go_sem,c_chain_same_1_1,aF]
   refine (equal_gen (rfl:T 154=some c_slices_Equal_api_Perm_int) _ _ _ _ h4 ((getD_row s2 om _ _).mono K) ((getD_row r om _ _).mono K) ((sr.2 i om).2 k om) ((n.2 i om).2 k om)).mono ?_
   rintro _ h5 ⟨rfl,N⟩
   simp(disch:=omega)only[go_sem]
   exact N
  rw[k1,k2,←list_ext_getD]
  rintro _ h5 ⟨rfl,N⟩
  simp(disch:=omega)only[go_sem]
  exact N
 rw[lR,s,←list_ext_getD]
 rintro _ h4 ⟨rfl,K⟩
 simp(disch:=omega)only[go_sem]
 refine⟨?_,B.trans K⟩
 congr 2
 rw[eq_iff_iff]
 exact⟨λh=>⟨J,L,h⟩,λh=>h.2.2⟩
section
variable {i:Nat} {a:List Int}
def pckOk (a:List Int):Bool:=decide a.Nodup&&a.all λx=>decide (0<=x)&&decide (x<(a.length:Int))
def pck (a:List Int):Int:=if a.length<1∨64<a.length then 2 else if pckOk a=true then 0 else 3
structure Pre (a:List Int)(i:Nat):Prop where
 nd:(a.take i).Nodup
 rg: ∀x∈a.take i,0<=x/\x<(a.length:Int)
theorem takeI {l:List Int}(hi:i<l.length):l.take (i+1)=l.take i++ [l.getD i 0]:=by
 rw[List.take_add_one,eX hi];simp [List.getD,hi]
theorem Pre.zero (a:List Int):Pre a 0:=⟨by simp,λx b=>by simp at b⟩
theorem Pre.succ (p:Pre a i)(hi:i<a.length)(f:0<=a.getD i 0)(c:a.getD i 0<(a.length:Int))(h2:a.getD i 0∉a.take i):Pre a (i+1):=by
 refine⟨?_,λx b=>?_⟩
 ·rw[takeI hi,List.nodup_append]
  exact⟨p.nd,by simp,λx b y d=>by
   have e:y=a.getD i 0:=by simpa using d
   intro d;rw[d,e] at b
   exact h2 b⟩
 ·rw[takeI hi] at b
  rcases sP.1 b with b|b
  ·exact p.rg x b
  ·simp at b;subst b;exact⟨f,c⟩
theorem Pre.all (p:Pre a a.length):pckOk a=true:=by
 have e:a.take a.length=a:=List.take_length;unfold pckOk;simp only[pQ,decide_eq_true_eq,yQ];exact⟨e▸p.nd,λx b=>p.rg x (by rw[e];exact b)⟩
theorem pck_bad (hi:i<a.length)(h:a.getD i 0<0∨(a.length:Int)<=a.getD i 0∨a.getD i 0∈a.take i):pckOk a=false:=by
 cases e:pckOk a with
 |false=>rfl
 |true=>
  exfalso;unfold pckOk at e;simp only[pQ,decide_eq_true_eq,yQ] at e;obtain⟨f,d⟩:=e
  have c:a.getD i 0∈a:=by
   have:a.getD i 0=a[i]:=by simp [List.getD,hi]
   rw[this];exact wT hi
  have:=d _ c;rcases h with h|h|h
  ·omega
  ·omega
  ·have b:(a.take (i+1)).Nodup:=f.sublist (List.take_sublist _ _)
   rw[takeI hi,List.nodup_append] at b;exact b.2.2 _ h _ (by simp) rfl
theorem bools64: [V.bool false,.bool false,.bool false,.bool false,.bool false,.bool false,.bool false,.bool false,.bool false,.bool false,.bool false,.bool false,.bool false,.bool false,.bool false,.bool false,
 .bool false,.bool false,.bool false,.bool false,.bool false,.bool false,.bool false,.bool false,.bool false,.bool false,.bool false,.bool false,.bool false,.bool false,.bool false,.bool false,
 .bool false,.bool false,.bool false,.bool false,.bool false,.bool false,.bool false,.bool false,.bool false,.bool false,.bool false,.bool false,.bool false,.bool false,.bool false,.bool false,
 .bool false,.bool false,.bool false,.bool false,.bool false,.bool false,.bool false,.bool false,.bool false,.bool false,.bool false,.bool false,.bool false,.bool false,.bool false,.bool false]=rc 64 (λ_=> .bool false):=rfl
theorem perm_Check_ok (u:V)(a:List Int)(h:H)(Y:a.length<1000000)(P:SI h u a):
  Ev T 108 [u] h (λv h'=>v= aB (pck a)/\Fr h h'):=by
 refine bH c_perm_Check rfl rfl ?_
 have l:=P.lens
 obtain⟨id,off,r,z,W⟩:=P.open
 by_cases K:a.length<1
 ·have y:decide ((a.length:Int)<1)=true:=bV om
  simp(disch:=omega)only[go_sem,c_perm_Check,aF,l,y]
  exact⟨by unfold pck;rw[aV (.inl K)],Fr.refl h⟩
 have y:decide ((a.length:Int)<1)=false:=bM om
 by_cases U:64<a.length
 ·have A:decide ((64:Int)<(a.length:Int))=true:=bV om
  simp(disch:=omega)only[go_sem,c_perm_Check,aF,l,y,A]
  exact⟨by unfold pck;rw[aV (.inr U)],Fr.refl h⟩
 have A:decide ((64:Int)<(a.length:Int))=false:=bM om
 have t:pck a=if pckOk a=true then 0 else 3:=by unfold pck;rw[aZ om]
 simp(disch:=omega)only[go_sem,c_perm_Check,aF,l,y,A,bools64]
 have m:Fr h (h.new (.cells false (rc 64 λ_=>V.bool false))):=(Fr.refl h).new _
 have f:(h.new (.cells false (rc 64 λ_=>V.bool false))).get h.next=some (.cells false (rc 64 λ_=>V.bool false)):=H.aN ..
 have p:(h.new (.cells false (rc 64 λ_=>V.bool false))).next=h.next+1:=H.aY ..
 generalize h.new (.cells false (rc 64 λ_=>V.bool false))=K at*
 obtain⟨S,L⟩:=IP h.next
 rw[L] at f p
 rw[L]
 refine aH (λG c N=> ∃(i:Nat),(∃j:Nat->V,c= [u,aB 0,.ptr S 0,j 3,j 4,u,aB (a.length:Int),aB i,j 8,j 9])/\i<=a.length/\Pre a i/\
   N.get S=some (.cells false (rc 64 λj=> .bool ((a.take i).contains (j:Int))))/\Fr h N/\G=a.length-i) a.length
  ⟨0,aA rfl,eY _,Pre.zero a,by rw[f];rfl,m,rfl⟩ ?_
 clear f m p
 rintro G c R ⟨i,⟨Z,rfl⟩,hi,o,O,F,rfl⟩
 simp(disch:=omega)only[go_sem]
 by_cases q:(i:Int)<(a.length:Int)
 ·rw[bV q]
  have b:i<a.length:=om
  have ci:R.cell id (off+i)=some (aB (a.getD i 0)):=by rw[F.cell (z om),W i b]
  generalize g:a.getD i 0=x at ci
  by_cases d:x<0
  ·have n:=bV d
   simp(disch:=omega)only[go_sem,r.ixa,ci,n]
   refine⟨?_,F⟩
   rw[t,pck_bad b (.inl (by rw[g];exact d))];rfl
  have n:=bM d
  by_cases B:(a.length:Int)<=x
  ·have w:decide ((a.length:Int)<=x)=true:=bV om
   simp(disch:=omega)only[go_sem,r.ixa,ci,n,w,l]
   refine⟨?_,F⟩
   rw[t,pck_bad b (.inr (.inl (by rw[g];exact B)))];rfl
  have w:decide ((a.length:Int)<=x)=false:=bM om
  obtain⟨k,rfl⟩: ∃k:Nat,x=(k:Int):=⟨x.toNat,om⟩
  have Q:k<64:=om
  have s:=gO O Q
  cases hm:(a.take i).contains (k:Int) with
  |true=>
   rw[hm] at s;simp(disch:=omega)only[go_sem,r.ixa,ci,n,w,l,s];refine⟨?_,F⟩;rw[t,pck_bad b (.inr (.inr (by rw[g];simpa using hm)))];rfl
  |false=>
   rw[hm] at s;have J:=bE (vs:=rc 64 λj=> .bool ((a.take i).contains (j:Int))) (off:=k) (by rw[cK];exact Q) R S (.bool true);rw[eG] at J;simp(disch:=omega)only[go_sem,r.ixa,ci,n,w,l,s,O,J];rw[dX i];refine⟨a.length-(i+1),om,i+1,aA rfl,om,o.succ b (by rw[g];omega) (by rw[g];omega) (by rw[g];simpa using hm),?_,F.set om _,rfl⟩;congr 2;refine aX λj hj=>?_
   rw[takeI b,g]
   by_cases e:j=k
   ·subst e;rw[aV rfl];simp
   ·rw[aZ e]
    congr 1;rw[wW];simp only[List.contains_iff_mem,sP,List.mem_singleton];constructor
    ·exact .inl
    ·rintro (h|h)
     ·exact h
     ·omega
 rw[bM q]
 obtain rfl:i=a.length:=om
 simp(disch:=omega)only[go_sem]
 refine⟨?_,F⟩
 rw[t,o.all];rfl
end
theorem mks_bools (hh:H)(c:Nat)(a:c<=100000):uJ hh 1 1 [.bool false] (aB c) (aB c)=some (.sl hh.next 0 c (.kn c),hh.new (.cells false (rc c λ_=> .bool false))):=by
 rw[lZ om (Int.le_refl _) om om,Cd,jY];congr 4;refine List.ext_getElem (by simp [dN,rc]) λi _ _=>?_
 simp [dN,Nat.mod_one,rc]
theorem fine_ok (u:V)(a:List Int)(h:H)(P:a.length<=1000)(K:SI h u a):
  Ev T 107 [u,aB (a.length:Int)] h (λv h'=>v= .bool (pckOk a)/\Fr h h'):=by
 refine bH c_kit_Fine rfl rfl ?_
 have t:=K.lens
 obtain⟨id,off,q,w,O⟩:=K.open
 simp(disch:=omega)only[go_sem,c_kit_Fine,aF,t]
 rw[bM (show ¬((a.length:Int)≠(a.length:Int)) by omega)]
 simp(disch:=omega)only[go_sem,mks_bools _ a.length om]
 have l:Fr h (h.new (.cells false (rc a.length λ_=>V.bool false))):=(Fr.refl h).new _
 have f:(h.new (.cells false (rc a.length λ_=>V.bool false))).get h.next=some (.cells false (rc a.length λ_=>V.bool false)):=H.aN ..
 have o:(h.new (.cells false (rc a.length λ_=>V.bool false))).next=h.next+1:=H.aY ..
 generalize h.new (.cells false (rc a.length λ_=>V.bool false))=R at*
 obtain⟨S,B⟩:=IP h.next
 rw[B] at f o
 rw[B]
 refine aH (λz c G=> ∃(i:Nat),(∃j:Nat->V,c= [u,aB (a.length:Int),j 2,.sl S 0 a.length (.kn a.length),aB i,j 5,j 6,j 7])/\i<=a.length/\Pre a i/\
   G.get S=some (.cells false (rc a.length λj=> .bool ((a.take i).contains (j:Int))))/\Fr h G/\z=a.length-i) a.length
  ⟨0,aA rfl,eY _,Pre.zero a,by rw[f];rfl,l,rfl⟩ ?_
 clear f l o
 rintro z c N ⟨i,⟨Q,rfl⟩,hi,n,J,F,rfl⟩
 simp(disch:=omega)only[go_sem]
 by_cases p:(i:Int)<(a.length:Int)
 ·rw[bV p]
  have b:i<a.length:=om
  have ci:N.cell id (off+i)=some (aB (a.getD i 0)):=by rw[F.cell (w om),O i b]
  generalize g:a.getD i 0=x at ci
  by_cases d:x<0
  ·have m:=bV d
   simp(disch:=omega)only[go_sem,q.ixa,ci,m]
   refine⟨?_,F⟩
   rw[pck_bad b (.inl (by rw[g];exact d))]
  have m:=bM d
  by_cases y:(a.length:Int)<=x
  ·have s:decide ((a.length:Int)<=x)=true:=bV om
   simp(disch:=omega)only[go_sem,q.ixa,ci,m,s,t]
   refine⟨?_,F⟩
   rw[pck_bad b (.inr (.inl (by rw[g];exact y)))]
  have s:decide ((a.length:Int)<=x)=false:=bM om
  obtain⟨k,rfl⟩: ∃k:Nat,x=(k:Int):=⟨x.toNat,om⟩
  have L:k<a.length:=om
  have r:=gO J L
  cases hm:(a.take i).contains (k:Int) with
  |true=>
   rw[hm] at r;simp(disch:=omega)only[go_sem,q.ixa,ci,m,s,t,r];refine⟨?_,F⟩;rw[pck_bad b (.inr (.inr (by rw[g];simpa using hm)))]
  |false=>
   rw[hm] at r;have A:=bE (vs:=rc a.length λj=> .bool ((a.take i).contains (j:Int))) (off:=k) (by rw[cK];exact L) N S (.bool true);rw[eG] at A;simp(disch:=omega)only[go_sem,q.ixa,ci,m,s,t,r,J,A];rw[dX i];refine⟨a.length-(i+1),om,i+1,aA rfl,om,n.succ b (by rw[g];omega) (by rw[g];omega) (by rw[g];simpa using hm),?_,F.set om _,rfl⟩;congr 2;refine aX λj U=>?_
   rw[takeI b,g]
   by_cases e:j=k
   ·subst e;rw[aV rfl];simp
   ·rw[aZ e]
    congr 1;rw[wW];simp only[List.contains_iff_mem,sP,List.mem_singleton];constructor
    ·exact .inl
    ·rintro (h|h)
     ·exact h
     ·omega
 rw[bM p]
 obtain rfl:i=a.length:=om
 simp(disch:=omega)only[go_sem]
 refine⟨?_,F⟩
 rw[n.all]
theorem ref_Check_ok (u:V)(a:List Int)(h:H)(j:a.length<1000000)(i:SI h u a):
  Ev T 76 [u] h (λv h'=>v= aB (pck a)/\Fr h h'):=by
 refine bH c_ref01_Check rfl rfl ?_
 have d:=i.lens
 by_cases c:a.length<1
 ·have b:decide ((a.length:Int)<1)=true:=bV om
  simp(disch:=omega)only[go_sem,c_ref01_Check,aF,d,b]
  exact⟨by unfold pck;rw[aV (.inl c)],Fr.refl h⟩
 have b:decide ((a.length:Int)<1)=false:=bM om
 by_cases g:64<a.length
 ·have c:decide ((64:Int)<(a.length:Int))=true:=bV om
  simp(disch:=omega)only[go_sem,c_ref01_Check,aF,d,b,c]
  exact⟨by unfold pck;rw[aV (.inr g)],Fr.refl h⟩
 have c:decide ((64:Int)<(a.length:Int))=false:=bM om
 have f:pck a=if pckOk a=true then 0 else 3:=by unfold pck;rw[aZ om]
 simp(disch:=omega)only[go_sem,c_ref01_Check,aF,d,b,c]
 refine (fine_ok u a h om i).mono ?_
 rintro _ g ⟨rfl,F⟩
 cases e:pckOk a with
 |true=>
  simp(disch:=omega)only[go_sem];exact⟨by rw[f,e];rfl,F⟩
 |false=>
  simp(disch:=omega)only[go_sem];exact⟨by rw[f,e];rfl,F⟩
theorem pckOk_isP {a:List Int}(h:pckOk a=true):a=zi (a.map Int.toNat)/\bT a.length (a.map Int.toNat):=by
 unfold pckOk at h;simp only[pQ,decide_eq_true_eq,yQ] at h;obtain⟨f,c⟩:=h
 have e:a=zi (a.map Int.toNat):=by
  unfold zi;rw[List.map_map];refine (List.map_id a).symm.trans (zD λx b=>?_);have:=(c x b).1
  show x=((x.toNat:Nat):Int)
  omega
 refine⟨e,by simp,?_,λx b=>?_⟩
 ·rw[EX,List.pairwise_map]
  rw[EX] at f;refine f.imp_of_mem λ{x y} b d e e=>?_
  have:=(c x b).1;have:=(c y d).1;omega
 ·obtain⟨y,d,rfl⟩:=pU.1 b
  have:=c y d;omega
theorem pckOk_zi {n:Nat}{l:List Nat}(L:bT n l):pckOk (zi l)=true:=by
 unfold pckOk;simp only[pQ,decide_eq_true_eq,yQ];refine⟨?_,λx b=>?_⟩
 ·unfold zi
  have:=L.nd;rw[EX] at this ⊢;rw[List.pairwise_map];exact this.imp λa e=>a om
 ·obtain⟨k,c,rfl⟩:=pU.1 b
  have:=L.lt k c;rw[aQ,L.len];omega
end Go.Proofs.YtapfcpkecmmagaaGreat
