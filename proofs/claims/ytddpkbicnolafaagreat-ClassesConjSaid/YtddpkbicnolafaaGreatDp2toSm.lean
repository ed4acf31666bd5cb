/- Texts of the claim. -/
import Derived.Test.YtddpkbicnolafaaGreatDp1
import Derived.Test.YtddpkbicnolafaaGreatP5a
import Derived.Test.YtddpkbicnolafaaGreatAy39
import Derived.Test.YtddpkbicnolafaaGreatC15code
import Derived.Sort.AssemblyPlain
import Derived.Test.YtddpkbicnolafaaGreatAy26
set_option maxHeartbeats 32000000
namespace Go.Pm
set_option maxRecDepth 100000
structure Lv where
 gens:Db
 orb:List Nat
 to:Nat->Option (List Nat)
 tr:Nat->Nat
abbrev sE:=Nat->Lv
def Fix (i:Nat) (x:List Nat):Prop:= ∀ k,k<i->x.getD k 0=k
def InS (n:Nat) (τ:sE):Nat->Nat->List Nat->Prop
 |_,0,x=>x=bZ n
 |i,d+1,x=> ∃ p y h,(τ i).to p=some y/\InS n τ (i+1) d h/\x=bE h y
def S (n:Nat) (τ:sE) (i:Nat) (x:List Nat):Prop:=InS n τ i (n-i) x
section
variable {n:Nat} {τ τ':sE} {x y z:List Nat} {i:Nat}
theorem yH:S n τ n x↔x=bZ n:=by unfold S;rw [Nat.sub_self];exact Iff.rfl
theorem sN (hi:i<n):S n τ i x↔ ∃ p y h,(τ i).to p=some y/\S n τ (i+1) h/\x=bE h y:=by
 unfold S
 rw [show n-i=(n-(i+1))+1 from by omega]
 exact Iff.rfl
theorem Yn: ∀ (d i:Nat) (x:List Nat),(∀ j,i<=j->j<i+d->τ j=τ' j)->(InS n τ i d x↔InS n τ' i d x)
 |0,_,_,_=>Iff.rfl
 |d+1,i,x,h=>by
  simp only [InS]
  rw [h i (Nat.le_refl _) (by omega)]
  have ih:=λ g=>Yn d (i+1) g (λ j h1 h2=>h j (by omega) (by omega))
  simp only [ih]
theorem OC (h: ∀ j,i<=j->j<n->τ j=τ' j):S n τ i x↔S n τ' i x:=
 Yn _ _ _ λ j h1 h2=>h j h1 (by omega)
structure Lev (n j:Nat) (l:Lv):Prop where
 nd:l.orb.Nodup
 base:j∈l.orb
 one:l.to j=some (bZ n)
 iff: ∀ p,p∈l.orb↔(l.to p).isSome
 dR: ∀ p y,l.to p=some y->bI n y
 fix: ∀ p y,l.to p=some y->Fix j y
 maps: ∀ p y,l.to p=some y->y.getD j 0=p
 gen: ∀ p y,l.to p=some y->fS n (· ∈l.gens) y
 gP: ∀ s∈l.gens,bI n s
 gF: ∀ s∈l.gens,Fix j s
 gN:l.gens.Nodup
 le: ∀ q,l.tr q<=l.gens.length
 zero: ∀ q,q∉l.orb->l.tr q=0
theorem Lev.lt {l:Lv} {j:Nat} (L:Lev n j l) (hj:j<n) {p:Nat} (hp:p∈l.orb):p<n:=by
 obtain ⟨y,hy⟩:=Option.isSome_iff_exists.1 ((L.iff p).1 hp)
 rw [←L.maps p y hy]
 exact (L.dR p y hy).eS hj
theorem Lev.to {l:Lv} {j:Nat} (L:Lev n j l) {p:Nat} (hp:p∈l.orb): ∃ y,l.to p=some y:=Option.isSome_iff_exists.1 ((L.iff p).1 hp)
theorem Lev.mem {l:Lv} {j:Nat} (L:Lev n j l) {p:Nat} {y:List Nat} (h:l.to p=some y):p∈l.orb:=(L.iff p).2 (by rw [h];rfl)
def Cl (n j:Nat) (τ:sE):Prop:= ∀ q y,(τ j).to q=some y-> ∀ k s,k<(τ j).tr q->(τ j).gens[k]? =some s->
 ∃ u,(τ j).to ((bE y s).getD j 0)=some u/\S n τ (j+1) (bE (bE y s) (eA u))
def Full (l:Lv):Prop:= ∀ q∈l.orb,l.tr q=l.gens.length
def Dn (n j:Nat) (τ:sE):Prop:=j+1<n-> ∀ s∈(τ (j+1)).gens,fS n (· ∈(τ j).gens) s
def rU (n i:Nat) (τ:sE):Prop:= ∀ j,i<=j->j<n->Lev n j (τ j)/\Cl n j τ/\Full (τ j)/\Dn n j τ
theorem rU.mono (t:rU n i τ) {k:Nat} (h:i<=k):rU n k τ:=λ j h1 h2=>t j (by omega) h2
theorem rU.congr (t:rU n i τ) (h: ∀ j,i<=j->j<n->τ j=τ' j):rU n i τ':=λ j h1 h2=>by
 obtain ⟨a,b,c,d⟩:=t j h1 h2
 have e:=h j h1 h2
 refine ⟨e▸a,λ q y hy k s hk hs=>?_,e▸c,λ hj s hs=>?_⟩
 ·rw [←e] at hy hk hs ⊢
  obtain ⟨u,hu,hS⟩:=b q y hy k s hk hs
  exact ⟨u,hu,(OC λ k h3 h4=>h k (by omega) h4).1 hS⟩
 ·rw [←h (j+1) (by omega) hj] at hs
  rw [←e]
  exact d hj s hs
theorem Fix.one (n i:Nat) (hi:i<=n):Fix i (bZ n):=λ k hk=>fG (by omega)
theorem Fix.mul (X:bI n x) (hi:i<=n) (a:Fix i x) (b:Fix i y):Fix i (bE x y):=λ k hk=>by
 rw [cZ (by rw [X.len];omega),a k hk,b k hk]
theorem Fix.inv (X:bI n x) (hi:i<=n) (a:Fix i x):Fix i (eA x):=λ k hk=>by
 have:=zH X (show k<n by omega)
 rwa [a k hk] at this
theorem Fix.mono {j:Nat} (a:Fix j x) (h:i<=j):Fix i x:=λ k hk=>a k (by omega)
theorem Fix.succ (a:Fix i x) (h:x.getD i 0=i):Fix (i+1) x:=λ k hk=>by
 by_cases e:k=i
 ·rw [e];exact h
 ·exact a k (by omega)
theorem Fix.all (X:bI n x) (a:Fix n x):x=bZ n:=by
 refine Br (by rw [X.len,iN]) λ k hk=>?_
 rw [X.len] at hk
 rw [a k hk,fG hk]
theorem fS.fix {L:List Nat->Prop} (hL: ∀ g,L g->bI n g) (hi:i<=n) (hF: ∀ g,L g->Fix i g) (h:fS n L x):Fix i x:=by
 induction h with
 |one=>exact Fix.one n i hi
 |mul hx hg ih=>exact Fix.mul (hx.dR hL) hi ih (hF _ hg)
theorem rU.NV: ∀ (d i:Nat),i+d=n->rU n i τ-> ∀ x,(S n τ i x->bI n x/\Fix i x)/\(i<n->(S n τ i x↔fS n (· ∈(τ i).gens) x))
 |0,i,h,_,x=>by
  obtain rfl:i=n:=by omega
  refine ⟨λ hs=>?_,λ h=>by omega⟩
  rw [yH] at hs
  subst hs
  exact ⟨bI.one i,Fix.one i i (Nat.le_refl _)⟩
 |d+1,i,h,t,x=>by
  have hi:i<n:=by omega
  have ih:=rU.NV d (i+1) (by omega) (t.mono (by omega))
  obtain ⟨L,C,F,D⟩:=t i (Nat.le_refl _) hi
  have hL: ∀ g,g∈(τ i).gens->bI n g:=L.gP
  have up: ∀ z,S n τ (i+1) z->fS n (· ∈(τ i).gens) z:=by
   intro z hz
   by_cases hn:i+1<n
   ·exact ((ih z).2 hn|>.1 hz).le (fS.jY hL) (D hn)
   ·obtain rfl:i+1=n:=by omega
    rw [yH] at hz
    subst hz
    exact .one
  have mulS: ∀ u z,S n τ (i+1) u->S n τ (i+1) z->S n τ (i+1) (bE u z):=by
   intro u z hu hz
   by_cases hn:i+1<n
   ·obtain ⟨L2,_⟩:=t (i+1) (by omega) hn
    exact ((ih _).2 hn).2 ((((ih u).2 hn).1 hu).app L2.gP (((ih z).2 hn).1 hz))
   ·obtain rfl:i+1=n:=by omega
    rw [yH] at hu hz ⊢
    subst hu hz
    exact cE (bI.one _)
  have oneS:S n τ (i+1) (bZ n):=by
   by_cases hn:i+1<n
   ·exact ((ih _).2 hn).2 .one
   ·obtain rfl:i+1=n:=by omega
    exact yH.2 rfl
  have fwd:S n τ i x->fS n (· ∈(τ i).gens) x:=by
   intro hs
   obtain ⟨p,y,g,h1,h2,rfl⟩:=(sN hi).1 hs
   exact (up g h2).app hL (L.gen p y h1)
  refine ⟨λ hs=>⟨(fwd hs).dR hL,(fwd hs).fix hL (by omega) L.gF⟩,λ _=>⟨fwd,λ hg=>?_⟩⟩
  clear fwd
  induction hg with
  |one=>exact (sN hi).2 ⟨i,bZ n,bZ n,L.one,oneS,(cE (bI.one n)).symm⟩
  |mul hx hs hind=>
   rename_i x0 s
   obtain ⟨q,y,g,h1,h2,e⟩:=(sN hi).1 hind
   obtain ⟨k,hk,hks⟩:=List.mem_iff_getElem.1 hs
   obtain ⟨u,hu,hS⟩:=C q y h1 k s (by rw [F q (L.mem h1)];exact hk) (by rw [List.getElem?_eq_getElem hk,hks])
   refine (sN hi).2 ⟨_,u,bE g (bE (bE y s) (eA u)),hu,mulS _ _ h2 hS,?_⟩
   have G:=((ih g).1 h2).1
   have Y:=L.dR q y h1
   have U:=L.dR _ u hu
   have Sp:=hL s hs
   rw [e,aV G Y Sp,aV G ((Y.mul Sp).mul U.inv) U,aV (Y.mul Sp) U.inv U,gG U,cE (Y.mul Sp)]
theorem rU.gen (t:rU n i τ) (hi:i<n):S n τ i x↔fS n (· ∈(τ i).gens) x:=(rU.NV (n-i) i (by omega) t x).2 hi
theorem rU.dR (t:rU n i τ) (hi:i<=n) (h:S n τ i x):bI n x:=((rU.NV (n-i) i (by omega) t x).1 h).1
theorem rU.fix (t:rU n i τ) (hi:i<=n) (h:S n τ i x):Fix i x:=((rU.NV (n-i) i (by omega) t x).1 h).2
theorem rU.jY (t:rU n i τ) (hi:i<=n):yV n (S n τ i):=by
 by_cases h:i<n
 ·have g:=fS.jY (n:=n) (L:=(· ∈(τ i).gens)) (t i (Nat.le_refl _) h).1.gP
  exact ⟨λ a=>t.dR hi a,(t.gen h).2 g.one,λ a b=>(t.gen h).2 (g.mul ((t.gen h).1 a) ((t.gen h).1 b)),λ a=>(t.gen h).2 (g.inv ((t.gen h).1 a))⟩
 ·obtain rfl:i=n:=by omega
  refine ⟨λ a=>t.dR hi a,yH.2 rfl,λ a b=>?_,λ a=>?_⟩
  ·rw [yH] at a b ⊢;subst a b;exact cE (bI.one _)
  ·rw [yH] at a ⊢;subst a;exact Df _
theorem rU.sift (t:rU n i τ) (hi:i<n) (h:S n τ i x): ∃ y,(τ i).to (x.getD i 0)=some y/\S n τ (i+1) (bE x (eA y)):=by
 obtain ⟨p,y,g,h1,h2,rfl⟩:=(sN hi).1 h
 have L:=(t i (Nat.le_refl _) hi).1
 have t1:=t.mono (Nat.le_succ i)
 have G:=t1.dR hi h2
 have Y:=L.dR p y h1
 have e:(bE g y).getD i 0=p:=by
  rw [cZ (by rw [G.len];exact hi),t1.fix hi h2 i (by omega),L.maps p y h1]
 refine ⟨y,by rw [e];exact h1,?_⟩
 rw [aV G Y Y.inv,gU Y,cE G]
 exact h2
theorem rU.back (t:rU n i τ) (hi:i<n) {y:List Nat} (hx:bI n x) (h1:(τ i).to (x.getD i 0)=some y) (h2:S n τ (i+1) (bE x (eA y))):S n τ i x:=by
 have Y:=(t i (Nat.le_refl _) hi).1.dR _ y h1
 refine (sN hi).2 ⟨_,y,_,h1,h2,?_⟩
 rw [aV hx Y.inv Y,gG Y,cE hx]
theorem rU.alA (t:rU n i τ) (hi:i<n):S n τ (i+1) x↔S n τ i x/\x.getD i 0=i:=by
 have L:=(t i (Nat.le_refl _) hi).1
 have t1:=t.mono (Nat.le_succ i)
 constructor
 ·intro h
  have e:=t1.fix hi h i (by omega)
  have X:=t1.dR hi h
  refine ⟨t.back hi X (y:=bZ n) (by rw [e];exact L.one) ?_,e⟩
  rw [Df,cE X];exact h
 ·rintro ⟨h,e⟩
  obtain ⟨y,h1,h2⟩:=t.sift hi h
  rw [e,L.one] at h1
  cases h1
  rwa [Df,cE (t.dR (by omega) h)] at h2
theorem rU.GP (t:rU n i τ): ∀ {k:Nat},i<=k->k<=n->(S n τ k x↔S n τ i x/\Fix k x):=by
 intro k
 induction k with
 |zero=>
  intro h _
  obtain rfl:i=0:=by omega
  exact ⟨λ h=>⟨h,λ _ h=>by omega⟩,λ h=>h.1⟩
 |succ k ih=>
  intro h1 h2
  by_cases e:i=k+1
  ·subst e
   exact ⟨λ h=>⟨h,t.fix h2 h⟩,λ h=>h.1⟩
  ·have a:=ih (by omega) (by omega)
   rw [(t.mono (by omega)).alA (i:=k) h2,a]
   constructor
   ·rintro ⟨⟨b,c⟩,d⟩;exact ⟨b,c.succ d⟩
   ·rintro ⟨b,c⟩;exact ⟨⟨b,c.mono (by omega)⟩,c k (by omega)⟩
end
def yW (τ:sE) (i:Nat) (l:Lv):sE:=λ j=>if j=i then l else τ j
theorem cC (τ:sE) (i:Nat) (l:Lv):yW τ i l i=l:=by simp [yW]
theorem eN (τ:sE) {i j:Nat} (l:Lv) (h:j≠i):yW τ i l j=τ j:=by simp [yW,h]
def Lv.tick (l:Lv) (q:Nat):Lv:={l with tr:=λ r=>if r=q then l.tr q+1 else l.tr r}
def Lv.reach (l:Lv) (p:Nat) (y:List Nat):Lv:={l with orb:=l.orb++ [p],to:=λ r=>if r=p then some y else l.to r}
def Lv.more (l:Lv) (r:List Nat):Lv:={l with gens:=l.gens++ [r]}
structure CI (n i:Nat) (τ:sE):Prop where
 lK:Lev n i (τ i)
 cl:Cl n i τ
 dn:Dn n i τ
 up:rU n (i+1) τ
section
variable {n:Nat} {τ τ':sE} {x y z s u w:List Nat} {i:Nat}
theorem CI.full (c:CI n i τ) (hf:Full (τ i)):rU n i τ:=λ j h1 h2=>by
 by_cases e:j=i
 ·subst e;exact ⟨c.lK,c.cl,hf,c.dn⟩
 ·exact c.up j (by omega) h2
theorem ahE {l:Lv} {k:Nat} (h:i<k):S n (yW τ i l) k x↔S n τ k x:=OC λ j h1 _=>eN τ l (by omega)
theorem rU.aiB {l:Lv} {k:Nat} (h:i<k) (t:rU n k τ):rU n k (yW τ i l):=t.congr λ j h1 _=>(eN τ l (by omega)).symm
theorem CI.Sf (c:CI n i τ) (hi:i<n) {q:Nat} (hq:(τ i).to q=some y) (hs:s∈(τ i).gens) (hu:(τ i).to ((bE y s).getD i 0)=some u):
  bI n (bE (bE y s) (eA u))/\Fix (i+1) (bE (bE y s) (eA u))/\fS n (· ∈(τ i).gens) (bE (bE y s) (eA u)):=by
 have L:=c.lK
 have Y:=L.dR q y hq
 have U:=L.dR _ u hu
 have Sp:=L.gP s hs
 have YS:=Y.mul Sp
 have g1:fS n (· ∈(τ i).gens) (bE (bE y s) (eA u)):=((L.gen q y hq).mul hs).app L.gP ((L.gen _ u hu).inv L.gP)
 refine ⟨YS.mul U.inv,Fix.succ (g1.fix L.gP (by omega) L.gF) ?_,g1⟩
 rw [cZ (by rw [YS.len];exact hi)]
 have:=zH U hi
 rwa [L.maps _ u hu] at this
theorem CI.tick (c:CI n i τ) {q k:Nat} (hq:(τ i).to q=some y) (hk:(τ i).tr q=k) (hs:(τ i).gens[k]? =some s) (hu:(τ i).to ((bE y s).getD i 0)=some u)
  (hz:S n τ (i+1) (bE (bE y s) (eA u))):CI n i (yW τ i ((τ i).tick q)):=by
 have L:=c.lK
 have hlt:k<(τ i).gens.length:=(List.getElem?_eq_some_iff.1 hs).1
 refine ⟨?_,?_,?_,c.up.aiB (by omega)⟩
 ·rw [cC]
  refine ⟨L.nd,L.base,L.one,L.iff,L.dR,L.fix,L.maps,L.gen,L.gP,L.gF,L.gN,λ r=>?_,λ r hr=>?_⟩
  ·show (if r=q then (τ i).tr q+1 else (τ i).tr r)<=_
   split
   ·rw [hk];exact hlt
   ·exact L.le r
  ·show (if r=q then (τ i).tr q+1 else (τ i).tr r)=0
   have:r≠q:=λ e=>hr (by rw [e];exact L.mem hq)
   rw [if_neg this];exact L.zero r hr
 ·intro r v hv j t hj ht
  rw [cC] at hv hj ht ⊢
  simp only [ahE (Nat.lt_succ_self i)]
  have hj':j<(if r=q then (τ i).tr q+1 else (τ i).tr r):=hj
  by_cases e:r=q/\j=k
  ·obtain ⟨rfl,rfl⟩:=e
   have hv':(τ i).to r=some v:=hv
   have ht':(τ i).gens[j]? =some t:=ht
   rw [hq] at hv';cases hv'
   rw [hs] at ht';cases ht'
   exact ⟨u,hu,hz⟩
  ·refine c.cl r v hv j t ?_ ht
   split at hj'
   ·rename_i e2;subst e2
    have:j≠k:=λ e3=>e ⟨rfl,e3⟩
    omega
   ·exact hj'
 ·intro hn g hg
  rw [eN τ _ (by omega)] at hg
  rw [cC]
  exact c.dn hn g hg
theorem CI.reach (c:CI n i τ) (hi:i<n) {p:Nat} (hp:(τ i).to p=none) (Y:bI n y) (F:Fix i y) (hm:y.getD i 0=p) (hg:fS n (· ∈(τ i).gens) y):CI n i (yW τ i ((τ i).reach p y)):=by
 have L:=c.lK
 have hno:p∉(τ i).orb:=λ h=>by have:=(L.iff p).1 h;rw [hp] at this;cases this
 have hto: ∀ r v,((τ i).reach p y).to r=some v->(r=p/\v=y)∨(r≠p/\(τ i).to r=some v):=by
  intro r v h
  have h':(if r=p then some y else (τ i).to r)=some v:=h
  split at h'
  ·rename_i e;cases h';exact .inl ⟨e,rfl⟩
  ·rename_i e;exact .inr ⟨e,h'⟩
 have hkeep: ∀ r v,(τ i).to r=some v->((τ i).reach p y).to r=some v:=by
  intro r v h
  have:r≠p:=λ e=>by rw [e,hp] at h;cases h
  show (if r=p then some y else (τ i).to r)=some v
  rw [if_neg this];exact h
 refine ⟨?_,?_,?_,c.up.aiB (by omega)⟩
 ·rw [cC]
  refine ⟨?_,List.mem_append_left _ L.base,hkeep _ _ L.one,λ r=>?_,λ r v h=>?_,λ r v h=>?_,λ r v h=>?_,λ r v h=>?_,L.gP,L.gF,L.gN,L.le,λ r hr=>?_⟩
  ·show ((τ i).orb++ [p]).Nodup
   rw [List.nodup_append]
   exact ⟨L.nd,by simp,λ a ha b hb=>by simp at hb;subst hb;exact λ e=>hno (e▸ha)⟩
  ·show r∈(τ i).orb++ [p]↔(if r=p then some y else (τ i).to r).isSome
   by_cases e:r=p
   ·subst e;simp
   ·rw [if_neg e,←L.iff r];simp [e]
  ·rcases hto r v h with ⟨_,rfl⟩|⟨_,h⟩
   ·exact Y
   ·exact L.dR r v h
  ·rcases hto r v h with ⟨_,rfl⟩|⟨_,h⟩
   ·exact F
   ·exact L.fix r v h
  ·rcases hto r v h with ⟨rfl,rfl⟩|⟨_,h⟩
   ·exact hm
   ·exact L.maps r v h
  ·rcases hto r v h with ⟨_,rfl⟩|⟨_,h⟩
   ·exact hg
   ·exact L.gen r v h
  ·exact L.zero r λ h=>hr (List.mem_append_left _ h)
 ·intro r v hv j t hj ht
  rw [cC] at hv hj ht ⊢
  simp only [ahE (Nat.lt_succ_self i)]
  rcases hto r v hv with ⟨rfl,rfl⟩|⟨_,h⟩
  ·have hz:(τ i).tr r=0:=L.zero r hno
   have hj':j<(τ i).tr r:=hj
   omega
  ·obtain ⟨a,h1,h2⟩:=c.cl r v h j t hj ht
   exact ⟨a,hkeep _ _ h1,h2⟩
 ·intro hn g hg2
  rw [eN τ _ (by omega)] at hg2
  rw [cC]
  exact c.dn hn g hg2
theorem CI.found (c:CI n i τ) (hi:i<n) {q k p:Nat} (hq:(τ i).to q=some y) (hk:(τ i).tr q=k) (hs:(τ i).gens[k]? =some s) (hp:(bE y s).getD i 0=p) (hn:(τ i).to p=none):
  CI n i (yW τ i (((τ i).tick q).reach p (bE y s))):=by
 have L:=c.lK
 have hmem:s∈(τ i).gens:=List.mem_of_getElem? hs
 have Y:=L.dR q y hq
 have Sp:=L.gP s hmem
 have c1:=c.reach hi hn (Y.mul Sp) (Fix.mul Y (by omega) (L.fix q y hq) (L.gF s hmem)) hp ((L.gen q y hq).mul hmem)
 have hqp:q≠p:=λ e=>by rw [e,hn] at hq;cases hq
 have hto:(yW τ i ((τ i).reach p (bE y s)) i).to p=some (bE y s):=by
  rw [cC]
  show (if p=p then some (bE y s) else (τ i).to p)=_
  rw [if_pos rfl]
 have hS:S n (yW τ i ((τ i).reach p (bE y s))) (i+1) (bE (bE y s) (eA (bE y s))):=by
  rw [gU (Y.mul Sp)]
  exact (c1.up.jY (by omega)).one
 have c2:=c1.tick (q:=q) (k:=k) (y:=y) (s:=s) (u:=bE y s) (by
  rw [cC]
  show (if q=p then some (bE y s) else (τ i).to q)=_
  rw [if_neg hqp];exact hq) (by rw [cC];exact hk) (by rw [cC];exact hs) (by rw [hp];exact hto) hS
 have e:yW (yW τ i ((τ i).reach p (bE y s))) i ((yW τ i ((τ i).reach p (bE y s)) i).tick q)=yW τ i (((τ i).tick q).reach p (bE y s)):=by
  funext j
  by_cases h:j=i
  ·subst h;rw [cC,cC,cC];rfl
  ·rw [eN _ _ h,eN _ _ h,eN _ _ h]
 rwa [e] at c2
structure Ni (n i:Nat) (x:List Nat) (τ τ':sE):Prop where
 low: ∀ j,j<i->τ' j=τ j
 tw:rU n i τ'
 old: ∀ s∈(τ i).gens,s∈(τ' i).gens
 new: ∀ s∈(τ' i).gens,fS n (λ g=>g∈(τ i).gens∨g=x) s
 has:fS n (· ∈(τ' i).gens) x
theorem Ni.S (a:Ni n i x τ τ') (t:rU n i τ) (hi:i<n) (h:Go.Pm.S n τ i z):Go.Pm.S n τ' i z:=
 (a.tw.gen hi).2 (((t.gen hi).1 h).mono a.old)
theorem CI.added (c:CI n i τ) (hn:i+1<n) (a:Ni n (i+1) z τ τ') (hz:fS n (· ∈(τ i).gens) z):CI n i τ'/\Go.Pm.S n τ' (i+1) z:=by
 have e:=a.low i (by omega)
 refine ⟨⟨e▸c.lK,λ q y hy k s hk hs=>?_,λ h g hg=>?_,a.tw⟩,(a.tw.gen hn).2 a.has⟩
 ·rw [e] at hy hk hs ⊢
  obtain ⟨u,h1,h2⟩:=c.cl q y hy k s hk hs
  exact ⟨u,h1,a.S c.up hn h2⟩
 ·rw [e]
  refine (a.new g hg).le (fS.jY c.lK.gP) λ g hg=>?_
  rcases hg with hg|rfl
  ·exact c.dn hn g hg
  ·exact hz
def GN (n:Nat) (τ:sE):Nat->Nat->List Nat->Nat×List Nat
 |0,i,x=>(i,x)
 |d+1,i,x=>match (τ i).to (x.getD i 0) with
  |none=>(i,x)
  |some y=>GN n τ d (i+1) (if x.getD i 0=i then x else bE x (eA y))
structure SfP (n i:Nat) (τ:sE) (x:List Nat) (k:Nat) (r:List Nat):Prop where
 ge:i<=k
 le:k<=n
 dR:bI n r
 fix:Fix k r
 out:k<n->(τ k).to (r.getD k 0)=none
 rest:i<n-> ∃ w,fS n (· ∈(τ i).gens) w/\x=bE r w
theorem ZV: ∀ (d i:Nat) (x:List Nat),i+d=n->rU n i τ->bI n x->Fix i x->SfP n i τ x (GN n τ d i x).1 (GN n τ d i x).2
 |0,i,x,h,_,X,F=>⟨Nat.le_refl _,by show i<=n;omega,X,F,λ h2=>by have:i<n:=h2;omega,λ h2=>by omega⟩
 |d+1,i,x,h,t,X,F=>by
  have hi:i<n:=by omega
  obtain ⟨L,C,Fu,D⟩:=t i (Nat.le_refl _) hi
  unfold GN
  cases e:(τ i).to (x.getD i 0) with
  |none=>exact ⟨Nat.le_refl _,by show i<=n;omega,X,F,λ _=>e,λ _=>⟨bZ n,.one,(cE X).symm⟩⟩
  |some y=>
   simp only
   have Y:=L.dR _ y e
   have key: ∀ x2,x2=(if x.getD i 0=i then x else bE x (eA y))->bI n x2/\Fix (i+1) x2/\x=bE x2 y:=by
    intro x2 h2
    by_cases hx:x.getD i 0=i
    ·rw [if_pos hx] at h2
     subst h2
     rw [hx,L.one] at e
     cases e
     exact ⟨X,F.succ hx,(cE X).symm⟩
    ·rw [if_neg hx] at h2
     subst h2
     refine ⟨X.mul Y.inv,(Fix.mul X (by omega) F (Fix.inv Y (by omega) (L.fix _ y e))).succ ?_,by rw [aV X Y.inv Y,gG Y,cE X]⟩
     rw [cZ (by rw [X.len];exact hi)]
     have:=zH Y hi
     rwa [L.maps _ y e] at this
   obtain ⟨X2,F2,ex⟩:=key _ rfl
   have ih:=ZV d (i+1) _ (by omega) (t.mono (by omega)) X2 F2
   refine ⟨by have:=ih.ge;omega,ih.le,ih.dR,ih.fix,ih.out,λ _=>?_⟩
   by_cases hn:i+1<n
   ·obtain ⟨w,hw,ew⟩:=ih.rest hn
    have hw2:fS n (· ∈(τ i).gens) w:=hw.le (fS.jY L.gP) (D hn)
    refine ⟨bE w y,hw2.app L.gP (L.gen _ y e),?_⟩
    rw [←aV ih.dR (hw2.dR L.gP) Y,←ew]
    exact ex
   ·have hd:d=0:=by omega
    subst hd
    exact ⟨y,L.gen _ y e,ex⟩
theorem SfP.in (f:SfP n i τ x n w) (t:rU n i τ) (hi:i<n):S n τ i x:=by
 obtain ⟨v,hv,e⟩:=f.rest hi
 have:=f.fix.all f.dR
 rw [this,eH (hv.dR (t i (Nat.le_refl _) hi).1.gP)] at e
 subst e
 exact (t.gen hi).2 hv
theorem SfP.akZ {k:Nat} (f:SfP n i τ x k w) (t:rU n i τ) (hk:k<n) {j:Nat} (h1:i<=j) (h2:j<=k): ¬S n τ j w:=by
 intro h
 have t1:=t.mono h1
 have h3:=(t1.GP h2 (by omega)).2 ⟨h,f.fix⟩
 obtain ⟨y,hy,_⟩:=(t.mono f.ge).sift hk h3
 rw [f.out hk] at hy
 cases hy
def push (τ:sE) (i k:Nat) (r:List Nat):sE:=λ j=>if i<=j/\j<=k then (τ j).more r else τ j
theorem NQ (τ:sE) {i k j:Nat} (r:List Nat) (h1:i<=j) (h2:j<=k):push τ i k r j=(τ j).more r:=by simp [push,h1,h2]
theorem Vh (τ:sE) {i k j:Nat} (r:List Nat) (h:j<i∨k<j):push τ i k r j=τ j:=by
 unfold push;rw [if_neg (by omega)]
structure Ut (n i k:Nat) (r:List Nat) (τ τ':sE) (j:Nat):Prop where
 low: ∀ m,m<j->τ' m=push τ i k r m
 tw:rU n j τ'
 gens:j<=k->(τ' j).gens=(τ j).gens++ [r]
 same:k<j->τ' j=τ j
theorem Ut.start {k:Nat} (f:SfP n i τ x k w) (t:rU n i τ) (_:k<n):Ut n i k w τ (push τ i k w) (k+1):=
 ⟨λ _ _=>rfl,(t.mono (by have:=f.ge;omega)).congr λ j h1 _=>(Vh τ w (.inr (by omega))).symm,λ h=>by omega,λ _=>Vh τ w (.inr (by omega))⟩
theorem Ut.ci {k j:Nat} (f:SfP n i τ x k w) (t:rU n i τ) (hk:k<n) (a:Ut n i k w τ τ' (j+1)) (h1:i<=j) (h2:j<=k):CI n j τ':=by
 have hj:j<n:=by omega
 obtain ⟨L,C,Fu,D⟩:=t j h1 hj
 have e:τ' j=(τ j).more w:=(a.low j (by omega)).trans (NQ τ w h1 h2)
 have tj:=t.mono h1
 have hno:w∉(τ j).gens:=λ hw=>f.akZ t hk h1 h2 ((tj.gen hj).2 (fS.of L.gP hw))
 have hup: ∀ z,S n τ (j+1) z->S n τ' (j+1) z:=by
  intro z hz
  by_cases hn:j+1<n
  ·have tj1:=t.mono (show i<=j+1 by omega)
   refine (a.tw.gen hn).2 (((tj1.gen hn).1 hz).mono λ g hg=>?_)
   by_cases hjk:j+1<=k
   ·rw [a.gens hjk];exact List.mem_append_left _ hg
   ·rw [a.same (by omega)];exact hg
  ·obtain rfl:j+1=n:=by omega
   rw [yH] at hz ⊢;exact hz
 have hold: ∀ g,g∈(τ j).gens->g∈(τ j).gens++ [w]:=λ g hg=>List.mem_append_left _ hg
 have hgP: ∀ g,g∈(τ j).gens++ [w]->bI n g:=λ g hg=>by
  rcases List.mem_append.1 hg with hg|hg
  ·exact L.gP g hg
  ·simp at hg;subst hg;exact f.dR
 refine ⟨?_,λ q y hy m s hm hs=>?_,λ hn s hs=>?_,a.tw⟩
 ·rw [e]
  refine ⟨L.nd,L.base,L.one,L.iff,L.dR,L.fix,L.maps,λ p y h=>(L.gen p y h).mono hold,hgP,λ g hg=>?_,?_,λ q=>?_,L.zero⟩
  ·rcases List.mem_append.1 hg with hg|hg
   ·exact L.gF g hg
   ·simp at hg;subst hg;exact f.fix.mono h2
  ·show ((τ j).gens++ [w]).Nodup
   rw [List.nodup_append]
   exact ⟨L.gN,by simp,λ a ha b hb=>by simp at hb;subst hb;exact λ e=>hno (e▸ha)⟩
  ·show (τ j).tr q<=((τ j).gens++ [w]).length
   have:=L.le q
   simp;omega
 ·rw [e] at hy hm hs ⊢
  have hm':m<(τ j).tr q:=hm
  have hs':((τ j).gens++ [w])[m]? =some s:=hs
  rw [List.getElem?_append_left (by have:=L.le q;omega)] at hs'
  obtain ⟨u,g1,g2⟩:=C q y hy m s hm' hs'
  exact ⟨u,g1,hup _ g2⟩
 ·rw [e]
  show fS n (· ∈(τ j).gens++ [w]) s
  by_cases hjk:j+1<=k
  ·rw [a.gens hjk] at hs
   rcases List.mem_append.1 hs with hs|hs
   ·exact (D hn s hs).mono hold
   ·simp at hs;subst hs
    exact fS.of hgP (List.mem_append_right _ (by simp))
  ·rw [a.same (by omega)] at hs
   exact (D hn s hs).mono hold
theorem Ut.next {k j:Nat} {τ'':sE} (a:Ut n i k w τ τ' (j+1)) (h1:i<=j) (h2:j<=k) (low: ∀ m,m<j->τ'' m=τ' m) (g:(τ'' j).gens=(τ' j).gens) (t:rU n j τ''):Ut n i k w τ τ'' j:=
 ⟨λ m hm=>(low m hm).trans (a.low m (by omega)),t,λ _=>by rw [g,a.low j (by omega),NQ τ w h1 h2];rfl,λ h=>by omega⟩
theorem Ut.done {k:Nat} (f:SfP n i τ x k w) (t:rU n i τ) (X:bI n x) (hk:k<n) (a:Ut n i k w τ τ' i):Ni n i x τ τ':=by
 have hi:i<n:=by have:=f.ge;omega
 have L:=(t i (Nat.le_refl _) hi).1
 have hg:=a.gens f.ge
 obtain ⟨v,hv,e⟩:=f.rest hi
 have V:=hv.dR L.gP
 refine ⟨λ j hj=>(a.low j hj).trans (Vh τ w (.inl hj)),a.tw,λ s hs=>?_,λ s hs=>?_,?_⟩
 ·rw [hg];exact List.mem_append_left _ hs
 ·have hLP: ∀ g,(g∈(τ i).gens∨g=x)->bI n g:=λ g hg=>by
   rcases hg with hg|rfl
   ·exact L.gP g hg
   ·exact X
  rw [hg] at hs
  rcases List.mem_append.1 hs with hs|hs
  ·exact fS.of hLP (.inl hs)
  ·simp at hs;subst hs
   have ew:s=bE x (eA v):=by rw [e,aV f.dR V V.inv,gU V,cE f.dR]
   rw [ew]
   exact (fS.of hLP (.inr rfl)).app hLP ((hv.mono λ g hg=>Or.inl hg).inv hLP)
 ·have hLP: ∀ g,g∈(τ' i).gens->bI n g:=(a.tw i (Nat.le_refl _) hi).1.gP
  rw [e]
  exact (fS.of hLP (by rw [hg];exact List.mem_append_right _ (by simp))).app hLP (hv.mono λ g hg'=>by rw [hg];exact List.mem_append_left _ hg')
theorem Ni.none (t:rU n i τ) (hi:i<n) (h:Go.Pm.S n τ i x):Ni n i x τ τ:=by
 have L:=(t i (Nat.le_refl _) hi).1
 have hLP: ∀ g,(g∈(τ i).gens∨g=x)->bI n g:=λ g hg=>by
  rcases hg with hg|rfl
  ·exact L.gP g hg
  ·exact t.dR (by omega) h
 exact ⟨λ _ _=>rfl,t,λ _ hs=>hs,λ s hs=>fS.of hLP (.inl hs),(t.gen hi).1 h⟩
theorem Lev.many {l:Lv} {j:Nat} (L:Lev n j l):l.gens.length<=n^n:=Rz L.gN L.gP
def tw0 (n:Nat):sE:=λ j=>⟨[], [j],λ p=>if p=j then some (bZ n) else none,λ _=>0⟩
theorem XN (n:Nat):rU n 0 (tw0 n):=λ j _ hj=>by
 refine ⟨⟨by simp [tw0],by simp [tw0],by simp [tw0],λ p=>?_,λ p y h=>?_,λ p y h=>?_,λ p y h=>?_,λ p y h=>?_,λ s hs=>?_,λ s hs=>?_,by simp [tw0],λ q=>Nat.le_refl _,λ _ _=>rfl⟩,λ q y hy k s hk=>?_,λ q _=>rfl,λ _ s hs=>?_⟩
 ·show p∈ [j]↔(if p=j then some (bZ n) else none).isSome
  by_cases e:p=j<;>simp [e]
 all_goals first
  |(have h':(if p=j then some (bZ n) else none)=some y:=h
    split at h'
    ·rename_i e
     cases h'
     first
      |exact bI.one n
      |exact Fix.one n j (by omega)
      |(rw [e];exact fG hj)
      |exact .one
    ·cases h')
  |(cases hs;done)
  |(have hk':k<0:=hk;omega)
end
end Go.Pm
namespace Go.Proofs.YtddpkbicnolafaaGreat
open Go Go.Ay Go.Pm
set_option maxRecDepth 100000
def Slot (W:Nat->Prop) (h:H) (v:V):Option (List Nat)->Prop
 |none=>v= .aC
 |some y=>PV W h v y
def zG (F:Nat->V) (s:Nat):V:=F (s/2*194+s%2)
def WT (n L:Nat) (F:Nat->V) (id:Nat):Prop:=id=L∨ ∃ s,s<2*n/\ ∃ off len c,zG F s= .sl id off len c
structure uZ (h:H) (n tid L:Nat) (F:Nat->V) (τ:sE):Prop where
 t:h.get tid=some (.cells false [aB n,.sl L 0 n (.kn n)])
 l:h.get L=some (.cells false (rc (n*194) F))
 tn:tid<h.next
 ln:L<h.next
 tw: ¬WT n L F tid
 to: ∀ j p,j<n->p<64->Slot (WT n L F) h (F (j*194+2+p)) ((τ j).to p)
 iv: ∀ j p,j<n->p<64->Slot (WT n L F) h (F (j*194+66+p)) (((τ j).to p).map eA)
 tr: ∀ j p,j<n->p<64->F (j*194+130+p)= aB ((τ j).tr p:Nat)
 gens: ∀ j,j<n-> ∃ vs,eL h (F (j*194)) 1 vs 0/\jL (WT n L F) h vs (τ j).gens
 orb: ∀ j,j<n->eL h (F (j*194+1)) 1 (ints (zi (τ j).orb)) 0
 PQ: ∀ s s',s<2*n->s'<2*n->s≠s'->Dis (zG F s) (zG F s')
 ap: ∀ s,s<2*n->eC (zG F s) L
section
variable {h h':H} {n tid L:Nat} {F:Nat->V} {τ:sE}
theorem Slot.fx {W:Nat->Prop} {v:V} {o:Option (List Nat)} (s:Slot W h v o) (f:Fx W h h'):Slot W h' v o:=by
 cases o with
 |none=>exact s
 |some y=>exact PV.fx s f
theorem Slot.zU {W W':Nat->Prop} {v:V} {o:Option (List Nat)} (s:Slot W h v o) (hw: ∀ id,id<h.next->W' id->W id):Slot W' h v o:=by
 cases o with
 |none=>exact s
 |some y=>exact PV.zU s hw
theorem Ko (F:Nat->V) (j:Nat):zG F (2*j)=F (j*194):=by
 unfold zG;congr 1;omega
theorem Oz (F:Nat->V) (j:Nat):zG F (2*j+1)=F (j*194+1):=by
 unfold zG;congr 1;omega
theorem uZ.own (R:uZ h n tid L F τ) {s:Nat} (hs:s<2*n): ∃ ws,eL h (zG F s) 1 ws 0:=by
 rcases Nat.mod_two_eq_zero_or_one s with e|e
 ·obtain ⟨vs,h1,_⟩:=R.gens (s/2) (by omega)
  exact ⟨vs,by unfold zG;rw [e];exact h1⟩
 ·exact ⟨_,by unfold zG;rw [e];exact R.orb (s/2) (by omega)⟩
theorem uZ.Rx (R:uZ h n tid L F τ) {id:Nat} (hw:WT n L F id):id<h.next:=by
 rcases hw with rfl|⟨s,hs,off,len,c,e⟩
 ·exact R.ln
 ·obtain ⟨ws,o⟩:=R.own hs
  exact (o.in _ _ _ _ e).1
theorem uZ.mono (R:uZ h n tid L F τ) (f:Fr h h'):uZ h' n tid L F τ:=by
 refine ⟨by rw [f.get _ R.tn];exact R.t,by rw [f.get _ R.ln];exact R.l,mM R.tn f.next,mM R.ln f.next,R.tw,
  λ j p h1 h2=>(R.to j p h1 h2).fx (Fx.of f),λ j p h1 h2=>(R.iv j p h1 h2).fx (Fx.of f),R.tr,λ j hj=>?_,λ j hj=>(R.orb j hj).fr f,R.PQ,R.ap⟩
 obtain ⟨vs,h1,h2⟩:=R.gens j hj
 exact ⟨vs,h1.fr f,h2.fx (Fx.of f)⟩
theorem uZ.cell (R:uZ h n tid L F τ) {j c:Nat} (hj:j<n) (hc:c<194):h.cell L (j*194+c)=some (F (j*194+c)):=
 qT R.l (by
         have:(j+1)*194<=n*194:=Nat.mul_le_mul_right _ hj
         omega)
theorem uZ.Zd (R:uZ h n tid L F τ) {j c p:Nat} (hj:j<n) (hc:c+p<194):h.cell L (j*194+c+p)=some (F (j*194+c+p)):=by
 rw [Nat.add_assoc];exact R.cell hj hc
end
theorem WM {n:Nat} {τ:sE} {d i:Nat} {x:List Nat} (h:(τ i).to (x.getD i 0)=none):GN n τ (d+1) i x=(i,x):=by
 rw [GN,h]
theorem aaQ {n:Nat} {τ:sE} {d i:Nat} {x z:List Nat} (h:(τ i).to (x.getD i 0)=some z):GN n τ (d+1) i x=GN n τ d (i+1) (if x.getD i 0=i then x else bE x (eA z)):=by
 rw [GN,h]
theorem acS (h:H) (n tid L:Nat) (F:Nat->V) (τ:sE) (vx:V) (x:List Nat) (i0:Nat) (hn:n<=64) (h0:0<n) (R:uZ h n tid L F τ) (hx:PV (WT n L F) h vx x) (X:bI n x) (hi0:i0<=n) (t:rU n i0 τ):
  Ev T Iw [.ptr tid 0,vx,aB i0] h (λ v h'=> ∃ vr,v= .tup [aB (((GN n τ (n-i0) i0 x).1:Nat):Int),vr]/\PV (WT n L F) h' vr (GN n τ (n-i0) i0 x).2/\bI n (GN n τ (n-i0) i0 x).2/\Fr h h'):=by
 refine aZ Io rfl ?_
 simp (disch:=omega) only [go_sem,lY,aF]
 refine aJ (λ k' vars hh=> ∃ (i:Nat) (y:List Nat) (vy:V),(∃ g:Nat->V,vars= [.ptr tid 0,vy,g 2,g 3,g 4,aB i,g 6,g 7,g 8,g 9])/\i0<=i/\i<=n/\GN n τ (n-i) i y=GN n τ (n-i0) i0 x/\
   PV (WT n L F) hh vy y/\bI n y/\Fr h hh/\k'=n-i) (n-i0)
  ⟨i0,x,vx,aA rfl,jI _,hi0,rfl,hx,X,Fr.refl h,rfl⟩ ?_
 rintro k' vars h2 ⟨i,y,vy,⟨g,rfl⟩,hi1,hi2,hs,hy,Y,f,rfl⟩
 have R2:=R.mono f
 have ct:h2.cell tid 0=some (aB n):=by rw [H.aG R2.t];rfl
 have cl:h2.cell tid 1=some (.sl L 0 n (.kn n)):=by rw [H.aG R2.t];rfl
 simp (disch:=omega) only [go_sem,ct,cl]
 by_cases hlt:(i:Int)<(n:Int)
 ·have hin:i<n:=by omega
  rw [decide_eq_true hlt]
  obtain ⟨id,off,sh,hid,hc⟩:=hy.si.open
  rw [aT,Y.len] at sh hid hc
  have ci:h2.cell id (off+i)=some (aB (y.getD i 0:Nat)):=by rw [hc i hin];congr 2;simp [zi,Y.len,hin]
  have r:=Y.eS hin
  have lv:=(t i hi1 hin).1
  generalize hk:y.getD i 0=k at ci r
  have cb:=R2.Zd (c:=66) (p:=k) hin (by omega)
  have hS:=R2.iv i k hin (by omega)
  simp (disch:=omega) only [go_sem,ct,cl,sh.ixa,ci,cb]
  generalize F (i*194+66+k)=vb at hS cb
  have hstep:n-i=(n-(i+1))+1:=by omega
  rw [hstep] at hs
  cases hto:(τ i).to k with
  |none=>
   rw [hto] at hS
   rw [WM (by rw [hk];exact hto)] at hs
   have hS':vb= .aC:=hS
   subst hS'
   simp (disch:=omega) only [go_sem]
   rw [←hs]
   exact ⟨vy,rfl,hy.fx (Fx.of ((Fr.refl h2).bF (by omega))),Y,f.bF (by omega)⟩
  |some z=>
   rw [hto] at hS
   rw [aaQ (by rw [hk];exact hto),hk] at hs
   have Z:=lv.dR _ _ hto
   have hS':PV (WT n L F) h2 vb (eA z):=hS
   have sn:=Kv hS' (bI.ne h0 Z.inv) false
   have fb:Fr h2 (H.mk h2.tr (h2.next+14)):=(Fr.refl h2).bF (by omega)
   by_cases hki:k=i
   ·have e0:decide ((k:Int)≠(i:Int))=false:=gJ (by omega)
    rw [if_pos hki] at hs
    simp (disch:=omega) only [go_sem,sn,sh.ixa,ci,e0]
    rw [iJ i]
    exact ⟨n-(i+1),by omega,i+1,y,vy,aA rfl,by omega,by omega,hs,hy.fx (Fx.of fb),Y,f.trans fb,rfl⟩
   ·have e0:decide ((k:Int)≠(i:Int))=true:=mG (by omega)
    rw [if_neg hki] at hs
    simp (disch:=omega) only [go_sem,sn,sh.ixa,ci,e0]
    have hy':=hy.fx (Fx.of fb)
    have hS2:=hS'.fx (Fx.of fb)
    have f':=f.trans fb
    generalize H.mk h2.tr (h2.next+14)=h3 at*
    refine (Az uA vy vb y (eA z) h3 (by rw [Y.len];omega) hy'.si hS2.si (λ j hj=>by rw [jT,Z.len];exact Y.eS (by rw [←Y.len];exact hj))).mono ?_
    rintro v h4 nw
    have f4:=f'.trans nw.fr
    simp (disch:=omega) only [go_sem]
    rw [iJ i]
    refine ⟨n-(i+1),by omega,i+1,_,v,aA rfl,by omega,by omega,hs,nw.pv (λ hw=>?_),Y.mul Z.inv,f4,rfl⟩
    have:=R.Rx hw
    have:=f'.next
    omega
 ·rw [decide_eq_false hlt]
  obtain rfl:i=n:=by omega
  simp (disch:=omega) only [go_sem,ct,cl]
  rw [Nat.sub_self] at hs
  have hs':GN i τ (i-i0) i0 x=(i,y):=hs.symm
  rw [hs']
  exact ⟨vy,rfl,hy,Y,f⟩
section
variable {h h' h2:H} {n tid L i:Nat} {F F':Nat->V} {τ τ':sE}
theorem aaH (hs: ∀ s,s<2*n->zG F' s=zG F s) (id:Nat):WT n L F' id↔WT n L F id:=by
 unfold WT
 constructor
 ·rintro (e|⟨s,h1,h2⟩)
  ·exact .inl e
  ·exact .inr ⟨s,h1,by rw [←hs s h1];exact h2⟩
 ·rintro (e|⟨s,h1,h2⟩)
  ·exact .inl e
  ·exact .inr ⟨s,h1,by rw [hs s h1];exact h2⟩
theorem ZS {j:Nat} (P: ∀ s,s<2*n->zG F' s=zG F s) (hj:j<n):F' (j*194)=F (j*194)/\F' (j*194+1)=F (j*194+1):=
 ⟨(Ko F' j).symm.trans ((P _ (by omega)).trans (Ko F j)),(Oz F' j).symm.trans ((P _ (by omega)).trans (Oz F j))⟩
theorem PV.go {W W':Nat->Prop} {v:V} {l:List Nat} (p:PV W h v l) (f:Fx W h h') (hw: ∀ id,id<h.next->W' id->W id):PV W' h' v l:=⟨p.si.fx p.off f,p.off.zU p.si hw⟩
theorem Slot.go {W W':Nat->Prop} {v:V} {o:Option (List Nat)} (s:Slot W h v o) (f:Fx W h h') (hw: ∀ id,id<h.next->W' id->W id):Slot W' h' v o:=by
 cases o with
 |none=>exact s
 |some y=>exact PV.go s f hw
theorem jL.go {W W':Nat->Prop} {vs:List V} {ls:LN} (s:jL W h vs ls) (f:Fx W h h') (hw: ∀ id,id<h.next->W' id->W id):jL W' h' vs ls:=s.mono λ _ _ x=>PV.go x f hw
theorem uZ.cells (R:uZ h n tid L F τ) (hn:h.next<=h'.next) (ho: ∀ id,id≠L->id<h.next->h'.get id=h.get id) (hl:h'.get L=some (.cells false (rc (n*194) F')))
  (hs: ∀ s,s<2*n->zG F' s=zG F s) (hg: ∀ j,j<n->(τ' j).gens=(τ j).gens/\(τ' j).orb=(τ j).orb)
  (hto: ∀ j p,j<n->p<64->Slot (WT n L F) h' (F' (j*194+2+p)) ((τ' j).to p)) (hiv: ∀ j p,j<n->p<64->Slot (WT n L F) h' (F' (j*194+66+p)) (((τ' j).to p).map eA))
  (htr: ∀ j p,j<n->p<64->F' (j*194+130+p)= aB ((τ' j).tr p:Nat)):uZ h' n tid L F' τ'/\Fx (WT n L F) h h'/\ ∀ id,WT n L F' id↔WT n L F id:=by
 have f:Fx (WT n L F) h h':=⟨hn,λ id h1 h2=>ho id (λ e=>h2 (.inl e)) h1⟩
 have hw:=aaH (L:=L) hs
 have eW:WT n L F'=WT n L F:=funext λ id=>propext (hw id)
 have hk: ∀ s,s<2*n-> ∀ id off len c,zG F s= .sl id off len c->id<h.next->h'.get id=h.get id:=λ s h1 id off len c e h2=>ho id (λ e2=>(R.ap s h1 _ _ _ _ e) e2.symm) h2
 refine ⟨⟨?_,hl,mM R.tn hn,mM R.ln hn,by rw [eW];exact R.tw,by rw [eW];exact hto,by rw [eW];exact hiv,htr,λ j hj=>?_,λ j hj=>?_,λ s s' h1 h2 h3=>by rw [hs s h1,hs s' h2];exact R.PQ s s' h1 h2 h3,λ s h1=>by rw [hs s h1];exact R.ap s h1⟩,f,hw⟩
 ·rw [f.get tid R.tn R.tw];exact R.t
 ·obtain ⟨vs,h1,h2⟩:=R.gens j hj
  rw [(ZS hs hj).1,eW,(hg j hj).1]
  exact ⟨vs,h1.Bi hn λ id off m c e h3=>hk (2*j) (by omega) id off m c (by rw [Ko];exact e) h3,h2.fx f⟩
 ·rw [(ZS hs hj).2,(hg j hj).2]
  exact (R.orb j hj).Bi hn λ id off m c e h3=>hk (2*j+1) (by omega) id off m c (by rw [Oz];exact e) h3
structure alN (h h':H) (n tid L:Nat) (F F':Nat->V) (s0:Nat):Prop where
 fx:Fx (WT n L F) h h'
 wt: ∀ id,id<h.next->WT n L F' id->WT n L F id
 PQ: ∀ s s',s<2*n->s'<2*n->s≠s'->Dis (zG F' s) (zG F' s')
 ap: ∀ s,s<2*n->eC (zG F' s) L
 own: ∀ s,s<2*n->s≠s0->zG F' s=zG F s/\ ∀ ws,eL h (zG F s) 1 ws 0->eL h' (zG F s) 1 ws 0
theorem uZ.alQ (R:uZ h n tid L F τ) {s0 nn m:Nat} (h0:s0<2*n) {ws us:List V} (p:xU h (zG F s0) nn m 1 ws us h2) (hF: ∀ s,s<2*n->s≠s0->zG F' s=zG F s) {cp:uO} (hF0:zG F' s0= .sl h.next 0 (nn+m) cp) (o:Option Ob):
  alN h (h2.set L o) n tid L F F' s0:=by
 have hin: ∀ s,s<2*n-> ∀ id off len c,zG F s= .sl id off len c->id<h.next:=λ s hs id off len c e=>by
  obtain ⟨ws,o⟩:=R.own hs
  exact (o.in _ _ _ _ e).1
 have f2:Fx (WT n L F) h h2:=p.fx λ id off len c e=> .inr ⟨s0,h0,off,len,c,e⟩
 refine ⟨f2.trans (Fx.set h2 (.inl rfl:WT n L F L) o) (λ _ _ h=>h),λ id h1 hw=>?_,λ s s' h1 h2 h3=>?_,λ s h1=>?_,λ s h1 h3=>⟨hF s h1 h3,λ ws ow=>?_⟩⟩
 ·rcases hw with e|⟨s,hs,off,len,c,e⟩
  ·exact .inl e
  ·by_cases e2:s=s0
   ·rw [e2,hF0] at e;cases e;omega
   ·exact .inr ⟨s,hs,off,len,c,by rw [←hF s hs e2];exact e⟩
 ·by_cases e2:s=s0
  ·rw [e2,hF0,hF s' h2 (by omega)]
   intro i o n c e i' o' n' c' e'
   cases e
   have:=hin s' h2 _ _ _ _ e'
   omega
  ·rw [hF s h1 e2]
   by_cases e3:s'=s0
   ·rw [e3,hF0]
    intro i o n c e i' o' n' c' e'
    cases e'
    have:=hin s h1 _ _ _ _ e
    omega
   ·rw [hF s' h2 e3];exact R.PQ s s' h1 h2 h3
 ·by_cases e2:s=s0
  ·rw [e2,hF0]
   exact eC.sl (by have:=R.ln;omega)
  ·rw [hF s h1 e2];exact R.ap s h1
 ·refine ow.Bi (show h.next<=h2.next by rw [p.next];omega) λ id off m c e hid=>?_
  rw [H.aH h2 (λ e2:id=L=>(R.ap s h1 _ _ _ _ e) e2.symm)]
  refine p.old id (by omega) λ id' off' n' c' e' e2=>?_
  exact R.PQ s s0 h1 h0 h3 _ _ _ _ e _ _ _ _ e' e2
def F1 (F:Nat->V) (k:Nat) (v:V):Nat->V:=λ c=>if c=k then v else F c
theorem uZ.slot (R:uZ h n tid L F τ) {e nn m:Nat} (hi:i<n) (he:e<2) {ws us:List V} (p:xU h (F (i*194+e)) nn m 1 ws us h2) {h3:H} {v:V} {cp:uO} (hcp:cp= .un 1∨cp= .kn (nn+m)) (hv:v= .sl h.next 0 (nn+m) cp) (h3e:h3=h2.set L (some (.cells false (rc (n*194) (F1 F (i*194+e) v)))))
  (hsame: ∀ j,j<n->(τ' j).to=(τ j).to/\(τ' j).tr=(τ j).tr)
  (hg:Fx (WT n L F) h h3->(∀ id,id<h.next->WT n L (F1 F (i*194+e) v) id->WT n L F id)->(∀ s,s<2*n->s≠2*i+e-> ∀ ws,eL h (zG F s) 1 ws 0->eL h3 (zG F s) 1 ws 0)->eL h3 v 1 (ws++us) 0->ws.length=nn*1/\us.length=m*1->
   (∀ j,j<n-> ∃ vs,eL h3 (F1 F (i*194+e) v (j*194)) 1 vs 0/\jL (WT n L (F1 F (i*194+e) v)) h3 vs (τ' j).gens)/\ ∀ j,j<n->eL h3 (F1 F (i*194+e) v (j*194+1)) 1 (ints (zi (τ' j).orb)) 0)
  (hl:ws.length=nn*1/\us.length=m*1):
  uZ h3 n tid L (F1 F (i*194+e) v) τ'/\Fx (WT n L F) h h3/\ ∀ id,id<h.next->WT n L (F1 F (i*194+e) v) id->WT n L F id:=by
 have hsl: ∀ s,s<2*n->s≠2*i+e->zG (F1 F (i*194+e) v) s=zG F s:=λ s h1 h2=>by
  unfold zG F1;rw [if_neg (by omega)]
 have hdiv:(2*i+e)/2*194+(2*i+e)%2=i*194+e:=by omega
 have hs0:zG F (2*i+e)=F (i*194+e):=by unfold zG;rw [hdiv]
 have hs1:zG (F1 F (i*194+e) v) (2*i+e)= .sl h.next 0 (nn+m) cp:=by unfold zG F1;rw [hdiv,if_pos rfl,hv]
 have G:=R.alQ (F':=F1 F (i*194+e) v) (s0:=2*i+e) (by omega) (by rw [hs0];exact p) hsl hs1 (some (.cells false (rc (n*194) (F1 F (i*194+e) v))))
 rw [←h3e] at G
 obtain ⟨g1,g2⟩:=hg G.fx G.wt (λ s h1 h2=>(G.own s h1 h2).2) (by
  rw [hv,h3e]
  have ow:eL h2 (.sl h.next 0 (nn+m) cp) 1 (ws++us) 0:= .inr ⟨h.next,nn+m,cp, [],rfl,by rw [vA,hl.1,hl.2];omega,by rcases hcp with e|e;exact .inl e;exact .inr ⟨e,rfl⟩,mJ _,by rw [p.next];omega,by rw [List.append_nil];exact p.get⟩
  refine ow.Bi (jI _) λ id off m c e hid=>?_
  cases e
  exact H.aH h2 (by have:=R.ln;omega) _) hl
 have hc: ∀ j c,2<=c->c<194->F1 F (i*194+e) v (j*194+c)=F (j*194+c):=λ j c h1 h2=>by
  unfold F1;rw [if_neg (by omega)]
 have hc2: ∀ j b c,2<=b->b+c<194->F1 F (i*194+e) v (j*194+b+c)=F (j*194+b+c):=λ j b c h1 h2=>by
  rw [Nat.add_assoc];exact hc j (b+c) (by omega) h2
 have hnx:=G.fx.next
 refine ⟨⟨?_,by rw [h3e,H.aW],mM R.tn hnx,mM R.ln hnx,λ hw=>R.tw (G.wt _ R.tn hw),λ j p h1 h2=>?_,λ j p h1 h2=>?_,λ j p h1 h2=>?_,g1,g2,G.PQ,G.ap⟩,G.fx,G.wt⟩
 ·rw [G.fx.get tid R.tn R.tw];exact R.t
 ·rw [hc2 j 2 p (by omega) (by omega),(hsame j h1).1];exact (R.to j p h1 h2).go G.fx G.wt
 ·rw [hc2 j 66 p (by omega) (by omega),(hsame j h1).1];exact (R.iv j p h1 h2).go G.fx G.wt
 ·rw [hc2 j 130 p (by omega) (by omega),(hsame j h1).2];exact R.tr j p h1 h2
theorem uZ.more (R:uZ h n tid L F τ) (hi:i<n) {vs:List V} {vr:V} {r:List Nat} (pv:jL (WT n L F) h vs (τ i).gens) (hr:PV (WT n L F) h vr r) (p:xU h (F (i*194)) (τ i).gens.length 1 1 vs [vr] h2) {h3:H} {v:V} (hv:v= .sl h.next 0 ((τ i).gens.length+1) (.un 1)) (h3e:h3=h2.set L (some (.cells false (rc (n*194) (F1 F (i*194) v))))):
  uZ h3 n tid L (F1 F (i*194) v) (yW τ i ((τ i).more r))/\Fx (WT n L F) h h3/\ ∀ id,id<h.next->WT n L (F1 F (i*194) v) id->WT n L F id:=by
 refine R.slot (e:=0) hi (by omega) p (.inl rfl) hv h3e (λ j hj=>?_) (λ f hw hk ho hl=>⟨λ j hj=>?_,λ j hj=>?_⟩) ⟨by have:=bJ.length pv;omega,rfl⟩
 ·by_cases e:j=i
  ·subst e;rw [cC];exact ⟨rfl,rfl⟩
  ·rw [eN _ _ e];exact ⟨rfl,rfl⟩
 ·by_cases e:j=i
  ·subst e
   rw [cC]
   refine ⟨vs++ [vr],?_,(jL.go pv f hw).append (jL.one (PV.go hr f hw))⟩
   unfold F1;rw [if_pos (Nat.add_zero _).symm];exact ho
  ·rw [eN _ _ e]
   obtain ⟨us,h1,h2⟩:=R.gens j hj
   refine ⟨us,?_,jL.go h2 f hw⟩
   have:=hk (2*j) (by omega) (by omega) us (by rw [Ko];exact h1)
   rw [Ko] at this
   unfold F1;rw [if_neg (by omega)];exact this
 ·have:=hk (2*j+1) (by omega) (by omega) _ (by rw [Oz];exact R.orb j hj)
  rw [Oz] at this
  unfold F1;rw [if_neg (by omega)]
  by_cases e:j=i
  ·subst e;rw [cC];exact this
  ·rw [eN _ _ e];exact this
theorem uZ.abK (R:uZ h n tid L F τ) (hi:i<n) {q:Nat} (p:xU h (F (i*194+1)) (τ i).orb.length 1 1 (ints (zi (τ i).orb)) [aB q] h2) {h3:H} {v:V} {cp:uO} (hcp:cp= .un 1∨cp= .kn ((τ i).orb.length+1)) (hv:v= .sl h.next 0 ((τ i).orb.length+1) cp) (h3e:h3=h2.set L (some (.cells false (rc (n*194) (F1 F (i*194+1) v))))):
  uZ h3 n tid L (F1 F (i*194+1) v) (yW τ i {τ i with orb:=(τ i).orb++ [q]})/\Fx (WT n L F) h h3/\ ∀ id,id<h.next->WT n L (F1 F (i*194+1) v) id->WT n L F id:=by
 refine R.slot (e:=1) hi (by omega) p hcp hv h3e (λ j hj=>?_) (λ f hw hk ho hl=>⟨λ j hj=>?_,λ j hj=>?_⟩) ⟨by rw [aS,aT,Nat.mul_one],rfl⟩
 ·by_cases e:j=i
  ·subst e;rw [cC];exact ⟨rfl,rfl⟩
  ·rw [eN _ _ e];exact ⟨rfl,rfl⟩
 ·obtain ⟨us,h1,h2⟩:=R.gens j hj
  have:=hk (2*j) (by omega) (by omega) us (by rw [Ko];exact h1)
  rw [Ko] at this
  refine ⟨us,?_,?_⟩
  ·unfold F1;rw [if_neg (by omega)];exact this
  ·by_cases e:j=i
   ·subst e;rw [cC];exact jL.go h2 f hw
   ·rw [eN _ _ e];exact jL.go h2 f hw
 ·by_cases e:j=i
  ·subst e
   rw [cC]
   have ez:ints (zi ((τ j).orb++ [q]))=ints (zi (τ j).orb)++ [aB q]:=by simp [zi,ints]
   show eL h3 _ 1 (ints (zi ((τ j).orb++ [q]))) 0
   rw [ez]
   unfold F1;rw [if_pos rfl];exact ho
  ·rw [eN _ _ e]
   have:=hk (2*j+1) (by omega) (by omega) _ (by rw [Oz];exact R.orb j hj)
   rw [Oz] at this
   unfold F1;rw [if_neg (by omega)];exact this
theorem uZ.tick (R:uZ h n tid L F τ) (hi:i<n) {q:Nat} (hq:q<64) {z:Int} (hz:z=((τ i).tr q:Nat)+1) {h3:H} (h3e:h3=h.set L (some (.cells false (rc (n*194) (F1 F (i*194+130+q) (aB z)))))):
  uZ h3 n tid L (F1 F (i*194+130+q) (aB z)) (yW τ i ((τ i).tick q))/\Fx (WT n L F) h h3/\ ∀ id,WT n L (F1 F (i*194+130+q) (aB z)) id↔WT n L F id:=by
 subst h3e
 have f:Fx (WT n L F) h (h.set L (some (.cells false (rc (n*194) (F1 F (i*194+130+q) (aB z)))))):=Fx.set h (.inl rfl) _
 have hto: ∀ j,(yW τ i ((τ i).tick q) j).to=(τ j).to/\(yW τ i ((τ i).tick q) j).gens=(τ j).gens/\(yW τ i ((τ i).tick q) j).orb=(τ j).orb:=λ j=>by
  by_cases e:j=i
  ·subst e;rw [cC];exact ⟨rfl,rfl,rfl⟩
  ·rw [eN _ _ e];exact ⟨rfl,rfl,rfl⟩
 refine R.cells (jI _) (λ id h1 _=>H.aH h h1 _) (H.aW ..) (λ s hs=>?_) (λ j _=>(hto j).2) (λ j p h1 h2=>?_) (λ j p h1 h2=>?_) (λ j p h1 h2=>?_)
 ·unfold zG F1;rw [if_neg (by omega)]
 ·rw [(hto j).1]
  have:=(R.to j p h1 h2).fx f
  unfold F1;rw [if_neg (by omega)];exact this
 ·rw [(hto j).1]
  have:=(R.iv j p h1 h2).fx f
  unfold F1;rw [if_neg (by omega)];exact this
 ·have:=R.tr j p h1 h2
  unfold F1
  by_cases e:j=i
  ·subst e
   rw [cC]
   show _=aB (if p=q then (τ j).tr q+1 else (τ j).tr p:Nat)
   by_cases e2:p=q
   ·subst e2;rw [if_pos rfl,if_pos rfl,hz];rfl
   ·rw [if_neg (by omega),if_neg e2];exact this
  ·rw [if_neg (by omega),eN _ _ e];exact this
theorem uZ.way (R:uZ h n tid L F τ) (hi:i<n) {q:Nat} (hq:q<64) {vy vu:V} {y:List Nat} (hy:PV (WT n L F) h vy y) (hu:PV (WT n L F) h vu (eA y)) {h3:H} (hn:h.next<=h3.next) (ho: ∀ id,id≠L->id<h.next->h3.get id=h.get id)
  (hl:h3.get L=some (.cells false (rc (n*194) (F1 (F1 F (i*194+2+q) vy) (i*194+66+q) vu)))):
  uZ h3 n tid L (F1 (F1 F (i*194+2+q) vy) (i*194+66+q) vu) (yW τ i {τ i with to:=λ r=>if r=q then some y else (τ i).to r})/\Fx (WT n L F) h h3/\ ∀ id,WT n L (F1 (F1 F (i*194+2+q) vy) (i*194+66+q) vu) id↔WT n L F id:=by
 have f:Fx (WT n L F) h h3:=⟨hn,λ id h1 h2=>ho id (λ e=>h2 (.inl e)) h1⟩
 have hto: ∀ j,(yW τ i {τ i with to:=λ r=>if r=q then some y else (τ i).to r} j).tr=(τ j).tr/\(yW τ i {τ i with to:=λ r=>if r=q then some y else (τ i).to r} j).gens=(τ j).gens/\(yW τ i {τ i with to:=λ r=>if r=q then some y else (τ i).to r} j).orb=(τ j).orb:=λ j=>by
  by_cases e:j=i
  ·subst e;rw [cC];exact ⟨rfl,rfl,rfl⟩
  ·rw [eN _ _ e];exact ⟨rfl,rfl,rfl⟩
 refine R.cells hn ho hl (λ s hs=>?_) (λ j _=>(hto j).2) (λ j p h1 h2=>?_) (λ j p h1 h2=>?_) (λ j p h1 h2=>?_)
 ·unfold zG F1;rw [if_neg (by omega),if_neg (by omega)]
 ·have:=(R.to j p h1 h2).fx f
  unfold F1
  by_cases e:j=i
  ·subst e
   rw [cC]
   show Slot _ _ _ (if p=q then some y else (τ j).to p)
   by_cases e2:p=q
   ·subst e2;rw [if_neg (by omega),if_pos rfl,if_pos rfl];exact PV.fx hy f
   ·rw [if_neg (by omega),if_neg (by omega),if_neg e2];exact this
  ·rw [if_neg (by omega),if_neg (by omega),eN _ _ e];exact this
 ·have:=(R.iv j p h1 h2).fx f
  unfold F1
  by_cases e:j=i
  ·subst e
   rw [cC]
   show Slot _ _ _ ((if p=q then some y else (τ j).to p).map eA)
   by_cases e2:p=q
   ·subst e2;rw [if_pos rfl,if_pos rfl];exact PV.fx hu f
   ·rw [if_neg (by omega),if_neg (by omega),if_neg e2];exact this
  ·rw [if_neg (by omega),if_neg (by omega),eN _ _ e];exact this
 ·rw [(hto j).1]
  have:=R.tr j p h1 h2
  unfold F1;rw [if_neg (by omega),if_neg (by omega)];exact this
end
theorem IX {l:List Nat} (nd:l.Nodup) {k:Nat} (hk:k<l.length):l.getD k 0∉l.take k:=by
 intro h
 obtain ⟨m,hm,e⟩:=List.mem_iff_getElem.1 h
 have hm':m<k:=by simp at hm;omega
 rw [List.getElem_take,bW hk] at e
 have e1:=nd.idxOf_getElem m (by omega)
 have e2:=nd.idxOf_getElem k hk
 rw [e] at e1
 omega
theorem ajR {n i:Nat} {τ τ2:sE} {y s u z:List Nat} {q k:Nat} (c:CI n i τ) (hn:i+1<n) (hq:(τ i).to q=some y) (hk:(τ i).tr q=k) (hs:(τ i).gens[k]? =some s) (hu:(τ i).to ((bE y s).getD i 0)=some u)
  (hz:z=bE (bE y s) (eA u)) (a:Ni n (i+1) z (yW τ i ((τ i).tick q)) τ2):CI n i τ2/\τ2 i=(τ i).tick q/\ ∀ j,j<i->τ2 j=τ j:=by
 have e0:τ2 i=(τ i).tick q:=(a.low i (by omega)).trans (cC ..)
 have elow: ∀ j,j<i->τ2 j=τ j:=λ j hj=>(a.low j (by omega)).trans (eN _ _ (by omega))
 have a1:Ni n (i+1) z τ (yW τ2 i (τ i)):=by
  have en: ∀ j,i<j->yW τ i ((τ i).tick q) j=τ j:=λ j hj=>eN _ _ (by omega)
  have en2: ∀ j,i<j->yW τ2 i (τ i) j=τ2 j:=λ j hj=>eN _ _ (by omega)
  refine ⟨λ j hj=>?_,a.tw.congr λ j h1 _=>(en2 j (by omega)).symm,λ s hs=>?_,λ s hs=>?_,?_⟩
  ·by_cases e:j=i
   ·subst e;exact cC ..
   ·rw [eN _ _ e];exact elow j (by omega)
  ·rw [en2 _ (by omega)];exact a.old s (by rw [en _ (by omega)];exact hs)
  ·rw [en2 _ (by omega)] at hs
   have:=a.new s hs
   rwa [en _ (by omega)] at this
  ·rw [en2 _ (by omega)];exact a.has
 have hmem:s∈(τ i).gens:=List.mem_of_getElem? hs
 obtain ⟨_,_,hgz⟩:=c.Sf (by omega) hq hmem hu
 obtain ⟨c1,hz1⟩:=c.added hn a1 (by rw [hz];exact hgz)
 have es:yW τ2 i (τ i) i=τ i:=cC ..
 have c2:=c1.tick (q:=q) (k:=k) (y:=y) (s:=s) (u:=u) (by rw [es];exact hq) (by rw [es];exact hk) (by rw [es];exact hs) (by rw [es];exact hu) (by rw [←hz];exact hz1)
 have e:yW (yW τ2 i (τ i)) i ((yW τ2 i (τ i) i).tick q)=τ2:=by
  funext j
  by_cases h:j=i
  ·subst h;rw [cC,cC,e0]
  ·rw [eN _ _ h,eN _ _ h]
 rw [e] at c2
 exact ⟨c2,e0,elow⟩
theorem eL.lens {h:H} {v:V} {ws:List V} {b n:Nat} (o:eL h v 1 ws b) (hn:ws.length=n):dW v=some (aB n):=by
 unfold dW;rw [o.sv.len (n:=n) (by omega) (by omega)];rfl
theorem NM {F:Nat->V} {k c:Nat} {v:V} (h:c≠k):F1 F k v c=F c:=if_neg h
theorem Od {N k:Nat} {F:Nat->V} (hk:k<N) (hh:H) (L:Nat) (v:V):fI (some (.cells false (rc N F))) hh L k [v]=some (hh.set L (some (.cells false (rc N (F1 F k v))))):=by
 rw [bT (by rw [gT];exact hk),lQ];rfl
def acU (h:H) (n tid L:Nat) (F:Nat->V) (τ:sE) (i:Nat) (x:List Nat):V->H->Prop:=λ _ h'=> ∃ F' τ',uZ h' n tid L F' τ'/\Ni n i x τ τ'/\Fx (WT n L F) h h'/\ ∀ id,id<h.next->WT n L F' id->WT n L F id
def RQ (h:H) (n tid L:Nat) (F:Nat->V) (τ:sE) (i:Nat):V->H->Prop:=λ _ h'=> ∃ F' τ',uZ h' n tid L F' τ'/\rU n i τ'/\(∀ j,j<i->τ' j=τ j)/\(τ' i).gens=(τ i).gens/\Fx (WT n L F) h h'/\ ∀ id,id<h.next->WT n L F' id->WT n L F id
def agZ (n i:Nat):Prop:= ∀ (h:H) (tid L:Nat) (F:Nat->V) (τ:sE) (vx:V) (x:List Nat),uZ h n tid L F τ->PV (WT n L F) h vx x->bI n x->Fix i x->rU n i τ->Ev T Me [.ptr tid 0,vx,aB i] h (acU h n tid L F τ i x)
def DX (n i:Nat):Prop:= ∀ (h:H) (tid L:Nat) (F:Nat->V) (τ:sE),uZ h n tid L F τ->CI n i τ->Ev T Gw [.ptr tid 0,aB i] h (RQ h n tid L F τ i)
structure ClS (h:H) (n tid L:Nat) (F:Nat->V) (τ:sE) (i:Nat) (h':H) (F':Nat->V) (τ':sE) (k:Nat):Prop where
 R:uZ h' n tid L F' τ'
 c:CI n i τ'
 hk:k<=(τ' i).orb.length
 done: ∀ r∈(τ' i).orb.take k,(τ' i).tr r=(τ' i).gens.length
 low: ∀ j,j<i->τ' j=τ j
 gens:(τ' i).gens=(τ i).gens
 fx:Fx (WT n L F) h h'
 wt: ∀ id,id<h.next->WT n L F' id->WT n L F id
theorem aeN {n j:Nat} {l:Lv} (V:Lev n j l) (hj:j<n):l.orb.length<=n:=by
 have:=List.Nodup.length_le_of_subset V.nd (l₂:=List.range n) λ x hx=>List.mem_range.2 (V.lt hj hx)
 simpa using this
theorem AM (n i:Nat) (hn:n<=7) (hi:i<n) (A:i+1<n->agZ n (i+1)):DX n i:=by
 intro h tid L F τ R c
 refine aZ Hs rfl ?_
 have cl:h.cell tid 1=some (.sl L 0 n (.kn n)):=by rw [H.aG R.t];rfl
 simp (disch:=omega) only [go_sem,kL,aF,cl]
 refine aJ (λ m vars hh=> ∃ (k:Nat) (F':Nat->V) (τ':sE),(∃ g:Nat->V,vars= [.ptr tid 0,aB i,.ptr L (i*194),aB k,g 4,g 5,g 6,g 7,g 8,g 9,g 10,g 11])/\ClS h n tid L F τ i hh F' τ' k/\m=n-k) n
  ⟨0,F,τ,aA rfl,⟨R,c,mJ _,λ r hr=>by simp at hr,λ _ _=>rfl,rfl,Fx.refl _ h,λ _ _ h=>h⟩,rfl⟩ ?_
 rintro m vars h1 ⟨k,F1',τ1,⟨g,rfl⟩,S,rfl⟩
 have co:h1.cell L (i*194+1)=some (F1' (i*194+1)):=S.R.cell hi (by omega)
 have oo:=S.R.orb i hi
 have lo:=eL.lens oo (by rw [aS,aT])
 have hon:=aeN S.c.lK hi
 simp (disch:=omega) only [go_sem,co,lo]
 by_cases hlt:(k:Int)<((τ1 i).orb.length:Int)
 case neg=>
  rw [decide_eq_false hlt]
  simp (disch:=omega) only [go_sem]
  refine ⟨F1',τ1,S.R,S.c.full λ q hq=>S.done q ?_,S.low,S.gens,S.fx,S.wt⟩
  rw [List.take_of_length_le (by omega)];exact hq
 rw [decide_eq_true hlt]
 have hk':k<(τ1 i).orb.length:=by omega
 obtain ⟨id,off,sh,hid,hc⟩:=(show SI h1 (F1' (i*194+1)) (zi (τ1 i).orb) from oo.sv).open
 rw [aT] at sh hid hc
 obtain ⟨q,hq⟩: ∃ q,(τ1 i).orb.getD k 0=q:=⟨_,rfl⟩
 have ck:h1.cell id (off+k)=some (aB q):=by rw [hc k hk'];congr 2;simp [zi,hk',←hq]
 simp (disch:=omega) only [go_sem,co,sh.ixa,ck]
 have hqm:q∈(τ1 i).orb:=by rw [←hq,bW hk'];exact List.getElem_mem hk'
 have hqn:q<n:=S.c.lK.lt hi hqm
 clear sh hid hc ck co lo oo hon hqm
 refine aJ (λ m vars hh=> ∃ (F':Nat->V) (τ':sE),(∃ g:Nat->V,vars= [.ptr tid 0,aB i,.ptr L (i*194),aB k,aB q,g 5,g 6,g 7,g 8,g 9,g 10,g 11])/\ClS h n tid L F τ i hh F' τ' k/\
   k<(τ' i).orb.length/\(τ' i).orb.getD k 0=q/\m=(τ' i).gens.length-(τ' i).tr q) ((τ1 i).gens.length-(τ1 i).tr q)
  ⟨F1',τ1,aA rfl,S,hk',hq,rfl⟩ ?_
 clear hlt hk' hq S τ1 F1'
 rintro m vars h2 ⟨F2,τ2,⟨g2,rfl⟩,S,hk',hq,rfl⟩
 have R2:=S.R
 have lK:=S.c.lK
 have hqm:q∈(τ2 i).orb:=by rw [←hq,bW hk'];exact List.getElem_mem hk'
 obtain ⟨y,hy⟩:=lK.to hqm
 have Y:=lK.dR _ _ hy
 have ctr:h2.cell L (i*194+130+q)=some (aB ((τ2 i).tr q:Nat)):=by rw [R2.Zd hi (by omega),R2.tr i q hi (by omega)]
 have cg:h2.cell L (i*194)=some (F2 (i*194)):=by
  have:=R2.cell (c:=0) hi (by omega)
  rwa [Nat.add_zero] at this
 obtain ⟨vs,og,pvs⟩:=R2.gens i hi
 have lg:=eL.lens og (bJ.length pvs)
 have hon:=aeN lK hi
 simp (disch:=omega) only [go_sem,ctr,cg,lg]
 by_cases hlt:(((τ2 i).tr q:Nat):Int)<((τ2 i).gens.length:Int)
 case neg=>
  rw [decide_eq_false hlt]
  simp (disch:=omega) only [go_sem]
  rw [iJ k]
  have fb:Fr h2 (H.mk h2.tr (h2.next+12)):=(Fr.refl h2).bF (by omega)
  have hle:=lK.le q
  refine ⟨n-(k+1),by omega,k+1,F2,τ2,aA rfl,⟨R2.mono fb,S.c,hk',λ r hr=>?_,S.low,S.gens,⟨Nat.le_trans S.fx.next fb.next,S.fx.get⟩,S.wt⟩,rfl⟩
  rw [List.take_add_one,iH hk',←bW hk',hq] at hr
  rcases List.mem_append.1 hr with hr|hr
  ·exact S.done r hr
  ·simp at hr;subst hr;omega
 rw [decide_eq_true hlt]
 obtain ⟨t,ht⟩: ∃ t,(τ2 i).tr q=t:=⟨_,rfl⟩
 rw [ht] at hlt ctr
 have hgl:(τ2 i).gens.length<=1000000:=Nat.le_trans lK.many (Nat.le_trans (Nat.pow_le_pow_left hn n) (Nat.le_trans (Nat.pow_le_pow_right (by omega) hn) (by decide)))
 obtain ⟨idg,offg,shg,hidg,hcg⟩:=og.sv.shape (τ2 i).gens.length (by have:=bJ.length pvs;omega) (by omega)
 obtain ⟨vS,hvS,pS⟩:=pvs.at (i:=t) (by omega)
 obtain ⟨s,hs⟩: ∃ s,(τ2 i).gens.getD t []=s:=⟨_,rfl⟩
 rw [hs] at pS
 have hsq:(τ2 i).gens[t]? =some s:=by
  rw [←hs,List.getD,iH (by omega)];rfl
 have Sp:=lK.gP s (List.mem_of_getElem? hsq)
 have cS:h2.cell idg (offg+t)=some vS:=by rw [hcg t (by have:=bJ.length pvs;omega)];exact hvS
 have pT:PV (WT n L F2) h2 (F2 (i*194+2+q)) y:=by
  have:=R2.to i q hi (by omega)
  rw [hy] at this;exact this
 have hN:i*194+194<=n*194:=by omega
 simp (disch:=omega) only [go_sem,ctr,cg,lg,shg.ixa,cS,R2.l,Od,Tx,NM]
 have fb:Fr h2 (H.mk h2.tr (h2.next+12+13+11)):=(Fr.refl h2).bF (by omega)
 obtain ⟨h3,h3e⟩: ∃ h3,h3=(H.mk h2.tr (h2.next+12+13+11)).set L (some (.cells false (rc (n*194) (F1 F2 (i*194+130+q) (aB ((t:Int)+1)))))):=⟨_,rfl⟩
 rw [←h3e]
 obtain ⟨R3,f3,w3⟩:=(R2.mono fb).tick hi (q:=q) (by omega) (z:=(t:Int)+1) (by rw [ht]) h3e
 have f3':=(Fx.of (W:=WT n L F2) fb).trans f3 (λ _ _ h=>h)
 have pT3:=PV.go pT f3' (λ id _ h=>(w3 id).1 h)
 have pS3:=PV.go pS f3' (λ id _ h=>(w3 id).1 h)
 generalize F2 (i*194+2+q)=vt at pT pT3
 clear h3e pT pS ctr cg lg shg hidg hcg cS hvS pvs og
 obtain ⟨F3,hF3⟩: ∃ F3,F3=F1 F2 (i*194+130+q) (aB ((t:Int)+1)):=⟨_,rfl⟩
 rw [←hF3] at R3 w3 pT3 pS3
 obtain ⟨τ3,hτ3⟩: ∃ τ3,τ3=yW τ2 i ((τ2 i).tick q):=⟨_,rfl⟩
 rw [←hτ3] at R3
 have e3:τ3 i=(τ2 i).tick q:=by rw [hτ3];exact cC ..
 refine (Az uA vt vS y s h3 (by rw [Y.len];omega) pT3.si pS3.si (λ j hj=>by rw [Sp.len];exact Y.eS (by rw [←Y.len];exact hj))).mono ?_
 rintro v h4 nw
 have P:=Y.mul Sp
 obtain ⟨p,hp⟩: ∃ p,(bE y s).getD i 0=p:=⟨_,rfl⟩
 have hpn:p<n:=by rw [←hp];exact P.eS hi
 have R4:=R3.mono nw.fr
 have pv:=nw.pv (W:=WT n L F3) (λ hw=>by have:=R3.Rx hw;omega)
 have cp:h4.cell h3.next i=some (aB p):=by
  rw [H.aG nw.get,Dp (by rw [P.len];exact hi),hp]
 have cto:h4.cell L (i*194+2+p)=some (F3 (i*194+2+p)):=R4.Zd hi (by omega)
 have hto:=R4.to i p hi (by omega)
 have ev:=nw.val
 rw [P.len] at ev
 have f4:Fx (WT n L F2) h2 h4:=f3'.trans (Fx.of (W:=WT n L F2) nw.fr) (λ _ _ h=>h)
 simp (disch:=omega) only [go_sem,ev,cp,cto]
 rw [←ev]
 have hdone: ∀ r∈(τ2 i).orb.take k,r≠q:=λ r hr e=>IX lK.nd hk' (by rw [hq,←e];exact hr)
 cases hpo:(τ2 i).to p with
 |none=>
  have hto':F3 (i*194+2+p)= .aC:=by
   rw [e3] at hto
   have hto:Slot _ _ _ ((τ2 i).to p):=hto
   rw [hpo] at hto;exact hto
  simp (disch:=omega) only [go_sem,hto']
  refine (Qv Ow v n (bE y s) (H.mk h4.tr (h4.next+15)) (by omega) P (pv.mono ((Fr.refl h4).bF (by omega))).si).mono ?_
  rintro vu h5 nu
  have f5:Fr h4 h5:=((Fr.refl h4).bF (by omega):Fr h4 (H.mk h4.tr (h4.next+15))).trans nu.fr
  have R5:=R4.mono f5
  have pv5:=pv.mono f5
  have pu5:=nu.pv (W:=WT n L F3) (λ hw=>by have:=R4.Rx hw;simp at this;omega)
  simp (disch:=omega) only [go_sem,R5.l,lU pv5.eP.1 pv5.eP.2,lU pu5.eP.1 pu5.eP.2,Od,Tx,NM]
  obtain ⟨F6,hF6⟩: ∃ F6,F6=F1 (F1 F3 (i*194+2+p) v) (i*194+66+p) vu:=⟨_,rfl⟩
  obtain ⟨h6,h6e⟩: ∃ h6,h6=(h5.set L (some (Ob.cells false (rc (n*194) (F1 F3 (i*194+2+p) v))))).set L (some (Ob.cells false (rc (n*194) (F1 (F1 F3 (i*194+2+p) v) (i*194+66+p) vu)))):=⟨_,rfl⟩
  rw [←h6e]
  obtain ⟨R6,f6,w6⟩:=R5.way hi (q:=p) (by omega) pv5 pu5 (h3:=h6) (by rw [h6e];exact jI _) (λ id h1 _=>by rw [h6e,H.aH _ h1,H.aH _ h1]) (by rw [h6e,H.aW])
  have eO:F3 (i*194+1)=F6 (i*194+1):=by rw [hF6,NM (by omega),NM (by omega)]
  rw [←hF6] at R6 w6
  obtain ⟨τ6,hτ6⟩: ∃ τ6,τ6=yW τ3 i {τ3 i with to:=λ r=>if r=p then some (bE y s) else (τ3 i).to r}:=⟨_,rfl⟩
  rw [←hτ6] at R6
  have e6:τ6 i={τ3 i with to:=λ r=>if r=p then some (bE y s) else (τ3 i).to r}:=by rw [hτ6];exact cC ..
  have eo6:(τ6 i).orb=(τ2 i).orb:=by rw [e6,e3];rfl
  simp (disch:=omega) only [go_sem,dN h6 (z:= aB 0) (v:= aB p) rfl rfl,eO]
  obtain ⟨h7,h7e⟩: ∃ h7,h7=h6.new (.cells false [aB p]):=⟨_,rfl⟩
  have f7:Fr h6 h7:=by rw [h7e];exact (Fr.refl h6).new _
  have n7:h7.next=h6.next+1:=by rw [h7e];exact H.bD ..
  have g7:h7.get h6.next=some (.cells false [aB p]):=by rw [h7e];exact H.aQ ..
  rw [←h7e]
  have R7:=R6.mono f7
  have o7:=R7.orb i hi
  rw [eo6] at o7
  obtain ⟨h8,a8,p8⟩:=o7.push (bytes:=8) (SV.one (by omega) g7 (.kn 1)) (n:=(τ2 i).orb.length) (m:=1) (by rw [aS,aT,Nat.mul_one]) rfl (by omega) (by omega) (by omega)
  have gL:h8.get L=some (.cells false (rc (n*194) F6)):=by
   rw [p8.old L (by have:=R7.ln;omega) (by have:=R7.ap (2*i+1) (by omega);rw [Oz] at this;exact this)]
   exact R7.l
  simp (disch:=omega) only [go_sem,a8,gL,Od]
  obtain ⟨h9,h9e⟩: ∃ h9,h9=h8.set L (some (.cells false (rc (n*194) (F1 F6 (i*194+1) (.sl h7.next 0 ((τ2 i).orb.length+1) (.un 1)))))):=⟨_,rfl⟩
  rw [←h9e]
  obtain ⟨R9,f9,w9⟩:=R7.abK hi (q:=p) (by rw [eo6];exact p8) (.inl rfl) (by rw [eo6]) h9e
  rw [eo6] at R9
  have eT:yW τ6 i {τ6 i with orb:=(τ2 i).orb++ [p]}=yW τ2 i (((τ2 i).tick q).reach p (bE y s)):=by
   funext j
   by_cases e:j=i
   ·subst e
    rw [cC,cC,e6,e3];rfl
   ·rw [eN _ _ e,eN _ _ e,hτ6,eN _ _ e,hτ3,eN _ _ e]
  rw [eT] at R9
  have c9:=S.c.found hi hy ht hsq hp hpo
  have ei:yW τ2 i (((τ2 i).tick q).reach p (bE y s)) i=((τ2 i).tick q).reach p (bE y s):=cC ..
  have W9: ∀ id,id<h2.next->WT n L (F1 F6 (i*194+1) (.sl h7.next 0 ((τ2 i).orb.length+1) (.un 1))) id->WT n L F2 id:=λ id h1 hw=>
   (w3 id).1 ((w6 id).1 (w9 id (by have:=f4.next;have:=f5.next;have:=f6.next;have:=f7.next;omega) hw))
  have eW3:WT n L F3=WT n L F2:=funext λ id=>propext (w3 id)
  have eW6:WT n L F6=WT n L F2:=(funext λ id=>propext (w6 id)).trans eW3
  rw [eW3] at f6
  rw [eW6] at f9
  have f9':Fx (WT n L F2) h2 h9:=f4.trans ((Fx.of f5).trans (f6.trans ((Fx.of f7).trans f9 (λ _ _ h=>h)) (λ _ _ h=>h)) (λ _ _ h=>h)) (λ _ _ h=>h)
  refine ⟨(τ2 i).gens.length-(t+1),by omega,_,_,aA rfl,⟨R9,c9,?_,?_,λ j hj=>(eN _ _ (by omega)).trans (S.low j hj),?_,S.fx.trans f9' λ id h1 hw=>S.wt id h1 hw,λ id h1 hw=>S.wt id h1 (W9 id (by have:=S.fx.next;omega) hw)⟩,?_,?_,?_⟩
  all_goals rw [ei]
  ·show k<=((τ2 i).orb++ [p]).length
   rw [vA];omega
  ·intro r hr
   have hr:r∈((τ2 i).orb++ [p]).take k:=hr
   rw [List.take_append_of_le_length (by omega)] at hr
   show (if r=q then (τ2 i).tr q+1 else (τ2 i).tr r)=(τ2 i).gens.length
   rw [if_neg (hdone r hr)]
   exact S.done r hr
  ·exact S.gens
  ·show k<((τ2 i).orb++ [p]).length
   rw [vA];omega
  ·show ((τ2 i).orb++ [p]).getD k 0=q
   rw [←hq,List.getD,List.getD,List.getElem?_append_left hk']
  ·show _=(τ2 i).gens.length-(if q=q then (τ2 i).tr q+1 else (τ2 i).tr q)
   rw [if_pos rfl,ht]
 |some u=>
  have U:=lK.dR _ _ hpo
  have hto':PV (WT n L F3) h4 (F3 (i*194+2+p)) u:=by
   rw [e3] at hto
   have hto:Slot _ _ _ ((τ2 i).to p):=hto
   rw [hpo] at hto;exact hto
  have sn:=Kv hto' (bI.ne (by omega) U) false
  have ct:h4.cell tid 0=some (aB n):=by rw [H.aG R4.t];rfl
  have cby:h4.cell L (i*194+66+p)=some (F3 (i*194+66+p)):=R4.Zd hi (by omega)
  have hby:PV (WT n L F3) h4 (F3 (i*194+66+p)) (eA u):=by
   have:=R4.iv i p hi (by omega)
   rw [e3] at this
   have this:Slot _ _ _ (((τ2 i).to p).map eA):=this
   rw [hpo] at this;exact this
  simp (disch:=omega) only [go_sem,sn,ct]
  by_cases hlt2:(i:Int)+1<(n:Int)
  ·rw [decide_eq_true hlt2]
   simp (disch:=omega) only [go_sem,cby]
   refine (Az uA v _ (bE y s) (eA u) h4 (by rw [P.len];omega) pv.si hby.si (λ j hj=>by rw [jT,U.len];exact P.eS (by rw [←P.len];exact hj))).mono ?_
   rintro v2 h5 nu
   have R5:=R4.mono nu.fr
   have Z:=P.mul U.inv
   have pz:=nu.pv (W:=WT n L F3) (λ hw=>by have:=R4.Rx hw;omega)
   obtain ⟨_,hzf,_⟩:=S.c.Sf hi hy (List.mem_of_getElem? hsq) (by rw [hp];exact hpo)
   simp (disch:=omega) only [go_sem]
   rw [iJ i]
   refine (A (by omega) h5 tid L F3 τ3 v2 _ R5 pz Z hzf ?_).mono ?_
   ·rw [hτ3];exact S.c.up.aiB (by omega)
   rintro vv h6 ⟨F6,τ6,R6,a6,f6,w6⟩
   rw [hτ3] at a6
   obtain ⟨c6,e6,l6⟩:=ajR S.c (by omega) hy ht hsq (by rw [hp];exact hpo) rfl a6
   have eW3:WT n L F3=WT n L F2:=funext λ id=>propext (w3 id)
   rw [eW3] at f6 w6
   have f6':Fx (WT n L F2) h2 h6:=f4.trans ((Fx.of nu.fr).trans f6 (λ _ _ h=>h)) (λ _ _ h=>h)
   simp (disch:=omega) only [go_sem]
   refine ⟨(τ2 i).gens.length-(t+1),by omega,_,_,aA rfl,⟨R6,c6,?_,?_,λ j hj=>(l6 j hj).trans (S.low j hj),?_,S.fx.trans f6' λ id h1 hw=>S.wt id h1 hw,λ id h1 hw=>S.wt id h1 (w6 id (by have:=S.fx.next;have:=f4.next;have:=nu.fr.next;omega) hw)⟩,?_,?_,?_⟩
   all_goals rw [e6]
   ·exact Nat.le_of_lt hk'
   ·intro r hr
    have hr:r∈(τ2 i).orb.take k:=hr
    show (if r=q then (τ2 i).tr q+1 else (τ2 i).tr r)=(τ2 i).gens.length
    rw [if_neg (hdone r hr)]
    exact S.done r hr
   ·exact S.gens
   ·exact hk'
   ·exact hq
   ·show _=(τ2 i).gens.length-(if q=q then (τ2 i).tr q+1 else (τ2 i).tr q)
    rw [if_pos rfl,ht]
  ·rw [decide_eq_false hlt2]
   obtain ⟨hz1,hzf,_⟩:=S.c.Sf hi hy (List.mem_of_getElem? hsq) (by rw [hp];exact hpo)
   have en:i+1=n:=by omega
   have c6:=S.c.tick hy ht hsq (by rw [hp];exact hpo) (by
    rw [en]
    rw [en] at hzf
    exact yH.2 (hzf.all hz1))
   simp (disch:=omega) only [go_sem]
   rw [hτ3] at R4
   have e6:yW τ2 i ((τ2 i).tick q) i=(τ2 i).tick q:=cC ..
   refine ⟨(τ2 i).gens.length-(t+1),by omega,_,_,aA rfl,⟨R4,c6,?_,?_,λ j hj=>(eN _ _ (by omega)).trans (S.low j hj),?_,S.fx.trans f4 λ id h1 hw=>S.wt id h1 hw,λ id h1 hw=>S.wt id h1 ((w3 id).1 hw)⟩,?_,?_,?_⟩
   all_goals rw [e6]
   ·exact Nat.le_of_lt hk'
   ·intro r hr
    have hr:r∈(τ2 i).orb.take k:=hr
    show (if r=q then (τ2 i).tr q+1 else (τ2 i).tr r)=(τ2 i).gens.length
    rw [if_neg (hdone r hr)]
    exact S.done r hr
   ·exact S.gens
   ·exact hk'
   ·exact hq
   ·show _=(τ2 i).gens.length-(if q=q then (τ2 i).tr q+1 else (τ2 i).tr q)
    rw [if_pos rfl,ht]
def Cg (τ:sE) (i m:Nat) (r:List Nat):sE:=λ j=>if i<=j/\j<m then (τ j).more r else τ j
theorem LV (τ:sE) (i:Nat) (r:List Nat):Cg τ i i r=τ:=by
 funext j;unfold Cg;rw [if_neg (by omega)]
theorem JW (τ:sE) {i m:Nat} (r:List Nat) (h:i<=m):yW (Cg τ i m r) m ((Cg τ i m r m).more r)=Cg τ i (m+1) r:=by
 funext j
 by_cases e:j=m
 ·subst e
  rw [cC]
  unfold Cg
  rw [if_neg (by omega),if_pos (by omega)]
 ·rw [eN _ _ e]
  unfold Cg
  by_cases h1:i<=j/\j<m
  ·rw [if_pos h1,if_pos (by omega)]
  ·rw [if_neg h1,if_neg (by omega)]
theorem LF (τ:sE) (i k:Nat) (r:List Nat):Cg τ i (k+1) r=push τ i k r:=by
 funext j
 unfold Cg push
 by_cases h:i<=j/\j<=k
 ·rw [if_pos h,if_pos (by omega)]
 ·rw [if_neg h,if_neg (by omega)]
theorem aiH (a b c:Nat) (d:uO):eU (.sl a b c d) (.sl a b c d)=true:=by simp [eU]
theorem DE (n i0:Nat) (hn:n<=7) (hi:i0<n) (C: ∀ j,i0<=j->j<n->DX n j):agZ n i0:=by
 intro h tid L F τ vx x R hx X Fi t
 refine aZ Kc rfl ?_
 simp (disch:=omega) only [go_sem,mU,aF]
 refine (acS h n tid L F τ vx x i0 (by omega) (by omega) R hx X (by omega) t).mono ?_
 have sf:=ZV (n-i0) i0 x (by omega) t X Fi
 obtain ⟨k,hk⟩: ∃ k,(GN n τ (n-i0) i0 x).1=k:=⟨_,rfl⟩
 obtain ⟨r,hr⟩: ∃ r,(GN n τ (n-i0) i0 x).2=r:=⟨_,rfl⟩
 rw [hk,hr] at sf ⊢
 rintro _ h1 ⟨vr,rfl,pr,Rr,f1⟩
 have R1:=R.mono f1
 have ct:h1.cell tid 0=some (aB n):=by rw [H.aG R1.t];rfl
 simp (disch:=omega) only [go_sem,ct]
 by_cases hkn:(k:Int)=(n:Int)
 ·rw [decide_eq_true hkn]
  have e:k=n:=by omega
  subst e
  simp (disch:=omega) only [go_sem]
  exact ⟨F,τ,R1,Ni.none t hi (sf.in t hi),Fx.of f1,λ _ _ h=>h⟩
 rw [decide_eq_false hkn]
 have hkn':k<n:=by have:=sf.le;omega
 have hge:=sf.ge
 simp (disch:=omega) only [go_sem]
 refine aJ (λ m' vars hh=> ∃ (m:Nat) (F':Nat->V),(∃ g:Nat->V,vars= [.ptr tid 0,g 1,aB i0,aB k,vr,aB m,g 6,g 7,g 8,g 9])/\i0<=m/\m<=k+1/\uZ hh n tid L F' (Cg τ i0 m r)/\PV (WT n L F') hh vr r/\
   Fx (WT n L F) h hh/\(∀ id,id<h.next->WT n L F' id->WT n L F id)/\m'=k+1-m) (k+1-i0)
  ⟨i0,F,aA rfl,jI _,by omega,by rw [LV];exact R1,pr,Fx.of f1,λ _ _ h=>h,rfl⟩ ?_
 clear R1 ct pr f1
 rintro m' vars h2 ⟨m,F2,⟨g,rfl⟩,hm1,hm2,R2,pr,f2,w2,rfl⟩
 simp (disch:=omega) only [go_sem]
 by_cases hlt:(m:Int)<=(k:Int)
 ·rw [decide_eq_true hlt]
  have hmn:m<n:=by omega
  have cl:h2.cell tid 1=some (.sl L 0 n (.kn n)):=by rw [H.aG R2.t];rfl
  have cg:h2.cell L (m*194)=some (F2 (m*194)):=by
   have:=R2.cell (c:=0) hmn (by omega)
   rwa [Nat.add_zero] at this
  have em:Cg τ i0 m r m=τ m:=by unfold Cg;rw [if_neg (by omega)]
  have ln:=R2.ln
  have tn:=R2.tn
  simp (disch:=omega) only [go_sem,cl,cg,dN _ pr.eP.1 pr.eP.2]
  obtain ⟨h3,h3e⟩: ∃ h3:H,h3=H.mk ((H.mk h2.tr (h2.next+14)).new (Ob.cells false [vr])).tr (h2.next+19):=⟨_,rfl⟩
  rw [←h3e]
  have g3:h3.get (h2.next+14)=bQ [vr]:=by rw [h3e];exact H.aQ (H.mk h2.tr (h2.next+14)) _
  have n3:h3.next=h2.next+19:=by rw [h3e]
  have f3:Fr h2 h3:=⟨by omega,λ id hid=>by rw [h3e];exact H.bM (H.mk h2.tr (h2.next+14)) (by simp;omega) _⟩
  have R3:=R2.mono f3
  have pr3:=pr.mono f3
  obtain ⟨vs,o3,pvs⟩:=R3.gens m hmn
  rw [em] at pvs
  have lK:=(t m hm1 hmn).1
  have hgl:(τ m).gens.length<=1000000:=Nat.le_trans lK.many (Nat.le_trans (Nat.pow_le_pow_left hn n) (Nat.le_trans (Nat.pow_le_pow_right (by omega) hn) (by decide)))
  obtain ⟨h4,a4,p4⟩:=o3.push (bytes:=24) (SV.one (by omega) g3 (.kn 1)) (n:=(τ m).gens.length) (m:=1) (by have:=bJ.length pvs;omega) rfl (by omega) (by omega) (by omega)
  have gt:h4.get tid=h3.get tid:=p4.old tid (by omega) (λ id off nn c e e2=>R3.tw (.inr ⟨2*m,by omega,off,nn,c,by rw [Ko,e2];exact e⟩))
  have gL:h4.get L=bQ (rc (n*194) F2):=by
   rw [p4.old L (by omega) (by have:=R3.ap (2*m) (by omega);rw [Ko] at this;exact this)]
   exact R3.l
  have cl4:h4.cell tid 1=some (.sl L 0 n (.kn n)):=by unfold H.cell;rw [gt,R3.t];rfl
  have hN:m*194+194<=n*194:=by omega
  simp (disch:=omega) only [go_sem,a4,cl4,aiH,gL,Od]
  obtain ⟨h5,h5e⟩: ∃ h5,h5=h4.set L (bQ (rc (n*194) (F1 F2 (m*194) (.sl h3.next 0 ((τ m).gens.length+1) (.un 1))))):=⟨_,rfl⟩
  rw [←h5e]
  obtain ⟨R5,f5,w5⟩:=R3.more hmn (by rw [em];exact pvs) pr3 (by rw [em];exact p4) (by rw [em]) h5e
  rw [JW τ r hm1] at R5
  rw [iJ m]
  refine ⟨k+1-(m+1),by omega,m+1,_,aA rfl,by omega,by omega,R5,PV.go pr3 f5 w5,f2.trans ((Fx.of (W:=WT n L F2) f3).trans f5 (λ _ _ h=>h)) (λ id h1 hw=>w2 id h1 hw),λ id h1 hw=>w2 id h1 (w5 id (by have:=f2.next;omega) hw),rfl⟩
 rw [decide_eq_false hlt]
 have em:m=k+1:=by omega
 subst em
 rw [LF] at R2
 simp (disch:=omega) only [go_sem]
 have AI0:=Ut.start sf t hkn'
 refine aJ (λ m' vars hh=> ∃ (m:Nat) (F':Nat->V) (τ':sE),(∃ g:Nat->V,vars= [.ptr tid 0,g 1,aB i0,g 3,g 4,g 5,aB ((m:Int)- 1),g 7,g 8,g 9])/\i0<=m/\m<=k+1/\uZ hh n tid L F' τ'/\Ut n i0 k r τ τ' m/\
   Fx (WT n L F) h hh/\(∀ id,id<h.next->WT n L F' id->WT n L F id)/\m'=m) (k+1)
  ⟨k+1,F2,_,aA (by rw [show ((k+1:Nat):Int)- 1=(k:Int) from by omega];rfl),by omega,by omega,R2,AI0,f2,w2,rfl⟩ ?_
 clear R2 AI0 f2 w2 pr hlt hm1 hm2
 rintro m' vars h3 ⟨m,F3,τ3,⟨g3,rfl⟩,hm1,hm2,R3,AI,f3,w3,hm⟩
 subst hm
 simp (disch:=omega) only [go_sem]
 by_cases hlt:(i0:Int)<=(m':Int)- 1
 ·rw [decide_eq_true hlt]
  obtain ⟨j,rfl⟩: ∃ j,m'=j+1:=⟨m'- 1,by omega⟩
  have ci:=AI.ci sf t hkn' (by omega) (by omega)
  simp (disch:=omega) only [go_sem]
  rw [show ((j+1:Nat):Int)- 1=(j:Int) from by omega]
  refine (C j (by omega) (by omega) h3 tid L F3 τ3 R3 ci).mono ?_
  rintro _ h4 ⟨F4,τ4,R4,t4,l4,g4,f4,w4⟩
  simp (disch:=omega) only [go_sem]
  refine ⟨j,by omega,j,F4,τ4,aA rfl,by omega,by omega,R4,AI.next (by omega) (by omega) l4 g4 t4,f3.trans f4 (λ id h1 hw=>w3 id h1 hw),λ id h1 hw=>w3 id h1 (w4 id (by have:=f3.next;omega) hw),rfl⟩
 rw [decide_eq_false hlt]
 have em:m'=i0:=by omega
 rw [em] at AI
 simp (disch:=omega) only [go_sem]
 exact ⟨F3,τ3,R3,AI.done sf t X hkn',f3,w3⟩
theorem BH (n:Nat) (hn:n<=7): ∀ d i,i+d=n->(i<n->agZ n i)/\(i<n->DX n i)
 |0,i,h=>⟨λ h2=>by omega,λ h2=>by omega⟩
 |d+1,i,h=>by
  have ih:=BH n hn d (i+1) (by omega)
  have cl: ∀ j,i<=j->j<n->DX n j:=λ j h1 h2=>by
   by_cases e:j=i
   ·subst e;exact AM n j hn h2 λ h3=>ih.1 h3
   ·exact (BH n hn (n-j) j (by omega)).2 h2
  exact ⟨λ h2=>DE n i hn h2 cl,λ h2=>cl i (jI _) h2⟩
termination_by d=>d
theorem ajO (n:Nat) (hn:n<=7) (h0:0<n):agZ n 0:=(BH n hn n 0 (by omega)).1 h0
end Go.Proofs.YtddpkbicnolafaaGreat
namespace Go.Pm
set_option maxRecDepth 100000
def Lt (x y:List Nat):Prop:= ∃ k,k<x.length/\(∀ j,j<k->x.getD j 0=y.getD j 0)/\x.getD k 0<y.getD k 0
def Le (x y:List Nat):Prop:=x=y∨Lt x y
theorem Lt.asymm {x y:List Nat} (a:Lt x y) (b:Lt y x):False:=by
 obtain ⟨k,_,h1,h2⟩:=a
 obtain ⟨m,_,h3,h4⟩:=b
 rcases Nat.lt_trichotomy k m with h|h|h
 ·have:=h3 k h;omega
 ·subst h;omega
 ·have:=h1 m h;omega
theorem Le.antisymm {x y:List Nat} (a:Le x y) (b:Le y x):x=y:=by
 rcases a with a|a
 ·exact a
 ·rcases b with b|b
  ·exact b.symm
  ·exact (a.asymm b).elim
def rG (x:List Nat):Nat->List Nat->Nat
 |b, []=>b
 |b,q::l=>rG x (if x.getD q 0<x.getD b 0 then q else b) l
theorem PI (x:List Nat): ∀ (l:List Nat) (b:Nat),rG x b l∈b::l/\ ∀ q∈b::l,x.getD (rG x b l) 0<=x.getD q 0
 | [],b=>⟨by simp [rG],λ q hq=>by simp at hq;subst hq;exact Nat.le_refl _⟩
 |q::l,b=>by
  have ih:=PI x l (if x.getD q 0<x.getD b 0 then q else b)
  unfold rG
  refine ⟨?_,λ r hr=>?_⟩
  ·rcases List.mem_cons.1 ih.1 with h|h
   ·rw [h];split<;>simp
   ·exact List.mem_cons_of_mem _ (List.mem_cons_of_mem _ h)
  ·have h0:=ih.2 _ (List.mem_cons_self ..)
   rcases List.mem_cons.1 hr with rfl|hr
   ·split at h0<;>(split<;>omega)
   ·rcases List.mem_cons.1 hr with rfl|hr
    ·split at h0<;>(split<;>omega)
    ·exact ih.2 r (List.mem_cons_of_mem _ hr)
def Ph (τ:sE):Nat->Nat->List Nat->List Nat
 |0,_,x=>x
 |d+1,k,x=>Ph τ d (k+1) (if rG x k (τ k).orb=k then x else bE (((τ k).to (rG x k (τ k).orb)).getD []) x)
section
variable {n:Nat} {τ:sE} {G:List Nat->Prop}
theorem XU: ∀ (d k:Nat) (x:List Nat),k+d=n->rU n k τ->bI n x-> ∃ h,S n τ k h/\Ph τ d k x=bE h x/\ ∀ g,S n τ k g->Le (Ph τ d k x) (bE g x)
 |0,k,x,h,_,X=>by
  obtain rfl:k=n:=by omega
  refine ⟨bZ k,yH.2 rfl,(eH X).symm,λ g hg=> .inl ?_⟩
  rw [yH] at hg
  subst hg
  exact (eH X).symm
 |d+1,k,x,h,t,X=>by
  have hk:k<n:=by omega
  have L:=(t k (Nat.le_refl _) hk).1
  have t1:=t.mono (Nat.le_succ k)
  obtain ⟨b1,b2⟩:=PI x (τ k).orb k
  have hq:rG x k (τ k).orb∈(τ k).orb:=by
   rcases List.mem_cons.1 b1 with h|h
   ·rw [h];exact L.base
   ·exact h
  obtain ⟨y,hy⟩:=L.to hq
  have Y:=L.dR _ y hy
  have hx':(if rG x k (τ k).orb=k then x else bE (((τ k).to (rG x k (τ k).orb)).getD []) x)=bE y x:=by
   split
   ·rename_i e
    rw [e,L.one] at hy
    cases hy
    exact (eH X).symm
   ·rw [hy];rfl
  unfold Ph
  rw [hx']
  obtain ⟨g,hg,e,hle⟩:=XU d (k+1) (bE y x) (by omega) t1 (Y.mul X)
  have Gp:=t1.dR hk hg
  have hgy:S n τ k (bE g y):=(sN hk).2 ⟨_,y,g,hy,hg,rfl⟩
  refine ⟨bE g y,hgy,by rw [e,aV Gp Y X],λ u hu=>?_⟩
  have U:=t.dR (by omega) hu
  obtain ⟨v,hv,hv2⟩:=t.sift hk hu
  have hmem:=L.mem hv
  have V:=L.dR _ v hv
  have r1:(bE u x).getD k 0=x.getD (u.getD k 0) 0:=cZ (by rw [U.len];exact hk)
  have r2:(bE g (bE y x)).getD k 0=x.getD (rG x k (τ k).orb) 0:=by
   rw [cZ (by rw [Gp.len];exact hk),t1.fix hk hg k (by omega),cZ (by rw [Y.len];exact hk),L.maps _ y hy]
  have hb:=b2 _ (List.mem_cons_of_mem _ hmem)
  by_cases hlt:x.getD (rG x k (τ k).orb) 0<x.getD (u.getD k 0) 0
  ·rw [e]
   refine .inr ⟨k,by rw [eM,Gp.len];exact hk,λ j hj=>?_,by rw [r1,r2];exact hlt⟩
   rw [cZ (by rw [Gp.len];omega),t1.fix hk hg j (by omega),cZ (by rw [Y.len];omega),L.fix _ y hy j hj,cZ (by rw [U.len];omega),t.fix (by omega) hu j hj]
  ·have heq:rG x k (τ k).orb=u.getD k 0:=X.inj (L.lt hk hq) (L.lt hk hmem) (by omega)
   rw [←heq,hy] at hv
   cases hv
   have:=hle _ hv2
   rwa [aV U Y.inv (Y.mul X),←aV Y.inv Y X,gG Y,eH X] at this
structure HX (n:Nat) (G:List Nat->Prop) (i p:Nat) (x:List Nat):Prop where
 mem:G x
 fix:Fix i x
 maps:x.getD i 0=p
 least: ∀ y,G y->Fix i y->y.getD i 0=p->Le x y
theorem HX.uniq {i p:Nat} {x y:List Nat} (a:HX n G i p x) (b:HX n G i p y):x=y:=
 (a.least y b.mem b.fix b.maps).antisymm (b.least x a.mem a.fix a.maps)
structure eE (n:Nat) (G:List Nat->Prop) (O:Db) (R:ZW):Prop where
 lo:O.length=n
 lr:R.length=n
 asc: ∀ i,i<n->(O.getD i []).Pairwise (· < ·)
 mem: ∀ i,i<n-> ∀ p,p∈O.getD i []↔ ∃ x,G x/\Fix i x/\x.getD i 0=p
 rl: ∀ i,i<n->(R.getD i []).length=(O.getD i []).length
 rep: ∀ i,i<n-> ∀ k,k<(O.getD i []).length->HX n G i ((O.getD i []).getD k 0) ((R.getD i []).getD k [])
theorem Sd: ∀ {a b:List Nat},a.Pairwise (· < ·)->b.Pairwise (· < ·)->(∀ p,p∈a↔p∈b)->a=b
 | [], [],_,_,_=>rfl
 | [],y::b,_,_,h=>by have:=(h y).2 (by simp);simp at this
 |x::a, [],_,_,h=>by have:=(h x).1 (by simp);simp at this
 |x::a,y::b,ha,hb,h=>by
  obtain ⟨a1,a2⟩:=List.pairwise_cons.1 ha
  obtain ⟨b1,b2⟩:=List.pairwise_cons.1 hb
  have e:x=y:=by
   have h1:=(h x).1 (by simp)
   have h2:=(h y).2 (by simp)
   rcases List.mem_cons.1 h1 with h1|h1
   ·exact h1
   ·rcases List.mem_cons.1 h2 with h2|h2
    ·exact h2.symm
    ·have:=b1 x h1;have:=a1 y h2;omega
  subst e
  congr 1
  refine Sd a2 b2 λ p=>⟨λ hp=>?_,λ hp=>?_⟩
  ·rcases List.mem_cons.1 ((h p).1 (List.mem_cons_of_mem _ hp)) with e|h3
   ·subst e;have:=a1 p hp;omega
   ·exact h3
  ·rcases List.mem_cons.1 ((h p).2 (List.mem_cons_of_mem _ hp)) with e|h3
   ·subst e;have:=b1 p hp;omega
   ·exact h3
theorem De {α:Type} {d:α} {a b:List α} (hl:a.length=b.length) (h: ∀ i,i<a.length->a.getD i d=b.getD i d):a=b:=by
 refine List.ext_getElem hl λ i h1 h2=>?_
 have:=h i h1
 simpa [List.getD,h1,h2] using this
theorem eE.uniq {O O':Db} {R R':ZW} (a:eE n G O R) (b:eE n G O' R'):O=O'/\R=R':=by
 have e:O=O':=De (d:= []) (by rw [a.lo,b.lo]) λ i hi=>by
  rw [a.lo] at hi
  exact Sd (a.asc i hi) (b.asc i hi) λ p=>(a.mem i hi p).trans (b.mem i hi p).symm
 subst e
 refine ⟨rfl,De (d:= []) (by rw [a.lr,b.lr]) λ i hi=>?_⟩
 rw [a.lr] at hi
 refine De (d:= []) (by rw [a.rl i hi,b.rl i hi]) λ k hk=>?_
 rw [a.rl i hi] at hk
 exact (a.rep i hi k hk).uniq (b.rep i hi k hk)
theorem eE.congr {H:List Nat->Prop} {O:Db} {R:ZW} (a:eE n G O R) (h: ∀ x,G x↔H x):eE n H O R:=by
 have:G=H:=funext λ x=>propext (h x)
 exact this▸a
theorem rU.chain (t:rU n 0 τ) {O:Db} {R:ZW} (lo:O.length=n) (lr:R.length=n)
  (asc: ∀ i,i<n->(O.getD i []).Pairwise (· < ·)) (mem: ∀ i,i<n-> ∀ p,p∈O.getD i []↔p∈(τ i).orb) (rl: ∀ i,i<n->(R.getD i []).length=(O.getD i []).length)
  (rep: ∀ i,i<n-> ∀ k,k<(O.getD i []).length-> ∀ y,(τ i).to ((O.getD i []).getD k 0)=some y->(R.getD i []).getD k []=Ph τ (n-(i+1)) (i+1) y):eE n (S n τ 0) O R:=by
 refine ⟨lo,lr,asc,λ i hi p=>?_,rl,λ i hi k hk=>?_⟩
 ·have L:=(t i (Nat.zero_le _) hi).1
  have ti:=t.mono (Nat.zero_le i)
  rw [mem i hi p]
  constructor
  ·intro hp
   obtain ⟨y,hy⟩:=L.to hp
   have hS:S n τ i y:=(ti.gen hi).2 (L.gen p y hy)
   have:=(t.GP (Nat.zero_le i) (by omega)).1 hS
   exact ⟨y,this.1,this.2,L.maps p y hy⟩
  ·rintro ⟨x,h1,h2,rfl⟩
   obtain ⟨y,hy,_⟩:=ti.sift hi ((t.GP (Nat.zero_le i) (by omega)).2 ⟨h1,h2⟩)
   exact L.mem hy
 ·have L:=(t i (Nat.zero_le _) hi).1
  have ti:=t.mono (Nat.zero_le i)
  have t1:=t.mono (Nat.zero_le (i+1))
  have hp:(O.getD i []).getD k 0∈O.getD i []:=by
   rw [bW hk];exact List.getElem_mem hk
  obtain ⟨y,hy⟩:=L.to ((mem i hi _).1 hp)
  rw [rep i hi k hk y hy]
  generalize (O.getD i []).getD k 0=p at hy
  have Y:=L.dR p y hy
  obtain ⟨h,hh,e,hle⟩:=XU (n-(i+1)) (i+1) y (by omega) t1 Y
  have H:=t1.dR hi hh
  have hSi:S n τ i (bE h y):=(sN hi).2 ⟨p,y,h,hy,hh,rfl⟩
  have hs:=(t.GP (Nat.zero_le i) (by omega)).1 hSi
  rw [e] at hle ⊢
  refine ⟨hs.1,hs.2,?_,λ z h1 h2 h3=>?_⟩
  ·rw [cZ (by rw [H.len];exact hi),t1.fix hi hh i (by omega),L.maps p y hy]
  ·obtain ⟨v,hv,hv2⟩:=ti.sift hi ((t.GP (Nat.zero_le i) (by omega)).2 ⟨h1,h2⟩)
   rw [h3,hy] at hv
   cases hv
   have Z:=t.dR (Nat.zero_le _) h1
   have:=hle _ hv2
   rwa [aV Z Y.inv Y,gG Y,cE Z] at this
theorem Ni.group {i:Nat} {x:List Nat} {τ':sE} (a:Ni n i x τ τ') (t:rU n i τ) (hi:i<n) (X:bI n x) (z:List Nat):Go.Pm.S n τ' i z↔fS n (λ g=>Go.Pm.S n τ i g∨g=x) z:=by
 have L:=(t i (Nat.le_refl _) hi).1
 have hP: ∀ g,(Go.Pm.S n τ i g∨g=x)->bI n g:=λ g hg=>by
  rcases hg with hg|rfl
  ·exact t.dR (by omega) hg
  ·exact X
 rw [a.tw.gen hi]
 constructor
 ·intro h
  refine h.le (fS.jY hP) λ g hg=>(a.new g hg).mono λ u hu=>?_
  rcases hu with hu|hu
  ·exact .inl ((t.gen hi).2 (fS.of L.gP hu))
  ·exact .inr hu
 ·intro h
  refine h.le (fS.jY (a.tw i (Nat.le_refl _) hi).1.gP) λ g hg=>?_
  rcases hg with hg|rfl
  ·exact ((t.gen hi).1 hg).mono a.old
  ·exact a.has
end
abbrev uL:=Nat->Nat->Option (List Nat)
def ins (t:uL):Nat->Nat->List Nat->Option (Nat×List Nat)
 |0,_,_=>none
 |d+1,i,x=>if x.getD i 0=i then ins t d (i+1) x else
  match t i (x.getD i 0) with
  |none=>some (i,x)
  |some y=>ins t d (i+1) (bE x (eA y))
def dd:Db->Db
 | []=> []
 |a::l=>if a∈dd l then dd l else a::dd l
theorem CS {a:List Nat}: ∀ {l:Db},a∈dd l↔a∈l
 | []=>Iff.rfl
 |b::l=>by
  unfold dd
  have ih:=CS (a:=a) (l:=l)
  split
  ·rename_i h
   rw [ih]
   constructor
   ·exact List.mem_cons_of_mem _
   ·intro h2
    rcases List.mem_cons.1 h2 with rfl|h2
    ·exact ih.1 h
    ·exact h2
  ·simp [ih]
theorem Vz: ∀ l:Db,(dd l).Nodup
 | []=>List.nodup_nil
 |b::l=>by
  unfold dd
  split
  ·exact Vz l
  ·rename_i h;exact List.nodup_cons.2 ⟨h,Vz l⟩
def fM (n:Nat) (t:uL) (j:Nat):Db:=(List.range n).flatMap λ i=>if j<=i then (List.range n).filterMap λ p=>t i p else []
theorem gE {n:Nat} {t:uL} {j:Nat} {y:List Nat}:y∈fM n t j↔ ∃ i p,j<=i/\i<n/\p<n/\t i p=some y:=by
 simp only [fM,List.mem_flatMap,List.mem_range]
 constructor
 ·rintro ⟨i,hi,h⟩
  split at h
  ·rename_i hj
   obtain ⟨p,hp,e⟩:=List.mem_filterMap.1 h
   exact ⟨i,p,hj,hi,List.mem_range.1 hp,e⟩
  ·simp at h
 ·rintro ⟨i,p,hj,hi,hp,e⟩
  refine ⟨i,hi,?_⟩
  rw [if_pos hj]
  exact List.mem_filterMap.2 ⟨p,List.mem_range.2 hp,e⟩
def mS (n:Nat) (t:uL):sE:=λ j=>
 {gens:=dd (fM n t j)
  orb:=(List.range n).filter λ p=>p==j||(t j p).isSome
  to:=λ p=>if p=j then some (bZ n) else t j p
  tr:=λ q=>if q=j∨(t j q).isSome then (dd (fM n t j)).length else 0}
structure qZ (n:Nat) (t:uL):Prop where
 lt: ∀ i p y,t i p=some y->i<n/\p<n/\p≠i
 dR: ∀ i p y,t i p=some y->bI n y
 fix: ∀ i p y,t i p=some y->Fix i y
 maps: ∀ i p y,t i p=some y->y.getD i 0=p
def Nx (n:Nat) (t:uL):Prop:= ∀ a b,a∈fM n t 0->b∈fM n t 0->ins t n 0 (bE a b)=none
section
variable {n:Nat} {t:uL}
theorem yO {j p:Nat} {y:List Nat} (T:qZ n t) (hj:j<n) (h:(mS n t j).to p=some y):bI n y/\Fix j y/\y.getD j 0=p/\(p=j/\y=bZ n∨t j p=some y):=by
 have h':(if p=j then some (bZ n) else t j p)=some y:=h
 split at h'
 ·rename_i e
  cases h'
  exact ⟨bI.one n,Fix.one n j (by omega),by rw [e];exact fG hj,.inl ⟨e,rfl⟩⟩
 ·exact ⟨T.dR _ _ _ h',T.fix _ _ _ h',T.maps _ _ _ h',.inr h'⟩
theorem VX (T:qZ n t): ∀ (d j:Nat) (x:List Nat),j+d=n->S n (mS n t) j x->bI n x/\Fix j x
 |0,j,x,h,hs=>by
  obtain rfl:j=n:=by omega
  rw [yH] at hs
  subst hs
  exact ⟨bI.one j,Fix.one j j (Nat.le_refl _)⟩
 |d+1,j,x,h,hs=>by
  obtain ⟨p,y,g,h1,h2,rfl⟩:=(sN (by omega)).1 hs
  obtain ⟨G,F⟩:=VX T d (j+1) g (by omega) h2
  obtain ⟨Y,F2,_⟩:=yO T (by omega) h1
  exact ⟨G.mul Y,Fix.mul G (by omega) (F.mono (by omega)) F2⟩
theorem Ts (j:Nat) (hj:j<n) {x:List Nat} (X:bI n x) (h:S n (mS n t) (j+1) x):S n (mS n t) j x:=
 (sN hj).2 ⟨j,bZ n,x,by show (if j=j then some (bZ n) else t j j)=_;rw [if_pos rfl],h,(cE X).symm⟩
theorem GS: ∀ (d j:Nat),j+d=n->S n (mS n t) j (bZ n)
 |0,j,h=>by
         obtain rfl:j=n:=by omega
         exact yH.2 rfl
 |d+1,j,h=>Ts j (by omega) (bI.one n) (GS d (j+1) (by omega))
theorem Uf (T:qZ n t): ∀ (d j:Nat) (x:List Nat),j+d=n->bI n x->Fix j x->ins t d j x=none->S n (mS n t) j x
 |0,j,x,h,X,F,_=>by
  obtain rfl:j=n:=by omega
  exact yH.2 (F.all X)
 |d+1,j,x,h,X,F,hi=>by
  unfold ins at hi
  split at hi
  ·rename_i e
   exact Ts j (by omega) X (Uf T d (j+1) x (by omega) X (F.succ e) hi)
  ·rename_i e
   split at hi
   ·cases hi
   ·rename_i y hy
    have Y:=T.dR _ _ _ hy
    have F2:=T.fix _ _ _ hy
    refine (sN (by omega)).2 ⟨x.getD j 0,y,bE x (eA y),?_,?_,by rw [aV X Y.inv Y,gG Y,cE X]⟩
    ·show (if x.getD j 0=j then some (bZ n) else t j (x.getD j 0))=_
     rw [if_neg e];exact hy
    ·refine Uf T d (j+1) _ (by omega) (X.mul Y.inv) ((Fix.mul X (by omega) F (Fix.inv Y (by omega) F2)).succ ?_) hi
     rw [cZ (by rw [X.len];omega)]
     have:=zH Y (show j<n by omega)
     rwa [T.maps _ _ _ hy] at this
theorem EN: ∀ (k d j:Nat) (x:List Nat),Fix (j+k) x->ins t (d+k) j x=ins t d (j+k) x
 |0,_,_,_,_=>rfl
 |k+1,d,j,x,F=>by
  have e:ins t (d+k+1) j x=ins t (d+k) (j+1) x:=by
   show (if x.getD j 0=j then ins t (d+k) (j+1) x else _)=_
   rw [if_pos (F j (by omega))]
  rw [show d+(k+1)=(d+k)+1 from rfl,e,EN k d (j+1) x (by rw [show j+1+k=j+(k+1) from by omega];exact F),show j+1+k=j+(k+1) from by omega]
theorem VY (T:qZ n t) (c:Nx n t) {a b:List Nat} {j:Nat} (hj:j<=n) (ha:a∈fM n t 0) (hb:b∈fM n t 0) (A:bI n a) (B:bI n b) (fa:Fix j a) (fb:Fix j b):S n (mS n t) j (bE a b):=by
 have F:=Fix.mul A hj fa fb
 have h:=c a b ha hb
 rw [show n=(n-j)+j from by omega,EN j (n-j) 0 _ (by rw [Nat.zero_add];exact F),Nat.zero_add] at h
 exact Uf T (n-j) j _ (by omega) (A.mul B) F h
theorem akO (T:qZ n t) {j:Nat} {y:List Nat} (h:y∈fM n t j):S n (mS n t) j y:=by
 obtain ⟨i,p,h1,h2,h3,e⟩:=gE.1 h
 have Y:=T.dR _ _ _ e
 have base:S n (mS n t) i y:=by
  refine (sN h2).2 ⟨p,y,bZ n,?_,GS (n-(i+1)) (i+1) (by omega),(eH Y).symm⟩
  show (if p=i then some (bZ n) else t i p)=_
  rw [if_neg (T.lt _ _ _ e).2.2];exact e
 have: ∀ k,k<=i->S n (mS n t) (i-k) y:=by
  intro k
  induction k with
  |zero=>intro _;exact base
  |succ k ih=>
   intro hk
   refine Ts (i-(k+1)) (by omega) Y ?_
   rw [show i-(k+1)+1=i-k from by omega]
   exact ih (by omega)
 have:=this (i-j) (by omega)
 rwa [show i-(i-j)=j from by omega] at this
theorem OG (T:qZ n t) (c:Nx n t):rU n 0 (mS n t):=λ j _ hj=>by
 have horb: ∀ p,p∈(mS n t j).orb↔((mS n t j).to p).isSome:=by
  intro p
  show p∈(List.range n).filter (λ p=>p==j||(t j p).isSome)↔(if p=j then some (bZ n) else t j p).isSome
  rw [List.mem_filter,List.mem_range]
  by_cases e:p=j
  ·subst e;simp [hj]
  ·simp only [beq_iff_eq,e,if_neg,Bool.or_eq_true,false_or]
   constructor
   ·exact λ h=>h.2
   ·intro h
    obtain ⟨y,hy⟩:=Option.isSome_iff_exists.1 h
    exact ⟨(T.lt _ _ _ hy).2.1,h⟩
 have hmem: ∀ s,s∈(mS n t j).gens↔s∈fM n t j:=λ s=>CS
 have hentP: ∀ s,s∈fM n t j->bI n s/\Fix j s/\s∈fM n t 0:=λ s hs=>by
  obtain ⟨i,p,h1,h2,h3,e⟩:=gE.1 hs
  exact ⟨T.dR _ _ _ e,(T.fix _ _ _ e).mono h1,gE.2 ⟨i,p,Nat.zero_le _,h2,h3,e⟩⟩
 refine ⟨⟨List.nodup_range.filter _,(horb j).2 ?_,?_,horb,λ p y h=>(yO T hj h).1,λ p y h=>(yO T hj h).2.1,λ p y h=>(yO T hj h).2.2.1,λ p y h=>?_,λ s hs=>(hentP s ((hmem s).1 hs)).1,λ s hs=>(hentP s ((hmem s).1 hs)).2.1,Vz _,λ q=>?_,λ q hq=>?_⟩,λ q y hy k s hk hs=>?_,λ q hq=>?_,λ h s hs=>?_⟩
 ·show (if j=j then some (bZ n) else t j j).isSome
  rw [if_pos rfl];rfl
 ·show (if j=j then some (bZ n) else t j j)=_
  rw [if_pos rfl]
 ·rcases (yO T hj h).2.2.2 with ⟨_,rfl⟩|e
  ·exact .one
  ·refine fS.of (λ g hg=>(hentP g ((hmem g).1 hg)).1) ((hmem y).2 (gE.2 ⟨j,p,Nat.le_refl _,hj,(T.lt _ _ _ e).2.1,e⟩))
 ·show (if q=j∨(t j q).isSome then (dd (fM n t j)).length else 0)<=_
  split
  ·exact Nat.le_refl _
  ·exact Nat.zero_le _
 ·show (if q=j∨(t j q).isSome then (dd (fM n t j)).length else 0)=0
  rw [if_neg]
  rintro (e|e)
  ·exact hq ((horb q).2 (by show (if q=j then some (bZ n) else t j q).isSome;rw [if_pos e];rfl))
  ·refine hq ((horb q).2 ?_)
   show (if q=j then some (bZ n) else t j q).isSome
   split
   ·rfl
   ·exact e
 ·--closure
  have hse:s∈fM n t j:=(hmem s).1 (List.mem_of_getElem? hs)
  obtain ⟨Sp,fs,hs0⟩:=hentP s hse
  obtain ⟨Y,fy,my,hcase⟩:=yO T hj hy
  have hS:S n (mS n t) j (bE y s):=by
   rcases hcase with ⟨_,rfl⟩|e
   ·rw [eH Sp];exact akO T hse
   ·exact VY T c (by omega) (gE.2 ⟨j,q,Nat.zero_le _,hj,(T.lt _ _ _ e).2.1,e⟩) hs0 Y Sp fy fs
  obtain ⟨p,u,g,h1,h2,h3⟩:=(sN hj).1 hS
  obtain ⟨U,fu,mu,_⟩:=yO T hj h1
  obtain ⟨Gp,fg⟩:=VX T (n-(j+1)) (j+1) g (by omega) h2
  have ep:(bE y s).getD j 0=p:=by
   rw [h3,cZ (by rw [Gp.len];exact hj),fg j (by omega),mu]
  refine ⟨u,by rw [ep];exact h1,?_⟩
  rw [h3,aV Gp U U.inv,gU U,cE Gp]
  exact h2
 ·show (if q=j∨(t j q).isSome then (dd (fM n t j)).length else 0)=(dd (fM n t j)).length
  rw [if_pos]
  have:=(horb q).1 hq
  have h':(if q=j then some (bZ n) else t j q).isSome:=this
  split at h'
  ·rename_i e;exact .inl e
  ·exact .inr h'
 ·have hs':s∈fM n t (j+1):=CS.1 hs
  obtain ⟨i,p,h1,h2,h3,e⟩:=gE.1 hs'
  exact fS.of (λ g hg=>(hentP g ((hmem g).1 hg)).1) ((hmem s).2 (gE.2 ⟨i,p,by omega,h2,h3,e⟩))
theorem JO (T:qZ n t) (c:Nx n t) (hn:0<n) (x:List Nat):S n (mS n t) 0 x↔fS n (· ∈fM n t 0) x:=by
 rw [(OG T c).gen hn]
 have:(λ g=>g∈(mS n t 0).gens)=λ g=>g∈fM n t 0:=funext λ g=>propext CS
 rw [this]
def put (t:uL) (i p:Nat) (x:List Nat):uL:=λ j q=>if j=i/\q=p then some x else t j q
def kA (t:uL) (n:Nat) (x:List Nat):uL:=match ins t n 0 x with
 |none=>t
 |some (i,r)=>put t i (r.getD i 0) r
theorem Dk (T:qZ n t): ∀ (d j:Nat) (x:List Nat) (i:Nat) (r:List Nat),j+d=n->bI n x->Fix j x->ins t d j x=some (i,r)->
  j<=i/\i<n/\bI n r/\Fix i r/\r.getD i 0≠i/\t i (r.getD i 0)=none/\ ∃ w,fS n (· ∈fM n t 0) w/\x=bE r w
 |0,_,_,_,_,_,_,_,h=>by cases h
 |d+1,j,x,i,r,h,X,F,hi=>by
  unfold ins at hi
  split at hi
  ·rename_i e
   obtain ⟨h1,h2⟩:=Dk T d (j+1) x i r (by omega) X (F.succ e) hi
   exact ⟨by omega,h2⟩
  ·rename_i e
   split at hi
   ·rename_i hn
    cases hi
    exact ⟨Nat.le_refl _,by omega,X,F,e,hn,bZ n,.one,(cE X).symm⟩
   ·rename_i y hy
    have Y:=T.dR _ _ _ hy
    have hE: ∀ g,g∈fM n t 0->bI n g:=λ g hg=>by
     obtain ⟨_,_,_,_,_,e⟩:=gE.1 hg
     exact T.dR _ _ _ e
    obtain ⟨h1,h2,h3,h4,h5,h6,w,hw,ew⟩:=Dk T d (j+1) _ i r (by omega) (X.mul Y.inv) ((Fix.mul X (by omega) F (Fix.inv Y (by omega) (T.fix _ _ _ hy))).succ (by
     rw [cZ (by rw [X.len];omega)]
     have:=zH Y (show j<n by omega)
     rwa [T.maps _ _ _ hy] at this)) hi
    have hyE:y∈fM n t 0:=gE.2 ⟨j,_,Nat.zero_le _,by omega,(T.lt _ _ _ hy).2.1,hy⟩
    refine ⟨by omega,h2,h3,h4,h5,h6,bE w y,hw.mul hyE,?_⟩
    rw [←aV h3 (hw.dR hE) Y,←ew,aV X Y.inv Y,gG Y,cE X]
theorem Bh (T:qZ n t): ∀ (d j:Nat) (x:List Nat),j+d=n->bI n x->Fix j x->ins t d j x=none->fS n (· ∈fM n t 0) x
 |0,j,x,h,X,F,_=>by
  obtain rfl:j=n:=by omega
  rw [F.all X];exact .one
 |d+1,j,x,h,X,F,hi=>by
  unfold ins at hi
  split at hi
  ·rename_i e
   exact Bh T d (j+1) x (by omega) X (F.succ e) hi
  ·rename_i e
   split at hi
   ·cases hi
   ·rename_i y hy
    have Y:=T.dR _ _ _ hy
    have ih:=Bh T d (j+1) _ (by omega) (X.mul Y.inv) ((Fix.mul X (by omega) F (Fix.inv Y (by omega) (T.fix _ _ _ hy))).succ (by
     rw [cZ (by rw [X.len];omega)]
     have:=zH Y (show j<n by omega)
     rwa [T.maps _ _ _ hy] at this)) hi
    have:=ih.mul (gE.2 ⟨j,_,Nat.zero_le _,by omega,(T.lt _ _ _ hy).2.1,hy⟩)
    rwa [aV X Y.inv Y,gG Y,cE X] at this
def Sub (t t':uL):Prop:= ∀ i p y,t i p=some y->t' i p=some y
theorem Kf {t':uL} (s:Sub t t'): ∀ (d j:Nat) (x:List Nat),ins t d j x=none->ins t' d j x=none
 |0,_,_,_=>rfl
 |d+1,j,x,h=>by
  unfold ins at h ⊢
  split at h
  ·rename_i e;rw [if_pos e];exact Kf s d _ _ h
  ·rename_i e
   rw [if_neg e]
   split at h
   ·cases h
   ·rename_i y hy
    rw [s _ _ _ hy]
    exact Kf s d _ _ h
theorem PJ {i p:Nat} {x:List Nat} (h:t i p=none):Sub t (put t i p x):=λ j q y hy=>by
 unfold put
 rw [if_neg (λ e=>by rw [e.1,e.2,h] at hy;cases hy)]
 exact hy
theorem BO (T:qZ n t): ∀ (d j:Nat) (x:List Nat) (i:Nat) (r:List Nat),j+d=n->bI n x->Fix j x->ins t d j x=some (i,r)->ins (put t i (r.getD i 0) r) d j x=none
 |0,_,_,_,_,_,_,_,h=>by cases h
 |d+1,j,x,i,r,h,X,F,hi=>by
  obtain ⟨a1,a2,a3,a4,a5,a6,_⟩:=Dk T (d+1) j x i r h X F hi
  have sub:=PJ (t:=t) (x:=r) a6
  unfold ins at hi ⊢
  split at hi
  ·rename_i e;rw [if_pos e];exact BO T d (j+1) x i r (by omega) X (F.succ e) hi
  ·rename_i e
   rw [if_neg e]
   split at hi
   ·cases hi
    have:put t j (x.getD j 0) x j (x.getD j 0)=some x:=by unfold put;rw [if_pos ⟨rfl,rfl⟩]
    rw [this]
    simp only
    rw [gU X]
    have: ∀ (d j:Nat),j+d=n-> ∀ t':uL,ins t' d j (bZ n)=none:=by
     intro d
     induction d with
     |zero=>intro _ _ _;rfl
     |succ d ih=>intro j hj t';unfold ins;rw [if_pos (fG (by omega))];exact ih (j+1) (by omega) t'
    exact this d (j+1) (by omega) _
   ·rename_i y hy
    have Y:=T.dR _ _ _ hy
    rw [sub _ _ _ hy]
    exact BO T d (j+1) _ i r (by omega) (X.mul Y.inv) ((Fix.mul X (by omega) F (Fix.inv Y (by omega) (T.fix _ _ _ hy))).succ (by
     rw [cZ (by rw [X.len];omega)]
     have:=zH Y (show j<n by omega)
     rwa [T.maps _ _ _ hy] at this)) hi
end
section
variable {n:Nat} {t:uL}
theorem qZ.SF (T:qZ n t) {j:Nat}: ∀ g,g∈fM n t j->bI n g:=λ g hg=>by
 obtain ⟨_,_,_,_,_,e⟩:=gE.1 hg
 exact T.dR _ _ _ e
theorem Sub.refl (t:uL):Sub t t:=λ _ _ _ h=>h
theorem Sub.trans {a b c:uL} (x:Sub a b) (y:Sub b c):Sub a c:=λ i p z h=>y i p z (x i p z h)
theorem qZ.empty (n:Nat):qZ n (λ _ _=>none):=⟨λ _ _ _ h=>(by cases h),λ _ _ _ h=>(by cases h),λ _ _ _ h=>(by cases h),λ _ _ _ h=>(by cases h)⟩
theorem agI (T:qZ n t) {x:List Nat} (X:bI n x):qZ n (kA t n x)/\Sub t (kA t n x)/\ins (kA t n x) n 0 x=none/\ ∀ g,g∈fM n (kA t n x) 0->fS n (λ u=>u∈fM n t 0∨u=x) g:=by
 unfold kA
 cases h:ins t n 0 x with
 |none=>exact ⟨T,Sub.refl t,h,λ g hg=>fS.of (λ u hu=>by rcases hu with hu|rfl;exact T.SF u hu;exact X) (.inl hg)⟩
 |some q=>
  obtain ⟨i,r⟩:=q
  have F0:Fix 0 x:=λ k hk=>by omega
  obtain ⟨a1,a2,a3,a4,a5,a6,w,hw,ew⟩:=Dk T n 0 x i r (by omega) X F0 h
  have hput: ∀ j q y,put t i (r.getD i 0) r j q=some y->(j=i/\q=r.getD i 0/\y=r)∨t j q=some y:=λ j q y hy=>by
   unfold put at hy
   split at hy
   ·rename_i e;cases hy;exact .inl ⟨e.1,e.2,rfl⟩
   ·exact .inr hy
  refine ⟨⟨λ j q y hy=>?_,λ j q y hy=>?_,λ j q y hy=>?_,λ j q y hy=>?_⟩,PJ a6,BO T n 0 x i r (by omega) X F0 h,λ g hg=>?_⟩
  ·rcases hput j q y hy with ⟨rfl,rfl,rfl⟩|h
   ·exact ⟨a2,a3.eS a2,a5⟩
   ·exact T.lt _ _ _ h
  ·rcases hput j q y hy with ⟨rfl,rfl,rfl⟩|h
   ·exact a3
   ·exact T.dR _ _ _ h
  ·rcases hput j q y hy with ⟨rfl,rfl,rfl⟩|h
   ·exact a4
   ·exact T.fix _ _ _ h
  ·rcases hput j q y hy with ⟨rfl,rfl,rfl⟩|h
   ·rfl
   ·exact T.maps _ _ _ h
  ·have hP: ∀ u,(u∈fM n t 0∨u=x)->bI n u:=λ u hu=>by
    rcases hu with hu|rfl
    ·exact T.SF u hu
    ·exact X
   obtain ⟨j,q,h1,h2,h3,e⟩:=gE.1 hg
   rcases hput j q g e with ⟨_,_,rfl⟩|h
   ·have W:=hw.dR T.SF
    have er:g=bE x (eA w):=by rw [ew,aV a3 W W.inv,gU W,cE a3]
    rw [er]
    exact (fS.of hP (.inr rfl)).app hP ((hw.mono λ u hu=>Or.inl hu).inv hP)
   ·exact fS.of hP (.inl (gE.2 ⟨j,q,h1,h2,h3,h⟩))
structure Vs (n:Nat) (L:List Nat->Prop) (t:uL):Prop where
 Pn:qZ n t
 gen: ∀ g,g∈fM n t 0->fS n L g
variable {L:List Nat->Prop}
theorem Vs.ins (a:Vs n L t) (hL: ∀ g,L g->bI n g) {x:List Nat} (hx:fS n L x):Vs n L (kA t n x)/\Sub t (kA t n x)/\Go.Pm.ins (kA t n x) n 0 x=none:=by
 obtain ⟨h1,h2,h3,h4⟩:=agI a.Pn (hx.dR hL)
 refine ⟨⟨h1,λ g hg=>(h4 g hg).le (fS.jY hL) λ u hu=>?_⟩,h2,h3⟩
 rcases hu with hu|rfl
 ·exact a.gen u hu
 ·exact hx
theorem Vs.group (a:Vs n L t) (hL: ∀ g,L g->bI n g) (hn:0<n) (c:Nx n t) (hi: ∀ g,L g->Go.Pm.ins t n 0 g=none) (x:List Nat):S n (mS n t) 0 x↔fS n L x:=by
 rw [JO a.Pn c hn]
 constructor
 ·exact λ h=>h.le (fS.jY hL) a.gen
 ·exact λ h=>h.le (fS.jY a.Pn.SF) λ g hg=>Bh a.Pn n 0 g (by omega) (hL g hg) (λ k hk=>by omega) (hi g hg)
structure WY (n:Nat) (L:List Nat->Prop) (τ:sE):Prop where
 tw:rU n 0 τ
 group: ∀ x,S n τ 0 x↔fS n L x
theorem WY.start (hn:0<n):WY n (λ _=>False) (tw0 n):=by
 refine ⟨XN n,λ x=>?_⟩
 rw [(XN n).gen hn]
 have:(λ g=>g∈(tw0 n 0).gens)=λ _=>False:=funext λ g=>propext ⟨λ h=>(by cases h),λ h=>h.elim⟩
 rw [this]
theorem WY.add {τ τ':sE} {x:List Nat} (a:WY n L τ) (hn:0<n) (hL: ∀ g,L g->bI n g) (X:bI n x) (b:Ni n 0 x τ τ'):WY n (λ g=>L g∨g=x) τ':=by
 refine ⟨b.tw,λ z=>?_⟩
 have hP: ∀ g,(L g∨g=x)->bI n g:=λ g hg=>by
  rcases hg with hg|rfl
  ·exact hL g hg
  ·exact X
 rw [b.group a.tw hn X z]
 constructor
 ·intro h
  refine h.le (fS.jY hP) λ g hg=>?_
  rcases hg with hg|rfl
  ·exact ((a.group g).1 hg).mono λ u hu=> .inl hu
  ·exact fS.of hP (.inr rfl)
 ·intro h
  refine h.mono λ g hg=>?_
  rcases hg with hg|rfl
  ·exact .inl ((a.group g).2 (fS.of hL hg))
  ·exact .inr rfl
theorem WY.congr {M:List Nat->Prop} {τ:sE} (a:WY n L τ) (h: ∀ g,L g↔M g):WY n M τ:=by
 have:L=M:=funext λ g=>propext (h g)
 exact this▸a
end
def LI (n:Nat) (R:ZW):List Nat->Prop:=fS n λ g=>g∈R.flatten
def Valid (n:Nat) (O:Db) (R:ZW):Prop:=(∀ g∈R.flatten,bI n g)/\eE n (LI n R) O R
theorem Valid.iff {n:Nat} {O O':Db} {R R':ZW} (hP: ∀ g∈R.flatten,bI n g) (c:eE n (LI n R) O' R'):Valid n O R↔O=O'/\R=R':=by
 constructor
 ·rintro ⟨_,h⟩;exact h.uniq c
 ·rintro ⟨rfl,rfl⟩;exact ⟨hP,c⟩
theorem Valid.jY {n:Nat} {O:Db} {R:ZW} (v:Valid n O R):yV n (LI n R):=fS.jY v.1
end Go.Pm
namespace Go.Proofs.YtddpkbicnolafaaGreat
open Go Go.Ay Go.Pm
set_option maxRecDepth 100000
def Pv (c:Nat):V:=if c<130 then .aC else aB 0
def lv0:Lv:=⟨[], [],λ _=>none,λ _=>0⟩
theorem aeB: [V.aC,V.aC,V.aC,V.aC,V.aC,V.aC,V.aC,V.aC,V.aC,V.aC,V.aC,V.aC,V.aC,V.aC,V.aC,V.aC,V.aC,V.aC,V.aC,V.aC,V.aC,V.aC,V.aC,V.aC,V.aC,V.aC,V.aC,V.aC,V.aC,V.aC,V.aC,V.aC,V.aC,V.aC,V.aC,V.aC,V.aC,V.aC,V.aC,V.aC,V.aC,V.aC,V.aC,V.aC,V.aC,V.aC,V.aC,V.aC,V.aC,V.aC,V.aC,V.aC,V.aC,V.aC,V.aC,V.aC,V.aC,V.aC,V.aC,V.aC,V.aC,V.aC,V.aC,V.aC,V.aC,V.aC,V.aC,V.aC,V.aC,V.aC,V.aC,V.aC,V.aC,V.aC,V.aC,V.aC,V.aC,V.aC,V.aC,V.aC,V.aC,V.aC,V.aC,V.aC,V.aC,V.aC,V.aC,V.aC,V.aC,V.aC,V.aC,V.aC,V.aC,V.aC,V.aC,V.aC,V.aC,V.aC,V.aC,V.aC,V.aC,V.aC,V.aC,V.aC,V.aC,V.aC,V.aC,V.aC,V.aC,V.aC,V.aC,V.aC,V.aC,V.aC,V.aC,V.aC,V.aC,V.aC,V.aC,V.aC,V.aC,V.aC,V.aC,V.aC,V.aC,V.aC,V.aC,V.aC,V.aC,V.aC,(aB 0),(aB 0),(aB 0),(aB 0),(aB 0),(aB 0),(aB 0),(aB 0),(aB 0),(aB 0),(aB 0),(aB 0),(aB 0),(aB 0),(aB 0),(aB 0),(aB 0),(aB 0),(aB 0),(aB 0),(aB 0),(aB 0),(aB 0),(aB 0),(aB 0),(aB 0),(aB 0),(aB 0),(aB 0),(aB 0),(aB 0),(aB 0),(aB 0),(aB 0),(aB 0),(aB 0),(aB 0),(aB 0),(aB 0),(aB 0),(aB 0),(aB 0),(aB 0),(aB 0),(aB 0),(aB 0),(aB 0),(aB 0),(aB 0),(aB 0),(aB 0),(aB 0),(aB 0),(aB 0),(aB 0),(aB 0),(aB 0),(aB 0),(aB 0),(aB 0),(aB 0),(aB 0),(aB 0),(aB 0)]=rc 194 Pv:=rfl
theorem UJ (n:Nat):dQ (rc 194 Pv) (n*194)=rc (n*194) λ c=>Pv (c%194):=by
 refine List.ext_getElem (by simp [dQ,gT]) λ i h1 h2=>?_
 simp [dQ,rc]
 rw [List.getElem?_range (Nat.mod_lt _ (by omega))];rfl
def twU (n i:Nat):sE:=λ j=>if j<i then tw0 n j else lv0
theorem uZ.congr {h:H} {n tid L:Nat} {F:Nat->V} {τ τ':sE} (R:uZ h n tid L F τ) (e: ∀ j,j<n->τ j=τ' j):uZ h n tid L F τ':=
 ⟨R.t,R.l,R.tn,R.ln,R.tw,λ j p h1 h2=>by rw [←e j h1];exact R.to j p h1 h2,λ j p h1 h2=>by rw [←e j h1];exact R.iv j p h1 h2,λ j p h1 h2=>by rw [←e j h1];exact R.tr j p h1 h2,
  λ j hj=>by rw [←e j hj];exact R.gens j hj,λ j hj=>by rw [←e j hj];exact R.orb j hj,R.PQ,R.ap⟩
theorem EY (n:Nat) (h:H) (h0:0<n) (hn:n<=7):
  Ev T Oo [aB n] h (λ v h'=> ∃ tid L F,v= .ptr tid 0/\uZ h' n tid L F (tw0 n)/\Fr h h'/\ ∀ id,WT n L F id->h.next<=id):=by
 refine aZ Om rfl ?_
 have hm:Ms h 194 3632 (rc 194 Pv) (aB n) (aB n)=some (.sl h.next 0 n (.kn n),h.new (.cells false (rc (n*194) λ c=>Pv (c%194)))):=by
  rw [xS (by omega) (Int.le_refl _) (by omega) (by omega),Int.toNat_natCast,UJ]
 obtain ⟨F0,hF0⟩: ∃ F0:Nat->V,F0=λ c=>Pv (c%194):=⟨_,rfl⟩
 obtain ⟨L,hL⟩: ∃ L,h.next=L:=⟨_,rfl⟩
 rw [hL,←hF0] at hm
 simp (disch:=omega) only [go_sem,oI,aF,aeB,hm,VV (z1:= aB 0) (z2:= .aC) (v:= aB n) (u:= .sl L 0 n (.kn n)) rfl rfl rfl rfl,Fh _ (v:= aB n) (u:= .sl L 0 n (.kn n)) rfl rfl,hL]
 obtain ⟨h2,h2e⟩: ∃ h2,h2=(h.new (.cells false (rc (n*194) F0))).new (.cells false [aB n,.sl L 0 n (.kn n)]):=⟨_,rfl⟩
 rw [←h2e]
 have g1:h2.get L=some (.cells false (rc (n*194) F0)):=by rw [h2e,H.bM _ (by rw [H.bD];omega),←hL,H.aQ]
 have g2:h2.get (L+1)=some (.cells false [aB n,.sl L 0 n (.kn n)]):=by
  rw [h2e]
  have:=H.aQ (h.new (.cells false (rc (n*194) F0))) (.cells false [aB n,.sl L 0 n (.kn n)])
  rwa [H.bD,hL] at this
 have n2:h2.next=L+2:=by rw [h2e,H.bD,H.bD,hL]
 have f2:Fr h h2:=by rw [h2e];exact ((Fr.refl h).new _).new _
 clear h2e hm
 have s0: ∀ s,s<2*n->zG F0 s= .aC:=λ s _=>by
  unfold zG Pv at*;rw [hF0];simp only;rw [if_pos (by omega)]
 have w0: ∀ id,WT n L F0 id->id=L:=λ id hw=>by
  rcases hw with e|⟨s,hs,off,len,c,e⟩
  ·exact e
  ·rw [s0 s hs] at e;cases e
 have z0: ∀ j c,c<194->F0 (j*194+c)=Pv c:=λ j c hc=>by
  rw [hF0];simp only
  rw [Nat.mul_comm,Nat.mul_add_mod,Nat.mod_eq_of_lt hc]
 have z1: ∀ j b c,b+c<194->F0 (j*194+b+c)=Pv (b+c):=λ j b c hc=>by rw [Nat.add_assoc];exact z0 j (b+c) hc
 have R:uZ h2 n (L+1) L F0 (twU n 0):=by
  refine ⟨g2,g1,by omega,by omega,λ hw=>by have:=w0 _ hw;omega,λ j p h1 h2=>?_,λ j p h1 h2=>?_,λ j p h1 h2=>?_,λ j hj=>⟨[],?_,trivial⟩,λ j hj=>?_,λ s s' h1 h2 _=>?_,λ s h1=>?_⟩
  ·rw [z1 j 2 p (by omega)];unfold Pv;rw [if_pos (by omega)];rfl
  ·rw [z1 j 66 p (by omega)];unfold Pv;rw [if_pos (by omega)];rfl
  ·rw [z1 j 130 p (by omega)];unfold Pv;rw [if_neg (by omega)];rfl
  ·have:=z0 j 0 (by omega)
   rw [Nat.add_zero] at this
   rw [this];exact eL.aC ..
  ·rw [z0 j 1 (by omega)];exact eL.aC ..
  ·rw [s0 s h1];intro i o n c e;cases e
  ·rw [s0 s h1];exact eC.aC _
 have cl0:h2.cell (L+1) 1=some (.sl L 0 n (.kn n)):=by rw [H.aG g2];rfl
 simp (disch:=omega) only [go_sem,cl0]
 refine aJ (λ k' vars hh=> ∃ (i:Nat) (F:Nat->V),(∃ g:Nat->V,vars= [aB n,g 1,.ptr (L+1) 0,g 3,g 4,aB n,aB i,g 7])/\i<=n/\uZ hh n (L+1) L F (twU n i)/\Fr h hh/\(∀ id,WT n L F id->h.next<=id)/\k'=n-i) n
  ⟨0,F0,aA rfl,mJ _,R,f2,λ id hw=>by rw [w0 id hw];omega,rfl⟩ ?_
 clear R g1 g2 n2 f2 s0 w0 z0 z1
 rintro k' vars h3 ⟨i,F,⟨g,rfl⟩,hi,R,f,hw,rfl⟩
 simp (disch:=omega) only [go_sem]
 by_cases hlt:(i:Int)<(n:Int)
 ·rw [decide_eq_true hlt]
  have hi':i<n:=by omega
  have cl:h3.cell (L+1) 1=some (.sl L 0 n (.kn n)):=by rw [H.aG R.t];rfl
  have ln:=R.ln
  have hN:i*194+194<=n*194:=by omega
  have e0:twU n i i=lv0:=by unfold twU;rw [if_neg (by omega)]
  simp (disch:=omega) only [go_sem,cl,dN h3 (z:= aB 0) (v:= aB i) rfl rfl,R.l,Od]
  obtain ⟨h4,h4e⟩: ∃ h4,h4=(h3.new (.cells false [aB i])).set L (some (.cells false (rc (n*194) (F1 F (i*194+1) (.sl h3.next 0 1 (.kn 1)))))):=⟨_,rfl⟩
  rw [←h4e]
  have p4:xU h3 (F (i*194+1)) 0 1 1 [] [aB i] (h3.new (.cells false [aB i])):=⟨H.aQ ..,H.bD ..,λ k hk _=>H.bM h3 hk _⟩
  obtain ⟨R4,f4,w4⟩:=R.abK hi' (q:=i) (v:= .sl h3.next 0 1 (.kn 1)) (by rw [e0];exact p4) (.inr rfl) (by rw [e0];rfl) h4e
  obtain ⟨F4,hF4⟩: ∃ F4,F4=F1 F (i*194+1) (.sl h3.next 0 1 (.kn 1)):=⟨_,rfl⟩
  rw [←hF4] at R4 w4
  have n4:h4.next=h3.next+1:=by rw [h4e,H.cG,H.bD]
  have hw4: ∀ id,WT n L F4 id->h.next<=id:=λ id h1=>by
   by_cases h2:id<h3.next
   ·exact hw id (w4 id h2 h1)
   ·have:=f.next;omega
  have f4':Fr h h4:=⟨Nat.le_trans f.next f4.next,λ id h1=>(f4.get id (mM h1 f.next) λ h2=>by have:=hw id h2;omega).trans (f.get id h1)⟩
  clear h4e
  generalize hTe:yW (twU n i) i {twU n i i with orb:=(twU n i i).orb++ [i]}=τ4 at R4
  have e4:τ4 i={lv0 with orb:= [i]}:=by rw [←hTe,cC,e0];rfl
  refine (AW Ou n (H.mk h4.tr (h3.next+1+16)) (by omega)).mono ?_
  rintro va h5 na
  simp (disch:=omega) only [go_sem]
  refine (AW Ou n h5 (by omega)).mono ?_
  rintro vb h6 nb
  have f5:Fr h4 h5:=((Fr.refl h4).bF (by omega):Fr h4 (H.mk h4.tr (h3.next+1+16))).trans na.fr
  have R6:=R4.mono (f5.trans nb.fr)
  have pa:=(na.pv (W:=WT n L F4) (λ h1=>by have:=R4.Rx h1;simp at this;omega)).mono nb.fr
  have pb:=nb.pv (W:=WT n L F4) (λ h1=>by have:=R4.Rx h1;have:=f5.next;omega)
  have pb':PV (WT n L F4) h6 vb (eA (bZ n)):=by rw [Df];exact pb
  simp (disch:=omega) only [go_sem,R6.l,lU pa.eP.1 pa.eP.2,lU pb.eP.1 pb.eP.2,Od]
  obtain ⟨R7,f7,w7⟩:=R6.way hi' (q:=i) (by omega) pa pb' (h3:=(h6.set L (some (Ob.cells false (rc (n*194) (F1 F4 (i*194+2+i) va))))).set L (some (Ob.cells false (rc (n*194) (F1 (F1 F4 (i*194+2+i) va) (i*194+66+i) vb))))) (jI _) (λ id h1 _=>by rw [H.aH _ h1,H.aH _ h1]) (by rw [H.aW])
  have eT:yW τ4 i {τ4 i with to:=λ r=>if r=i then some (bZ n) else (τ4 i).to r}=twU n (i+1):=by
   funext j
   by_cases e:j=i
   ·subst e
    rw [cC,e4]
    unfold twU
    rw [if_pos (by omega)]
    rfl
   ·rw [eN _ _ e,←hTe,eN _ _ e]
    unfold twU
    by_cases e2:j<i
    ·rw [if_pos e2,if_pos (by omega)]
    ·rw [if_neg e2,if_neg (by omega)]
  rw [eT] at R7
  have f6:=f4'.trans (f5.trans nb.fr)
  rw [iJ i]
  refine ⟨n-(i+1),by omega,i+1,_,aA rfl,by omega,R7,⟨Nat.le_trans f6.next f7.next,λ id h1=>(f7.get id (mM h1 f6.next) λ h2=>by have:=hw4 id h2;omega).trans (f6.get id h1)⟩,λ id h1=>hw4 id ((w7 id).1 h1),rfl⟩
 rw [decide_eq_false hlt]
 obtain rfl:i=n:=by omega
 simp (disch:=omega) only [go_sem]
 have eT:uZ h3 i (L+1) L F (tw0 i):=R.congr λ j hj=>by unfold twU;rw [if_pos hj]
 exact ⟨L+1,L,F,rfl,eT,f,λ id h1=>by have:=hw id h1;omega⟩
abbrev SP (h:H) (v:V) (l:LN):Prop:=SR h v (l.map zi)
theorem Lj {h:H} {ws:List V} {l:LN} (a:bJ (SI h) ws (l.map zi)) {i:Nat} (hi:i<l.length):SI h (ws.getD i .undef) (zi (l.getD i [])):=by
 have:=LS a (i:=i) (by simpa using hi)
 rwa [show (l.map zi).getD i []=zi (l.getD i []) by simp [List.getD,hi]] at this
theorem NI {W:Nat->Prop} {h:H} {b:Nat} {v:V} {l:List Int} (s:SI h v l) (hb:h.next<=b) (hw: ∀ id,W id->b<=id):TD W v:=by
 cases v with
 |sl id off len cap=>exact λ h2=>by have:=s.in _ _ _ _ rfl;have:=hw id h2;omega
 |_=>trivial
theorem UD {l:LN} {i:Nat} (hi:i<l.length) (g:List Nat):g∈l.take (i+1)↔g∈l.take i∨g=l.getD i []:=by
 rw [List.take_add_one,iH hi,List.mem_append]
 simp [List.getD,hi]
theorem EI (n:Nat) (vl:V) (l:LN) (h:H) (h0:0<n) (hn:n<=7) (hl:l.length<1000000) (hv:SP h vl l) (hP: ∀ g∈l,bI n g):
  Ev T Xu [aB n,vl] h (λ v h'=> ∃ tid L F τ,v= .ptr tid 0/\uZ h' n tid L F τ/\WY n (· ∈l) τ/\Fr h h'/\ ∀ id,WT n L F id->h.next<=id):=by
 refine aZ Xt rfl ?_
 simp (disch:=omega) only [go_sem,sY,aF]
 refine (EY n h h0 hn).mono ?_
 rintro _ h1 ⟨tid,L,F,rfl,R,f,hw⟩
 have lv:=hv.lens
 rw [nO] at lv
 obtain ⟨id,off,ws,sh,hid,hwl,hc,hall⟩:=hv.open
 rw [nO] at sh hid hwl hc
 simp (disch:=omega) only [go_sem,lv]
 refine aJ (λ k' vars hh=> ∃ (i:Nat) (F:Nat->V) (τ:sE),(∃ g:Nat->V,vars= [aB n,vl,g 2,.ptr tid 0,g 4,vl,aB (l.length:Int),aB i,g 8])/\i<=l.length/\uZ hh n tid L F τ/\WY n (· ∈l.take i) τ/\Fr h hh/\(∀ id,WT n L F id->h.next<=id)/\k'=l.length-i) l.length
  ⟨0,F,tw0 n,aA rfl,mJ _,R,(WY.start h0).congr (by simp),f,hw,rfl⟩ ?_
 clear R f hw F
 rintro k' vars h2 ⟨i,F,τ,⟨g,rfl⟩,hi,R,t,f,hw,rfl⟩
 simp (disch:=omega) only [go_sem]
 by_cases hlt:(i:Int)<(l.length:Int)
 ·rw [decide_eq_true hlt]
  have hi':i<l.length:=by omega
  have ci:h2.cell id (off+i)=some (ws.getD i .undef):=by rw [f.cell (hid (by omega)),hc i hi']
  have s0:=Lj hall hi'
  have pv:PV (WT n L F) h2 (ws.getD i .undef) (l.getD i []):=⟨s0.mono f,NI s0 (jI _) hw⟩
  have X:bI n (l.getD i []):=hP _ (by simp [List.getD,hi'])
  simp (disch:=omega) only [go_sem,sh.ixa,ci]
  refine (ajO n hn h0 h2 tid L F τ _ _ R pv X (λ k hk=>by omega) t.tw).mono ?_
  rintro vv h3 ⟨F3,τ3,R3,a3,f3,w3⟩
  have t3:=(t.add h0 (λ g hg=>hP g (List.mem_of_mem_take hg)) X a3).congr λ g=>(UD hi' g).symm
  simp (disch:=omega) only [go_sem]
  rw [iJ i]
  refine ⟨l.length-(i+1),by omega,i+1,F3,τ3,aA rfl,by omega,R3,t3,⟨Nat.le_trans f.next f3.next,λ id h1=>(f3.get id (mM h1 f.next) λ h4=>by have:=hw id h4;omega).trans (f.get id h1)⟩,λ id h1=>?_,rfl⟩
  by_cases h4:id<h2.next
  ·exact hw id (w3 id h4 h1)
  ·have:=f.next;omega
 rw [decide_eq_false hlt]
 obtain rfl:i=l.length:=by omega
 simp (disch:=omega) only [go_sem]
 exact ⟨tid,L,F,τ,rfl,R,t.congr λ g=>by rw [List.take_length],f,hw⟩
theorem Yz (x:List Nat) (l:List Nat) {i:Nat} (hi:i<l.length) (b:Nat):rG x b (l.drop i)=rG x (if x.getD (l.getD i 0) 0<x.getD b 0 then l.getD i 0 else b) (l.drop (i+1)):=by
 rw [List.drop_eq_getElem_cons hi,bW hi];rfl
theorem aaJ (h:H) (n tid L:Nat) (F:Nat->V) (τ:sE) (vx:V) (x:List Nat) (i0:Nat) (hn:n<=7) (R:uZ h n tid L F τ) (hx:PV (WT n L F) h vx x) (X:bI n x) (hi0:i0<n) (t:rU n (i0+1) τ):
  Ev T Gm [.ptr tid 0,vx,aB i0] h (λ v h'=>PV (WT n L F) h' v (Ph τ (n-(i0+1)) (i0+1) x)/\bI n (Ph τ (n-(i0+1)) (i0+1) x)/\Fr h h'):=by
 refine aZ Hq rfl ?_
 simp (disch:=omega) only [go_sem,kP,aF]
 rw [iJ i0]
 refine aJ (λ k' vars hh=> ∃ (k:Nat) (y:List Nat) (vy:V),(∃ g:Nat->V,vars= [.ptr tid 0,vy,g 2,g 3,aB k,g 5,g 6,g 7,g 8,g 9,g 10,g 11,g 12,g 13])/\i0<k/\k<=n/\Ph τ (n-k) k y=Ph τ (n-(i0+1)) (i0+1) x/\
   PV (WT n L F) hh vy y/\bI n y/\Fr h hh/\k'=n-k) (n-(i0+1))
  ⟨i0+1,x,vx,aA rfl,by omega,by omega,rfl,hx,X,Fr.refl h,rfl⟩ ?_
 rintro k' vars h2 ⟨k,y,vy,⟨g,rfl⟩,hi1,hi2,hs,hy,Y,f,rfl⟩
 have R2:=R.mono f
 have ct:h2.cell tid 0=some (aB n):=by rw [H.aG R2.t];rfl
 have cl:h2.cell tid 1=some (.sl L 0 n (.kn n)):=by rw [H.aG R2.t];rfl
 simp (disch:=omega) only [go_sem,ct,cl]
 by_cases hlt:(k:Int)<(n:Int)
 case neg=>
  rw [decide_eq_false hlt]
  obtain rfl:k=n:=by omega
  rw [Nat.sub_self] at hs
  simp (disch:=omega) only [go_sem]
  rw [←hs]
  exact ⟨hy,Y,f⟩
 have hkn:k<n:=by omega
 rw [decide_eq_true hlt]
 have co:h2.cell L (k*194+1)=some (F (k*194+1)):=R2.cell hkn (by omega)
 have oo:=R2.orb k hkn
 have lo:=eL.lens oo (by rw [aS,aT])
 have lK:=(t k (by omega) hkn).1
 have hon:=aeN lK hkn
 simp (disch:=omega) only [go_sem,cl,co,lo]
 obtain ⟨id,off,sh,hid,hc⟩:=(show SI h2 (F (k*194+1)) (zi (τ k).orb) from oo.sv).open
 rw [aT] at sh hid hc
 obtain ⟨id2,off2,sh2,hid2,hc2⟩:=hy.si.open
 rw [aT,Y.len] at sh2 hid2 hc2
 refine aJ (λ m' vars hh=> ∃ (m b:Nat),(∃ g:Nat->V,vars= [.ptr tid 0,vy,g 2,g 3,aB k,aB b,g 6,g 7,F (k*194+1),aB ((τ k).orb.length:Int),aB m,g 11,g 12,g 13])/\m<=(τ k).orb.length/\b<n/\b∈k::(τ k).orb/\
   rG y b ((τ k).orb.drop m)=rG y k (τ k).orb/\Fr h2 hh/\m'=(τ k).orb.length-m) (τ k).orb.length
  ⟨0,k,aA rfl,mJ _,hkn,List.mem_cons_self ..,rfl,Fr.refl h2,rfl⟩ ?_
 rintro m' vars h3 ⟨m,b,⟨g3,rfl⟩,hm,hb,hbm,hbest,f3,rfl⟩
 simp (disch:=omega) only [go_sem]
 by_cases hlt2:(m:Int)<((τ k).orb.length:Int)
 ·rw [decide_eq_true hlt2]
  have hm':m<(τ k).orb.length:=by omega
  rw [Yz _ _ hm'] at hbest
  have cq:h3.cell id (off+m)=some (aB ((τ k).orb.getD m 0:Nat)):=by rw [f3.cell (hid (by omega)),hc m hm'];congr 2;simp [zi,hm']
  have hqm:(τ k).orb.getD m 0∈(τ k).orb:=by rw [bW hm'];exact List.getElem_mem hm'
  have hqn:=lK.lt hkn hqm
  generalize (τ k).orb.getD m 0=q at cq hqm hqn hbest
  have c1:h3.cell id2 (off2+q)=some (aB (y.getD q 0:Nat)):=by rw [f3.cell (hid2 (by omega)),hc2 q hqn];congr 2;simp [zi,Y.len,hqn]
  have c2:h3.cell id2 (off2+b)=some (aB (y.getD b 0:Nat)):=by rw [f3.cell (hid2 (by omega)),hc2 b hb];congr 2;simp [zi,Y.len,hb]
  simp (disch:=omega) only [go_sem,sh.ixa,cq,sh2.ixa,c1,c2]
  have fb:Fr h2 (H.mk h3.tr (h3.next+9)):=f3.bF (by omega)
  by_cases hxx:((y.getD q 0:Nat):Int)<((y.getD b 0:Nat):Int)
  ·rw [decide_eq_true hxx]
   rw [if_pos (by omega)] at hbest
   simp (disch:=omega) only [go_sem]
   rw [iJ m]
   exact ⟨(τ k).orb.length-(m+1),by omega,m+1,q,aA rfl,by omega,hqn,List.mem_cons_of_mem _ hqm,hbest,fb,rfl⟩
  ·rw [decide_eq_false hxx]
   rw [if_neg (by omega)] at hbest
   simp (disch:=omega) only [go_sem]
   rw [iJ m]
   exact ⟨(τ k).orb.length-(m+1),by omega,m+1,b,aA rfl,by omega,hb,hbm,hbest,fb,rfl⟩
 rw [decide_eq_false hlt2]
 have em:m=(τ k).orb.length:=by omega
 rw [em,List.drop_length] at hbest
 have hbest:b=rG y k (τ k).orb:=hbest
 have hstep:n-k=(n-(k+1))+1:=by omega
 rw [hstep] at hs
 have hs:Ph τ (n-(k+1)) (k+1) (if rG y k (τ k).orb=k then y else bE (((τ k).to (rG y k (τ k).orb)).getD []) y)=Ph τ (n-(i0+1)) (i0+1) x:=hs
 rw [←hbest] at hs
 have R3:=R2.mono f3
 have hy3:=hy.mono f3
 simp (disch:=omega) only [go_sem]
 by_cases hbk:b=k
 ·rw [if_pos hbk] at hs
  have e0:decide ((b:Int)≠(k:Int))=false:=gJ (by omega)
  simp (disch:=omega) only [go_sem,e0]
  rw [iJ k]
  exact ⟨n-(k+1),by omega,k+1,y,vy,aA rfl,by omega,by omega,hs,hy3,Y,f.trans f3,rfl⟩
 rw [if_neg hbk] at hs
 have e0:decide ((b:Int)≠(k:Int))=true:=mG (by omega)
 have cl3:h3.cell tid 1=some (.sl L 0 n (.kn n)):=by rw [H.aG R3.t];rfl
 have hbo:b∈(τ k).orb:=by
  rcases List.mem_cons.1 hbm with e|e
  ·exact absurd e hbk
  ·exact e
 obtain ⟨u,hu⟩:=lK.to hbo
 have U:=lK.dR _ _ hu
 have cto:h3.cell L (k*194+2+b)=some (F (k*194+2+b)):=R3.Zd hkn (by omega)
 have pto:PV (WT n L F) h3 (F (k*194+2+b)) u:=by
  have:=R3.to k b hkn (by omega)
  rw [hu] at this;exact this
 rw [hu] at hs
 simp (disch:=omega) only [go_sem,e0,cl3,cto]
 refine (Az uA _ vy u y h3 (by rw [U.len];omega) pto.si hy3.si (λ j hj=>by rw [Y.len];exact U.eS (by rw [←U.len];exact hj))).mono ?_
 rintro v h4 nw
 simp (disch:=omega) only [go_sem]
 rw [iJ k]
 exact ⟨n-(k+1),by omega,k+1,_,v,aA rfl,by omega,by omega,hs,nw.pv (λ hw=>by have:=R3.Rx hw;omega),U.mul Y,(f.trans f3).trans nw.fr,rfl⟩
end Go.Proofs.YtddpkbicnolafaaGreat
namespace Go.Proofs.YtddpkbicnolafaaGreat
open Go Go.Ay Go.Sort
set_option maxRecDepth 100000
structure dV (h:H) (S N:Nat) (d:Array Int):Prop where
 get:h.get S=bQ (ints d.toList)
 size:d.size=N
 lt:S<h.next
theorem dV.rd {h:H} {S N:Nat} {d:Array Int} (A:dV h S N d) {i:Nat} (hi:i<N):h.cell S i=some (aB d[i]!):=by
 have hi':i<d.size:=by rw [A.size];exact hi
 rw [H.aG A.get]
 simp [ints,hi']
theorem dV.fr {h h':H} {S N:Nat} {d:Array Int} (A:dV h S N d) (f:Fr h h'):dV h' S N d:=⟨by rw [f.get _ A.lt];exact A.get,A.size,mM A.lt f.next⟩
theorem bX {d:Array Int} {i:Nat} (hi:i<d.size) (hh:H) (S:Nat) (x:Int):fI (bQ (ints d.toList)) hh S i [aB x]=some (hh.set S (bQ (ints (d.setIfInBounds i x).toList))):=by
 rw [Yt (by simpa using hi),Array.toList_setIfInBounds]
theorem bL {d:Array Int} {i j:Nat} {y:Int} (hi:i<d.size) (hh:H) (S:Nat) (x:Int):fI (bQ (ints (d.setIfInBounds j y).toList)) hh S i [aB x]=some (hh.set S (bQ (ints ((d.setIfInBounds j y).setIfInBounds i x).toList))):=
 bX (by simpa using hi) hh S x
theorem dV.swap {h h2:H} {S N:Nat} {d:Array Int} (A:dV h S N d) {i j nx:Nat} (hnx:h.next<=nx) (e:h2=((H.mk h.tr nx).set S (bQ (ints (d.setIfInBounds i d[j]!).toList))).set S (bQ (ints ((d.setIfInBounds i d[j]!).setIfInBounds j d[i]!).toList))):dV h2 S N (swp d i j)/\Fx (· =S) h h2:=by
 subst e
 refine ⟨⟨?_,?_,mM A.lt hnx⟩,⟨hnx,λ id _ hs=>?_⟩⟩
 ·rw [H.aW];rfl
 ·have:=A.size;simp [swp,this]
 ·rw [H.aH _ hs,H.aH _ hs];rfl
theorem Fm (a:Int) (h:H):Ev T Ce [aB a] h (λ v h'=>v= .bool false/\h'=h):=by
 refine aZ Cc rfl ?_
 have e:decide (a≠a)=false:=gJ (by omega)
 simp (disch:=omega) only [go_sem,mH,aF,e]
theorem gQ (a b:Int) (h:H):Ev T Tl [aB a,aB b] h (λ v h'=>v= .bool (ltInt a b)/\Fr h h'):=by
 refine aZ Rq rfl ?_
 simp (disch:=omega) only [go_sem,qQ,aF]
 refine (Fm a h).mono ?_
 rintro _ h1 ⟨rfl,rfl⟩
 simp (disch:=omega) only [go_sem]
 exact ⟨rfl,Fr.refl _⟩
theorem gI {S:Nat} {a b c:H} (x:Fx (· =S) a b) (y:Fx (· =S) b c):Fx (· =S) a c:=x.trans y λ _ _ h=>h
theorem KG {lt:Int->Int->Bool} {a j:Nat} {d:Array Int} (h1:a<j+1) (h2:lt d[j+1]! d[j]! =true):insInner lt a (j+1) d=insInner lt a j (swp d (j+1) j):=by
 rw [insInner,if_pos (by simp [h1,h2])]
theorem LQ {lt:Int->Int->Bool} {a j:Nat} {d:Array Int} (h2:lt d[j+1]! d[j]! =false):insInner lt a (j+1) d=d:=by
 rw [insInner,if_neg (by simp [h2])]
theorem KW {lt:Int->Int->Bool} {a j:Nat} {d:Array Int} (h:j<=a):insInner lt a j d=d:=by
 cases j with
 |zero=>rfl
 |succ j=>rw [insInner,if_neg (by simp;omega)]
theorem Bo  (h:H) (S N a b:Nat) (d:Array Int) (cp:uO) (hN:N<1000000) (A:dV h S N d) (hb:b<=N) (hab:a<=b):
  Ev T qI [.sl S 0 N cp,aB a,aB b] h (λ _ h'=>dV h' S N (insertionSort ltInt d a b)/\Fx (· =S) h h'):=by
 refine aZ qG rfl ?_
 simp (disch:=omega) only [go_sem,dU,aF]
 rw [iJ a]
 refine aJ (λ k' vars hh=> ∃ (i:Nat) (e:Array Int),(∃ g:Nat->V,vars= [.sl S 0 N cp,aB a,aB b,aB i,g 4,g 5,g 6])/\a<i/\i<=b+1/\dV hh S N e/\insOuter ltInt a b i e=insertionSort ltInt d a b/\Fx (· =S) h hh/\k'=b+1-i) (b+1-(a+1))
  ⟨a+1,d,aA rfl,by omega,by omega,A,rfl,Fx.refl _ h,rfl⟩ ?_
 clear A
 rintro k' vars h1 ⟨i,e,⟨g,rfl⟩,hi1,hi2,A,hR,F,rfl⟩
 simp (disch:=omega) only [go_sem]
 by_cases hlt:(i:Int)<(b:Int)
 case neg=>
  rw [decide_eq_false hlt]
  simp (disch:=omega) only [go_sem]
  rw [insOuter,if_neg (by omega)] at hR
  rw [←hR]
  exact ⟨A,F⟩
 rw [decide_eq_true hlt]
 rw [insOuter,if_pos (by omega)] at hR
 simp (disch:=omega) only [go_sem]
 refine aJ (λ k' vars hh=> ∃ (j:Nat) (e':Array Int),(∃ g:Nat->V,vars= [.sl S 0 N cp,aB a,aB b,aB i,aB j,g 5,g 6])/\a<=j/\j<=i/\dV hh S N e'/\insInner ltInt a j e'=insInner ltInt a i e/\Fx (· =S) h hh/\k'=j) i
  ⟨i,e,aA rfl,by omega,by omega,A,rfl,F,rfl⟩ ?_
 clear A F
 rintro k' vars h2 ⟨j,e',⟨g2,rfl⟩,hj1,hj2,A,hI,F,hk⟩
 have sz:=A.size
 by_cases haj:(a:Int)<(j:Int)
 ·obtain ⟨m,rfl⟩: ∃ m,j=m+1:=⟨j- 1,by omega⟩
  have c1:=A.rd (i:=m+1) (by omega)
  have c2:=A.rd (i:=m) (by omega)
  have e1:decide ((a:Int)<((m+1:Nat):Int))=true:=decide_eq_true haj
  have e2:((m+1:Nat):Int)- 1=(m:Int):=by omega
  simp (disch:=omega) only [go_sem,e1,e2,c1,c2]
  refine (gQ _ _ _).mono ?_
  rintro _ h3 ⟨rfl,fh3⟩
  have f3':Fr h2 h3:=Fr.trans ((Fr.refl h2).bF (by omega)) fh3
  have A3:=A.fr f3'
  have c3:=A3.rd (i:=m+1) (by omega)
  have c4:=A3.rd (i:=m) (by omega)
  cases hl:ltInt e'[m+1]! e'[m]! with
  |false=>
   rw [LQ hl] at hI
   simp (disch:=omega) only [go_sem,hl]
   rw [iJ i]
   rw [←hI] at hR
   exact ⟨b+1-(i+1),by omega,i+1,e',aA rfl,by omega,by omega,A3,hR,gI F (Fx.of f3'),rfl⟩
  |true=>
   rw [KG (by omega) hl] at hI
   simp (disch:=omega) only [go_sem,hl,e2,c3,c4,A3.get,bX,bL]
   have W:=A3.swap (i:=m+1) (j:=m) (nx:=h3.next+18) (by omega) rfl
   exact ⟨m,by omega,m,_,aA rfl,by omega,by omega,W.1,hI,gI (gI F (Fx.of f3')) W.2,rfl⟩
 ·have e1:decide ((a:Int)<(j:Int))=false:=decide_eq_false haj
  rw [KW (by omega)] at hI
  simp (disch:=omega) only [go_sem,e1]
  rw [iJ i]
  rw [←hI] at hR
  have f3:Fr h2 (H.mk h2.tr (h2.next+15)):=(Fr.refl h2).bF (by omega)
  exact ⟨b+1-(i+1),by omega,i+1,e',aA rfl,by omega,by omega,A.fr f3,hR,gI F (Fx.of f3),rfl⟩
def KQ (lt:Int->Int->Bool) (hi first root:Nat) (d:Array Int):Nat:=if 2*root+1+1<hi/\lt d[first+(2*root+1)]! d[first+(2*root+1)+1]! =true then 2*root+2 else 2*root+1
theorem Kp {lt:Int->Int->Bool} (hi first root:Nat) (d:Array Int):siftDown lt hi first root d=if 2*root+1≥hi then d else
  if lt d[first+root]! d[first+KQ lt hi first root d]! =true then siftDown lt hi first (KQ lt hi first root d) (swp d (first+root) (first+KQ lt hi first root d)) else d:=by
 rw [siftDown]
 unfold KQ
 by_cases h1:2*root+1≥hi
 ·rw [dif_pos h1,if_pos h1]
 ·rw [dif_neg h1,if_neg h1]
  by_cases h2:2*root+1+1<hi/\lt d[first+(2*root+1)]! d[first+(2*root+1)+1]! =true
  ·rw [if_pos (by simpa using h2),if_pos h2]
   cases h3:lt d[first+root]! d[first+(2*root+2)]!
   ·simp
   ·simp [show 2*root+2<hi by omega]
  ·rw [if_neg (by simpa using h2),if_neg h2]
   cases h3:lt d[first+root]! d[first+(2*root+1)]! <;>simp
theorem tL  (h:H) (S N lo hi first:Nat) (d:Array Int) (cp:uO) (hN:N<1000000) (A:dV h S N d) (hb:first+hi<=N) (hlo:lo<=hi):
  Ev T uP [.sl S 0 N cp,aB lo,aB hi,aB first] h (λ _ h'=>dV h' S N (siftDown ltInt hi first lo d)/\Fx (· =S) h h'):=by
 refine aZ uU rfl ?_
 simp (disch:=omega) only [go_sem,eX,aF]
 refine aJ (λ k' vars hh=> ∃ (r:Nat) (e:Array Int),(∃ g:Nat->V,vars= [.sl S 0 N cp,aB lo,aB hi,aB first,aB r,g 5,g 6,g 7,g 8])/\r<=hi/\dV hh S N e/\siftDown ltInt hi first r e=siftDown ltInt hi first lo d/\Fx (· =S) h hh/\k'=hi-r) (hi-lo)
  ⟨lo,d,aA rfl,hlo,A,rfl,Fx.refl _ h,rfl⟩ ?_
 clear A
 rintro k' vars h1 ⟨r,e,⟨g,rfl⟩,hr,A,hR,F,rfl⟩
 have e0:2*(r:Int)+1=((2*r+1:Nat):Int):=by omega
 by_cases hge:(hi:Int)<=((2*r+1:Nat):Int)
 ·have eg:decide ((hi:Int)<=((2*r+1:Nat):Int))=true:=decide_eq_true hge
  simp (disch:=omega) only [go_sem,e0,eg]
  rw [Kp,if_pos (by omega)] at hR
  rw [←hR]
  exact ⟨A,F⟩
 have eg:decide ((hi:Int)<=((2*r+1:Nat):Int))=false:=decide_eq_false hge
 rw [Kp,if_neg (by omega)] at hR
 have ec:((2*r+1:Nat):Int)+1=((2*r+2:Nat):Int):=by omega
 have ef0:(first:Int)+(r:Int)=((first+r:Nat):Int):=by omega
 have ef1:(first:Int)+((2*r+1:Nat):Int)=((first+(2*r+1):Nat):Int):=by omega
 have ef2:(first:Int)+((2*r+2:Nat):Int)=((first+(2*r+2):Nat):Int):=by omega
 have ef3:((first+(2*r+1):Nat):Int)+1=((first+(2*r+1)+1:Nat):Int):=by omega
 have sz:=A.size
 by_cases hc2:((2*r+2:Nat):Int)<(hi:Int)
 ·have e2:decide (((2*r+2:Nat):Int)<(hi:Int))=true:=decide_eq_true hc2
  have c1:=A.rd (i:=first+(2*r+1)) (by omega)
  have c2:=A.rd (i:=first+(2*r+1)+1) (by omega)
  simp (disch:=omega) only [go_sem,e0,eg,ec,e2,ef1,ef3,c1,c2]
  refine (gQ _ _ _).mono ?_
  rintro _ h2 ⟨rfl,fh2⟩
  have f2:Fr h1 h2:=Fr.trans ((Fr.refl h1).bF (by omega)) fh2
  have A2:=A.fr f2
  have c0:=A2.rd (i:=first+r) (by omega)
  have c1:=A2.rd (i:=first+(2*r+1)) (by omega)
  have c2:=A2.rd (i:=first+(2*r+2)) (by omega)
  cases hl:ltInt e[first+(2*r+1)]! e[first+(2*r+1)+1]! with
  |false=>
   have hch:KQ ltInt hi first r e=2*r+1:=if_neg (by rw [hl];simp)
   rw [hch] at hR
   simp (disch:=omega) only [go_sem,hl,ef0,ef1,c0,c1]
   refine (gQ _ _ _).mono ?_
   rintro _ h3 ⟨rfl,fh3⟩
   have f3:Fr h2 h3:=Fr.trans ((Fr.refl h2).bF (by omega)) fh3
   have A3:=A2.fr f3
   have c0:=A3.rd (i:=first+r) (by omega)
   have c1:=A3.rd (i:=first+(2*r+1)) (by omega)
   have F3:=gI (gI F (Fx.of f2)) (Fx.of f3)
   cases hl2:ltInt e[first+r]! e[first+(2*r+1)]! with
   |false=>
    rw [if_neg (by rw [hl2];simp)] at hR
    simp (disch:=omega) only [go_sem,hl2]
    rw [←hR]
    exact ⟨A3,F3⟩
   |true=>
    rw [if_pos hl2] at hR
    simp (disch:=omega) only [go_sem,hl2,ef0,ef1,c0,c1,A3.get,bX,bL]
    have W:=A3.swap (i:=first+r) (j:=first+(2*r+1)) (nx:=h3.next+24) (by omega) rfl
    exact ⟨hi-(2*r+1),by omega,2*r+1,_,aA rfl,by omega,W.1,hR,gI F3 W.2,rfl⟩
  |true=>
   have hch:KQ ltInt hi first r e=2*r+2:=if_pos ⟨by omega,hl⟩
   rw [hch] at hR
   simp (disch:=omega) only [go_sem,hl,ec,ef0,ef2,c0,c2]
   refine (gQ _ _ _).mono ?_
   rintro _ h3 ⟨rfl,fh3⟩
   have f3:Fr h2 h3:=Fr.trans ((Fr.refl h2).bF (by omega)) fh3
   have A3:=A2.fr f3
   have c0:=A3.rd (i:=first+r) (by omega)
   have c2:=A3.rd (i:=first+(2*r+2)) (by omega)
   have F3:=gI (gI F (Fx.of f2)) (Fx.of f3)
   cases hl2:ltInt e[first+r]! e[first+(2*r+2)]! with
   |false=>
    rw [if_neg (by rw [hl2];simp)] at hR
    simp (disch:=omega) only [go_sem,hl2]
    rw [←hR]
    exact ⟨A3,F3⟩
   |true=>
    rw [if_pos hl2] at hR
    simp (disch:=omega) only [go_sem,hl2,ef0,ef2,c0,c2,A3.get,bX,bL]
    have W:=A3.swap (i:=first+r) (j:=first+(2*r+2)) (nx:=h3.next+24) (by omega) rfl
    exact ⟨hi-(2*r+2),by omega,2*r+2,_,aA rfl,by omega,W.1,hR,gI F3 W.2,rfl⟩
 ·have e2:decide (((2*r+2:Nat):Int)<(hi:Int))=false:=decide_eq_false hc2
  have hch:KQ ltInt hi first r e=2*r+1:=if_neg (by omega)
  rw [hch] at hR
  have f2:Fr h1 (H.mk h1.tr (h1.next+20)):=(Fr.refl h1).bF (by omega)
  have A2:=A.fr f2
  have c0:=A.rd (i:=first+r) (by omega)
  have c1:=A.rd (i:=first+(2*r+1)) (by omega)
  simp (disch:=omega) only [go_sem,e0,eg,ec,e2,ef0,ef1,c0,c1]
  refine (gQ _ _ _).mono ?_
  rintro _ h3 ⟨rfl,fh3⟩
  have f3:Fr h1 h3:=Fr.trans ((Fr.refl h1).bF (by omega)) fh3
  have A3:=A.fr f3
  have c0:=A3.rd (i:=first+r) (by omega)
  have c1:=A3.rd (i:=first+(2*r+1)) (by omega)
  have F3:=gI F (Fx.of f3)
  cases hl2:ltInt e[first+r]! e[first+(2*r+1)]! with
  |false=>
   rw [if_neg (by rw [hl2];simp)] at hR
   simp (disch:=omega) only [go_sem,hl2]
   rw [←hR]
   exact ⟨A3,F3⟩
  |true=>
   rw [if_pos hl2] at hR
   simp (disch:=omega) only [go_sem,hl2,ef0,ef1,c0,c1,A3.get,bX,bL]
   have W:=A3.swap (i:=first+r) (j:=first+(2*r+1)) (nx:=h3.next+24) (by omega) rfl
   exact ⟨hi-(2*r+1),by omega,2*r+1,_,aA rfl,by omega,W.1,hR,gI F3 W.2,rfl⟩
theorem Fe  (h:H) (S N a b:Nat) (d:Array Int) (cp:uO) (hN:N<1000000) (A:dV h S N d) (hb:b<=N) (hab:a<=b):
  Ev T uW [.sl S 0 N cp,aB a,aB b] h (λ _ h'=>dV h' S N (heapSort ltInt d a b)/\Fx (· =S) h h'):=by
 refine aZ uR rfl ?_
 obtain ⟨n,hn⟩: ∃ n,b-a=n:=⟨_,rfl⟩
 have en:(b:Int)-(a:Int)=(n:Int):=by omega
 have ed:((n:Int)- 1).tdiv 2=(((n- 1)/2+1:Nat):Int)- 1:=by
  by_cases h0:n=0
  ·subst h0;decide
  ·rw [Int.tdiv_eq_ediv_of_nonneg (by omega)];omega
 simp (disch:=omega) only [go_sem,eY,aF,en,ed]
 refine aJ (λ k' vars hh=> ∃ (k:Nat) (e:Array Int),(∃ g:Nat->V,vars= [.sl S 0 N cp,aB a,aB b,aB a,aB 0,aB n,aB ((k:Int)- 1),g 7,g 8,g 9])/\k<=n+1/\(k=1∨k<=n)/\dV hh S N e/\heapBuild ltInt n a k e=heapBuild ltInt n a ((n- 1)/2+1) d/\Fx (· =S) h hh/\k'=k) ((n- 1)/2+1)
  ⟨(n- 1)/2+1,d,aA rfl,by omega,by omega,A,rfl,Fx.refl _ h,rfl⟩ ?_
 clear A
 rintro k' vars h1 ⟨k,e,⟨g,rfl⟩,hk1,hk2,A,hR,F,hk⟩
 subst hk
 by_cases hlt:(0:Int)<=(k':Int)- 1
 ·have e1:=mG hlt
  obtain ⟨m,rfl⟩: ∃ m,k'=m+1:=⟨k'- 1,by omega⟩
  have e2:((m+1:Nat):Int)- 1=(m:Int):=by omega
  rw [e2] at e1
  rw [e2]
  simp (disch:=omega) only [go_sem,e1]
  refine (tL h1 S N m n a e cp hN A (by omega) (by omega)).mono ?_
  rintro _ h2 ⟨A2,F2⟩
  simp (disch:=omega) only [go_sem]
  exact ⟨m,by omega,m,_,aA rfl,by omega,by omega,A2,hR,gI F F2,rfl⟩
 have e1:=gJ hlt
 obtain rfl:k'=0:=by omega
 have hR:e=heapBuild ltInt n a ((n- 1)/2+1) d:=hR
 simp (disch:=omega) only [go_sem,e1]
 refine aJ (λ k' vars hh=> ∃ (k:Nat) (e':Array Int),(∃ g:Nat->V,vars= [.sl S 0 N cp,aB a,aB b,aB a,aB 0,aB n,g 6,aB ((k:Int)- 1),g 8,g 9])/\k<=n/\dV hh S N e'/\heapPop ltInt a k e'=heapPop ltInt a n e/\Fx (· =S) h hh/\k'=k) n
  ⟨n,e,aA rfl,by omega,A,rfl,F,rfl⟩ ?_
 clear A F hlt e1 hk1 hk2
 rintro k' vars h2 ⟨k,e',⟨g,rfl⟩,hk1,A,hP,F,hk⟩
 subst hk
 have sz:=A.size
 by_cases hlt:(0:Int)<=(k':Int)- 1
 ·have e1:=mG hlt
  obtain ⟨m,rfl⟩: ∃ m,k'=m+1:=⟨k'- 1,by omega⟩
  have e2:((m+1:Nat):Int)- 1=(m:Int):=by omega
  rw [e2] at e1
  rw [e2]
  have e3:(a:Int)+(m:Int)=((a+m:Nat):Int):=by omega
  have c1:=A.rd (i:=a+m) (by omega)
  have c2:=A.rd (i:=a) (by omega)
  simp (disch:=omega) only [go_sem,e1,e3,c1,c2,A.get,bX,bL]
  have W:=A.swap (i:=a) (j:=a+m) (nx:=h2.next+20) (by omega) rfl
  have s0:=tL _ S N 0 m a _ cp hN W.1 (by omega) (by omega)
  refine s0.mono ?_
  rintro _ h3 ⟨A3,F3⟩
  simp (disch:=omega) only [go_sem]
  exact ⟨m,by omega,m,_,aA rfl,by omega,A3,hP,gI (gI F W.2) F3,rfl⟩
 have e1:=gJ hlt
 obtain rfl:k'=0:=by omega
 simp (disch:=omega) only [go_sem,e1]
 have hP:e'=heapPop ltInt a n e:=hP
 have:heapSort ltInt d a b=e':=by unfold heapSort;rw [hn,hP,hR]
 rw [this]
 exact ⟨A,F⟩
def acH (op:BinOp) (k:IntKind) (x y:V):Option V:=match x,y with
 | .int j a,.int _ b=>if j=k then Ej op k a b else none
 |_,_=>none
theorem Fj (ρ:X->V) (h:H) (op:BinOp) (k:IntKind) (x y:X):cY ρ h (.shf op k x y)=(acH op k (ρ x) (ρ y)).map (·,h):=by
 simp only [cY,acH]
 cases ρ x<;>cases ρ y<;>try rfl
 simp only
 split<;>rfl
theorem zN (op:BinOp) (k j:IntKind) (a b:Int):acH op k (.int k a) (.int j b)=Ej op k a b:=by simp [acH]
theorem FJ (n:Int):0<=IntKind.u64.wrap n/\IntKind.u64.wrap n<18446744073709551616:=by
 unfold IntKind.wrap
 simp only [IntKind.bits,IntKind.signed]
 have:=Int.emod_nonneg n (show (18446744073709551616:Int)≠0 by omega)
 have:=Int.emod_lt_of_pos n (show (0:Int)<18446744073709551616 by omega)
 simp
 omega
theorem fT {n:Int} (h1:0<=n) (h2:n<18446744073709551616):IntKind.u64.wrap n=n:=by
 unfold IntKind.wrap
 simp only [IntKind.bits,IntKind.signed]
 have:n%18446744073709551616=n:=Int.emod_eq_of_lt h1 h2
 simp
 exact this
theorem Jb {n:Int} (h1:0<=n) (h2:n<256):IntKind.u8.wrap n=n:=by
 unfold IntKind.wrap
 simp only [IntKind.bits,IntKind.signed]
 have:n%256=n:=Int.emod_eq_of_lt h1 h2
 simp
 exact this
theorem PC (a b:Int) (hb:0<=b): ∃ y,Ej .shl .u64 a b=some (.int .u64 y)/\0<=y/\y<18446744073709551616:=by
 unfold Ej
 rw [if_neg (by omega)]
 exact ⟨_,rfl,FJ _⟩
theorem afS (a b:Int) (hb:0<=b): ∃ y,Ej .shr .u64 a b=some (.int .u64 y):=by
 unfold Ej
 rw [if_neg (by omega)]
 exact ⟨_,rfl⟩
theorem UC {x:Nat}:Ej .shr .u64 (x:Int) 8=some (.int .u64 ((x/256:Nat):Int)):=by
 unfold Ej
 rw [if_neg (by omega)]
 simp only
 congr 2
 show Int.fdiv (x:Int) 256=_
 rw [Int.fdiv_eq_ediv_of_nonneg _ (by omega)];rfl
theorem BF (a b:Int): ∃ y,arith .xor .u64 a b=some (.int .u64 y)/\0<=y/\y<18446744073709551616:=⟨_,rfl,FJ _⟩
theorem NO (a:Int) (b:Nat) (hb:b<18446744073709551616): ∃ y:Nat,arith .and .u64 a (b:Int)=some (.int .u64 (y:Int))/\y<=b:=by
 refine ⟨(BitVec.ofInt 64 a&&&BitVec.ofInt 64 (b:Int)).toNat,?_,?_⟩
 ·rw [Yh]
  congr 2
  show IntKind.u64.wrap (((BitVec.ofInt 64 a&&&BitVec.ofInt 64 (b:Int)).toNat:Nat):Int)=_
  have:=(BitVec.ofInt 64 a&&&BitVec.ofInt 64 (b:Int)).isLt
  generalize (BitVec.ofInt 64 a&&&BitVec.ofInt 64 (b:Int)).toNat=w at*
  exact fT (by omega) (by omega)
 ·rw [BitVec.toNat_and]
  have:(BitVec.ofInt 64 (b:Int)).toNat=b:=by
   simp [BitVec.toNat_ofInt];omega
  rw [this]
  exact Nat.and_le_right
theorem aaI: ∀ z,z<256->([0,1,2,2,3,3,3,3,4,4,4,4,4,4,4,4,5,5,5,5,5,5,5,5,5,5,5,5,5,5,5,5,6,6,6,6,6,6,6,6,6,6,6,6,6,6,6,6,6,6,6,6,6,6,6,6,6,6,6,6,6,6,6,6,7,7,7,7,7,7,7,7,7,7,7,7,7,7,7,7,7,7,7,7,7,7,7,7,7,7,7,7,7,7,7,7,7,7,7,7,7,7,7,7,7,7,7,7,7,7,7,7,7,7,7,7,7,7,7,7,7,7,7,7,7,7,7,7,8,8,8,8,8,8,8,8,8,8,8,8,8,8,8,8,8,8,8,8,8,8,8,8,8,8,8,8,8,8,8,8,8,8,8,8,8,8,8,8,8,8,8,8,8,8,8,8,8,8,8,8,8,8,8,8,8,8,8,8,8,8,8,8,8,8,8,8,8,8,8,8,8,8,8,8,8,8,8,8,8,8,8,8,8,8,8,8,8,8,8,8,8,8,8,8,8,8,8,8,8,8,8,8,8,8,8,8,8,8,8,8,8,8,8,8,8,8,8,8,8,8,8,8,8,8,8,8][z]? :Option Nat)=some (bitsLen z):=by decide+kernel
theorem NN {z:Nat} (hz:z<256):agY (.str [0,1,2,2,3,3,3,3,4,4,4,4,4,4,4,4,5,5,5,5,5,5,5,5,5,5,5,5,5,5,5,5,6,6,6,6,6,6,6,6,6,6,6,6,6,6,6,6,6,6,6,6,6,6,6,6,6,6,6,6,6,6,6,6,7,7,7,7,7,7,7,7,7,7,7,7,7,7,7,7,7,7,7,7,7,7,7,7,7,7,7,7,7,7,7,7,7,7,7,7,7,7,7,7,7,7,7,7,7,7,7,7,7,7,7,7,7,7,7,7,7,7,7,7,7,7,7,7,8,8,8,8,8,8,8,8,8,8,8,8,8,8,8,8,8,8,8,8,8,8,8,8,8,8,8,8,8,8,8,8,8,8,8,8,8,8,8,8,8,8,8,8,8,8,8,8,8,8,8,8,8,8,8,8,8,8,8,8,8,8,8,8,8,8,8,8,8,8,8,8,8,8,8,8,8,8,8,8,8,8,8,8,8,8,8,8,8,8,8,8,8,8,8,8,8,8,8,8,8,8,8,8,8,8,8,8,8,8,8,8,8,8,8,8,8,8,8,8,8,8,8,8,8,8,8,8]) (.int .u8 (z:Int))=some (.int .u8 ((bitsLen z:Nat):Int)):=by
 have hl:bitsLen z<=8:=(bitsLen_le_iff z 8).2 (by omega)
 have hb:=aaI z hz
 generalize ([0,1,2,2,3,3,3,3,4,4,4,4,4,4,4,4,5,5,5,5,5,5,5,5,5,5,5,5,5,5,5,5,6,6,6,6,6,6,6,6,6,6,6,6,6,6,6,6,6,6,6,6,6,6,6,6,6,6,6,6,6,6,6,6,7,7,7,7,7,7,7,7,7,7,7,7,7,7,7,7,7,7,7,7,7,7,7,7,7,7,7,7,7,7,7,7,7,7,7,7,7,7,7,7,7,7,7,7,7,7,7,7,7,7,7,7,7,7,7,7,7,7,7,7,7,7,7,7,8,8,8,8,8,8,8,8,8,8,8,8,8,8,8,8,8,8,8,8,8,8,8,8,8,8,8,8,8,8,8,8,8,8,8,8,8,8,8,8,8,8,8,8,8,8,8,8,8,8,8,8,8,8,8,8,8,8,8,8,8,8,8,8,8,8,8,8,8,8,8,8,8,8,8,8,8,8,8,8,8,8,8,8,8,8,8,8,8,8,8,8,8,8,8,8,8,8,8,8,8,8,8,8,8,8,8,8,8,8,8,8,8,8,8,8,8,8,8,8,8,8,8,8,8,8,8,8]:List Nat)=l at*
 unfold agY
 simp only
 rw [if_pos (by omega),Int.toNat_natCast,hb]
 simp only [Option.map_some]
 rw [Nat.mod_eq_of_lt (by omega)]
theorem WI {x:Nat} (h:256<=x):bitsLen x=8+bitsLen (x/256):=by
 apply Nat.le_antisymm
 ·rw [bitsLen_le_iff,Nat.pow_add]
  have:=lt_two_pow_bitsLen (x/256)
  omega
 ·have h1:=lt_two_pow_bitsLen x
  have h2: ¬bitsLen x<=8:=λ h3=>by rw [bitsLen_le_iff] at h3;omega
  obtain ⟨k,hk⟩: ∃ k,bitsLen x=8+k:=⟨bitsLen x- 8,by omega⟩
  rw [hk,Nat.pow_add] at h1
  have:bitsLen (x/256)<=k:=(bitsLen_le_iff _ _).2 (by omega)
  omega
theorem WD (x:Nat) (h:H) (hx:x<65536):Ev T Lz [.int .u64 (x:Int)] h (λ v h'=>v= aB (bitsLen x:Nat)/\h'=h):=by
 refine aZ Mj rfl ?_
 have e1:decide ((4294967296:Int)<=(x:Int))=false:=gJ (by omega)
 have e2:decide ((65536:Int)<=(x:Int))=false:=gJ (by omega)
 by_cases h3:256<=x
 ·have e3:decide ((256:Int)<=(x:Int))=true:=mG (by omega)
  have hb:=WI h3
  have hl:bitsLen (x/256)<=8:=(bitsLen_le_iff _ 8).2 (by omega)
  simp (disch:=omega) only [go_sem,jU,aF,e1,e2,e3,Fj,zN,UC,NT,NN,Jb]
  exact ⟨by congr 1;omega,trivial⟩
 ·have e3:decide ((256:Int)<=(x:Int))=false:=gJ (by omega)
  have hl:bitsLen x<=8:=(bitsLen_le_iff _ 8).2 (by omega)
  simp (disch:=omega) only [go_sem,jU,aF,e1,e2,e3,NT,NN,Jb]
  exact ⟨by congr 1;omega,trivial⟩
theorem JC (x:Nat) (h:H) (hx:x<65536):Ev T Py [.int .u64 (x:Int)] h (λ v h'=>v= aB (bitsLen x:Nat)/\h'=h):=by
 refine aZ Ps rfl ?_
 simp (disch:=omega) only [go_sem,pG,aF]
 refine (WD x h hx).mono ?_
 rintro _ _ ⟨rfl,rfl⟩
 simp (disch:=omega) only [go_sem]
theorem NG (n:Nat) (h:H) (hx:n<65536):Ev T zL [aB n] h (λ v h'=>v= .int .u64 ((2^bitsLen n:Nat):Int)/\h'=h):=by
 refine aZ zP rfl ?_
 have hl:bitsLen n<=16:=(bitsLen_le_iff _ 16).2 (by omega)
 have hp:2^bitsLen n<=2^16:=Nat.pow_le_pow_right (by omega) hl
 obtain ⟨m,hm⟩: ∃ m,2^bitsLen n=m:=⟨_,rfl⟩
 rw [hm] at hp ⊢
 have hs:Ej .shl .u64 1 ((bitsLen n:Nat):Int)=some (.int .u64 (m:Int)):=by
  unfold Ej
  rw [if_neg (by omega)]
  simp only [Int.toNat_natCast,IntKind.bits]
  rw [Nat.min_eq_left (by omega)]
  have e:(1:Int)*2^bitsLen n=(m:Int):=by rw [Int.one_mul,←hm];push_cast;rfl
  rw [e,fT (by omega) (by omega)]
 simp (disch:=omega) only [go_sem,iC,aF,fT (n:=(n:Int)) (by omega) (by omega)]
 refine (JC n h hx).mono ?_
 rintro _ _ ⟨rfl,rfl⟩
 simp (disch:=omega) only [go_sem,Fj,zN,hs]
theorem OI (R:Nat) (x:Int) (h:H) (hx:h.get R=some (.cells false [.int .u64 x])) (hR:R<h.next):
  Ev T Ar [.ptr R 0] h (λ v h'=> ∃ y,v= .int .u64 y/\h'.get R=some (.cells false [.int .u64 y])/\Fx (· =R) h h'):=by
 refine aZ Bd rfl ?_
 have cx:h.cell R 0=some (.int .u64 x):=by rw [H.aG hx];rfl
 obtain ⟨a1,ha1,_⟩:=PC x 13 (by omega)
 obtain ⟨x1,hx1,_⟩:=BF x a1
 obtain ⟨a2,ha2⟩:=afS x1 7 (by omega)
 obtain ⟨x2,hx2,_⟩:=BF x1 a2
 obtain ⟨a3,ha3,_⟩:=PC x2 17 (by omega)
 obtain ⟨x3,hx3,_⟩:=BF x2 a3
 have pt: ∀ (u w:Int) (hh:H),fI (some (.cells false [.int .u64 u])) hh R 0 [.int .u64 w]=some (hh.set R (some (.cells false [.int .u64 w]))):=λ u w hh=>bT (by simp) hh R _
 simp (disch:=omega) only [go_sem,iR,aF,cx,Fj,zN,ha1,hx1,ha2,hx2,ha3,hx3,hx,pt]
 exact ⟨x3,rfl,rfl,⟨by simp only [H.cG];omega,λ id _ h2=>by
  rw [H.aH _ h2,H.sS,H.aH _ h2,H.sS,H.aH _ h2,H.sS]⟩⟩
theorem dV.RZ  {h h':H} {S N R:Nat} {d:Array Int} (A:dV h S N d) (f:Fx (· =R) h h') (hR:R≠S):dV h' S N d:=⟨by rw [f.get S A.lt (λ e=>hR e.symm)];exact A.get,A.size,mM A.lt f.next⟩
theorem Jl  (h:H) (S N a b:Nat) (d:Array Int) (cp:uO) (hN:N<1000000) (A:dV h S N d) (hb:b<=N) (hab:a<b):
  Ev T qV [.sl S 0 N cp,aB a,aB b] h (λ _ h'=>dV h' S N (reverseRange d a b)/\Fx (· =S) h h'):=by
 refine aZ rH rfl ?_
 have eb:(b:Int)- 1=((b- 1:Nat):Int):=by omega
 simp (disch:=omega) only [go_sem,dY,aF,eb]
 refine aJ (λ k' vars hh=> ∃ (i j:Nat) (e:Array Int),(∃ g:Nat->V,vars= [.sl S 0 N cp,aB a,aB b,aB i,aB j,g 5])/\j<b/\i<=b/\dV hh S N e/\reverseLoop i j e=reverseLoop a (b- 1) d/\Fx (· =S) h hh/\k'=j) (b- 1)
  ⟨a,b- 1,d,aA rfl,by omega,by omega,A,rfl,Fx.refl _ h,rfl⟩ ?_
 clear A
 rintro k' vars h1 ⟨i,j,e,⟨g,rfl⟩,hj,hi,A,hR,F,hk⟩
 subst hk
 have sz:=A.size
 rw [reverseLoop] at hR
 by_cases hlt:(i:Int)<(k':Int)
 ·have e1:=mG hlt
  rw [if_pos (by omega)] at hR
  have c1:=A.rd (i:=i) (by omega)
  have c2:=A.rd (i:=k') (by omega)
  simp (disch:=omega) only [go_sem,e1,c1,c2,A.get,bX,bL]
  have W:=A.swap (i:=i) (j:=k') (nx:=h1.next+16) (by omega) rfl
  rw [show (i:Int)+1=((i+1:Nat):Int) from by omega,show (k':Int)- 1=((k'- 1:Nat):Int) from by omega]
  exact ⟨k'- 1,by omega,i+1,k'- 1,_,aA rfl,by omega,by omega,W.1,hR,gI F W.2,rfl⟩
 have e1:=gJ hlt
 rw [if_neg (by omega)] at hR
 simp (disch:=omega) only [go_sem,e1]
 unfold reverseRange
 rw [←hR]
 exact ⟨A,F⟩
theorem Si (n:Nat) {k:Int} {m:Nat} (hk:k=(m:Int)):(n:Int).tdiv k=((n/m:Nat):Int):=by
 rw [hk,Int.tdiv_eq_ediv_of_nonneg (by omega)];rfl
theorem Ru  (h:H) (S N a b:Nat) (d:Array Int) (cp:uO) (hN:N<60000) (A:dV h S N d) (hb:b<=N) (hab:a<=b):
  Ev T qL [.sl S 0 N cp,aB a,aB b] h (λ _ h'=> ∃ e,dV h' S N e/\PermIn a b d e/\Fx (· =S) h h'):=by
 refine aZ qH rfl ?_
 obtain ⟨n,hn⟩: ∃ n,b-a=n:=⟨_,rfl⟩
 have en:(b:Int)-(a:Int)=(n:Int):=by omega
 by_cases h8:(8:Int)<=(n:Int)
 case neg=>
  have e8:decide ((8:Int)<=(n:Int))=false:=decide_eq_false h8
  simp (disch:=omega) only [go_sem,dE,aF,en,e8]
  exact ⟨d,A,permIn_refl d a b,Fx.refl _ h⟩
 have e8:decide ((8:Int)<=(n:Int))=true:=decide_eq_true h8
 have e4:=Si n (k:=4) (m:=4) rfl
 obtain ⟨q,hq⟩: ∃ q,n/4=q:=⟨_,rfl⟩
 rw [hq] at e4
 have ei:(a:Int)+(q:Int)*2- 1=((a+q*2- 1:Nat):Int):=by omega
 have ej:(a:Int)+(q:Int)*2+1=((a+q*2+1:Nat):Int):=by omega
 have hp:=two_pow_bitsLen_le (show 0<n by omega)
 have hp1:=lt_two_pow_bitsLen n
 obtain ⟨m,hm⟩: ∃ m,2^bitsLen n=m:=⟨_,rfl⟩
 rw [hm] at hp hp1
 obtain ⟨R,hR⟩: ∃ R,h.next=R:=⟨_,rfl⟩
 have hRS:R≠S:=by have:=A.lt;omega
 have pt0: ∀ hh:H,fI (bQ [.int .u64 0]) hh R 0 [.int .u64 (n:Int)]=some (hh.set R (bQ [.int .u64 (n:Int)])):=λ hh=>bT (by simp) hh R _
 have gnew:(h.new (.cells false [.int .u64 0])).get R=bQ [.int .u64 0]:=by rw [←hR,H.aQ]
 simp (disch:=omega) only [go_sem,dE,aF,en,e8,hR,fT (n:=(n:Int)) (by omega) (by omega),gnew,pt0]
 obtain ⟨h1,h1e⟩: ∃ h1,h1=(h.new (.cells false [.int .u64 0])).set R (bQ [.int .u64 (n:Int)]):=⟨_,rfl⟩
 rw [←h1e]
 have g1:h1.get R=bQ [.int .u64 (n:Int)]:=by rw [h1e,H.aW]
 have n1:h1.next=R+1:=by rw [h1e,H.cG,H.bD,hR]
 have f1:Fr h h1:=by rw [h1e];exact ((Fr.refl h).new _).set (by omega) _
 clear h1e
 refine (NG n h1 (by omega)).mono ?_
 rintro _ h1' ⟨rfl,hh⟩
 rw [hh,hm]
 simp (disch:=omega) only [go_sem,e4,ei]
 refine aJ (λ k' vars hh=> ∃ (i:Nat) (e:Array Int) (x:Int),(∃ g:Nat->V,vars= [.sl S 0 N cp,aB a,aB b,aB n,.ptr R 0,.int .u64 (m:Int),aB i,g 7,g 8,g 9,g 10])/\a<=i/\i<=a+q*2+2/\dV hh S N e/\PermIn a b d e/\hh.get R=bQ [.int .u64 x]/\R<hh.next/\Fx (· =S) h hh/\k'=a+q*2+2-i) (a+q*2+2-(a+q*2- 1))
  ⟨a+q*2- 1,d,_,aA rfl,by omega,by omega,A.fr f1,permIn_refl d a b,g1,by omega,Fx.of f1,rfl⟩ ?_
 clear A g1 n1 f1 hh h1
 rintro k' vars h1 ⟨i,e,x,⟨g,rfl⟩,hi1,hi2,A,hP,gR,nR,F,rfl⟩
 by_cases hlt:(i:Int)<=((a+q*2+1:Nat):Int)
 case neg=>
  have e1:decide ((i:Int)<=((a+q*2+1:Nat):Int))=false:=decide_eq_false hlt
  simp (disch:=omega) only [go_sem,e4,ej,e1]
  exact ⟨e,A,hP,F⟩
 have e1:decide ((i:Int)<=((a+q*2+1:Nat):Int))=true:=decide_eq_true hlt
 simp (disch:=omega) only [go_sem,e4,ej,e1]
 refine (OI R x h1 gR nR).mono ?_
 rintro _ h2 ⟨y,rfl,gR2,F2⟩
 have A2:=A.RZ F2 hRS
 obtain ⟨w,hw,hwm⟩:=NO y (m- 1) (by omega)
 have em:(m:Int)- 1=((m- 1:Nat):Int):=by omega
 have sz:=A2.size
 have F2':Fx (· =S) h h2:=⟨Nat.le_trans F.next F2.next,λ id h3 h4=>(F2.get id (mM h3 F.next) (λ e=>by have:id=R:=e;omega)).trans (F.get id h3 h4)⟩
 have nR2:R<h2.next:=mM nR F2.next
 by_cases hge:(n:Int)<=(w:Int)
 ·have e2:decide ((n:Int)<=(w:Int))=true:=decide_eq_true hge
  have e3:(w:Int)-(n:Int)=((w-n:Nat):Int):=by omega
  have e5:(a:Int)+((w-n:Nat):Int)=((a+(w-n):Nat):Int):=by omega
  have c1:=A2.rd (i:=i) (by omega)
  have c2:=A2.rd (i:=a+(w-n)) (by omega)
  simp (disch:=omega) only [go_sem,em,fT (n:=((m- 1:Nat):Int)) (by omega) (by omega),hw,e2,e3,e5,c1,c2,A2.get,bX,bL]
  have W:=A2.swap (i:=i) (j:=a+(w-n)) (nx:=h2.next+20) (by omega) rfl
  rw [iJ i]
  refine ⟨a+q*2+2-(i+1),by omega,i+1,_,y,aA rfl,by omega,by omega,W.1,permIn_trans _ _ _ a b hP (swp_permIn e a b i (a+(w-n)) hi1 (by omega) (by omega) (by omega) (by omega)),?_,mM nR2 W.2.next,gI F2' W.2,rfl⟩
  exact gR2
 ·have e2:decide ((n:Int)<=(w:Int))=false:=decide_eq_false hge
  have e5:(a:Int)+(w:Int)=((a+w:Nat):Int):=by omega
  have c1:=A2.rd (i:=i) (by omega)
  have c2:=A2.rd (i:=a+w) (by omega)
  simp (disch:=omega) only [go_sem,em,fT (n:=((m- 1:Nat):Int)) (by omega) (by omega),hw,e2,e5,c1,c2,A2.get,bX,bL]
  have W:=A2.swap (i:=i) (j:=a+w) (nx:=h2.next+20) (by omega) rfl
  rw [iJ i]
  refine ⟨a+q*2+2-(i+1),by omega,i+1,_,y,aA rfl,by omega,by omega,W.1,permIn_trans _ _ _ a b hP (swp_permIn e a b i (a+w) hi1 (by omega) (by omega) (by omega) (by omega)),?_,mM nR2 W.2.next,gI F2' W.2,rfl⟩
  exact gR2
structure IN (h h':H) (R:Nat):Prop where
 get: ∃ s,h'.get R=bQ [aB s]
 fx:Fx (· =R) h h'
theorem IN.trans {a b c:H} {R:Nat} (x:IN a b R) (y:IN b c R):IN a c R:=⟨y.get,x.fx.trans y.fx λ _ _ h=>h⟩
theorem sJ  (h:H) (S N a b R:Nat) (d:Array Int) (cp:uO) (hN:N<1000000) (A:dV h S N d) (ha:a<N) (hb:b<N) (hR:R≠S) (hRn:R<h.next) (s:Int) (gR:h.get R=bQ [aB s]):
  Ev T wU [.sl S 0 N cp,aB a,aB b,.ptr R 0] h (λ v h'=>(v= .tup [aB a,aB b]∨v= .tup [aB b,aB a])/\IN h h' R):=by
 refine aZ xQ rfl ?_
 have c1:=A.rd (i:=a) (by omega)
 have c2:=A.rd (i:=b) (by omega)
 simp (disch:=omega) only [go_sem,fN,aF,c1,c2]
 refine (gQ _ _ _).mono ?_
 rintro _ h2 ⟨rfl,fh2⟩
 have f2:Fr h h2:=Fr.trans ((Fr.refl h).bF (by omega)) fh2
 have gR2:h2.get R=bQ [aB s]:=by rw [f2.get R hRn];exact gR
 cases hl:ltInt d[b]! d[a]! with
 |false=>
  simp (disch:=omega) only [go_sem,hl]
  exact ⟨.inl trivial,⟨s,gR2⟩,Fx.of f2⟩
 |true=>
  have cR:h2.cell R 0=some (aB s):=by rw [H.aG gR2];rfl
  have pt: ∀ (w:Int) (hh:H),fI (bQ [aB s]) hh R 0 [aB w]=some (hh.set R (bQ [aB w])):=λ w hh=>bT (by simp) hh R _
  simp (disch:=omega) only [go_sem,hl,cR,gR2,pt]
  exact ⟨.inr trivial,⟨_,by rw [H.aW]⟩,(Fx.of (W:=(· =R)) f2).trans (Fx.set h2 (W:=(· =R)) rfl _) (λ _ _ h=>h)⟩
theorem zQ  (h:H) (S N a b c R:Nat) (d:Array Int) (cp:uO) (hN:N<1000000) (A:dV h S N d) (ha:a<N) (hb:b<N) (hc:c<N) (hR:R≠S) (hRn:R<h.next) (s:Int) (gR:h.get R=bQ [aB s]):
  Ev T nI [.sl S 0 N cp,aB a,aB b,aB c,.ptr R 0] h (λ v h'=>(∃ m,v= aB (m:Nat)/\(m=a∨m=b∨m=c))/\IN h h' R):=by
 refine aZ xY rfl ?_
 simp (disch:=omega) only [go_sem,fQ,aF]
 refine (sJ h S N a b R d cp hN A ha hb hR hRn s gR).mono ?_
 rintro v1 h1 ⟨hv1,C1⟩
 obtain ⟨x1,y1,rfl,hx1,hy1,hxy1⟩: ∃ x y,v1= .tup [aB (x:Nat),aB (y:Nat)]/\x<N/\y<N/\((x=a∨x=b)/\(y=a∨y=b)):=by
  rcases hv1 with rfl|rfl
  ·exact ⟨a,b,rfl,ha,hb,.inl rfl,.inr rfl⟩
  ·exact ⟨b,a,rfl,hb,ha,.inr rfl,.inl rfl⟩
 have A1:=A.RZ C1.fx hR
 obtain ⟨s1,g1⟩:=C1.get
 have n1:=mM hRn C1.fx.next
 simp (disch:=omega) only [go_sem]
 refine (sJ h1 S N y1 c R d cp hN A1 hy1 hc hR n1 s1 g1).mono ?_
 rintro v2 h2 ⟨hv2,C2⟩
 obtain ⟨x2,y2,rfl,hx2,hxy2⟩: ∃ x y,v2= .tup [aB (x:Nat),aB (y:Nat)]/\x<N/\(x=y1∨x=c):=by
  rcases hv2 with rfl|rfl
  ·exact ⟨y1,c,rfl,hy1,.inl rfl⟩
  ·exact ⟨c,y1,rfl,hc,.inr rfl⟩
 have A2:=A1.RZ C2.fx hR
 obtain ⟨s2,g2⟩:=C2.get
 have n2:=mM n1 C2.fx.next
 simp (disch:=omega) only [go_sem]
 refine (sJ h2 S N x1 x2 R d cp hN A2 hx1 hx2 hR n2 s2 g2).mono ?_
 rintro v3 h3 ⟨hv3,C3⟩
 have C:=(C1.trans C2).trans C3
 rcases hv3 with rfl|rfl
 ·simp (disch:=omega) only [go_sem]
  exact ⟨⟨x2,rfl,by omega⟩,C⟩
 ·simp (disch:=omega) only [go_sem]
  exact ⟨⟨x1,rfl,by omega⟩,C⟩
theorem pN  (h:H) (S N a R:Nat) (d:Array Int) (cp:uO) (hN:N<1000000) (A:dV h S N d) (h0:0<a) (ha:a+1<N) (hR:R≠S) (hRn:R<h.next) (s:Int) (gR:h.get R=bQ [aB s]):
  Ev T pX [.sl S 0 N cp,aB a,.ptr R 0] h (λ v h'=>(∃ m,v= aB (m:Nat)/\(m=a- 1∨m=a∨m=a+1))/\IN h h' R):=by
 refine aZ pQ rfl ?_
 have e1:(a:Int)- 1=((a- 1:Nat):Int):=by omega
 have e2:(a:Int)+1=((a+1:Nat):Int):=by omega
 simp (disch:=omega) only [go_sem,dP,aF,e1,e2]
 refine (zQ h S N (a- 1) a (a+1) R d cp hN A (by omega) (by omega) (by omega) hR hRn s gR).mono ?_
 rintro _ h2 ⟨⟨m,rfl,hm⟩,C⟩
 simp (disch:=omega) only [go_sem]
 exact ⟨⟨m,rfl,hm⟩,C⟩
theorem Rf  (h:H) (S N a b:Nat) (d:Array Int) (cp:uO) (hN:N<1000000) (A:dV h S N d) (hb:b<=N) (hab:a<b):
  Ev T rW [.sl S 0 N cp,aB a,aB b] h (λ v h'=> ∃ (p:Nat) (t:Int),v= .tup [aB p,aB t]/\a<=p/\p<b/\Fr h h'):=by
 refine aZ sD rfl ?_
 obtain ⟨n,hn⟩: ∃ n,b-a=n:=⟨_,rfl⟩
 have en:(b:Int)-(a:Int)=(n:Int):=by omega
 have e4:=Si n (k:=4) (m:=4) rfl
 obtain ⟨q,hq⟩: ∃ q,n/4=q:=⟨_,rfl⟩
 rw [hq] at e4
 have ei:(a:Int)+(q:Int)*1=((a+q:Nat):Int):=by omega
 have ej:(a:Int)+(q:Int)*2=((a+q*2:Nat):Int):=by omega
 have ek:(a:Int)+(q:Int)*3=((a+q*3:Nat):Int):=by omega
 obtain ⟨R,hR⟩: ∃ R,h.next=R:=⟨_,rfl⟩
 have hRS:R≠S:=by have:=A.lt;omega
 obtain ⟨h1,h1e⟩: ∃ h1,h1=h.new (.cells false [aB 0]):=⟨_,rfl⟩
 have g1:h1.get R=bQ [aB 0]:=by rw [h1e,←hR,H.aQ]
 have n1:h1.next=R+1:=by rw [h1e,H.bD,hR]
 have f1:Fr h h1:=by rw [h1e];exact (Fr.refl h).new _
 have A1:=A.fr f1
 have fin: ∀ (p:Nat) (h2:H),a<=p->p<b->Fx (· =R) h1 h2->a<=p/\p<b/\Fr h h2:=λ p h2 x1 x2 x3=>⟨x1,x2,Nat.le_trans f1.next x3.next,λ id hid=>(x3.get id (by omega) (λ e=>by have:id=R:=e;omega)).trans (f1.get id hid)⟩
 by_cases h8:(8:Int)<=(n:Int)
 case neg=>
  have e8:decide ((8:Int)<=(n:Int))=false:=decide_eq_false h8
  simp (disch:=omega) only [go_sem,cU,aF,en,e4,ei,ej,ek,e8]
  rw [←h1e]
  have cR:h1.cell R 0=some (aB 0):=by rw [H.aG g1];rfl
  simp (disch:=omega) only [go_sem,hR,cR]
  refine aY (λ _=>?_) (λ hc=>(hc (by trivial)).elim)
  simp (disch:=omega) only [go_sem]
  exact ⟨a+q*2,1,rfl,fin _ _ (by omega) (by omega) (Fx.refl _ _)⟩
 have e8:decide ((8:Int)<=(n:Int))=true:=decide_eq_true h8
 have last: ∀ (i j k:Nat) (h2:H) (s2:Int),a<=i->i<b->a<=j->j<b->a<=k->k<b->dV h2 S N d->h2.get R=bQ [aB s2]->R<h2.next->Fx (· =R) h1 h2->
   Ev T nI [.sl S 0 N cp,aB i,aB j,aB k,.ptr R 0] h2 (λ v h'=> ∃ p s3,v= aB (p:Nat)/\a<=p/\p<b/\h'.get R=bQ [aB s3]/\Fr h h'):=by
  intro i j k h2 s2 i1 i2 j1 j2 k1 k2 A2 g2 n2 F2
  refine (zQ h2 S N i j k R d cp hN A2 (by omega) (by omega) (by omega) hRS n2 s2 g2).mono ?_
  rintro _ h3 ⟨⟨p,rfl,hp⟩,⟨s3,g3⟩,F3⟩
  exact ⟨p,s3,rfl,by omega,by omega,g3,(fin p h3 (by omega) (by omega) (F2.trans F3 λ _ _ h=>h)).2.2⟩
 by_cases h50:(50:Int)<=(n:Int)
 case neg=>
  have e50:decide ((50:Int)<=(n:Int))=false:=decide_eq_false h50
  simp (disch:=omega) only [go_sem,cU,aF,en,e4,ei,ej,ek,e8,e50]
  rw [←h1e]
  simp (disch:=omega) only [go_sem,hR]
  refine (last (a+q) (a+q*2) (a+q*3) h1 0 (by omega) (by omega) (by omega) (by omega) (by omega) (by omega) A1 g1 (by omega) (Fx.refl _ _)).mono ?_
  rintro _ h3 ⟨p,s3,rfl,p1,p2,g3,f3⟩
  have cR:h3.cell R 0=some (aB s3):=by rw [H.aG g3];rfl
  simp (disch:=omega) only [go_sem,cR]
  refine aY (λ _=>?_) (λ _=>?_)
  ·simp (disch:=omega) only [go_sem]
   exact ⟨p,1,rfl,p1,p2,f3⟩
  ·simp (disch:=omega) only [go_sem]
   refine aY (λ _=>?_) (λ _=>?_)
   ·simp (disch:=omega) only [go_sem]
    exact ⟨p,2,rfl,p1,p2,f3⟩
   ·simp (disch:=omega) only [go_sem]
    exact ⟨p,0,rfl,p1,p2,f3⟩
 have e50:decide ((50:Int)<=(n:Int))=true:=decide_eq_true h50
 simp (disch:=omega) only [go_sem,cU,aF,en,e4,ei,ej,ek,e8,e50]
 rw [←h1e]
 simp (disch:=omega) only [go_sem,hR]
 refine (pN h1 S N (a+q) R d cp hN A1 (by omega) (by omega) hRS (by omega) 0 g1).mono ?_
 rintro _ h2 ⟨⟨i,rfl,hi⟩,⟨s2,g2⟩,F2⟩
 have A2:=A1.RZ F2 hRS
 have n2:=F2.next
 simp (disch:=omega) only [go_sem]
 refine (pN h2 S N (a+q*2) R d cp hN A2 (by omega) (by omega) hRS (by omega) s2 g2).mono ?_
 rintro _ h3 ⟨⟨j,rfl,hj⟩,⟨s3,g3⟩,F3⟩
 have A3:=A2.RZ F3 hRS
 have n3:=F3.next
 simp (disch:=omega) only [go_sem]
 refine (pN h3 S N (a+q*3) R d cp hN A3 (by omega) (by omega) hRS (by omega) s3 g3).mono ?_
 rintro _ h4 ⟨⟨k,rfl,hk⟩,⟨s4,g4⟩,F4⟩
 have A4:=A3.RZ F4 hRS
 have n4:=F4.next
 simp (disch:=omega) only [go_sem]
 refine (last i j k h4 s4 (by omega) (by omega) (by omega) (by omega) (by omega) (by omega) A4 g4 (by omega) ((F2.trans F3 λ _ _ h=>h).trans F4 λ _ _ h=>h)).mono ?_
 rintro _ h3 ⟨p,s3,rfl,p1,p2,g3,f3⟩
 have cR:h3.cell R 0=some (aB s3):=by rw [H.aG g3];rfl
 simp (disch:=omega) only [go_sem,cR]
 refine aY (λ _=>?_) (λ _=>?_)
 ·simp (disch:=omega) only [go_sem]
  exact ⟨p,1,rfl,p1,p2,f3⟩
 ·simp (disch:=omega) only [go_sem]
  refine aY (λ _=>?_) (λ _=>?_)
  ·simp (disch:=omega) only [go_sem]
   exact ⟨p,2,rfl,p1,p2,f3⟩
  ·simp (disch:=omega) only [go_sem]
   exact ⟨p,0,rfl,p1,p2,f3⟩
theorem ZU {lt:Int->Int->Bool} {j:Nat} {d:Array Int} (h:lt d[j+1]! d[j]! =true):shiftDown lt (j+1) d=shiftDown lt j (swp d (j+1) j):=by rw [shiftDown,if_neg (by simp [h])]
theorem aaB {lt:Int->Int->Bool} {j:Nat} {d:Array Int} (h:lt d[j+1]! d[j]! =false):shiftDown lt (j+1) d=d:=by rw [shiftDown,if_pos (by simp [h])]
theorem YX {lt:Int->Int->Bool} {b j:Nat} {d:Array Int} (hj:j<b) (h:lt d[j]! d[j- 1]! =true):shiftUp lt b j d=shiftUp lt b (j+1) (swp d j (j- 1)):=by rw [shiftUp,if_pos hj,if_neg (by simp [h])]
theorem XQ {lt:Int->Int->Bool} {b j:Nat} {d:Array Int} (hj:j<b) (h:lt d[j]! d[j- 1]! =false):shiftUp lt b j d=d:=by rw [shiftUp,if_pos hj,if_pos (by simp [h])]
theorem aaL {lt:Int->Int->Bool} {b i:Nat} {d:Array Int} (hi:i<b) (h:lt d[i]! d[i- 1]! =false):scanSorted lt d b i=scanSorted lt d b (i+1):=by rw [scanSorted,if_pos (by simp [h,hi])]
theorem FA {lt:Int->Int->Bool} {b i:Nat} {d:Array Int} (h: ¬(i<b/\lt d[i]! d[i- 1]! =false)):scanSorted lt d b i=i:=by rw [scanSorted,if_neg (by simpa using h)]
theorem AX (lt:Int->Int->Bool) (a b s i:Nat) (d:Array Int):partialIns lt a b (s+1) i d=if scanSorted lt d b i=b then (d,true) else if b-a<50 then (d,false) else
  partialIns lt a b s (scanSorted lt d b i) (if b-scanSorted lt d b i≥2 then shiftUp lt b (scanSorted lt d b i+1) (if scanSorted lt d b i-a≥2 then shiftDown lt (scanSorted lt d b i- 1) (swp d (scanSorted lt d b i) (scanSorted lt d b i- 1)) else swp d (scanSorted lt d b i) (scanSorted lt d b i- 1)) else
   (if scanSorted lt d b i-a≥2 then shiftDown lt (scanSorted lt d b i- 1) (swp d (scanSorted lt d b i) (scanSorted lt d b i- 1)) else swp d (scanSorted lt d b i) (scanSorted lt d b i- 1))):=by rw [partialIns]
theorem Is  (h:H) (S N a b:Nat) (d:Array Int) (cp:uO) (hN:N<1000000) (A:dV h S N d) (hb:b<=N) (hab:a<b):
  Ev T fY [.sl S 0 N cp,aB a,aB b] h (λ v h'=>v= .bool (partialInsertionSort ltInt d a b).2/\dV h' S N (partialInsertionSort ltInt d a b).1/\Fx (· =S) h h'):=by
 refine aZ mT rfl ?_
 simp (disch:=omega) only [go_sem,dD,aF]
 rw [iJ a]
 refine aJ (λ k' vars hh=> ∃ (s i:Nat) (e:Array Int),(∃ g:Nat->V,vars= [.sl S 0 N cp,aB a,aB b,g 3,aB i,aB (5-(s:Int)),g 6,g 7,g 8,g 9,g 10,g 11,g 12,g 13,g 14,g 15,g 16,g 17])/\s<=5/\a<i/\i<=b/\dV hh S N e/\partialIns ltInt a b s i e=partialInsertionSort ltInt d a b/\Fx (· =S) h hh/\k'=s) 5
  ⟨5,a+1,d,aA rfl,by omega,by omega,by omega,A,rfl,Fx.refl _ h,rfl⟩ ?_
 clear A
 rintro k' vars h1 ⟨s,i,e,⟨g,rfl⟩,hs,hi1,hi2,A,hR,F,hk⟩
 subst hk
 by_cases hlt:(5:Int)-(k':Int)<5
 case neg=>
  have e1:=gJ hlt
  obtain rfl:k'=0:=by omega
  simp (disch:=omega) only [go_sem,e1]
  have hR:(e,false)=partialInsertionSort ltInt d a b:=hR
  rw [←hR]
  exact ⟨rfl,A,F⟩
 have e1:=mG hlt
 obtain ⟨s,rfl⟩: ∃ s,k'=s+1:=⟨k'- 1,by omega⟩
 simp (disch:=omega) only [go_sem,e1]
 rw [AX] at hR
 refine aJ (λ k' vars hh=> ∃ (m:Nat),(∃ g:Nat->V,vars= [.sl S 0 N cp,aB a,aB b,g 3,aB m,aB (5-((s+1:Nat):Int)),g 6,g 7,g 8,g 9,g 10,g 11,g 12,g 13,g 14,g 15,g 16,g 17])/\a<m/\m<=b/\dV hh S N e/\scanSorted ltInt e b m=scanSorted ltInt e b i/\Fx (· =S) h hh/\k'=b-m) (b-i)
  ⟨i,aA rfl,hi1,hi2,A,rfl,F,rfl⟩ ?_
 clear A F hlt e1
 rintro k' vars h2 ⟨m,⟨g,rfl⟩,hm1,hm2,A,hS,F,rfl⟩
 have sz:=A.size
 have em1:(m:Int)- 1=((m- 1:Nat):Int):=by omega
 have eM1:(m:Int)+1=((m+1:Nat):Int):=by omega
 by_cases hmb:(m:Int)<(b:Int)
 case neg=>
  have e1:decide ((m:Int)<(b:Int))=false:=decide_eq_false hmb
  have em:m=b:=by omega
  rw [FA (by omega)] at hS
  rw [←hS,if_pos em] at hR
  have e2:decide ((m:Int)=(b:Int))=true:=mG (by omega)
  simp (disch:=omega) only [go_sem,e1,e2]
  rw [←hR]
  exact ⟨rfl,A.fr ((Fr.refl h2).bF (by omega)),gI F (Fx.of ((Fr.refl h2).bF (by omega)))⟩
 have e1:decide ((m:Int)<(b:Int))=true:=decide_eq_true hmb
 have c1:=A.rd (i:=m) (by omega)
 have c2:=A.rd (i:=m- 1) (by omega)
 simp (disch:=omega) only [go_sem,e1,em1,c1,c2]
 refine (gQ _ _ _).mono ?_
 rintro _ h3 ⟨rfl,fh3⟩
 have f3':Fr h2 h3:=Fr.trans ((Fr.refl h2).bF (by omega)) fh3
 have A3:=A.fr f3'
 have F3:=gI F (Fx.of f3')
 cases hl:ltInt e[m]! e[m- 1]! with
 |false=>
  rw [aaL (by omega) hl] at hS
  simp (disch:=omega) only [go_sem,hl,eM1]
  exact ⟨b-(m+1),by omega,m+1,aA rfl,by omega,by omega,A3,hS,F3,rfl⟩
 |true=>
  rw [FA (by rw [hl];simp)] at hS
  rw [←hS,if_neg (by omega)] at hR
  have e2:decide ((m:Int)=(b:Int))=false:=gJ (by omega)
  by_cases h50:(b:Int)-(a:Int)<50
  ·have e50:decide ((b:Int)-(a:Int)<50)=true:=decide_eq_true h50
   rw [if_pos (by omega)] at hR
   simp (disch:=omega) only [go_sem,hl,e2,e50]
   rw [←hR]
   exact ⟨rfl,A3,F3⟩
  have e50:decide ((b:Int)-(a:Int)<50)=false:=decide_eq_false h50
  rw [if_neg (by omega)] at hR
  have c1:=A3.rd (i:=m) (by omega)
  have c2:=A3.rd (i:=m- 1) (by omega)
  simp (disch:=omega) only [go_sem,hl,e2,e50,em1,c1,c2,A3.get,bX,bL]
  have W:=A3.swap (i:=m) (j:=m- 1) (nx:=h3.next+18) (by omega) rfl
  obtain ⟨h4,h4e⟩: ∃ h4,h4=((H.mk h3.tr (h3.next+18)).set S (bQ (ints (e.setIfInBounds m e[m- 1]!).toList))).set S (bQ (ints ((e.setIfInBounds m e[m- 1]!).setIfInBounds (m- 1) e[m]!).toList)):=⟨_,rfl⟩
  rw [←h4e] at W ⊢
  obtain ⟨A4,F4⟩:=W
  have F4':=gI F3 F4
  clear h4e F4 A3 F3 f3' fh3 c1 c2
  obtain ⟨e4,he4⟩: ∃ e4,swp e m (m- 1)=e4:=⟨_,rfl⟩
  rw [he4] at A4 hR
  refine oH (λ vs h5=> ∃ e5,(∃ g:Nat->V,vs= [.sl S 0 N cp,aB a,aB b,g 3,aB m,aB (5-((s+1:Nat):Int)),g 6,g 7,g 8,g 9,g 10,g 11,g 12,g 13,g 14,g 15,g 16,g 17])/\dV h5 S N e5/\e5=(if m-a≥2 then shiftDown ltInt (m- 1) e4 else e4)/\Fx (· =S) h h5) ?_ ?_
  ·refine aY (λ h2=>?_) (λ h2=>?_)
   ·simp (disch:=omega) only [go_sem,em1]
    refine aJ (λ k' vars hh=> ∃ (j:Nat) (x:Array Int),(∃ g:Nat->V,vars= [.sl S 0 N cp,aB a,aB b,g 3,aB m,aB (5-((s+1:Nat):Int)),aB j,g 7,g 8,g 9,g 10,g 11,g 12,g 13,g 14,g 15,g 16,g 17])/\j<b/\dV hh S N x/\shiftDown ltInt j x=shiftDown ltInt (m- 1) e4/\Fx (· =S) h hh/\k'=j) (m- 1)
     ⟨m- 1,e4,aA rfl,by omega,A4,rfl,F4',rfl⟩ ?_
    rintro k' vars h5 ⟨j,x,⟨g,rfl⟩,hj,A5,hD,F5,hk⟩
    subst hk
    have sz5:=A5.size
    by_cases h1:(1:Int)<=(k':Int)
    ·have e1:decide ((1:Int)<=(k':Int))=true:=decide_eq_true h1
     obtain ⟨q,rfl⟩: ∃ q,k'=q+1:=⟨k'- 1,by omega⟩
     have eq1:((q+1:Nat):Int)- 1=(q:Int):=by omega
     have c1:=A5.rd (i:=q+1) (by omega)
     have c2:=A5.rd (i:=q) (by omega)
     simp (disch:=omega) only [go_sem,e1,eq1,c1,c2]
     refine (gQ _ _ _).mono ?_
     rintro _ h6 ⟨rfl,fh6⟩
     have f6:Fr h5 h6:=Fr.trans ((Fr.refl h5).bF (by omega)) fh6
     have A6:=A5.fr f6
     have F6:=gI F5 (Fx.of f6)
     cases hl:ltInt x[q+1]! x[q]! with
     |false=>
      rw [aaB hl] at hD
      simp (disch:=omega) only [go_sem,hl]
      exact .inl ⟨x,aA rfl,A6,by rw [if_pos (by omega),←hD],F6⟩
     |true=>
      rw [ZU hl] at hD
      have c1:=A6.rd (i:=q+1) (by omega)
      have c2:=A6.rd (i:=q) (by omega)
      simp (disch:=omega) only [go_sem,hl,eq1,c1,c2,A6.get,bX,bL]
      have W:=A6.swap (i:=q+1) (j:=q) (nx:=h6.next+18) (by omega) rfl
      exact ⟨q,by omega,q,_,aA rfl,by omega,W.1,hD,gI F6 W.2,rfl⟩
    ·have e1:decide ((1:Int)<=(k':Int))=false:=decide_eq_false h1
     obtain rfl:k'=0:=by omega
     simp (disch:=omega) only [go_sem,e1]
     have hD:x=shiftDown ltInt (m- 1) e4:=hD
     exact .inl ⟨x,aA rfl,A5,by rw [if_pos (by omega),←hD],F5⟩
   ·simp (disch:=omega) only [go_sem]
    exact .inl ⟨e4,aA rfl,A4,by rw [if_neg (by omega)],F4'⟩
  ·rintro vars h5 ⟨e5,⟨g,rfl⟩,A5,he5,F5⟩
   rw [←he5] at hR
   clear A4 F4' he5 he4
   simp (disch:=omega) only [go_sem]
   have e55:(5:Int)-((s+1:Nat):Int)+1=5-(s:Int):=by omega
   refine aY (λ h2=>?_) (λ h2=>?_)
   ·rw [if_pos (by omega)] at hR
    simp (disch:=omega) only [go_sem,eM1]
    refine aJ (λ k' vars hh=> ∃ (j:Nat) (x:Array Int),(∃ g:Nat->V,vars= [.sl S 0 N cp,aB a,aB b,g 3,aB m,aB (5-((s+1:Nat):Int)),g 6,aB j,g 8,g 9,g 10,g 11,g 12,g 13,g 14,g 15,g 16,g 17])/\0<j/\j<=b/\dV hh S N x/\shiftUp ltInt b j x=shiftUp ltInt b (m+1) e5/\Fx (· =S) h hh/\k'=b-j) (b-(m+1))
     ⟨m+1,e5,aA rfl,by omega,by omega,A5,rfl,F5,rfl⟩ ?_
    rintro k' vars h6 ⟨j,x,⟨g,rfl⟩,hj0,hj,A6,hU,F6,rfl⟩
    have sz6:=A6.size
    by_cases h1:(j:Int)<(b:Int)
    ·have e1:decide ((j:Int)<(b:Int))=true:=decide_eq_true h1
     have ej1:(j:Int)- 1=((j- 1:Nat):Int):=by omega
     have eJ1:(j:Int)+1=((j+1:Nat):Int):=by omega
     have c1:=A6.rd (i:=j) (by omega)
     have c2:=A6.rd (i:=j- 1) (by omega)
     simp (disch:=omega) only [go_sem,e1,ej1,c1,c2]
     refine (gQ _ _ _).mono ?_
     rintro _ h7 ⟨rfl,fh7⟩
     have f7:Fr h6 h7:=Fr.trans ((Fr.refl h6).bF (by omega)) fh7
     have A7:=A6.fr f7
     have F7:=gI F6 (Fx.of f7)
     cases hl:ltInt x[j]! x[j- 1]! with
     |false=>
      rw [XQ (by omega) hl] at hU
      rw [←hU] at hR
      simp (disch:=omega) only [go_sem,hl,e55]
      exact ⟨s,by omega,s,m,x,aA rfl,by omega,by omega,by omega,A7,hR,F7,rfl⟩
     |true=>
      rw [YX (by omega) hl] at hU
      have c1:=A7.rd (i:=j) (by omega)
      have c2:=A7.rd (i:=j- 1) (by omega)
      simp (disch:=omega) only [go_sem,hl,ej1,eJ1,c1,c2,A7.get,bX,bL]
      have W:=A7.swap (i:=j) (j:=j- 1) (nx:=h7.next+18) (by omega) rfl
      exact ⟨b-(j+1),by omega,j+1,_,aA rfl,by omega,by omega,W.1,hU,gI F7 W.2,rfl⟩
    ·have e1:decide ((j:Int)<(b:Int))=false:=decide_eq_false h1
     rw [shiftUp,if_neg (by omega)] at hU
     rw [←hU] at hR
     simp (disch:=omega) only [go_sem,e1,e55]
     exact ⟨s,by omega,s,m,x,aA rfl,by omega,by omega,by omega,A6,hR,F6,rfl⟩
   ·rw [if_neg (by omega)] at hR
    simp (disch:=omega) only [go_sem,e55]
    exact ⟨s,by omega,s,m,e5,aA rfl,by omega,by omega,by omega,A5,hR,F5,rfl⟩
theorem Lu {p:Int->Bool} {d:Array Int} {j i:Nat} (h1:i<=j) (h2:p d[i]! =true):scanUp p d j i=scanUp p d j (i+1):=by rw [scanUp,if_pos (by simp [h1,h2])]
theorem tW {p:Int->Bool} {d:Array Int} {j i:Nat} (h: ¬(i<=j/\p d[i]! =true)):scanUp p d j i=i:=by rw [scanUp,if_neg (by simpa using h)]
theorem Wc {p:Int->Bool} {d:Array Int} {j i:Nat} (h1:i<=j+1) (h2:p d[j+1]! =true):scanDown p d i (j+1)=scanDown p d i j:=by rw [scanDown,if_pos (by simp [h1,h2])]
theorem Ac {p:Int->Bool} {d:Array Int} {j i:Nat} (h: ¬(i<=j/\p d[j]! =true)):scanDown p d i j=j:=by
 cases j with
 |zero=>rfl
 |succ j=>rw [scanDown,if_neg (by simpa using h)]
theorem sP (p:Int->Bool) (d:Array Int) (j i:Nat):scanUp p d j i<=max i (j+1):=by
 obtain ⟨n,hn⟩: ∃ n,j+1-i=n:=⟨_,rfl⟩
 induction n generalizing i with
 |zero=>rw [tW (λ h=>by have:=h.1;omega)];omega
 |succ n ih=>
  by_cases h:i<=j/\p d[i]! =true
  ·rw [Lu h.1 h.2]
   have:=ih (i+1) (by omega)
   omega
  ·rw [tW h];omega
theorem Bx  (h:H) (S N a b pv:Nat) (d:Array Int) (cp:uO) (hN:N<1000000) (A:dV h S N d) (hb:b<=N) (hap:a<=pv) (hpb:pv<b):
  Ev T uJ [.sl S 0 N cp,aB a,aB b,aB pv] h (λ v h'=>v= .tup [aB ((partition ltInt d a b pv).1:Nat),.bool (partition ltInt d a b pv).2.1]/\dV h' S N (partition ltInt d a b pv).2.2/\Fx (· =S) h h'):=by
 refine aZ tP rfl ?_
 have sz:=A.size
 have c1:=A.rd (i:=a) (by omega)
 have c2:=A.rd (i:=pv) (by omega)
 simp (disch:=omega) only [go_sem,eQ,aF,c1,c2,A.get,bX,bL]
 have W:=A.swap (i:=a) (j:=pv) (nx:=h.next+16) (by omega) rfl
 obtain ⟨h1,h1e⟩: ∃ h1,h1=((H.mk h.tr (h.next+16)).set S (bQ (ints (d.setIfInBounds a d[pv]!).toList))).set S (bQ (ints ((d.setIfInBounds a d[pv]!).setIfInBounds pv d[a]!).toList)):=⟨_,rfl⟩
 rw [←h1e] at W ⊢
 obtain ⟨A1,F1⟩:=W
 obtain ⟨e,he⟩: ∃ e,swp d a pv=e:=⟨_,rfl⟩
 rw [he] at A1
 clear h1e c1 c2 A
 have eb:(b:Int)- 1=((b- 1:Nat):Int):=by omega
 have ea:(a:Int)+1=((a+1:Nat):Int):=by omega
 have hP:partition ltInt d a b pv=if scanUp (λ x=>ltInt x e[a]!) e (b- 1) (a+1)>scanDown (λ x=>!ltInt x e[a]!) e (scanUp (λ x=>ltInt x e[a]!) e (b- 1) (a+1)) (b- 1) then
   (scanDown (λ x=>!ltInt x e[a]!) e (scanUp (λ x=>ltInt x e[a]!) e (b- 1) (a+1)) (b- 1),true,swp e (scanDown (λ x=>!ltInt x e[a]!) e (scanUp (λ x=>ltInt x e[a]!) e (b- 1) (a+1)) (b- 1)) a) else
   ((partLoop ltInt a (scanUp (λ x=>ltInt x e[a]!) e (b- 1) (a+1)+1) (scanDown (λ x=>!ltInt x e[a]!) e (scanUp (λ x=>ltInt x e[a]!) e (b- 1) (a+1)) (b- 1)- 1) (swp e (scanUp (λ x=>ltInt x e[a]!) e (b- 1) (a+1)) (scanDown (λ x=>!ltInt x e[a]!) e (scanUp (λ x=>ltInt x e[a]!) e (b- 1) (a+1)) (b- 1)))).1,false,
    swp (partLoop ltInt a (scanUp (λ x=>ltInt x e[a]!) e (b- 1) (a+1)+1) (scanDown (λ x=>!ltInt x e[a]!) e (scanUp (λ x=>ltInt x e[a]!) e (b- 1) (a+1)) (b- 1)- 1) (swp e (scanUp (λ x=>ltInt x e[a]!) e (b- 1) (a+1)) (scanDown (λ x=>!ltInt x e[a]!) e (scanUp (λ x=>ltInt x e[a]!) e (b- 1) (a+1)) (b- 1)))).2 (partLoop ltInt a (scanUp (λ x=>ltInt x e[a]!) e (b- 1) (a+1)+1) (scanDown (λ x=>!ltInt x e[a]!) e (scanUp (λ x=>ltInt x e[a]!) e (b- 1) (a+1)) (b- 1)- 1) (swp e (scanUp (λ x=>ltInt x e[a]!) e (b- 1) (a+1)) (scanDown (λ x=>!ltInt x e[a]!) e (scanUp (λ x=>ltInt x e[a]!) e (b- 1) (a+1)) (b- 1)))).1 a):=by
  rw [←he];rfl
 obtain ⟨R,hRe⟩: ∃ R,partition ltInt d a b pv=R:=⟨_,rfl⟩
 rw [hRe] at hP
 rw [hRe]
 simp (disch:=omega) only [go_sem,ea,eb]
 refine bV (λ vs hh=>(∃ g:Nat->V,vs= [.sl S 0 N cp,aB a,aB b,aB pv,g 4,g 5,aB (scanUp (λ x=>ltInt x e[a]!) e (b- 1) (a+1):Nat),aB ((b- 1):Nat),g 8,g 9,g 10,g 11,g 12,g 13])/\dV hh S N e/\Fx (· =S) h hh) ?_ ?_
 ·refine aJ (λ k' vs hh=> ∃ (k:Nat),(∃ g:Nat->V,vs= [.sl S 0 N cp,aB a,aB b,aB pv,g 4,g 5,aB (k:Nat),aB ((b- 1):Nat),g 8,g 9,g 10,g 11,g 12,g 13])/\(a+1)<=k/\k<=N+2/\dV hh S N e/\scanUp (λ x=>ltInt x e[a]!) e (b- 1) k=scanUp (λ x=>ltInt x e[a]!) e (b- 1) (a+1)/\Fx (· =S) h hh/\k'=(b- 1)+1-k) ((b- 1)+1-(a+1))
   ⟨(a+1),aA rfl,by omega,by omega,A1,rfl,F1,rfl⟩ ?_
  rintro k' vars hs ⟨k,⟨g,rfl⟩,hk1,hk2,As,hS,Fs,rfl⟩
  by_cases hij:(k:Int)<=(((b- 1):Nat):Int)
  ·have e1:decide ((k:Int)<=(((b- 1):Nat):Int))=true:=decide_eq_true hij
   have eK:(k:Int)+1=((k+1:Nat):Int):=by omega
   have szs:=As.size
   have c1:=As.rd (i:=k) (by omega)
   have c2:=As.rd (i:=a) (by omega)
   simp (disch:=omega) only [go_sem,e1,c1,c2]
   refine (gQ _ _ _).mono ?_
   rintro _ hs2 ⟨rfl,fhs2⟩
   have fs2:Fr hs hs2:=Fr.trans ((Fr.refl hs).bF (by omega)) fhs2
   have As2:=As.fr fs2
   have Fs2:=gI Fs (Fx.of fs2)
   cases hl:ltInt e[k]! e[a]! with
   |false=>
    rw [tW (λ hh=>by have:=hh.2;simp [hl] at this)] at hS
    simp (disch:=omega) only [go_sem,hl]
    exact ⟨by rw [←hS];exact aA rfl,As2,Fs2⟩
   |true=>
    rw [Lu (by omega) (by simp [hl])] at hS
    simp (disch:=omega) only [go_sem,hl,eK]
    exact ⟨(b- 1)+1-(k+1),by omega,k+1,aA rfl,by omega,by omega,As2,hS,Fs2,rfl⟩
  ·have e1:decide ((k:Int)<=(((b- 1):Nat):Int))=false:=decide_eq_false hij
   rw [tW (λ hh=>hij (by have:=hh.1;omega))] at hS
   simp (disch:=omega) only [go_sem,e1]
   exact ⟨by rw [←hS];exact aA rfl,As.fr ((Fr.refl hs).bF (by omega)),gI Fs (Fx.of ((Fr.refl hs).bF (by omega)))⟩
 ·rintro vars h9 ⟨⟨g,rfl⟩,A9,F9⟩
  have hge:=scanUp_ge (λ x=>ltInt x e[a]!) e (b- 1) (a+1)
  have hhi:=sP (λ x=>ltInt x e[a]!) e (b- 1) (a+1)
  obtain ⟨i2,hi2⟩: ∃ x,scanUp (λ x=>ltInt x e[a]!) e (b- 1) (a+1)=x:=⟨_,rfl⟩
  rw [hi2] at hge hhi
  rw [hi2]
  simp (disch:=omega) only [go_sem]
  refine bV (λ vs hh=>(∃ g:Nat->V,vs= [.sl S 0 N cp,aB a,aB b,aB pv,g 4,g 5,aB (i2:Nat),aB (scanDown (λ x=>!ltInt x e[a]!) e i2 (b- 1):Nat),g 8,g 9,g 10,g 11,g 12,g 13])/\dV hh S N e/\Fx (· =S) h hh) ?_ ?_
  ·refine aJ (λ k' vs hh=> ∃ (k:Nat),(∃ g:Nat->V,vs= [.sl S 0 N cp,aB a,aB b,aB pv,g 4,g 5,aB (i2:Nat),aB (k:Nat),g 8,g 9,g 10,g 11,g 12,g 13])/\k<=(b- 1)/\dV hh S N e/\scanDown (λ x=>!ltInt x e[a]!) e i2 k=scanDown (λ x=>!ltInt x e[a]!) e i2 (b- 1)/\Fx (· =S) h hh/\k'=k) (b- 1)
    ⟨(b- 1),aA rfl,by omega,A9,rfl,F9,rfl⟩ ?_
   rintro k' vars hs ⟨k,⟨g,rfl⟩,hk1,As,hS,Fs,hkk⟩
   subst hkk
   by_cases hij:((i2:Nat):Int)<=(k':Int)
   ·have e1:decide (((i2:Nat):Int)<=(k':Int))=true:=decide_eq_true hij
    obtain ⟨k,rfl⟩: ∃ k,k'=k+1:=⟨k'- 1,by omega⟩
    have eK:((k+1:Nat):Int)- 1=(k:Int):=by omega
    have szs:=As.size
    have c1:=As.rd (i:=k+1) (by omega)
    have c2:=As.rd (i:=a) (by omega)
    simp (disch:=omega) only [go_sem,e1,c1,c2]
    refine (gQ _ _ _).mono ?_
    rintro _ hs2 ⟨rfl,fhs2⟩
    have fs2:Fr hs hs2:=Fr.trans ((Fr.refl hs).bF (by omega)) fhs2
    have As2:=As.fr fs2
    have Fs2:=gI Fs (Fx.of fs2)
    cases hl:ltInt e[k+1]! e[a]! with
    |true=>
     rw [Ac (λ hh=>by have:=hh.2;simp [hl] at this)] at hS
     simp (disch:=omega) only [go_sem,hl]
     exact ⟨by rw [←hS];exact aA rfl,As2,Fs2⟩
    |false=>
     rw [Wc (by omega) (by simp [hl])] at hS
     simp (disch:=omega) only [go_sem,hl,eK]
     exact ⟨k,by omega,k,aA rfl,by omega,As2,hS,Fs2,rfl⟩
   ·have e1:decide (((i2:Nat):Int)<=(k':Int))=false:=decide_eq_false hij
    rw [Ac (λ hh=>hij (by have:=hh.1;omega))] at hS
    simp (disch:=omega) only [go_sem,e1]
    exact ⟨by rw [←hS];exact aA rfl,As.fr ((Fr.refl hs).bF (by omega)),gI Fs (Fx.of ((Fr.refl hs).bF (by omega)))⟩
  ·rintro vars h2 ⟨⟨g,rfl⟩,A2,F2⟩
   have hle:=scanDown_le (λ x=>!ltInt x e[a]!) e i2 (b- 1)
   obtain ⟨j2,hj2⟩: ∃ x,scanDown (λ x=>!ltInt x e[a]!) e i2 (b- 1)=x:=⟨_,rfl⟩
   rw [hj2] at hle
   rw [hj2]
   rw [hi2,hj2] at hP
   have sz2:=A2.size
   by_cases hgt:(j2:Int)<(i2:Int)
   ·have e1:decide ((j2:Int)<(i2:Int))=true:=decide_eq_true hgt
    rw [if_pos (by omega)] at hP
    have c1:=A2.rd (i:=j2) (by omega)
    have c2:=A2.rd (i:=a) (by omega)
    simp (disch:=omega) only [go_sem,e1,c1,c2,A2.get,bX,bL]
    have W:=A2.swap (i:=j2) (j:=a) (nx:=h2.next+16) (by omega) rfl
    rw [hP]
    exact ⟨rfl,W.1,gI F2 W.2⟩
   have e1:decide ((j2:Int)<(i2:Int))=false:=decide_eq_false hgt
   rw [if_neg (by omega)] at hP
   have c1:=A2.rd (i:=i2) (by omega)
   have c2:=A2.rd (i:=j2) (by omega)
   simp (disch:=omega) only [go_sem,e1,c1,c2,A2.get,bX,bL]
   have W:=A2.swap (i:=i2) (j:=j2) (nx:=h2.next+16) (by omega) rfl
   obtain ⟨h3,h3e⟩: ∃ h3,h3=((H.mk h2.tr (h2.next+16)).set S (bQ (ints (e.setIfInBounds i2 e[j2]!).toList))).set S (bQ (ints ((e.setIfInBounds i2 e[j2]!).setIfInBounds j2 e[i2]!).toList)):=⟨_,rfl⟩
   rw [←h3e] at W ⊢
   obtain ⟨A3,F30⟩:=W
   have F3:=gI F2 F30
   have hij2:i2<=j2:=by omega
   obtain ⟨e0,he0⟩: ∃ e0,swp e i2 j2=e0:=⟨_,rfl⟩
   rw [he0] at A3 hP
   clear h3e c1 c2 A2 A9 F9 A1 F1 he hgt e1
   have ei:(i2:Int)+1=((i2+1:Nat):Int):=by omega
   have ej:(j2:Int)- 1=((j2- 1:Nat):Int):=by omega
   simp (disch:=omega) only [go_sem,ei,ej]
   refine bV (λ vs hh=>(∃ g:Nat->V,vs= [.sl S 0 N cp,aB a,aB b,aB pv,g 4,g 5,g 6,aB (((partLoop ltInt a (i2+1) (j2- 1) e0).1:Nat):Int),g 8,g 9,g 10,g 11,g 12,g 13])/\dV hh S N (partLoop ltInt a (i2+1) (j2- 1) e0).2/\(partLoop ltInt a (i2+1) (j2- 1) e0).1<b/\Fx (· =S) h hh) ?_ ?_
   ·refine aJ (λ k' vs hh=> ∃ (i j:Nat) (e:Array Int),(∃ g:Nat->V,vs= [.sl S 0 N cp,aB a,aB b,aB pv,g 4,g 5,aB i,aB j,g 8,g 9,g 10,g 11,g 12,g 13])/\a<i/\i<=b+1/\j<b/\dV hh S N e/\partLoop ltInt a i j e=partLoop ltInt a (i2+1) (j2- 1) e0/\Fx (· =S) h hh/\k'=j) (j2- 1)
     ⟨i2+1,j2- 1,e0,aA rfl,by omega,by omega,by omega,A3,rfl,F3,rfl⟩ ?_
    obtain ⟨R2,hR2⟩: ∃ R2,partLoop ltInt a (i2+1) (j2- 1) e0=R2:=⟨_,rfl⟩
    rw [hR2]
    clear hP hR2 hi2 hj2 he0 ei ej hle hge hhi F3 F30 A3 sz2 h3 hij2
    clear i2 j2
    rintro k' vars h3 ⟨i,j,e,⟨g,rfl⟩,hi1,hi2,hj,A3,hL,F3,hkk⟩
    rw [partLoop_eq] at hL
    simp (disch:=omega) only [go_sem]
    refine bV (λ vs hh=>(∃ g:Nat->V,vs= [.sl S 0 N cp,aB a,aB b,aB pv,g 4,g 5,aB (scanUp (λ x=>ltInt x e[a]!) e j i:Nat),aB (j:Nat),g 8,g 9,g 10,g 11,g 12,g 13])/\dV hh S N e/\Fx (· =S) h hh) ?_ ?_
    ·refine aJ (λ k' vs hh=> ∃ (k:Nat),(∃ g:Nat->V,vs= [.sl S 0 N cp,aB a,aB b,aB pv,g 4,g 5,aB (k:Nat),aB (j:Nat),g 8,g 9,g 10,g 11,g 12,g 13])/\i<=k/\k<=N+2/\dV hh S N e/\scanUp (λ x=>ltInt x e[a]!) e j k=scanUp (λ x=>ltInt x e[a]!) e j i/\Fx (· =S) h hh/\k'=j+1-k) (j+1-i)
      ⟨i,aA rfl,by omega,by omega,A3,rfl,F3,rfl⟩ ?_
     rintro k' vars hs ⟨k,⟨g,rfl⟩,hk1,hk2,As,hS,Fs,rfl⟩
     by_cases hij:(k:Int)<=((j:Nat):Int)
     ·have e1:decide ((k:Int)<=((j:Nat):Int))=true:=decide_eq_true hij
      have eK:(k:Int)+1=((k+1:Nat):Int):=by omega
      have szs:=As.size
      have c1:=As.rd (i:=k) (by omega)
      have c2:=As.rd (i:=a) (by omega)
      simp (disch:=omega) only [go_sem,e1,c1,c2]
      refine (gQ _ _ _).mono ?_
      rintro _ hs2 ⟨rfl,fhs2⟩
      have fs2:Fr hs hs2:=Fr.trans ((Fr.refl hs).bF (by omega)) fhs2
      have As2:=As.fr fs2
      have Fs2:=gI Fs (Fx.of fs2)
      cases hl:ltInt e[k]! e[a]! with
      |false=>
       rw [tW (λ hh=>by have:=hh.2;simp [hl] at this)] at hS
       simp (disch:=omega) only [go_sem,hl]
       exact ⟨by rw [←hS];exact aA rfl,As2,Fs2⟩
      |true=>
       rw [Lu (by omega) (by simp [hl])] at hS
       simp (disch:=omega) only [go_sem,hl,eK]
       exact ⟨j+1-(k+1),by omega,k+1,aA rfl,by omega,by omega,As2,hS,Fs2,rfl⟩
     ·have e1:decide ((k:Int)<=((j:Nat):Int))=false:=decide_eq_false hij
      rw [tW (λ hh=>hij (by have:=hh.1;omega))] at hS
      simp (disch:=omega) only [go_sem,e1]
      exact ⟨by rw [←hS];exact aA rfl,As.fr ((Fr.refl hs).bF (by omega)),gI Fs (Fx.of ((Fr.refl hs).bF (by omega)))⟩
    ·rintro vars h9 ⟨⟨g,rfl⟩,A9,F9⟩
     have hge:=scanUp_ge (λ x=>ltInt x e[a]!) e j i
     have hhi:=sP (λ x=>ltInt x e[a]!) e j i
     obtain ⟨u,hu⟩: ∃ x,scanUp (λ x=>ltInt x e[a]!) e j i=x:=⟨_,rfl⟩
     rw [hu] at hge hhi
     rw [hu]
     simp (disch:=omega) only [go_sem]
     refine bV (λ vs hh=>(∃ g:Nat->V,vs= [.sl S 0 N cp,aB a,aB b,aB pv,g 4,g 5,aB (u:Nat),aB (scanDown (λ x=>!ltInt x e[a]!) e u j:Nat),g 8,g 9,g 10,g 11,g 12,g 13])/\dV hh S N e/\Fx (· =S) h hh) ?_ ?_
     ·refine aJ (λ k' vs hh=> ∃ (k:Nat),(∃ g:Nat->V,vs= [.sl S 0 N cp,aB a,aB b,aB pv,g 4,g 5,aB (u:Nat),aB (k:Nat),g 8,g 9,g 10,g 11,g 12,g 13])/\k<=j/\dV hh S N e/\scanDown (λ x=>!ltInt x e[a]!) e u k=scanDown (λ x=>!ltInt x e[a]!) e u j/\Fx (· =S) h hh/\k'=k) j
       ⟨j,aA rfl,by omega,A9,rfl,F9,rfl⟩ ?_
      rintro k' vars hs ⟨k,⟨g,rfl⟩,hk1,As,hS,Fs,hkk⟩
      subst hkk
      by_cases hij:((u:Nat):Int)<=(k':Int)
      ·have e1:decide (((u:Nat):Int)<=(k':Int))=true:=decide_eq_true hij
       obtain ⟨k,rfl⟩: ∃ k,k'=k+1:=⟨k'- 1,by omega⟩
       have eK:((k+1:Nat):Int)- 1=(k:Int):=by omega
       have szs:=As.size
       have c1:=As.rd (i:=k+1) (by omega)
       have c2:=As.rd (i:=a) (by omega)
       simp (disch:=omega) only [go_sem,e1,c1,c2]
       refine (gQ _ _ _).mono ?_
       rintro _ hs2 ⟨rfl,fhs2⟩
       have fs2:Fr hs hs2:=Fr.trans ((Fr.refl hs).bF (by omega)) fhs2
       have As2:=As.fr fs2
       have Fs2:=gI Fs (Fx.of fs2)
       cases hl:ltInt e[k+1]! e[a]! with
       |true=>
        rw [Ac (λ hh=>by have:=hh.2;simp [hl] at this)] at hS
        simp (disch:=omega) only [go_sem,hl]
        exact ⟨by rw [←hS];exact aA rfl,As2,Fs2⟩
       |false=>
        rw [Wc (by omega) (by simp [hl])] at hS
        simp (disch:=omega) only [go_sem,hl,eK]
        exact ⟨k,by omega,k,aA rfl,by omega,As2,hS,Fs2,rfl⟩
      ·have e1:decide (((u:Nat):Int)<=(k':Int))=false:=decide_eq_false hij
       rw [Ac (λ hh=>hij (by have:=hh.1;omega))] at hS
       simp (disch:=omega) only [go_sem,e1]
       exact ⟨by rw [←hS];exact aA rfl,As.fr ((Fr.refl hs).bF (by omega)),gI Fs (Fx.of ((Fr.refl hs).bF (by omega)))⟩
     ·rintro vars h4 ⟨⟨g,rfl⟩,A4,F4⟩
      have hle:=scanDown_le (λ x=>!ltInt x e[a]!) e u j
      obtain ⟨w,hw⟩: ∃ x,scanDown (λ x=>!ltInt x e[a]!) e u j=x:=⟨_,rfl⟩
      rw [hw] at hle
      rw [hw]
      rw [hu,hw] at hL
      have sz4:=A4.size
      by_cases hgt:(w:Int)<(u:Int)
      ·have e1:decide ((w:Int)<(u:Int))=true:=decide_eq_true hgt
       rw [if_pos (by omega)] at hL
       simp (disch:=omega) only [go_sem,e1]
       rw [←hL]
       exact ⟨aA rfl,A4,by omega,F4⟩
      have e1:decide ((w:Int)<(u:Int))=false:=decide_eq_false hgt
      rw [if_neg (by omega)] at hL
      have c1:=A4.rd (i:=u) (by omega)
      have c2:=A4.rd (i:=w) (by omega)
      have ei:(u:Int)+1=((u+1:Nat):Int):=by omega
      have ej:(w:Int)- 1=((w- 1:Nat):Int):=by omega
      simp (disch:=omega) only [go_sem,e1,c1,c2,A4.get,bX,bL,ei,ej]
      have W:=A4.swap (i:=u) (j:=w) (nx:=h4.next+16) (by omega) rfl
      exact ⟨w- 1,by omega,u+1,w- 1,_,aA rfl,by omega,by omega,by omega,W.1,hL,gI F4 W.2,rfl⟩
   ·rintro vars h5 ⟨⟨g,rfl⟩,A5,hlt5,F5⟩
    generalize partLoop ltInt a (i2+1) (j2- 1) e0=r at hP A5 hlt5
    obtain ⟨m,e5⟩:=r
    have hlt5:m<b:=hlt5
    have A5:dV h5 S N e5:=A5
    have sz5:=A5.size
    have c1:=A5.rd (i:=m) (by omega)
    have c2:=A5.rd (i:=a) (by omega)
    simp (disch:=omega) only [go_sem,c1,c2,A5.get,bX,bL]
    have W:=A5.swap (i:=m) (j:=a) (nx:=h5.next+16) (by omega) rfl
    rw [hP]
    exact ⟨rfl,W.1,gI F5 W.2⟩
theorem Nj  (h:H) (S N a b pv:Nat) (d:Array Int) (cp:uO) (hN:N<1000000) (A:dV h S N d) (hb:b<=N) (hap:a<=pv) (hpb:pv<b):
  Ev T pU [.sl S 0 N cp,aB a,aB b,aB pv] h (λ v h'=>v= aB ((partitionEqual ltInt d a b pv).1:Nat)/\dV h' S N (partitionEqual ltInt d a b pv).2/\Fx (· =S) h h'):=by
 refine aZ pY rfl ?_
 have sz:=A.size
 have c1:=A.rd (i:=a) (by omega)
 have c2:=A.rd (i:=pv) (by omega)
 simp (disch:=omega) only [go_sem,dO,aF,c1,c2,A.get,bX,bL]
 have W:=A.swap (i:=a) (j:=pv) (nx:=h.next+16) (by omega) rfl
 obtain ⟨h1,h1e⟩: ∃ h1,h1=((H.mk h.tr (h.next+16)).set S (bQ (ints (d.setIfInBounds a d[pv]!).toList))).set S (bQ (ints ((d.setIfInBounds a d[pv]!).setIfInBounds pv d[a]!).toList)):=⟨_,rfl⟩
 rw [←h1e] at W ⊢
 obtain ⟨A1,F1⟩:=W
 have eb:(b:Int)- 1=((b- 1:Nat):Int):=by omega
 have ea:(a:Int)+1=((a+1:Nat):Int):=by omega
 unfold partitionEqual
 obtain ⟨e0,he⟩: ∃ e,swp d a pv=e:=⟨_,rfl⟩
 rw [he] at A1 ⊢
 clear h1e c1 c2 A
 simp (disch:=omega) only [go_sem,ea,eb]
 refine bV (λ vs hh=>(∃ g:Nat->V,vs= [.sl S 0 N cp,aB a,aB b,aB pv,g 4,aB (((partEqLoop ltInt a (a+1) (b- 1) e0).1:Nat):Int),g 6,g 7,g 8,g 9])/\dV hh S N (partEqLoop ltInt a (a+1) (b- 1) e0).2/\Fx (· =S) h hh) ?_ ?_
 ·refine aJ (λ k' vs hh=> ∃ (i j:Nat) (e:Array Int),(∃ g:Nat->V,vs= [.sl S 0 N cp,aB a,aB b,aB pv,g 4,aB i,aB j,g 7,g 8,g 9])/\a<i/\i<=b+1/\j<b/\dV hh S N e/\partEqLoop ltInt a i j e=partEqLoop ltInt a (a+1) (b- 1) e0/\Fx (· =S) h hh/\k'=j) (b- 1)
   ⟨a+1,b- 1,e0,aA rfl,by omega,by omega,by omega,A1,rfl,F1,rfl⟩ ?_
  obtain ⟨R2,hR2⟩: ∃ R2,partEqLoop ltInt a (a+1) (b- 1) e0=R2:=⟨_,rfl⟩
  rw [hR2]
  clear hR2 F1 A1 h1 he e0
  rintro k' vars h3 ⟨i,j,e,⟨g,rfl⟩,hi1,hi2,hj,A3,hL,F3,hkk⟩
  rw [partEqLoop_eq] at hL
  simp (disch:=omega) only [go_sem]
  refine bV (λ vs hh=>(∃ g:Nat->V,vs= [.sl S 0 N cp,aB a,aB b,aB pv,g 4,aB (scanUp (λ x=>!ltInt e[a]! x) e j i:Nat),aB (j:Nat),g 7,g 8,g 9])/\dV hh S N e/\Fx (· =S) h hh) ?_ ?_
  ·refine aJ (λ k' vs hh=> ∃ (k:Nat),(∃ g:Nat->V,vs= [.sl S 0 N cp,aB a,aB b,aB pv,g 4,aB (k:Nat),aB (j:Nat),g 7,g 8,g 9])/\i<=k/\k<=N+2/\dV hh S N e/\scanUp (λ x=>!ltInt e[a]! x) e j k=scanUp (λ x=>!ltInt e[a]! x) e j i/\Fx (· =S) h hh/\k'=j+1-k) (j+1-i)
    ⟨i,aA rfl,by omega,by omega,A3,rfl,F3,rfl⟩ ?_
   rintro k' vars hs ⟨k,⟨g,rfl⟩,hk1,hk2,As,hS,Fs,rfl⟩
   by_cases hij:(k:Int)<=((j:Nat):Int)
   ·have e1:decide ((k:Int)<=((j:Nat):Int))=true:=decide_eq_true hij
    have eK:(k:Int)+1=((k+1:Nat):Int):=by omega
    have szs:=As.size
    have c1:=As.rd (i:=k) (by omega)
    have c2:=As.rd (i:=a) (by omega)
    simp (disch:=omega) only [go_sem,e1,c1,c2]
    refine (gQ _ _ _).mono ?_
    rintro _ hs2 ⟨rfl,fhs2⟩
    have fs2:Fr hs hs2:=Fr.trans ((Fr.refl hs).bF (by omega)) fhs2
    have As2:=As.fr fs2
    have Fs2:=gI Fs (Fx.of fs2)
    cases hl:ltInt e[a]! e[k]! with
    |true=>
     rw [tW (λ hh=>by have:=hh.2;simp [hl] at this)] at hS
     simp (disch:=omega) only [go_sem,hl]
     exact ⟨by rw [←hS];exact aA rfl,As2,Fs2⟩
    |false=>
     rw [Lu (by omega) (by simp [hl])] at hS
     simp (disch:=omega) only [go_sem,hl,eK]
     exact ⟨j+1-(k+1),by omega,k+1,aA rfl,by omega,by omega,As2,hS,Fs2,rfl⟩
   ·have e1:decide ((k:Int)<=((j:Nat):Int))=false:=decide_eq_false hij
    rw [tW (λ hh=>hij (by have:=hh.1;omega))] at hS
    simp (disch:=omega) only [go_sem,e1]
    exact ⟨by rw [←hS];exact aA rfl,As.fr ((Fr.refl hs).bF (by omega)),gI Fs (Fx.of ((Fr.refl hs).bF (by omega)))⟩
  ·rintro vars h9 ⟨⟨g,rfl⟩,A9,F9⟩
   have hge:=scanUp_ge (λ x=>!ltInt e[a]! x) e j i
   have hhi:=sP (λ x=>!ltInt e[a]! x) e j i
   obtain ⟨u,hu⟩: ∃ x,scanUp (λ x=>!ltInt e[a]! x) e j i=x:=⟨_,rfl⟩
   rw [hu] at hge hhi
   rw [hu]
   simp (disch:=omega) only [go_sem]
   refine bV (λ vs hh=>(∃ g:Nat->V,vs= [.sl S 0 N cp,aB a,aB b,aB pv,g 4,aB (u:Nat),aB (scanDown (λ x=>ltInt e[a]! x) e u j:Nat),g 7,g 8,g 9])/\dV hh S N e/\Fx (· =S) h hh) ?_ ?_
   ·refine aJ (λ k' vs hh=> ∃ (k:Nat),(∃ g:Nat->V,vs= [.sl S 0 N cp,aB a,aB b,aB pv,g 4,aB (u:Nat),aB (k:Nat),g 7,g 8,g 9])/\k<=j/\dV hh S N e/\scanDown (λ x=>ltInt e[a]! x) e u k=scanDown (λ x=>ltInt e[a]! x) e u j/\Fx (· =S) h hh/\k'=k) j
     ⟨j,aA rfl,by omega,A9,rfl,F9,rfl⟩ ?_
    rintro k' vars hs ⟨k,⟨g,rfl⟩,hk1,As,hS,Fs,hkk⟩
    subst hkk
    by_cases hij:((u:Nat):Int)<=(k':Int)
    ·have e1:decide (((u:Nat):Int)<=(k':Int))=true:=decide_eq_true hij
     obtain ⟨k,rfl⟩: ∃ k,k'=k+1:=⟨k'- 1,by omega⟩
     have eK:((k+1:Nat):Int)- 1=(k:Int):=by omega
     have szs:=As.size
     have c1:=As.rd (i:=k+1) (by omega)
     have c2:=As.rd (i:=a) (by omega)
     simp (disch:=omega) only [go_sem,e1,c1,c2]
     refine (gQ _ _ _).mono ?_
     rintro _ hs2 ⟨rfl,fhs2⟩
     have fs2:Fr hs hs2:=Fr.trans ((Fr.refl hs).bF (by omega)) fhs2
     have As2:=As.fr fs2
     have Fs2:=gI Fs (Fx.of fs2)
     cases hl:ltInt e[a]! e[k+1]! with
     |false=>
      rw [Ac (λ hh=>by have:=hh.2;simp [hl] at this)] at hS
      simp (disch:=omega) only [go_sem,hl]
      exact ⟨by rw [←hS];exact aA rfl,As2,Fs2⟩
     |true=>
      rw [Wc (by omega) (by simp [hl])] at hS
      simp (disch:=omega) only [go_sem,hl,eK]
      exact ⟨k,by omega,k,aA rfl,by omega,As2,hS,Fs2,rfl⟩
    ·have e1:decide (((u:Nat):Int)<=(k':Int))=false:=decide_eq_false hij
     rw [Ac (λ hh=>hij (by have:=hh.1;omega))] at hS
     simp (disch:=omega) only [go_sem,e1]
     exact ⟨by rw [←hS];exact aA rfl,As.fr ((Fr.refl hs).bF (by omega)),gI Fs (Fx.of ((Fr.refl hs).bF (by omega)))⟩
   ·rintro vars h4 ⟨⟨g,rfl⟩,A4,F4⟩
    have hle:=scanDown_le (λ x=>ltInt e[a]! x) e u j
    obtain ⟨w,hw⟩: ∃ x,scanDown (λ x=>ltInt e[a]! x) e u j=x:=⟨_,rfl⟩
    rw [hw] at hle
    rw [hw]
    rw [hu,hw] at hL
    have sz4:=A4.size
    by_cases hgt:(w:Int)<(u:Int)
    ·have e1:decide ((w:Int)<(u:Int))=true:=decide_eq_true hgt
     rw [if_pos (by omega)] at hL
     simp (disch:=omega) only [go_sem,e1]
     rw [←hL]
     exact ⟨aA rfl,A4,F4⟩
    have e1:decide ((w:Int)<(u:Int))=false:=decide_eq_false hgt
    rw [if_neg (by omega)] at hL
    have c1:=A4.rd (i:=u) (by omega)
    have c2:=A4.rd (i:=w) (by omega)
    have ei:(u:Int)+1=((u+1:Nat):Int):=by omega
    have ej:(w:Int)- 1=((w- 1:Nat):Int):=by omega
    simp (disch:=omega) only [go_sem,e1,c1,c2,A4.get,bX,bL,ei,ej]
    have W:=A4.swap (i:=u) (j:=w) (nx:=h4.next+16) (by omega) rfl
    exact ⟨w- 1,by omega,u+1,w- 1,_,aA rfl,by omega,by omega,by omega,W.1,hL,gI F4 W.2,rfl⟩
 ·rintro vars h5 ⟨⟨g,rfl⟩,A5,F5⟩
  simp (disch:=omega) only [go_sem]
  exact ⟨A5,F5⟩
def MX  (n:Nat):Prop:= ∀ (h:H) (S N a b:Nat) (lim:Int) (d:Array Int) (cp:uO),N<60000->dV h S N d->a<=b->b<=N->b-a<=n->0<=lim->lim<1000000->Below ltInt a b d->
 Ev T vJ [.sl S 0 N cp,aB a,aB b,aB lim] h (λ _ h'=> ∃ e,dV h' S N e/\PermIn a b d e/\SortedIn ltInt a b e/\Fx (· =S) h h')
theorem JV  (n:Nat) (ih: ∀ m,m<n->MX m):MX n:=by
 intro h S N a b lim d cp hN A hab hbN hn hl0 hl1 hB
 refine aZ vG rfl ?_
 simp (disch:=omega) only [go_sem,fH,aF]
 refine aJ (λ k' vars hh=> ∃ (a' b':Nat) (l':Int) (wb wp:Bool) (e:Array Int),(∃ g:Nat->V,vars= [.sl S 0 N cp,aB (a':Int),aB (b':Int),aB l',.bool wb,.bool wp,g 6,g 7,g 8,g 9,g 10,g 11,g 12,g 13,g 14,g 15,g 16,g 17,g 18,g 19,g 20,g 21,g 22])/\a'<=b'/\b'<=N/\a<=a'/\b'<=b/\0<=l'/\l'<1000000/\Below ltInt a' b' e/\dV hh S N e/\Fx (· =S) h hh/\
   (∀ R,PermIn a' b' e R->SortedIn ltInt a' b' R->PermIn a b d R/\SortedIn ltInt a b R)/\k'=b'-a') (b-a)
  ⟨a,b,lim,true,true,d,aA rfl,hab,hbN,jI _,jI _,hl0,hl1,hB,A,Fx.refl _ h,λ R h1 h2=>⟨h1,h2⟩,rfl⟩ ?_
 clear A hB hl0 hl1
 rintro k' vars h1 ⟨a',b',l',wb,wp,e,⟨g,rfl⟩,hab',hbN',haa,hbb,hl0,hl1,hB,A,F,K,rfl⟩
 obtain ⟨m,hm⟩: ∃ m,b'-a'=m:=⟨_,rfl⟩
 have em:(b':Int)-(a':Int)=(m:Int):=by omega
 have ez: ∀ {x:Array Int} {hx:H},dV hx S N x->b'<=x.size:=λ A=>by rw [A.size];exact hbN'
 by_cases h12:(m:Int)<=12
 ·have e1:decide ((m:Int)<=12)=true:=decide_eq_true h12
  simp (disch:=omega) only [go_sem,em,e1]
  refine (Bo h1 S N a' b' e cp (by omega) A hbN' hab').mono ?_
  rintro _ h2 ⟨A2,F2⟩
  obtain ⟨p1,p2⟩:=insertionSort_holds swo_ltInt e a' b' hab' (ez A)
  obtain ⟨q1,q2⟩:=K _ p1 p2
  simp (disch:=omega) only [go_sem]
  exact ⟨_,A2,q1,q2,gI F F2⟩
 have e1:decide ((m:Int)<=12)=false:=decide_eq_false h12
 by_cases hl:l'=0
 ·have e2:decide (l'=0)=true:=decide_eq_true hl
  simp (disch:=omega) only [go_sem,em,e1,e2]
  refine (Fe h1 S N a' b' e cp (by omega) A hbN' hab').mono ?_
  rintro _ h2 ⟨A2,F2⟩
  obtain ⟨p1,p2⟩:=heapSort_holds swo_ltInt e a' b' hab' (ez A)
  obtain ⟨q1,q2⟩:=K _ p1 p2
  simp (disch:=omega) only [go_sem]
  exact ⟨_,A2,q1,q2,gI F F2⟩
 have e2:decide (l'=0)=false:=decide_eq_false hl
 simp (disch:=omega) only [go_sem,em,e1,e2]
 refine oH (λ vs hh=> ∃ (e2:Array Int) (l2:Int) (g:Nat->V),vs= [.sl S 0 N cp,aB (a':Int),aB (b':Int),aB l2,.bool wb,.bool wp,aB m,g 7,g 8,g 9,g 10,g 11,g 12,g 13,g 14,g 15,g 16,g 17,g 18,g 19,g 20,g 21,g 22]/\0<=l2/\l2<1000000/\dV hh S N e2/\PermIn a' b' e e2/\Fx (· =S) h hh) ?_ ?_
 ·cases wb with
  |true=>
   simp (disch:=omega) only [go_sem]
   exact .inl ⟨e,l',_,(aA rfl: ∃ g:Nat->V,_= [.sl S 0 N cp,aB (a':Int),aB (b':Int),aB l',.bool true,.bool wp,aB m,g 7,g 8,g 9,g 10,g 11,g 12,g 13,g 14,g 15,g 16,g 17,g 18,g 19,g 20,g 21,g 22]).choose_spec,hl0,hl1,A,permIn_refl e a' b',F⟩
  |false=>
   simp (disch:=omega) only [go_sem]
   refine (Ru h1 S N a' b' e cp hN A hbN' hab').mono ?_
   rintro _ h2 ⟨e2,A2,p2,F2⟩
   simp (disch:=omega) only [go_sem]
   exact .inl ⟨e2,l'- 1,_,(aA rfl: ∃ g:Nat->V,_= [.sl S 0 N cp,aB (a':Int),aB (b':Int),aB (l'- 1),.bool false,.bool wp,aB m,g 7,g 8,g 9,g 10,g 11,g 12,g 13,g 14,g 15,g 16,g 17,g 18,g 19,g 20,g 21,g 22]).choose_spec,by omega,by omega,A2,p2,gI F F2⟩
 clear A F hl0 hl1 hl e2 g
 rintro vars h2 ⟨e2,l2,g,rfl,hl0,hl1,A,P2,F⟩
 have B2:=hB.perm (by rw [←P2.1];exact ez A) P2
 simp (disch:=omega) only [go_sem]
 refine (Rf h2 S N a' b' e2 cp (by omega) A hbN' (by omega)).mono ?_
 rintro _ h3 ⟨p,t,rfl,hp1,hp2,f3⟩
 have A3:=A.fr f3
 have F3:=gI F (Fx.of f3)
 clear A F
 simp (disch:=omega) only [go_sem]
 refine oH (λ vs hh=> ∃ (e3:Array Int) (p2:Nat) (t2:Int) (g:Nat->V),vs= [.sl S 0 N cp,aB (a':Int),aB (b':Int),aB l2,.bool wb,.bool wp,aB m,aB p2,aB t2,g 9,g 10,g 11,g 12,g 13,g 14,g 15,g 16,g 17,g 18,g 19,g 20,g 21,g 22]/\a'<=p2/\p2<b'/\dV hh S N e3/\PermIn a' b' e2 e3/\Fx (· =S) h hh) ?_ ?_
 ·refine aY (λ ht=>?_) (λ ht=>?_)
  ·simp (disch:=omega) only [go_sem]
   refine (Jl h3 S N a' b' e2 cp (by omega) A3 hbN' (by omega)).mono ?_
   rintro _ h4 ⟨A4,F4⟩
   have e5:(b':Int)- 1-((p:Int)-(a':Int))=(((b'- 1)-(p-a'):Nat):Int):=by omega
   simp (disch:=omega) only [go_sem,e5]
   exact .inl ⟨_,(b'- 1)-(p-a'),1,_,(aA rfl: ∃ g:Nat->V,_= [.sl S 0 N cp,aB (a':Int),aB (b':Int),aB l2,.bool wb,.bool wp,aB m,aB ((b'- 1)-(p-a'):Nat),aB 1,g 9,g 10,g 11,g 12,g 13,g 14,g 15,g 16,g 17,g 18,g 19,g 20,g 21,g 22]).choose_spec,by omega,by omega,A4,reverseRange_holds e2 a' b' hab' (ez A3),gI F3 F4⟩
  ·simp (disch:=omega) only [go_sem]
   exact .inl ⟨e2,p,t,_,(aA rfl: ∃ g:Nat->V,_= [.sl S 0 N cp,aB (a':Int),aB (b':Int),aB l2,.bool wb,.bool wp,aB m,aB p,aB t,g 9,g 10,g 11,g 12,g 13,g 14,g 15,g 16,g 17,g 18,g 19,g 20,g 21,g 22]).choose_spec,hp1,hp2,A3,permIn_refl e2 a' b',F3⟩
 have ez2:=ez A3
 clear A3 F3 hp1 hp2 f3 p t g
 rintro vars h4 ⟨e3,p,t,g,rfl,hp1,hp2,A,P3,F⟩
 have B3:=B2.perm ez2 P3
 have P23:=permIn_trans _ _ _ a' b' P2 P3
 have ez3:b'<=e2.size:=ez2
 clear ez2 B2 hB
 refine Rb (λ vs hh=> ∃ (e4:Array Int) (g:Nat->V),vs= [.sl S 0 N cp,aB (a':Int),aB (b':Int),aB l2,.bool wb,.bool wp,aB m,aB p,g 8,g 9,g 10,g 11,g 12,g 13,g 14,g 15,g 16,g 17,g 18,g 19,g 20,g 21,g 22]/\dV hh S N e4/\PermIn a' b' e e4/\Below ltInt a' b' e4/\Fx (· =S) h hh) ?_ ?_
 ·have skip: ∀ (vs:List V),(∃ g:Nat->V,vs= [.sl S 0 N cp,aB (a':Int),aB (b':Int),aB l2,.bool wb,.bool wp,aB m,aB p,g 8,g 9,g 10,g 11,g 12,g 13,g 14,g 15,g 16,g 17,g 18,g 19,g 20,g 21,g 22])-> ∃ (e4:Array Int) (g:Nat->V),vs= [.sl S 0 N cp,aB (a':Int),aB (b':Int),aB l2,.bool wb,.bool wp,aB m,aB p,g 8,g 9,g 10,g 11,g 12,g 13,g 14,g 15,g 16,g 17,g 18,g 19,g 20,g 21,g 22]/\dV h4 S N e4/\PermIn a' b' e e4/\Below ltInt a' b' e4/\Fx (· =S) h h4:=λ vs ⟨g,hv⟩=>⟨e3,g,hv,A,P23,B3,F⟩
  have run: ∀ g:Nat->V,Ev T fY [.sl S 0 N cp,aB (a':Int),aB (b':Int)] h4 (λ v h'=> ∃ r:Array Int×Bool,v= .bool r.2/\dV h' S N r.1/\Fx (· =S) h4 h'/\PermIn a' b' e3 r.1/\(r.2=true->SortedIn ltInt a' b' r.1)):=λ _=>by
   refine (Is h4 S N a' b' e3 cp (by omega) A hbN' (by omega)).mono ?_
   rintro v h5 ⟨hv,A5,F5⟩
   obtain ⟨q1,q2⟩:=partialInsertionSort_holds swo_ltInt e3 a' b' (by omega) (ez A) B3
   exact ⟨_,hv,A5,F5,q1,q2⟩
  cases wb with
  |false=>
   simp (disch:=omega) only [go_sem]
   exact .inl (skip _ (aA rfl))
  |true=>cases wp with
   |false=>
    simp (disch:=omega) only [go_sem]
    exact .inl (skip _ (aA rfl))
   |true=>
    simp (disch:=omega) only [go_sem]
    refine aY (λ ht=>?_) (λ ht=>?_)
    ·simp (disch:=omega) only [go_sem]
     refine (run g).mono ?_
     rintro v h5 ⟨⟨e5,r5⟩,rfl,A5,F5,q1,q2⟩
     have A5:dV h5 S N e5:=A5
     have q1:PermIn a' b' e3 e5:=q1
     have P5:=permIn_trans _ _ _ a' b' P23 q1
     cases r5 with
     |false=>
      simp (disch:=omega) only [go_sem]
      exact .inl ⟨e5,_,(aA rfl: ∃ g:Nat->V,_= [.sl S 0 N cp,aB (a':Int),aB (b':Int),aB l2,.bool true,.bool true,aB m,aB p,g 8,g 9,g 10,g 11,g 12,g 13,g 14,g 15,g 16,g 17,g 18,g 19,g 20,g 21,g 22]).choose_spec,A5,P5,B3.perm (ez A) q1,gI F F5⟩
     |true=>
      obtain ⟨w1,w2⟩:=K _ P5 (q2 rfl)
      simp (disch:=omega) only [go_sem]
      exact .inr ⟨by simp,e5,A5,w1,w2,gI F F5⟩
    ·simp (disch:=omega) only [go_sem]
     exact .inl (skip _ (aA rfl))
 clear A P3 P23 B3 F P2 ez3 e3 e2
 rintro vars h5 ⟨e4,g,rfl,A,P4,B4,F⟩
 have ez4:=ez A
 refine Rb (λ vs hh=> ∃ (g:Nat->V),vs= [.sl S 0 N cp,aB (a':Int),aB (b':Int),aB l2,.bool wb,.bool wp,aB m,aB p,g 8,g 9,g 10,g 11,g 12,g 13,g 14,g 15,g 16,g 17,g 18,g 19,g 20,g 21,g 22]/\dV hh S N e4/\Fx (· =S) h hh) ?_ ?_
 ·by_cases h0:(0:Int)<(a':Int)
  case neg=>
   have e1:decide ((0:Int)<(a':Int))=false:=decide_eq_false h0
   simp (disch:=omega) only [go_sem,e1]
   exact .inl ⟨_,(aA rfl: ∃ g:Nat->V,_= [.sl S 0 N cp,aB (a':Int),aB (b':Int),aB l2,.bool wb,.bool wp,aB m,aB p,g 8,g 9,g 10,g 11,g 12,g 13,g 14,g 15,g 16,g 17,g 18,g 19,g 20,g 21,g 22]).choose_spec,A.fr ((Fr.refl h5).bF (by omega)),gI F (Fx.of ((Fr.refl h5).bF (by omega)))⟩
  have e1:decide ((0:Int)<(a':Int))=true:=decide_eq_true h0
  have ea:(a':Int)- 1=((a'- 1:Nat):Int):=by omega
  have c1:=A.rd (i:=a'- 1) (by omega)
  have c2:=A.rd (i:=p) (by omega)
  simp (disch:=omega) only [go_sem,e1,ea,c1,c2]
  refine (gQ _ _ _).mono ?_
  rintro _ h6 ⟨rfl,fh6⟩
  have f6:Fr h5 h6:=Fr.trans ((Fr.refl h5).bF (by omega)) fh6
  have A6:=A.fr f6
  have F6:=gI F (Fx.of f6)
  cases hl:ltInt e4[a'- 1]! e4[p]! with
  |true=>
   simp (disch:=omega) only [go_sem,hl]
   exact .inl ⟨_,(aA rfl: ∃ g:Nat->V,_= [.sl S 0 N cp,aB (a':Int),aB (b':Int),aB l2,.bool wb,.bool wp,aB m,aB p,g 8,g 9,g 10,g 11,g 12,g 13,g 14,g 15,g 16,g 17,g 18,g 19,g 20,g 21,g 22]).choose_spec,A6,F6⟩
  |false=>
   obtain ⟨w1,w2,w3,w4,w5⟩:=round_eq swo_ltInt (partitionEqual_holds ltInt) (by omega) hp1 hp2 ez4 B4 hl (Prod.eta (partitionEqual ltInt e4 a' b' p)).symm
   simp (disch:=omega) only [go_sem,hl]
   refine (Nj h6 S N a' b' p e4 cp (by omega) A6 hbN' hp1 hp2).mono ?_
   rintro _ h7 ⟨rfl,A7,F7⟩
   simp (disch:=omega) only [go_sem]
   refine .inr ⟨by simp,b'-(partitionEqual ltInt e4 a' b' p).1,by omega,(partitionEqual ltInt e4 a' b' p).1,b',l2,wb,wp,_,aA rfl,w2,hbN',by omega,hbb,hl0,hl1,w4,A7,gI F6 F7,λ R r1 r2=>?_,rfl⟩
   obtain ⟨t1,t2⟩:=w5 R r1 r2
   exact K R (permIn_trans _ _ _ a' b' P4 t1) t2
 clear A F
 rintro vars h6 ⟨g,rfl,A,F⟩
 have e8:=Si m (k:=8) (m:=8) rfl
 simp (disch:=omega) only [go_sem]
 refine (Bx h6 S N a' b' p e4 cp (by omega) A hbN' hp1 hp2).mono ?_
 obtain ⟨r,hr⟩: ∃ r,partition ltInt e4 a' b' p=r:=⟨_,rfl⟩
 rw [hr]
 obtain ⟨mid,ap,e5⟩:=r
 obtain ⟨w1,w2,w3,w4,w5,w6,w7⟩:=round_part swo_ltInt (partition_holds ltInt) hp1 hp2 ez4 B4 hr
 rintro _ h7 ⟨rfl,A7,F7⟩
 have A7:dV h7 S N e5:=A7
 have F7:=gI F F7
 have el:(mid:Int)-(a':Int)=((mid-a':Nat):Int):=by omega
 have er:(b':Int)-(mid:Int)=((b'-mid:Nat):Int):=by omega
 have e1:(mid:Int)+1=((mid+1:Nat):Int):=by omega
 simp (disch:=omega) only [go_sem,el,er,e8]
 refine aY (λ ht=>?_) (λ ht=>?_)
 ·simp (disch:=omega) only [go_sem]
  refine (ih (mid-a') (by omega) h7 S N a' mid l2 e5 cp hN A7 w1 (by omega) (jI _) hl0 hl1 w4).mono ?_
  rintro _ h8 ⟨L,A8,p8,s8,F8⟩
  obtain ⟨u1,u2⟩:=w6 L p8 s8
  simp (disch:=omega) only [go_sem,e1]
  refine ⟨b'-(mid+1),by omega,mid+1,b',l2,_,ap,L,aA rfl,by omega,hbN',by omega,hbb,hl0,hl1,u1,A8,gI F7 F8,λ R r1 r2=>?_,rfl⟩
  obtain ⟨t1,t2⟩:=u2 R r1 r2
  exact K R (permIn_trans _ _ _ a' b' P4 t1) t2
 ·simp (disch:=omega) only [go_sem,e1]
  refine (ih (b'-(mid+1)) (by omega) h7 S N (mid+1) b' l2 e5 cp hN A7 (by omega) hbN' (jI _) hl0 hl1 w5).mono ?_
  rintro _ h8 ⟨L,A8,p8,s8,F8⟩
  obtain ⟨u1,u2⟩:=w7 L p8 s8
  simp (disch:=omega) only [go_sem]
  refine ⟨mid-a',by omega,a',mid,l2,_,ap,L,aA rfl,by omega,by omega,haa,by omega,hl0,hl1,u1,A8,gI F7 F8,λ R r1 r2=>?_,rfl⟩
  obtain ⟨t1,t2⟩:=u2 R r1 r2
  exact K R (permIn_trans _ _ _ a' b' P4 t1) t2
theorem CH  (n:Nat):MX n:=by
 induction n using Nat.strongRecOn with
 |_ n ih=>exact JV n  ih
theorem IW (h:H) (S N:Nat) (d:Array Int) (cp:uO) (hN:N<60000) (A:dV h S N d):
  Ev T sI [.sl S 0 N cp] h (λ _ h'=> ∃ e,dV h' S N e/\PermIn 0 N d e/\SortedIn ltInt 0 N e/\Fx (· =S) h h'):=by
 refine aZ Cq rfl ?_
 have hb:bitsLen N<=16:=(bitsLen_le_iff _ 16).2 (by omega)
 simp (disch:=omega) only [go_sem,jE,aF,fT (n:=(N:Int)) (by omega) (by omega)]
 refine (JC N h (by omega)).mono ?_
 rintro _ h1 ⟨rfl,hh⟩
 subst hh
 simp (disch:=omega) only [go_sem]
 refine (CH N h1 S N 0 N _ d cp hN A (by omega) (by omega) (by omega) (by omega) (by omega) (.inl rfl)).mono ?_
 rintro _ h2 ⟨e,A2,p,s,F⟩
 simp (disch:=omega) only [go_sem]
 exact ⟨e,A2,p,s,F⟩
theorem Wa {l:List Int} {N:Nat} (hl:l.length=N) {e:Array Int} (hp:PermIn 0 N l.toArray e) (hs:SortedIn ltInt 0 N e):e.toList.Perm l/\e.toList.Pairwise (· <= ·):=by
 obtain ⟨p1,p2,p3⟩:=hp
 have hsz:e.size=N:=by rw [p1];simpa using hl
 refine ⟨?_,?_⟩
 ·have a1:(e.extract 0 N).toList=e.toList:=by rw [←hsz];simp
  have a2:(l.toArray.extract 0 N).toList=l:=by rw [←hl];simp
  rwa [a1,a2] at p3
 ·rw [List.pairwise_iff_getElem]
  intro i j hi hj hij
  have hj':j<N:=by simpa [hsz] using hj
  have:=hs i j (mJ _) hij hj'
  unfold ltInt at this
  have e1:e[i]! =e.toList[i]:=by simp at hi;simp [hi]
  have e2:e[j]! =e.toList[j]:=by simp at hj;simp [hj]
  rw [e1,e2] at this
  simpa using this
theorem BL (h:H) (S:Nat) (l:List Int) (cp:uO) (hN:l.length<60000) (hg:h.get S=bQ (ints l)) (hS:S<h.next):
  Ev T sI [.sl S 0 l.length cp] h (λ _ h'=> ∃ l',h'.get S=bQ (ints l')/\l'.Perm l/\l'.Pairwise (· <= ·)/\Fx (· =S) h h'):=by
 refine (IW h S l.length l.toArray cp hN ⟨hg,by simp,hS⟩).mono ?_
 rintro _ h' ⟨e,A,p,s,F⟩
 obtain ⟨q1,q2⟩:=Wa rfl p s
 exact ⟨e.toList,A.get,q1,q2,F⟩
theorem HO {a b:List Int} (h:a.Perm b) (ha:a.Pairwise (· <= ·)) (hb:b.Pairwise (· <= ·)):a=b:=
 h.eq_of_pairwise (λ _ _ _ _ h1 h2=>Int.le_antisymm h1 h2) ha hb
end Go.Proofs.YtddpkbicnolafaaGreat
namespace Go.Proofs.YtddpkbicnolafaaGreat
open Go Go.Ay Go.Pm
set_option maxRecDepth 100000
theorem MM (id b:Nat) (vl:V) (l:List Int) (h:H) (hn:l.length<1000000) (J:Nat->H->Prop) (D:H->Prop) (h0:J 0 h)
  (hk: ∀ i hh,J i hh->hh.get b=bQ [vl]/\SI hh vl l)
  (hy: ∀ i hh,i<l.length->J i hh->Ey T id [aB (l.getD i 0)] hh (λ v h'=>v= .bool true/\J (i+1) h'∨v= .bool false/\D h')):
  Ev T fX [.yl id,.ptr b 0] h (λ _ h'=>J l.length h'∨D h'):=by
 refine aZ yD rfl ?_
 obtain ⟨g0,s0⟩:=hk 0 h h0
 have cb:h.cell b 0=some vl:=by rw [H.aG g0];rfl
 have lv:=s0.lens
 simp (disch:=omega) only [go_sem,fW,aF,cb,lv]
 refine aJ (λ k' vars hh=> ∃ (i:Nat),(∃ g:Nat->V,vars= [.yl id,.ptr b 0,g 2,vl,aB (l.length:Int),aB i,g 6,g 7])/\i<=l.length/\J i hh/\k'=l.length-i) l.length
  ⟨0,aA rfl,mJ _,h0,rfl⟩ ?_
 rintro k' vars h2 ⟨i,⟨g,rfl⟩,hi,hJ,rfl⟩
 by_cases hlt:(i:Int)<(l.length:Int)
 ·have e1:=mG hlt
  obtain ⟨g2,s2⟩:=hk i h2 hJ
  obtain ⟨id2,off,sh,hid,hc⟩:=s2.open
  have ci:=hc i (by omega)
  simp (disch:=omega) only [go_sem,e1,sh.ixa,ci]
  refine (hy i h2 (by omega) hJ).mono ?_
  rintro v h3 (⟨rfl,h4⟩|⟨rfl,h4⟩)
  ·simp (disch:=omega) only [go_sem]
   rw [iJ i]
   exact ⟨l.length-(i+1),by omega,i+1,aA rfl,by omega,h4,rfl⟩
  ·simp (disch:=omega) only [go_sem]
   exact .inr h4
 have e1:=gJ hlt
 obtain rfl:i=l.length:=by omega
 simp (disch:=omega) only [go_sem,e1]
 exact .inl hJ
theorem ME (b:Nat) (vl:V) (l:List Int) (h:H) (hn:l.length<100000) (hb:h.get b=bQ [vl]) (hbn:b<h.next) (hv:SI h vl l):
  Ev T Dx [.fn fX [] [.ptr b 0]] h (λ v h'=>eL h' v 1 (ints l) h.next/\(v= .aC∨ ∃ id cap,v= .sl id 0 l.length cap/\h.next<=id/\id<h'.next/\h'.get id=bQ (ints l))/\Fr h h'):=by
 refine aZ Ee rfl ?_
 simp (disch:=omega) only [go_sem,jX,aF]
 refine Ev.mono (Q:=λ v h'=>eL h' v 1 (ints l) h.next/\(v= .aC∨ ∃ id cap,v= .sl id 0 l.length cap/\h.next<=id/\id<h'.next/\h'.get id=bQ (ints l))/\Fr h h') ?_ (λ v h' hv=>by simp (disch:=omega) only [go_sem];exact hv)
 refine aZ xZ rfl ?_
 simp (disch:=omega) only [go_sem,fP,aF,uH (x:= .aC) rfl rfl]
 obtain ⟨B,hB⟩: ∃ B,h.next=B:=⟨_,rfl⟩
 obtain ⟨h1,h1e⟩: ∃ h1,h1=h.new (.cells false [.aC]):=⟨_,rfl⟩
 have g1:h1.get B=bQ [.aC]:=by rw [h1e,←hB,H.aQ]
 have n1:h1.next=B+1:=by rw [h1e,H.bD,hB]
 have f1:Fr h h1:=by rw [h1e];exact (Fr.refl h).new _
 rw [←h1e,hB]
 refine ⟨rfl,?_⟩
 refine Bp λ r hr=>?_
 refine (MM (B+1) b vl l _ (by omega) (λ i hh=>hh.get (B+1)=some (.loop r)/\B+1<hh.next/\Fr h hh/\ ∃ va,hh.get B=bQ [va]/\eL hh va 1 (ints (l.take i)) (B+2)/\(va= .aC∨ ∃ id cap,va= .sl id 0 i cap/\B+2<=id/\id<hh.next/\hh.get id=bQ (ints (l.take i)))) (λ _=>False) ?_ ?_ ?_).mono ?_
 ·have e:=H.aQ h1 (.loop r)
  rw [n1] at e
  refine ⟨e,by rw [H.bD];omega,f1.new _,.aC,by rw [H.bM h1 (by omega)];exact g1,eL.aC _ _ _,.inl rfl⟩
 ·rintro i hh ⟨_,_,f,_⟩
  exact ⟨by rw [f.get b hbn];exact hb,hv.mono f⟩
 ·rintro i hh hi ⟨gr,nr,f,va,gB,ow,sh⟩
  have jH:r.st= .ready:=by rw [hr]
  have hpd:r.pend=none:=by rw [hr]
  refine wW gr (by rw [hr];rfl) jH λ h2 g2 n2 o2=>?_
  rw [congrArg fV.assign hr,congrArg fV.vars hr,congrArg fV.pars hr]
  simp (disch:=omega) only [go_sem,List.zip_cons_cons,List.zip_nil_left]
  rw [congrArg fV.body hr]
  have cB:h2.cell B 0=some va:=by unfold H.cell;rw [o2 B (by omega),gB];rfl
  simp (disch:=omega) only [go_sem,cB,dN h2 (z:= aB 0) (v:= aB (l.getD i 0)) rfl rfl,n2]
  obtain ⟨h3,h3e⟩: ∃ h3,h3=h2.new (.cells false [aB (l.getD i 0)]):=⟨_,rfl⟩
  have g3:h3.get hh.next=bQ [aB (l.getD i 0)]:=by rw [h3e,←n2,H.aQ]
  have n3:h3.next=hh.next+1:=by rw [h3e,H.bD,n2]
  have o3: ∀ k,k<hh.next->k≠B+1->h3.get k=hh.get k:=λ k h4 h5=>by rw [h3e,H.bM h2 (by omega),o2 k h5]
  have r3:h3.get (B+1)=some (.loop (wQ r)):=by rw [h3e,H.bM h2 (by omega),g2]
  rw [←h3e]
  have ow3:eL h3 va 1 (ints (l.take i)) (B+2):=ow.mono (by omega) λ id off n c e h4 h5=>o3 id h5 (by omega)
  have hli:(l.take i).length=i:=by rw [List.length_take];omega
  obtain ⟨h4,a4,p4⟩:=ow3.push (bytes:=8) (SV.one (by omega) g3 (.kn 1)) (n:=i) (m:=1) (by rw [aS,hli,Nat.mul_one]) rfl (by omega) (by omega) (by omega)
  have ap: ∀ k,k<B+2->eC va k:=λ k hk id off n c e e2=>by
   have:=(ow.in _ _ _ _ e).2.1
   omega
  have g4:h4.get B=bQ [va]:=by rw [p4.old B (by omega) (ap B (by omega)),o3 B (by omega) (by omega)];exact gB
  have r4:h4.get (B+1)=some (.loop (wQ r)):=by rw [p4.old (B+1) (by omega) (ap (B+1) (by omega))];exact r3
  have pt:fI (bQ [va]) h4 B 0 [.sl h3.next 0 (i+1) (.un 1)]=some (h4.set B (bQ [.sl h3.next 0 (i+1) (.un 1)])):=bT (by simp) h4 B _
  simp (disch:=omega) only [go_sem,a4,g4,pt]
  refine xM jH hpd (by rw [H.aH h4 (by omega)];exact r4) (.inl ⟨rfl,?_⟩)
  have et:ints (l.take (i+1))=ints (l.take i)++ [aB (l.getD i 0)]:=by
   rw [←List.take_append_getElem hi,uG]
   simp [ints,List.getD,hi]
  have n4:=p4.next
  have g5:((h4.set B (bQ [.sl h3.next 0 (i+1) (.un 1)])).set (B+1) (some (.loop r))).get h3.next=bQ (ints (l.take (i+1))):=by
   rw [H.aH _ (by omega),H.aH _ (by omega),p4.get,et]
  refine ⟨by rw [H.aW],by simp only [H.cG];omega,⟨by simp only [H.cG];have:=f.next;omega,λ id hid=>?_⟩,_,by rw [H.aH _ (by omega),H.aW],?_,.inr ⟨h3.next,_,rfl,by omega,by simp only [H.cG];omega,g5⟩⟩
  ·rw [H.aH _ (by omega),H.aH _ (by omega),p4.old id (by have:=f.next;omega) (ap id (by omega)),o3 id (by have:=f.next;omega) (by omega)]
   exact f.get id hid
  ·exact .inr ⟨h3.next,i+1,_, [],rfl,by rw [aS,List.length_take];omega,.inl rfl,by omega,by simp only [H.cG];omega,by rw [List.append_nil];exact g5⟩
 ·rintro _ h2 (⟨gr,nr,f,va,gB,ow,sh⟩|h)
  case inr=>exact h.elim
  refine ⟨r,gr,by rw [hr];simp,?_⟩
  have cB:(h2.set (B+1) (some (.loop {r with st:= .out}))).cell B 0=some va:=by unfold H.cell;rw [H.aH _ (by omega),gB];rfl
  have en:r.pend.getD .norm= .norm:=by rw [hr];rfl
  rw [en]
  simp (disch:=omega) only [go_sem,cB]
  rw [List.take_length] at ow sh
  refine ⟨?_,?_,⟨by simp only [H.cG];have:=f.next;omega,λ id hid=>by rw [H.aH _ (by omega)];exact f.get id hid⟩⟩
  ·refine (ow.mono (by simp only [H.cG];omega) λ id off n c e h4 h5=>H.aH _ (by omega) _).le (by omega)
  ·rcases sh with rfl|⟨id,cap,rfl,h3,h4,h5⟩
   ·exact .inl rfl
   ·exact .inr ⟨id,cap,rfl,by omega,h4,by rw [H.aH _ (by omega)];exact h5⟩
theorem RU (b:Nat) (vl:V) (l:List Int) (h:H) (h0:0<l.length) (hn:l.length<50000) (hb:h.get b=bQ [vl]) (hbn:b<h.next) (hv:SI h vl l):
  Ev T Hi [.fn fX [] [.ptr b 0]] h (λ v h'=> ∃ id cap l',v= .sl id 0 l.length cap/\h.next<=id/\id<h'.next/\h'.get id=bQ (ints l')/\l'.Perm l/\l'.Pairwise (· <= ·)/\Fr h h'):=by
 refine aZ Gr rfl ?_
 simp (disch:=omega) only [go_sem,kG,aF]
 refine (ME b vl l h (by omega) hb hbn hv).mono ?_
 rintro v h1 ⟨ow,sh,f1⟩
 rcases sh with rfl|⟨id,cap,rfl,h2,h3,h4⟩
 ·exfalso
  rcases ow with ⟨_,e⟩|⟨_,_,_,_,e,_⟩
  ·have:=congrArg List.length e
   rw [aS,List.length_nil] at this
   omega
  ·cases e
 simp (disch:=omega) only [go_sem]
 refine (BL h1 id l cap (by omega) h4 h3).mono ?_
 rintro _ h5 ⟨l',g5,p5,s5,f5⟩
 simp (disch:=omega) only [go_sem]
 exact ⟨id,cap,l',rfl,h2,mM h3 f5.next,g5,p5,s5,Nat.le_trans f1.next f5.next,λ k hk=>(f5.get k (mM hk f1.next) (λ e=>by have:k=id:=e;omega)).trans (f1.get k hk)⟩
structure Bu (h h':H) (v:V) (l:List Int):Prop where
 ex: ∃ id cap,v= .sl id 0 l.length cap/\h.next<=id/\id<h'.next/\h'.get id=bQ (ints l)/\(cap= .un 1∨cap= .kn l.length)
 fr:Fr h h'
theorem Bu.pv {h h':H} {v:V} {l:List Nat} (f:Bu h h' v (zi l)) {W:Nat->Prop} (hw: ∀ id,W id->id<h.next):PV W h' v l:=by
 obtain ⟨id,cap,rfl,h1,h2,h3,_⟩:=f.ex
 exact ⟨SV.all (by rw [aS,Nat.mul_one]) h2 h3 _,λ hx=>by have:=hw id hx;omega⟩
theorem Bu.si {h h':H} {v:V} {l:List Int} (f:Bu h h' v l):SI h' v l:=by
 obtain ⟨id,cap,rfl,h1,h2,h3,_⟩:=f.ex
 exact SV.all (by rw [aS,Nat.mul_one]) h2 h3 _
theorem Bu.own {h h':H} {v:V} {l:List Int} (f:Bu h h' v l):eL h' v 1 (ints l) h.next:=by
 obtain ⟨id,cap,rfl,h1,h2,h3,h4⟩:=f.ex
 exact .inr ⟨id,l.length,cap, [],rfl,by rw [aS,Nat.mul_one],by rcases h4 with e|e;exact .inl e;exact .inr ⟨e,rfl⟩,h1,h2,by rw [List.append_nil];exact h3⟩
theorem Kr (u:V) (l:List Int) (h:H) (h0:0<l.length) (hn:l.length<1000000) (hu:SI h u l):
  Ev T vP [u] h (λ v h'=>Bu h h' v l):=by
 refine aZ vU rfl ?_
 have sn:Rn false u=some (.bool false):=by
  rcases hu with ⟨_,e⟩|⟨id,off,len,cap,ro,vs,rfl,_⟩
  ·have:=congrArg List.length e
   rw [aS,List.length_nil] at this
   omega
  ·rfl
 simp (disch:=omega) only [go_sem,fE,aF,sn]
 have f1:Fr h (h.new (.cells false [])):=(Fr.refl h).new _
 have o1:eL (h.new (.cells false [])) (.sl h.next 0 0 (.kn 0)) 1 [] 0:=eL.new h 1 0 0 [] rfl (mJ _)
 obtain ⟨h2,a2,p2⟩:=o1.push (bytes:=8) (hu.mono f1) (n:=0) (m:=l.length) rfl (by rw [aS,Nat.mul_one]) (by omega) h0 (by omega)
 have n1:(h.new (.cells false [])).next=h.next+1:=H.bD ..
 rw [n1] at a2
 have n2:=p2.next
 have g2:=p2.get
 rw [n1] at n2 g2
 simp (disch:=omega) only [go_sem,a2]
 refine ⟨⟨h.next+1,_,rfl,by omega,by omega,g2,.inl rfl⟩,by omega,λ id hid=>?_⟩
 rw [p2.old id (by omega) (λ id' off n c e e2=>by cases e;omega)]
 exact f1.get id hid
def PA (v:V):Prop:= ∀ id off len cap,v= .sl id off len cap->cap= .un 1∨ ∃ c,cap= .kn c/\len<=c
theorem eL.YP {h:H} {v:V} {ws:List V} {b:Nat} (o:eL h v 1 ws b):PA v:=by
 rintro id off len cap rfl
 rcases o with ⟨e,_⟩|⟨_,_,_,_,e,_,h2,_⟩
 ·cases e
 ·cases e
  rcases h2 with e|⟨e,_⟩
  ·exact .inl e
  ·exact .inr ⟨_,e,jI _⟩
def SRR (h:H) (v:V) (R:List (List (List Int))):Prop:= ∃ ws,SV h v 1 ws/\bJ (SR h) ws R/\ ∀ w∈ws,PA w
theorem SRR.mono {h h':H} {v:V} {R:List (List (List Int))} (s:SRR h v R) (f:Fr h h'):SRR h' v R:=by
 obtain ⟨ws,s,a,k⟩:=s
 exact ⟨ws,s.mono f,a.mono λ _ _ x=>x.mono f,k⟩
def ChI (h:H) (v:V) (d:Int) (O:List (List Int)) (R:List (List (List Int))):Prop:= ∃ vO vR,v= .agg [aB d,vO,vR]/\SR h vO O/\SRR h vR R
theorem ChI.mono {h h':H} {v:V} {d:Int} {O:List (List Int)} {R:List (List (List Int))} (s:ChI h v d O R) (f:Fr h h'):ChI h' v d O R:=by
 obtain ⟨vO,vR,e,s1,s2⟩:=s
 exact ⟨vO,vR,e,s1.mono f,s2.mono f⟩
def PL (W:Nat->Prop) (h:H) (v:V) (r:LN):Prop:= ∃ ws,SV h v 1 ws/\TD W v/\jL W h ws r/\PA v
section
variable {W W':Nat->Prop} {h h' hh:H}
theorem PL.go {v:V} {r:LN} (p:PL W h v r) (f:Fx W h h') (hw: ∀ id,id<h.next->W' id->W id):PL W' h' v r:=by
 obtain ⟨ws,s,o,a,k⟩:=p
 exact ⟨ws,s.fx o f,o.zU s hw,jL.go a f hw,k⟩
theorem PL.sp {v:V} {r:LN} (p:PL W h v r):SP h v r:=by
 obtain ⟨ws,s,o,a,_⟩:=p
 refine ⟨ws,s,?_⟩
 have hl:=bJ.length a
 exact bJ.oT (by simpa using hl) λ i hi hj=>by
  have:=(bJ.get a i hi (by omega)).si
  simpa using this
def Kt (W:Nat->Prop) (v:V):Prop:= ∀ id off n c,v= .sl id off n c->W id
structure Dy (h hh:H) (C D:Nat) (W:Nat->Prop) (n:Nat) (O:LN) (R:qF) (vO vR:V) (wsO wsR:List V):Prop where
 get:hh.get C=bQ [aB n,vO,vR]
 oO:eL hh vO 1 wsO h.next
 oR:eL hh vR 1 wsR h.next
 aO:jL W hh wsO O
 aR:bJ (PL W hh) wsR R
 bO:Kt W vO
 bR:Kt W vR
 pO:eC vO C
 pR:eC vR C
 qO:eC vO D
 qR:eC vR D
 d:W D
 cd:C≠D
 PQ:Dis vO vR
 wb: ∀ id,W id->id<hh.next
 low: ∀ id,id<h.next->W id
 hC:h.next<=C
 hD:h.next<=D
 c:W C
 fr:Fr h hh
theorem Dy.start {C D n:Nat} (hC:h.next<=C) (hC2:C<hh.next) (hD:h.next<=D) (hD2:D<hh.next) (hCD:C≠D) (f:Fr h hh) (hg:hh.get C=bQ [aB n,.aC,.aC]):Dy h hh C D (λ id=>id=C∨id=D∨id<h.next) n [] [] .aC .aC [] []:=
 ⟨hg,eL.aC _ _ _,eL.aC _ _ _,trivial,trivial,λ _ _ _ _ e=>(by cases e),λ _ _ _ _ e=>(by cases e),eC.aC _,eC.aC _,eC.aC _,eC.aC _,.inr (.inl rfl),hCD,λ _ _ _ _ e=>(by cases e),λ id e=>by rcases e with rfl|rfl|e;exact hC2;exact hD2;exact mM e f.next,λ id e=> .inr (.inr e),hC,hD,.inl rfl,f⟩
theorem Dy.mono {C D n:Nat} {O:LN} {R:qF} {vO vR:V} {wsO wsR:List V} (A:Dy h hh C D W n O R vO vR wsO wsR) {h2:H} (f:Fr hh h2):Dy h h2 C D W n O R vO vR wsO wsR:=
 ⟨by rw [f.get C (A.wb C A.c)];exact A.get,A.oO.fr f,A.oR.fr f,jL.go A.aO (Fx.of f) (λ _ _ h=>h),A.aR.mono λ _ _ x=>x.go (Fx.of f) (λ _ _ h=>h),A.bO,A.bR,A.pO,A.pR,A.qO,A.qR,A.d,A.cd,A.PQ,λ id h=>mM (A.wb id h) f.next,A.low,A.hC,A.hD,A.c,A.fr.trans f⟩
theorem Dy.step {C D n:Nat} {O:LN} {R:qF} {vO vR:V} {wsO wsR:List V} (A:Dy h hh C D W n O R vO vR wsO wsR) {v4 v5:V} {o:List Nat} {r:LN} (h4:PV W hh v4 o) (h5:PL W hh v5 r)
  {h6:H} {a b k1 k2:Nat} (ha:hh.next<=a) (hb:hh.next<=b) (hab:a≠b) (ha2:a<h6.next) (hb2:b<h6.next) (hl1:wsO.length+1=k1) (hl2:wsR.length+1=k2)
  (gC:h6.get C=bQ [aB n,.sl a 0 k1 (.un 1),.sl b 0 k2 (.un 1)]) (ga:h6.get a=bQ (wsO++ [v4])) (gb:h6.get b=bQ (wsR++ [v5]))
  (old: ∀ k,k<hh.next->k≠C->eC vO k->eC vR k->h6.get k=hh.get k):
  Dy h h6 C D (λ id=>W id∨id=a∨id=b) n (O++ [o]) (R++ [r]) (.sl a 0 k1 (.un 1)) (.sl b 0 k2 (.un 1)) (wsO++ [v4]) (wsR++ [v5]):=by
 have hf:Fx W hh h6:=⟨by omega,λ id h1 h2=>old id h1 (λ e=>h2 (e▸A.c)) (λ id' off n c e e2=>h2 (e2▸A.bO _ _ _ _ e)) (λ id' off n c e e2=>h2 (e2▸A.bR _ _ _ _ e))⟩
 have hw: ∀ id,id<hh.next->(W id∨id=a∨id=b)->W id:=λ id h1 h2=>by
  rcases h2 with h2|h2|h2
  ·exact h2
  ·omega
  ·omega
 have cn:=A.wb C A.c
 have dn:=A.wb D A.d
 have fn:=A.fr.next
 refine ⟨gC,.inr ⟨a,k1,_, [],rfl,by rw [vA];simp;omega,.inl rfl,by omega,ha2,by rw [List.append_nil];exact ga⟩,.inr ⟨b,k2,_, [],rfl,by rw [vA];simp;omega,.inl rfl,by omega,hb2,by rw [List.append_nil];exact gb⟩,
  (jL.go A.aO hf hw).append (jL.one (PV.go h4 hf hw)),(A.aR.mono λ _ _ x=>x.go hf hw).append ⟨h5.go hf hw,trivial⟩,λ id off n c e=>by cases e;exact .inr (.inl rfl),λ id off n c e=>by cases e;exact .inr (.inr rfl),
  eC.sl (by omega),eC.sl (by omega),eC.sl (by omega),eC.sl (by omega),.inl A.d,A.cd,λ i o n c e i' o' n' c' e'=>by cases e;cases e';exact hab,λ id h1=>?_,λ id h1=> .inl (A.low id h1),A.hC,A.hD,.inl A.c,⟨by omega,λ id hid=>?_⟩⟩
 ·rcases h1 with h1|h1|h1
  ·have:=A.wb id h1;omega
  ·omega
  ·omega
 ·have hC:=A.hC
  rw [old id (by omega) (by omega) (λ id' off n c e e2=>by have:=(A.oO.in _ _ _ _ e).2.1;omega) (λ id' off n c e e2=>by have:=(A.oR.in _ _ _ _ e).2.1;omega)]
  exact A.fr.get id hid
theorem Dy.box {C D n:Nat} {O:LN} {R:qF} {vO vR:V} {wsO wsR:List V} (A:Dy h hh C D W n O R vO vR wsO wsR) {h3:H} {o:Option Ob} (e:h3=hh.set D o):Dy h h3 C D W n O R vO vR wsO wsR:=by
 subst e
 have f:Fx W hh (hh.set D o):=Fx.set hh A.d o
 have hD:=A.wb D A.d
 refine ⟨by rw [H.aH hh A.cd];exact A.get,A.oO.mono (jI _) λ id off m c e _ _=>H.aH hh (λ e2=>A.qO _ _ _ _ e e2.symm) o,A.oR.mono (jI _) λ id off m c e _ _=>H.aH hh (λ e2=>A.qR _ _ _ _ e e2.symm) o,
  jL.go A.aO f (λ _ _ h=>h),A.aR.mono λ _ _ x=>x.go f (λ _ _ h=>h),A.bO,A.bR,A.pO,A.pR,A.qO,A.qR,A.d,A.cd,A.PQ,A.wb,A.low,A.hC,A.hD,A.c,?_⟩
 exact A.fr.set A.hD o
end
def UN (W:Nat->Prop) (h:H) (v:V) (n:Nat) (O:LN) (R:qF):Prop:= ∃ vO vR wsO wsR,v= .agg [aB n,vO,vR]/\SV h vO 1 wsO/\TD W vO/\jL W h wsO O/\SV h vR 1 wsR/\TD W vR/\bJ (PL W h) wsR R
section
variable {W W':Nat->Prop} {h h' hh:H}
theorem UN.go {v:V} {n:Nat} {O:LN} {R:qF} (c:UN W h v n O R) (f:Fx W h h') (hw: ∀ id,id<h.next->W' id->W id):UN W' h' v n O R:=by
 obtain ⟨vO,vR,wsO,wsR,e,s1,o1,a1,s2,o2,a2⟩:=c
 exact ⟨vO,vR,wsO,wsR,e,s1.fx o1 f,o1.zU s1 hw,jL.go a1 f hw,s2.fx o2 f,o2.zU s2 hw,a2.mono λ _ _ x=>x.go f hw⟩
theorem UN.mono {v:V} {n:Nat} {O:LN} {R:qF} (c:UN W h v n O R) (f:Fr h h'):UN W h' v n O R:=c.go (Fx.of f) λ _ _ h=>h
theorem UN.ch {v:V} {n:Nat} {O:LN} {R:qF} (c:UN W h v n O R):ChI h v (n:Int) (O.map zi) (R.map (List.map zi)):=by
 obtain ⟨vO,vR,wsO,wsR,e,s1,o1,a1,s2,o2,a2⟩:=c
 refine ⟨vO,vR,e,⟨wsO,s1,?_⟩,⟨wsR,s2,?_,λ w hw=>?_⟩⟩
 ·have hl:=bJ.length a1
  exact bJ.oT (by simpa using hl) λ i hi hj=>by
   have:=(bJ.get a1 i hi (by omega)).si
   simpa using this
 ·have hl:=bJ.length a2
  exact bJ.oT (by simpa using hl) λ i hi hj=>by
   have:=(bJ.get a2 i hi (by omega)).sp
   simpa using this
 ·obtain ⟨i,hi,rfl⟩:=List.mem_iff_getElem.1 hw
  have hl:=bJ.length a2
  obtain ⟨_,_,_,_,k⟩:=bJ.get a2 i hi (by omega)
  exact k
theorem LC {v:V} {sz:Nat} {ws:List V} {b:Nat} (o:eL h v sz ws b):TD (λ id=>id<b) v:=by
 cases v with
 |sl id off m c=>exact λ e=>by have:=(o.in _ _ _ _ rfl).2.1;omega
 |_=>trivial
theorem Dy.chw {C D n:Nat} {O:LN} {R:qF} {vO vR:V} {wsO wsR:List V} (A:Dy h hh C D W n O R vO vR wsO wsR):UN (λ id=>id<h.next) hh (.agg [aB n,vO,vR]) n O R:=
 ⟨vO,vR,wsO,wsR,rfl,A.oO.sv,LC A.oO,jL.zU A.aO λ id _ h=>A.low id h,A.oR.sv,LC A.oR,A.aR.mono λ _ _ x=>x.go (Fx.refl _ _) λ id _ h=>A.low id h⟩
end
def ChL (τ:sE) (n j:Nat) (o:List Nat) (r:LN):Prop:=o.Pairwise (· < ·)/\(∀ p,p∈o↔p∈(τ j).orb)/\r.length=o.length/\ ∀ k,k<o.length-> ∀ y,(τ j).to (o.getD k 0)=some y->r.getD k []=Ph τ (n-(j+1)) (j+1) y
theorem aeQ {l:List Int} {a:List Nat} (h:l.Perm (zi a)): ∃ q,l=zi q/\q.Perm a:=by
 refine ⟨l.map Int.toNat,?_,?_⟩
 ·unfold zi
  rw [List.map_map]
  refine (List.map_id l).symm.trans (List.map_congr_left λ x hx=>?_)
  have:=h.mem_iff.1 hx
  obtain ⟨k,_,rfl⟩:=List.mem_map.1 this
  simp
 ·have:=h.map Int.toNat
  have e:(zi a).map Int.toNat=a:=by
   unfold zi;rw [List.map_map]
   exact (List.map_congr_left λ x _=>by simp).trans (List.map_id a)
  rwa [e] at this
theorem aiV {q:List Nat} (h:(zi q).Pairwise (· <= ·)) (nd:q.Nodup):q.Pairwise (· < ·):=by
 unfold zi at h
 rw [List.pairwise_map] at h
 rw [List.nodup_iff_pairwise_ne] at nd
 exact (h.and nd).imp λ ⟨h1,h2⟩=>by omega
theorem RJ (u:V) (hu1:u.cells= [u]) (hu2:u.one=true) (h:H):Ev T zM [u] h (λ v h'=>v= .fn fX [] [.ptr h.next 0]/\h'.get h.next=bQ [u]/\h'.next=h.next+1/\Fr h h'):=by
 refine aZ zZ rfl ?_
 simp (disch:=omega) only [go_sem,iD,aF,uH hu1 hu2]
 exact (Fr.refl h).new _
theorem oA {α:Type} {a:List α} {x:α} {j:Nat} {d:α} (h:j<a.length):(a++ [x]).getD j d=a.getD j d:=by
 rw [List.getD,List.getD,List.getElem?_append_left h]
theorem lN {α:Type} {a:List α} {x d:α}:(a++ [x]).getD a.length d=x:=by
 rw [List.getD,List.getElem?_append_right (jI _),Nat.sub_self];rfl
theorem Yc (h:H) (n tid L:Nat) (F:Nat->V) (τ:sE) (hn:n<=7) (R:uZ h n tid L F τ) (t:rU n 0 τ):
  Ev T Gv [.ptr tid 0] h (λ v h'=> ∃ O R',UN (λ id=>id<h.next) h' v n O R'/\eE n (S n τ 0) O R'/\Fr h h'):=by
 refine aZ Gh rfl ?_
 obtain ⟨B,hB⟩: ∃ B,h.next=B:=⟨_,rfl⟩
 have tn:=R.tn
 have ln:=R.ln
 have ct:h.cell tid 0=some (aB n):=by rw [H.aG R.t];rfl
 have bl:Eo [aB 0,.aC,.aC] [(0,1,aB n)]=some (.agg [aB n,.aC,.aC]):=by
  have e1:putAt [aB 0,.aC,.aC] 0 [aB n]=some [aB n,.aC,.aC]:=by simp [putAt]
  simp [Eo,jJ,e1,V.cells,V.one]
 obtain ⟨h1,h1e⟩: ∃ h1,h1=(h.new (.cells false [aB 0,.aC,.aC])).new (.cells false [aB 0,.aC,.aC]):=⟨_,rfl⟩
 have n1:h1.next=B+2:=by rw [h1e,H.bD,H.bD,hB]
 have g1:h1.get (B+1)=bQ [aB 0,.aC,.aC]:=by
  rw [h1e]
  have:=H.aQ (h.new (.cells false [aB 0,.aC,.aC])) (.cells false [aB 0,.aC,.aC])
  rwa [H.bD,hB] at this
 have g0:h1.get B=bQ [aB 0,.aC,.aC]:=by rw [h1e,H.bM _ (by rw [H.bD,hB];omega),←hB,H.aQ]
 have f1:Fr h h1:=by rw [h1e];exact ((Fr.refl h).new _).new _
 have ct1:h1.cell tid 0=some (aB n):=by rw [f1.cell tn];exact ct
 simp (disch:=omega) only [go_sem,kT,aF,hB,ct,bl]
 rw [←h1e]
 simp (disch:=omega) only [go_sem,dS h1 (B+1) 0 (v:= aB n) (u:= .aC) (w:= .aC) rfl rfl rfl,g1,dX]
 obtain ⟨h2,h2e⟩: ∃ h2,h2=h1.set (B+1) (bQ [aB n,.aC,.aC]):=⟨_,rfl⟩
 have n2:h2.next=B+2:=by rw [h2e];exact n1
 have f2:Fr h h2:=by rw [h2e];exact f1.set (by omega) _
 have g2:h2.get (B+1)=bQ [aB n,.aC,.aC]:=by rw [h2e,H.aW]
 have g20:h2.get B=bQ [aB 0,.aC,.aC]:=by rw [h2e,H.aH _ (by omega)];exact g0
 have cl1:h1.cell tid 1=some (.sl L 0 n (.kn n)):=by rw [H.aG (R.mono f1).t];rfl
 rw [←h2e]
 simp (disch:=omega) only [go_sem,cl1]
 clear h1e h2e f1 g0 g1 ct1 cl1 n1 h1
 refine aJ (λ k' vars hh=> ∃ (i:Nat) (W:Nat->Prop) (O:LN) (R':qF) (vO vR:V) (wsO wsR:List V),(∃ g:Nat->V,vars= [.ptr tid 0,.ptr B 0,.ptr (B+1) 0,g 3,g 4,g 5,g 6,aB n,aB i,g 9,g 10,g 11,g 12,g 13])/\i<=n/\Dy h hh (B+1) B W n O R' vO vR wsO wsR/\
   hh.get B=bQ [aB 0,.aC,.aC]/\O.length=i/\R'.length=i/\(∀ j,j<i->ChL τ n j (O.getD j []) (R'.getD j []))/\k'=n-i) n
  ⟨0,_, [], [],_,_,_,_,aA rfl,mJ _,Dy.start (by omega) (by omega) (by omega) (by omega) (by omega) f2 g2,g20,rfl,rfl,λ j hj=>by omega,rfl⟩ ?_
 clear f2 g2 g20 n2 h2
 rintro k' vars h2 ⟨i,W,O,R',vO,vR,wsO,wsR,⟨g,rfl⟩,hi,A,gB,lO,lR,hC,rfl⟩
 by_cases hlt:(i:Int)<(n:Int)
 case neg=>
  have e1:=gJ hlt
  obtain rfl:i=n:=by omega
  have hr:=aX A.get
  have nB:=A.fr.next
  simp (disch:=omega) only [go_sem,e1,hr,dS h2 B 0 (v:= aB i) (u:=vO) (w:=vR) rfl (SV.bP A.oO.sv).2.1 (SV.bP A.oR.sv).2.1,gB,dX]
  have hr2:=aX (h:=h2.set B (bQ [aB i,vO,vR])) (H.aW ..)
  have fB:Fx (· =B) h2 (h2.set B (bQ [aB i,vO,vR])):=Fx.set h2 (W:=(· =B)) rfl _
  simp (disch:=omega) only [go_sem,hr2]
  obtain ⟨h3,h3e⟩: ∃ h3,h3=h2.set B (bQ [aB i,vO,vR]):=⟨_,rfl⟩
  rw [←h3e] at fB ⊢
  have A3:=A.box h3e
  refine ⟨O,R',by rw [←hB];exact A3.chw,?_,A3.fr⟩
  have X:=t.chain (O:=O) (R:=R') lO lR (λ j hj=>(hC j hj).1) (λ j hj=>(hC j hj).2.1) (λ j hj=>(hC j hj).2.2.1) (λ j hj=>(hC j hj).2.2.2)
  exact X
 have e1:=mG hlt
 have hin:i<n:=by omega
 have R2:=R.mono A.fr
 have cl:h2.cell tid 1=some (.sl L 0 n (.kn n)):=by rw [H.aG R2.t];rfl
 have co:h2.cell L (i*194+1)=some (F (i*194+1)):=R2.cell hin (by omega)
 have oo:=R2.orb i hin
 obtain ⟨lK,_⟩:=t i (mJ _) hin
 have hon:=aeN lK hin
 have hpos:0<(τ i).orb.length:=List.length_pos_of_mem lK.base
 simp (disch:=omega) only [go_sem,e1,cl,co]
 refine (RJ (F (i*194+1)) (SV.bP oo.sv).1 (SV.bP oo.sv).2.1 h2).mono ?_
 rintro _ h3 ⟨rfl,g3,n3,f3⟩
 simp (disch:=omega) only [go_sem]
 have oo3:SI h3 (F (i*194+1)) (zi (τ i).orb):=(show SI h2 _ _ from oo.sv).mono f3
 refine (RU h2.next _ (zi (τ i).orb) h3 (by rw [aT];exact hpos) (by rw [aT];omega) g3 (by omega) oo3).mono ?_
 rintro _ h4 ⟨P,cp,l',rfl,hP1,hP2,gP,pm,asc,f4⟩
 obtain ⟨q,rfl,pmq⟩:=aeQ pm
 have ascq:=aiV asc (pmq.nodup_iff.2 lK.nd)
 have lq:q.length=(τ i).orb.length:=pmq.length_eq
 have memq: ∀ p,p∈q↔p∈(τ i).orb:=λ p=>pmq.mem_iff
 rw [aT,←lq]
 have A4:=A.mono (f3.trans f4)
 have pq:PV W h4 (.sl P 0 q.length cp) q:=⟨SV.all (by rw [aS,aT,Nat.mul_one]) hP2 gP _,λ hw=>by have:=A.wb P hw;omega⟩
 have gB4:h4.get B=bQ [aB 0,.aC,.aC]:=by rw [(f3.trans f4).get B (A.wb B A.d)];exact gB
 clear A gB g3 oo3 oo co cl R2 pm asc
 simp (disch:=omega) only [go_sem]
 refine bV (λ vs hh=> ∃ (vr:V) (r:LN),(∃ g:Nat->V,vs= [.ptr tid 0,.ptr B 0,.ptr (B+1) 0,aB i,.sl P 0 q.length cp,vr,g 6,aB n,aB i,g 9,g 10,g 11,g 12,g 13])/\PL W hh vr r/\ChL τ n i q r/\Fr h4 hh) ?_ ?_
 ·refine aJ (λ k' vs hh=> ∃ (k:Nat) (vr:V) (ws:List V) (r:LN) (W':Nat->Prop),(∃ g:Nat->V,vs= [.ptr tid 0,.ptr B 0,.ptr (B+1) 0,aB i,.sl P 0 q.length cp,vr,g 6,aB n,aB i,g 9,.sl P 0 q.length cp,aB (q.length:Int),aB k,g 13])/\k<=q.length/\eL hh vr 1 ws h4.next/\jL W' hh ws r/\Kt W' vr/\(∀ id,W id->W' id)/\(∀ id,W' id->id<hh.next/\(W id∨h4.next<=id))/\r.length=k/\
    (∀ j,j<k-> ∀ y,(τ i).to (q.getD j 0)=some y->r.getD j []=Ph τ (n-(i+1)) (i+1) y)/\Fr h4 hh/\k'=q.length-k) q.length
   ⟨0,.aC, [], [],W,aA rfl,mJ _,eL.aC _ _ _,trivial,λ _ _ _ _ e=>(by cases e),λ _ h=>h,λ id h=>⟨A4.wb id h,.inl h⟩,rfl,λ j hj=>by omega,Fr.refl _,rfl⟩ ?_
  rintro k' vars h5 ⟨k,vr,ws,r,W',⟨g,rfl⟩,hk,ow,pvs,bl',hW1,hW2,lr,hr,f5,rfl⟩
  by_cases hlt2:(k:Int)<(q.length:Int)
  case neg=>
   have e2:=gJ hlt2
   obtain rfl:k=q.length:=by omega
   simp (disch:=omega) only [go_sem,e2]
   refine ⟨vr,r,aA rfl,⟨ws,ow.sv,?_,pvs.zU (λ id _ h=>hW1 id h),eL.YP ow⟩,⟨ascq,memq,lr,hr⟩,f5⟩
   cases vr with
   |sl id off m c=>exact λ h=>by have:=(ow.in _ _ _ _ rfl).2.1;have:=A4.wb id h;omega
   |_=>trivial
  have e2:=mG hlt2
  have hk':k<q.length:=by omega
  obtain ⟨p,hp⟩: ∃ p,q.getD k 0=p:=⟨_,rfl⟩
  have pq5:=pq.mono f5
  have ck:h5.cell P k=some (aB p):=by
   rw [H.aG (by rw [f5.get P hP2];exact gP),Dp hk',hp]
  have hpm:p∈(τ i).orb:=(memq p).1 (by rw [←hp,bW hk'];exact List.getElem_mem hk')
  have hpn:=lK.lt hin hpm
  obtain ⟨y,hy⟩:=lK.to hpm
  have Y:=lK.dR _ _ hy
  have R5:=R.mono (A4.fr.trans f5)
  have cl:h5.cell tid 1=some (.sl L 0 n (.kn n)):=by rw [H.aG R5.t];rfl
  have cto:h5.cell L (i*194+2+p)=some (F (i*194+2+p)):=R5.Zd hin (by omega)
  have pto:PV (WT n L F) h5 (F (i*194+2+p)) y:=by
   have:=R5.to i p hin (by omega)
   rw [hy] at this;exact this
  simp (disch:=omega) only [go_sem,e2,ck,cl,cto]
  refine (aaJ h5 n tid L F τ _ y i hn R5 pto Y hin (t.mono (by omega))).mono ?_
  rintro v6 h6 ⟨p6,Q6,f6⟩
  simp (disch:=omega) only [go_sem]
  refine (Kr v6 _ h6 (by rw [aT,Q6.len];omega) (by rw [aT,Q6.len];omega) p6.si).mono ?_
  rintro v7 h7 fr7
  have f7:=fr7.fr
  have p7:PV W' h7 v7 (Ph τ (n-(i+1)) (i+1) y):=fr7.pv λ id h=>mM (hW2 id h).1 f6.next
  simp (disch:=omega) only [go_sem,dN h7 (z:= .aC) p7.eP.1 p7.eP.2]
  obtain ⟨h8,h8e⟩: ∃ h8,h8=h7.new (.cells false [v7]):=⟨_,rfl⟩
  have g8:h8.get h7.next=bQ [v7]:=by rw [h8e,H.aQ]
  have n8:h8.next=h7.next+1:=by rw [h8e,H.bD]
  have f8:Fr h7 h8:=by rw [h8e];exact (Fr.refl h7).new _
  rw [←h8e]
  have f58:=(f6.trans f7).trans f8
  have ow8:=ow.fr f58
  have hws:=bJ.length pvs
  obtain ⟨h9,a9,p9⟩:=ow8.push (bytes:=24) (SV.one (by omega) g8 (.kn 1)) (n:=k) (m:=1) (by omega) rfl (by omega) (by omega) (by omega)
  simp (disch:=omega) only [go_sem,a9]
  rw [iJ k]
  have n9:=p9.next
  have f9:Fx W' h8 h9:=p9.fx bl'
  have hnext:=f58.next
  have hw9: ∀ id,id<h8.next->(W' id∨id=h8.next)->W' id:=λ id h1 h2=>by
   rcases h2 with h2|h2
   ·exact h2
   ·omega
  refine ⟨q.length-(k+1),by omega,k+1,_,_,r++ [Ph τ (n-(i+1)) (i+1) y],λ id=>W' id∨id=h8.next,aA rfl,by omega,p9.own (by omega) rfl (by have:=f5.next;omega),?_,λ id off m c e=>by cases e;exact .inr rfl,λ id h=> .inl (hW1 id h),λ id h=>?_,by rw [vA,lr];rfl,λ j hj z hz=>?_,?_,rfl⟩
  ·exact (jL.go (jL.go pvs (Fx.of f58) (λ _ _ h=>h)) f9 hw9).append (jL.one (PV.go (p7.mono f8) f9 hw9))
  ·rcases h with h|h
   ·have:=hW2 id h;exact ⟨by omega,this.2⟩
   ·have:=f5.next;exact ⟨by omega,.inr (by omega)⟩
  ·by_cases e:j=k
   ·subst e
    rw [hp,hy] at hz
    cases hz
    rw [←lr,lN]
   ·rw [oA (by omega)]
    exact hr j (by omega) z hz
  ·refine ⟨by have:=f5.next;omega,λ id hid=>?_⟩
   rw [p9.old id (by have:=f5.next;omega) (λ id' off m c e e2=>by have:=(ow.in _ _ _ _ e).2.1;omega),f58.get id (by have:=f5.next;omega)]
   exact f5.get id hid
 rintro vars h5 ⟨vr,r,⟨g,rfl⟩,pl,hcl,f5⟩
 have A5:=A4.mono f5
 have pq5:=pq.mono f5
 have gB5:h5.get B=bQ [aB 0,.aC,.aC]:=by rw [f5.get B (A4.wb B A4.d)];exact gB4
 have cO:h5.cell (B+1) 1=some vO:=by rw [H.aG A5.get];rfl
 have cR:h5.cell (B+1) 2=some vR:=by rw [H.aG A5.get];rfl
 obtain ⟨ws,pl1,pl2,pl3,pl4⟩:=pl
 have pl:PL W h5 vr r:=⟨ws,pl1,pl2,pl3,pl4⟩
 have fn5:=A5.fr.next
 have cn5:=A5.wb _ A5.c
 simp (disch:=omega) only [go_sem,cO,cR,dN _ (z:= .aC) (v:= .sl P 0 q.length cp) rfl rfl]
 obtain ⟨h6,h6e⟩: ∃ h6:H,h6=H.mk ((H.mk h5.tr (h5.next+3)).new (Ob.cells false [.sl P 0 q.length cp])).tr (h5.next+14):=⟨_,rfl⟩
 rw [←h6e]
 have g6:h6.get (h5.next+3)=bQ [.sl P 0 q.length cp]:=by rw [h6e];exact H.aQ (H.mk h5.tr (h5.next+3)) _
 have n6:h6.next=h5.next+14:=by rw [h6e]
 have o6: ∀ k,k≠h5.next+3->h6.get k=h5.get k:=λ k hk=>by rw [h6e];exact H.bM (H.mk h5.tr (h5.next+3)) (by simpa using hk) _
 have f6:Fr h5 h6:=⟨by omega,λ id hid=>o6 id (by omega)⟩
 have hwO:=bJ.length A5.aO
 have hwR:=bJ.length A5.aR
 obtain ⟨h7,a7,p7⟩:=(A5.oO.fr f6).push (bytes:=24) (SV.one (by omega) g6 (.kn 1)) (n:=i) (m:=1) (by omega) rfl (by omega) (by omega) (by omega)
 have n7:=p7.next
 have oldO: ∀ k,k<h5.next->eC vO k->h7.get k=h5.get k:=λ k h1 h2=>by rw [p7.old k (by omega) h2,o6 k (by omega)]
 have cR7:h7.cell (B+1) 2=some vR:=by unfold H.cell;rw [oldO (B+1) cn5 A5.pO,A5.get];rfl
 have eR:eU vR vR=true:=A5.oR.sv.eU
 have svr:vr.cells= [vr]/\vr.one=true:=⟨(SV.bP pl1).1,(SV.bP pl1).2.1⟩
 simp (disch:=omega) only [go_sem,a7,cR7,eR,dN _ (z:= .aC) svr.1 svr.2]
 obtain ⟨h8,h8e⟩: ∃ h8:H,h8=H.mk ((H.mk h7.tr (h5.next+8)).new (Ob.cells false [vr])).tr h7.next:=⟨_,rfl⟩
 rw [←h8e]
 have g8:h8.get (h5.next+8)=bQ [vr]:=by rw [h8e];exact H.aQ (H.mk h7.tr (h5.next+8)) _
 have n8:h8.next=h7.next:=by rw [h8e]
 have o8: ∀ k,k≠h5.next+8->h8.get k=h7.get k:=λ k hk=>by rw [h8e];exact H.bM (H.mk h7.tr (h5.next+8)) (by simpa using hk) _
 have oR8:eL h8 vR 1 wsR h.next:=A5.oR.mono (by omega) λ id off m c e _ hid=>by
  rw [o8 id (by omega),oldO id hid (λ id' off' n' c' e' e2=>A5.PQ _ _ _ _ e' _ _ _ _ e e2.symm)]
 obtain ⟨h9,a9,p9⟩:=oR8.push (bytes:=24) (SV.one (by omega) g8 (.kn 1)) (n:=i) (m:=1) (by omega) rfl (by omega) (by omega) (by omega)
 have n9:=p9.next
 have apR: ∀ k,h5.next<=k->eC vR k:=λ k hk id off m c e e2=>by have:=(A5.oR.in _ _ _ _ e).1;omega
 have old9: ∀ k,k<h5.next->eC vO k->eC vR k->h9.get k=h5.get k:=λ k h1 h2 h3=>by rw [p9.old k (by omega) h3,o8 k (by omega),oldO k h1 h2]
 have gC9:h9.get (B+1)=bQ [aB n,vO,vR]:=by rw [old9 _ cn5 A5.pO A5.pR];exact A5.get
 have pt1: ∀ (hh:H) (x:V),fI (bQ [aB n,vO,vR]) hh (B+1) 1 [x]=some (hh.set (B+1) (bQ [aB n,x,vR])):=λ hh x=>bT (by simp) hh _ x
 have pt2: ∀ (hh:H) (x y:V),fI (bQ [aB n,x,vR]) hh (B+1) 2 [y]=some (hh.set (B+1) (bQ [aB n,x,y])):=λ hh x y=>bT (by simp) hh _ y
 simp (disch:=omega) only [go_sem,a9,gC9,pt1,pt2]
 rw [iJ i]
 obtain ⟨ha,hb⟩:h6.next=h5.next+14/\h8.next=h5.next+15:=⟨n6,by omega⟩
 rw [ha,hb]
 obtain ⟨h10,h10e⟩: ∃ h10,h10=(h9.set (B+1) (bQ [aB n,.sl (h5.next+14) 0 (i+1) (.un 1),vR])).set (B+1) (bQ [aB n,.sl (h5.next+14) 0 (i+1) (.un 1),.sl (h5.next+15) 0 (i+1) (.un 1)]):=⟨_,rfl⟩
 rw [←h10e]
 have o10: ∀ k,k≠B+1->h10.get k=h9.get k:=λ k hk=>by rw [h10e,H.aH _ hk,H.aH _ hk]
 have n10:h10.next=h5.next+16:=by rw [h10e];show h9.next=_;omega
 have A10:=A5.step (v4:= .sl P 0 q.length cp) (v5:=vr) (o:=q) (r:=r) (h6:=h10) (a:=h5.next+14) (b:=h5.next+15) (k1:=i+1) (k2:=i+1) pq5 pl (by omega) (by omega) (by omega) (by omega) (by omega) (by omega) (by omega) (by rw [h10e,H.aW])
  (by rw [o10 _ (by omega),p9.old _ (by omega) (apR _ (by omega)),o8 _ (by omega),←ha];exact p7.get) (by rw [o10 _ (by omega),←hb];exact p9.get) (λ k h1 h2 h3 h4=>by rw [o10 k h2];exact old9 k h1 h3 h4)
 refine ⟨n-(i+1),by omega,i+1,_,_,_,_,_,_,_,aA rfl,by omega,A10,?_,by rw [vA,lO];rfl,by rw [vA,lR];rfl,λ j hj=>?_,rfl⟩
 ·rw [old9 B (A5.wb B A5.d) A5.qO A5.qR];exact gB5
 ·by_cases e:j=i
  ·subst e
   have e1:(O++ [q]).getD j []=q:=by rw [←lO];exact lN
   have e2:(R'++ [r]).getD j []=r:=by rw [←lR];exact lN
   rw [e1,e2]
   exact hcl
  ·rw [oA (by omega),oA (by omega)]
   exact hC j (by omega)
end Go.Proofs.YtddpkbicnolafaaGreat
namespace Go.Ay
set_option maxRecDepth 100000
def sm:Nat->(Nat->Int)->Int
 |0,_=>0
 |n+1,f=>sm n f+f n
def ab (x:Int):Int:=if x<0 then -x else x
end Go.Ay
