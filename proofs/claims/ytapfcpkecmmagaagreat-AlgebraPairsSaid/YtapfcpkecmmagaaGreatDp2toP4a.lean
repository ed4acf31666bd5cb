/- Texts of the claim. -/
import Derived.Test.YtapfcpkecmmagaaGreatDp1
import Derived.Test.YtapfcpkecmmagaaGreatP5a
import Derived.Test.YtapfcpkecmmagaaGreatAy39
import Derived.Test.YtapfcpkecmmagaaGreatC27code
import Derived.Sort.AssemblyPlain
import Derived.Test.YtapfcpkecmmagaaGreatAy26
set_option maxHeartbeats 32000000
namespace Go.Pm
set_option maxRecDepth 100000
section
variable {j p:Nat}
structure Lv where
 gens:yA
 orb:List Nat
 to:Nat->Option (List Nat)
 tr:Nat->Nat
abbrev oT:=Nat->Lv
def Fix (i:Nat)(x:List Nat):Prop:= ∀k,k<i->x.getD k 0=k
def InS (n:Nat)(τ:oT):Nat->Nat->List Nat->Prop
 |_,0,x=>x=bW n
 |i,d+1,x=> ∃p y h,(τ i).to p=some y/\InS n τ (i+1) d h/\x=aS h y
def S (n:Nat)(τ:oT)(i:Nat)(x:List Nat):Prop:=InS n τ i (n-i) x
section
variable {n:Nat} {τ τ':oT} {x y z:List Nat} {i:Nat}
theorem tY:S n τ n x↔x=bW n:=by unfold S;rw[Nat.sub_self];exact Iff.rfl
theorem pU (hi:i<n):S n τ i x↔ ∃p y h,(τ i).to p=some y/\S n τ (i+1) h/\x=aS h y:=by
 unfold S;rw[show n-i=(n-(i+1))+1 from by omega];exact Iff.rfl
theorem Mi: ∀(d i:Nat) (x:List Nat),(∀j,i<=j->j<i+d->τ j=τ' j)->(InS n τ i d x↔InS n τ' i d x)
 |0,_,_,_=>Iff.rfl
 |d+1,i,x,h=>by
  simp only[InS];rw[h i (Nat.le_refl _) (by omega)];have ih:=λg=>Mi d (i+1) g (λj h1 h2=>h j (by omega) (by omega))
  simp only[ih]
theorem BK (h: ∀j,i<=j->j<n->τ j=τ' j):S n τ i x↔S n τ' i x:=
 Mi _ _ _ λj h1 h2=>h j h1 (by omega)
structure KD (n j:Nat)(l:Lv):Prop where
 nd:l.orb.Nodup
 base:j∈l.orb
 one:l.to j=some (bW n)
 iff: ∀p,p∈l.orb↔(l.to p).isSome
 dS: ∀p y,l.to p=some y->bG n y
 fix: ∀p y,l.to p=some y->Fix j y
 maps: ∀p y,l.to p=some y->y.getD j 0=p
 gen: ∀p y,l.to p=some y->fF n (· ∈l.gens) y
 gP: ∀s∈l.gens,bG n s
 gF: ∀s∈l.gens,Fix j s
 gN:l.gens.Nodup
 le: ∀q,l.tr q<=l.gens.length
 zero: ∀q,q∉l.orb->l.tr q=0
theorem KD.lt {l:Lv}(L:KD n j l)(hj:j<n)(hp:p∈l.orb):p<n:=by
 obtain⟨y,hy⟩:=Option.isSome_iff_exists.1 ((L.iff p).1 hp);rw[←L.maps p y hy];exact (L.dS p y hy).eZ hj
theorem KD.to {l:Lv}(L:KD n j l)(hp:p∈l.orb): ∃y,l.to p=some y:=Option.isSome_iff_exists.1 ((L.iff p).1 hp)
theorem KD.mem {l:Lv}(L:KD n j l){y:List Nat}(h:l.to p=some y):p∈l.orb:=(L.iff p).2 (by rw[h];rfl)
def Cl (n j:Nat)(τ:oT):Prop:= ∀q y,(τ j).to q=some y-> ∀k s,k<(τ j).tr q->(τ j).gens[k]? =some s->
 ∃u,(τ j).to ((aS y s).getD j 0)=some u/\S n τ (j+1) (aS (aS y s) (cF u))
def Full (l:Lv):Prop:= ∀q∈l.orb,l.tr q=l.gens.length
def Dn (n j:Nat)(τ:oT):Prop:=j+1<n-> ∀s∈(τ (j+1)).gens,fF n (· ∈(τ j).gens) s
def oU (n i:Nat)(τ:oT):Prop:= ∀j,i<=j->j<n->KD n j (τ j)/\Cl n j τ/\Full (τ j)/\Dn n j τ
theorem oU.mono (t:oU n i τ){k:Nat}(h:i<=k):oU n k τ:=λj h1 h2=>t j (by omega) h2
theorem oU.congr (t:oU n i τ)(h: ∀j,i<=j->j<n->τ j=τ' j):oU n i τ':=λj h1 h2=>by
 obtain⟨a,b,c,d⟩:=t j h1 h2;have e:=h j h1 h2;refine⟨e▸a,λq y hy k s hk hs=>?_,e▸c,λhj s hs=>?_⟩
 ·rw[←e] at hy hk hs ⊢
  obtain⟨u,hu,hS⟩:=b q y hy k s hk hs;exact⟨u,hu,(BK λk h3 h4=>h k (by omega) h4).1 hS⟩
 ·rw[←h (j+1) (by omega) hj] at hs
  rw[←e];exact d hj s hs
theorem Fix.one (n i:Nat)(hi:i<=n):Fix i (bW n):=λk hk=>fD (by omega)
theorem Fix.mul (X:bG n x)(hi:i<=n)(a:Fix i x)(b:Fix i y):Fix i (aS x y):=λk hk=>by
 rw[cU (by rw[X.len];omega),a k hk,b k hk]
theorem Fix.inv (X:bG n x)(hi:i<=n)(a:Fix i x):Fix i (cF x):=λk hk=>by
 have:=sW X (show k<n by omega);rwa [a k hk] at this
theorem Fix.mono (a:Fix j x)(h:i<=j):Fix i x:=λk hk=>a k (by omega)
theorem Fix.succ (a:Fix i x)(h:x.getD i 0=i):Fix (i+1) x:=λk hk=>by
 by_cases e:k=i
 ·rw[e];exact h
 ·exact a k (by omega)
theorem Fix.all (X:bG n x)(a:Fix n x):x=bW n:=by
 refine sE (by rw[X.len,iB]) λk hk=>?_
 rw[X.len] at hk;rw[a k hk,fD hk]
theorem fF.fix {L:List Nat->Prop}(hL: ∀g,L g->bG n g)(hi:i<=n)(hF: ∀g,L g->Fix i g)(h:fF n L x):Fix i x:=by
 induction h with
 |one=>exact Fix.one n i hi
 |mul hx hg ih=>exact Fix.mul (hx.dS hL) hi ih (hF _ hg)
theorem oU.BH: ∀(d i:Nat),i+d=n->oU n i τ-> ∀x,(S n τ i x->bG n x/\Fix i x)/\(i<n->(S n τ i x↔fF n (· ∈(τ i).gens) x))
 |0,i,h,_,x=>by
  obtain rfl:i=n:=by omega
  refine⟨λhs=>?_,λh=>by omega⟩;rw[tY] at hs;subst hs;exact⟨bG.one i,Fix.one i i (Nat.le_refl _)⟩
 |d+1,i,h,t,x=>by
  have hi:i<n:=by omega
  have ih:=oU.BH d (i+1) (by omega) (t.mono (by omega));obtain⟨L,C,F,D⟩:=t i (Nat.le_refl _) hi;have hL: ∀g,g∈(τ i).gens->bG n g:=L.gP
  have up: ∀z,S n τ (i+1) z->fF n (· ∈(τ i).gens) z:=by
   intro z hz
   by_cases hn:i+1<n
   ·exact ((ih z).2 hn|>.1 hz).le (fF.oG hL) (D hn)
   ·obtain rfl:i+1=n:=by omega
    rw[tY] at hz;subst hz;exact .one
  have mulS: ∀u z,S n τ (i+1) u->S n τ (i+1) z->S n τ (i+1) (aS u z):=by
   intro u z hu hz
   by_cases hn:i+1<n
   ·obtain⟨L2,_⟩:=t (i+1) (by omega) hn
    exact ((ih _).2 hn).2 ((((ih u).2 hn).1 hu).app L2.gP (((ih z).2 hn).1 hz))
   ·obtain rfl:i+1=n:=by omega
    rw[tY] at hu hz ⊢;subst hu hz;exact cI (bG.one _)
  have oneS:S n τ (i+1) (bW n):=by
   by_cases hn:i+1<n
   ·exact ((ih _).2 hn).2 .one
   ·obtain rfl:i+1=n:=by omega
    exact tY.2 rfl
  have fwd:S n τ i x->fF n (· ∈(τ i).gens) x:=by
   intro hs;obtain⟨p,y,g,h1,h2,rfl⟩:=(pU hi).1 hs;exact (up g h2).app hL (L.gen p y h1)
  refine⟨λhs=>⟨(fwd hs).dS hL,(fwd hs).fix hL (by omega) L.gF⟩,λ_=>⟨fwd,λhg=>?_⟩⟩;clear fwd
  induction hg with
  |one=>exact (pU hi).2 ⟨i,bW n,bW n,L.one,oneS,(cI (bG.one n)).symm⟩
  |mul hx hs hind=>
   rename_i x0 s;obtain⟨q,y,g,h1,h2,e⟩:=(pU hi).1 hind;obtain⟨k,hk,hks⟩:=List.mem_iff_getElem.1 hs;obtain⟨u,hu,hS⟩:=C q y h1 k s (by rw[F q (L.mem h1)];exact hk) (by rw[List.getElem?_eq_getElem hk,hks]);refine (pU hi).2 ⟨_,u,aS g (aS (aS y s) (cF u)),hu,mulS _ _ h2 hS,?_⟩;have G:=((ih g).1 h2).1;have Y:=L.dS q y h1;have U:=L.dS _ u hu;have Sp:=hL s hs;rw[e,aW G Y Sp,aW G ((Y.mul Sp).mul U.inv) U,aW (Y.mul Sp) U.inv U,gG U,cI (Y.mul Sp)]
theorem oU.gen (t:oU n i τ)(hi:i<n):S n τ i x↔fF n (· ∈(τ i).gens) x:=(oU.BH (n-i) i (by omega) t x).2 hi
theorem oU.dS (t:oU n i τ)(hi:i<=n)(h:S n τ i x):bG n x:=((oU.BH (n-i) i (by omega) t x).1 h).1
theorem oU.fix (t:oU n i τ)(hi:i<=n)(h:S n τ i x):Fix i x:=((oU.BH (n-i) i (by omega) t x).1 h).2
theorem oU.oG (t:oU n i τ)(hi:i<=n):rO n (S n τ i):=by
 by_cases h:i<n
 ·have g:=fF.oG (n:=n) (L:=(· ∈(τ i).gens)) (t i (Nat.le_refl _) h).1.gP
  exact⟨λa=>t.dS hi a,(t.gen h).2 g.one,λa b=>(t.gen h).2 (g.mul ((t.gen h).1 a) ((t.gen h).1 b)),λa=>(t.gen h).2 (g.inv ((t.gen h).1 a))⟩
 ·obtain rfl:i=n:=by omega
  refine⟨λa=>t.dS hi a,tY.2 rfl,λa b=>?_,λa=>?_⟩
  ·rw[tY] at a b ⊢;subst a b;exact cI (bG.one _)
  ·rw[tY] at a ⊢;subst a;exact yE _
theorem oU.sift (t:oU n i τ)(hi:i<n)(h:S n τ i x): ∃y,(τ i).to (x.getD i 0)=some y/\S n τ (i+1) (aS x (cF y)):=by
 obtain⟨p,y,g,h1,h2,rfl⟩:=(pU hi).1 h;have L:=(t i (Nat.le_refl _) hi).1;have t1:=t.mono (Nat.le_succ i);have G:=t1.dS hi h2;have Y:=L.dS p y h1
 have e:(aS g y).getD i 0=p:=by
  rw[cU (by rw[G.len];exact hi),t1.fix hi h2 i (by omega),L.maps p y h1]
 refine⟨y,by rw[e];exact h1,?_⟩;rw[aW G Y Y.inv,iA Y,cI G];exact h2
theorem oU.back (t:oU n i τ)(hi:i<n){y:List Nat}(hx:bG n x)(h1:(τ i).to (x.getD i 0)=some y)(h2:S n τ (i+1) (aS x (cF y))):S n τ i x:=by
 have Y:=(t i (Nat.le_refl _) hi).1.dS _ y h1;refine (pU hi).2 ⟨_,y,_,h1,h2,?_⟩;rw[aW hx Y.inv Y,gG Y,cI hx]
theorem oU.acK (t:oU n i τ)(hi:i<n):S n τ (i+1) x↔S n τ i x/\x.getD i 0=i:=by
 have L:=(t i (Nat.le_refl _) hi).1;have t1:=t.mono (Nat.le_succ i);constructor
 ·intro h
  have e:=t1.fix hi h i (by omega);have X:=t1.dS hi h;refine⟨t.back hi X (y:=bW n) (by rw[e];exact L.one) ?_,e⟩;rw[yE,cI X];exact h
 ·rintro⟨h,e⟩
  obtain⟨y,h1,h2⟩:=t.sift hi h;rw[e,L.one] at h1;cases h1;rwa [yE,cI (t.dS (by omega) h)] at h2
theorem oU.Us (t:oU n i τ): ∀{k:Nat},i<=k->k<=n->(S n τ k x↔S n τ i x/\Fix k x):=by
 intro k
 induction k with
 |zero=>
  intro h _;obtain rfl:i=0:=by omega
  exact⟨λh=>⟨h,λ_ h=>by omega⟩,λh=>h.1⟩
 |succ k ih=>
  intro h1 h2
  by_cases e:i=k+1
  ·subst e
   exact⟨λh=>⟨h,t.fix h2 h⟩,λh=>h.1⟩
  ·have a:=ih (by omega) (by omega)
   rw[(t.mono (by omega)).acK (i:=k) h2,a];constructor
   ·rintro⟨⟨b,c⟩,d⟩;exact⟨b,c.succ d⟩
   ·rintro⟨b,c⟩;exact⟨⟨b,c.mono (by omega)⟩,c k (by omega)⟩
end
end
section
variable {j k q:Nat}
def uS (τ:oT)(i:Nat)(l:Lv):oT:=λj=>if j=i then l else τ j
theorem bU (τ:oT)(i:Nat)(l:Lv):uS τ i l i=l:=by simp [uS]
theorem eQ (τ:oT){i:Nat}(l:Lv)(h:j≠i):uS τ i l j=τ j:=by simp [uS,h]
def Lv.tick (l:Lv)(q:Nat):Lv:={l with tr:=λr=>if r=q then l.tr q+1 else l.tr r}
def Lv.reach (l:Lv)(p:Nat)(y:List Nat):Lv:={l with orb:=l.orb++ [p],to:=λr=>if r=p then some y else l.to r}
def Lv.more (l:Lv)(r:List Nat):Lv:={l with gens:=l.gens++ [r]}
structure CI (n i:Nat)(τ:oT):Prop where
 lZ:KD n i (τ i)
 cl:Cl n i τ
 dn:Dn n i τ
 up:oU n (i+1) τ
section
variable {n:Nat} {τ τ':oT} {x y z s u w:List Nat} {i:Nat}
theorem CI.full (c:CI n i τ)(hf:Full (τ i)):oU n i τ:=λj h1 h2=>by
 by_cases e:j=i
 ·subst e;exact⟨c.lZ,c.cl,hf,c.dn⟩
 ·exact c.up j (by omega) h2
theorem XF {l:Lv}(h:i<k):S n (uS τ i l) k x↔S n τ k x:=BK λj h1 _=>eQ τ l (by omega)
theorem oU.XV {l:Lv}(h:i<k)(t:oU n k τ):oU n k (uS τ i l):=t.congr λj h1 _=>(eQ τ l (by omega)).symm
theorem CI.Hx (c:CI n i τ)(hi:i<n)(hq:(τ i).to q=some y)(hs:s∈(τ i).gens)(hu:(τ i).to ((aS y s).getD i 0)=some u):
  bG n (aS (aS y s) (cF u))/\Fix (i+1) (aS (aS y s) (cF u))/\fF n (· ∈(τ i).gens) (aS (aS y s) (cF u)):=by
 have L:=c.lZ
 have Y:=L.dS q y hq
 have U:=L.dS _ u hu
 have Sp:=L.gP s hs
 have YS:=Y.mul Sp
 have g1:fF n (· ∈(τ i).gens) (aS (aS y s) (cF u)):=((L.gen q y hq).mul hs).app L.gP ((L.gen _ u hu).inv L.gP)
 refine⟨YS.mul U.inv,Fix.succ (g1.fix L.gP (by omega) L.gF) ?_,g1⟩
 rw[cU (by rw[YS.len];exact hi)]
 have:=sW U hi
 rwa [L.maps _ u hu] at this
theorem CI.tick (c:CI n i τ)(hq:(τ i).to q=some y)(hk:(τ i).tr q=k)(hs:(τ i).gens[k]? =some s)(hu:(τ i).to ((aS y s).getD i 0)=some u)
  (hz:S n τ (i+1) (aS (aS y s) (cF u))):CI n i (uS τ i ((τ i).tick q)):=by
 have L:=c.lZ
 have hlt:k<(τ i).gens.length:=(List.getElem?_eq_some_iff.1 hs).1
 refine⟨?_,?_,?_,c.up.XV (by omega)⟩
 ·rw[bU]
  refine⟨L.nd,L.base,L.one,L.iff,L.dS,L.fix,L.maps,L.gen,L.gP,L.gF,L.gN,λr=>?_,λr hr=>?_⟩
  ·show (if r=q then (τ i).tr q+1 else (τ i).tr r)<=_
   split
   ·rw[hk];exact hlt
   ·exact L.le r
  ·show (if r=q then (τ i).tr q+1 else (τ i).tr r)=0
   have:r≠q:=λe=>hr (by rw[e];exact L.mem hq)
   rw[if_neg this];exact L.zero r hr
 ·intro r v hv j t hj ht
  rw[bU] at hv hj ht ⊢
  simp only[XF (Nat.lt_succ_self i)]
  have hj':j<(if r=q then (τ i).tr q+1 else (τ i).tr r):=hj
  by_cases e:r=q/\j=k
  ·obtain⟨rfl,rfl⟩:=e
   have hv':(τ i).to r=some v:=hv
   have ht':(τ i).gens[j]? =some t:=ht
   rw[hq] at hv';cases hv'
   rw[hs] at ht';cases ht'
   exact⟨u,hu,hz⟩
  ·refine c.cl r v hv j t ?_ ht
   split at hj'
   ·rename_i e2;subst e2
    have:j≠k:=λe3=>e ⟨rfl,e3⟩
    omega
   ·exact hj'
 ·intro hn g hg
  rw[eQ τ _ (by omega)] at hg
  rw[bU]
  exact c.dn hn g hg
theorem CI.reach (c:CI n i τ)(hi:i<n){p:Nat}(hp:(τ i).to p=none)(Y:bG n y)(F:Fix i y)(hm:y.getD i 0=p)(hg:fF n (· ∈(τ i).gens) y):CI n i (uS τ i ((τ i).reach p y)):=by
 have L:=c.lZ;have hno:p∉(τ i).orb:=λh=>by have:=(L.iff p).1 h;rw[hp] at this;cases this
 have hto: ∀r v,((τ i).reach p y).to r=some v->(r=p/\v=y)∨(r≠p/\(τ i).to r=some v):=by
  intro r v h;have h':(if r=p then some y else (τ i).to r)=some v:=h;split at h'
  ·rename_i e;cases h';exact .inl ⟨e,rfl⟩
  ·rename_i e;exact .inr ⟨e,h'⟩
 have hkeep: ∀r v,(τ i).to r=some v->((τ i).reach p y).to r=some v:=by
  intro r v h;have:r≠p:=λe=>by rw[e,hp] at h;cases h
  show (if r=p then some y else (τ i).to r)=some v;rw[if_neg this];exact h
 refine⟨?_,?_,?_,c.up.XV (by omega)⟩
 ·rw[bU]
  refine⟨?_,List.mem_append_left _ L.base,hkeep _ _ L.one,λr=>?_,λr v h=>?_,λr v h=>?_,λr v h=>?_,λr v h=>?_,L.gP,L.gF,L.gN,L.le,λr hr=>?_⟩
  ·show ((τ i).orb++ [p]).Nodup
   rw[List.nodup_append];exact⟨L.nd,by simp,λa ha b hb=>by simp at hb;subst hb;exact λe=>hno (e▸ha)⟩
  ·show r∈(τ i).orb++ [p]↔(if r=p then some y else (τ i).to r).isSome
   by_cases e:r=p
   ·subst e;simp
   ·rw[if_neg e,←L.iff r];simp [e]
  ·rcases hto r v h with ⟨_,rfl⟩|⟨_,h⟩
   ·exact Y
   ·exact L.dS r v h
  ·rcases hto r v h with ⟨_,rfl⟩|⟨_,h⟩
   ·exact F
   ·exact L.fix r v h
  ·rcases hto r v h with ⟨rfl,rfl⟩|⟨_,h⟩
   ·exact hm
   ·exact L.maps r v h
  ·rcases hto r v h with ⟨_,rfl⟩|⟨_,h⟩
   ·exact hg
   ·exact L.gen r v h
  ·exact L.zero r λh=>hr (List.mem_append_left _ h)
 ·intro r v hv j t hj ht
  rw[bU] at hv hj ht ⊢;simp only[XF (Nat.lt_succ_self i)];rcases hto r v hv with ⟨rfl,rfl⟩|⟨_,h⟩
  ·have hz:(τ i).tr r=0:=L.zero r hno
   have hj':j<(τ i).tr r:=hj;omega
  ·obtain⟨a,h1,h2⟩:=c.cl r v h j t hj ht
   exact⟨a,hkeep _ _ h1,h2⟩
 ·intro hn g hg2
  rw[eQ τ _ (by omega)] at hg2;rw[bU];exact c.dn hn g hg2
theorem CI.found (c:CI n i τ)(hi:i<n){p:Nat}(hq:(τ i).to q=some y)(hk:(τ i).tr q=k)(hs:(τ i).gens[k]? =some s)(hp:(aS y s).getD i 0=p)(hn:(τ i).to p=none):
  CI n i (uS τ i (((τ i).tick q).reach p (aS y s))):=by
 have L:=c.lZ
 have hmem:s∈(τ i).gens:=List.mem_of_getElem? hs
 have Y:=L.dS q y hq
 have Sp:=L.gP s hmem
 have c1:=c.reach hi hn (Y.mul Sp) (Fix.mul Y (by omega) (L.fix q y hq) (L.gF s hmem)) hp ((L.gen q y hq).mul hmem)
 have hqp:q≠p:=λe=>by rw[e,hn] at hq;cases hq
 have hto:(uS τ i ((τ i).reach p (aS y s)) i).to p=some (aS y s):=by
  rw[bU];show (if p=p then some (aS y s) else (τ i).to p)=_;rw[if_pos rfl]
 have hS:S n (uS τ i ((τ i).reach p (aS y s))) (i+1) (aS (aS y s) (cF (aS y s))):=by
  rw[iA (Y.mul Sp)];exact (c1.up.oG (by omega)).one
 have c2:=c1.tick (q:=q) (k:=k) (y:=y) (s:=s) (u:=aS y s) (by
  rw[bU];show (if q=p then some (aS y s) else (τ i).to q)=_
  rw[if_neg hqp];exact hq) (by rw[bU];exact hk) (by rw[bU];exact hs) (by rw[hp];exact hto) hS
 have e:uS (uS τ i ((τ i).reach p (aS y s))) i ((uS τ i ((τ i).reach p (aS y s)) i).tick q)=uS τ i (((τ i).tick q).reach p (aS y s)):=by
  funext j
  by_cases h:j=i
  ·subst h;rw[bU,bU,bU];rfl
  ·rw[eQ _ _ h,eQ _ _ h,eQ _ _ h]
 rwa [e] at c2
structure Ez (n i:Nat)(x:List Nat)(τ τ':oT):Prop where
 low: ∀j,j<i->τ' j=τ j
 tw:oU n i τ'
 old: ∀s∈(τ i).gens,s∈(τ' i).gens
 new: ∀s∈(τ' i).gens,fF n (λg=>g∈(τ i).gens∨g=x) s
 has:fF n (· ∈(τ' i).gens) x
theorem Ez.S (a:Ez n i x τ τ')(t:oU n i τ)(hi:i<n)(h:Go.Pm.S n τ i z):Go.Pm.S n τ' i z:=
 (a.tw.gen hi).2 (((t.gen hi).1 h).mono a.old)
theorem CI.added (c:CI n i τ)(hn:i+1<n)(a:Ez n (i+1) z τ τ')(hz:fF n (· ∈(τ i).gens) z):CI n i τ'/\Go.Pm.S n τ' (i+1) z:=by
 have e:=a.low i (by omega);refine⟨⟨e▸c.lZ,λq y hy k s hk hs=>?_,λh g hg=>?_,a.tw⟩,(a.tw.gen hn).2 a.has⟩
 ·rw[e] at hy hk hs ⊢
  obtain⟨u,h1,h2⟩:=c.cl q y hy k s hk hs;exact⟨u,h1,a.S c.up hn h2⟩
 ·rw[e]
  refine (a.new g hg).le (fF.oG c.lZ.gP) λg hg=>?_
  rcases hg with hg|rfl
  ·exact c.dn hn g hg
  ·exact hz
def Ve (n:Nat)(τ:oT):Nat->Nat->List Nat->Nat×List Nat
 |0,i,x=>(i,x)
 |d+1,i,x=>match (τ i).to (x.getD i 0) with
  |none=>(i,x)
  |some y=>Ve n τ d (i+1) (if x.getD i 0=i then x else aS x (cF y))
structure XJ (n i:Nat)(τ:oT)(x:List Nat)(k:Nat)(r:List Nat):Prop where
 ge:i<=k
 le:k<=n
 dS:bG n r
 fix:Fix k r
 out:k<n->(τ k).to (r.getD k 0)=none
 rest:i<n-> ∃w,fF n (· ∈(τ i).gens) w/\x=aS r w
theorem PJ: ∀(d i:Nat) (x:List Nat),i+d=n->oU n i τ->bG n x->Fix i x->XJ n i τ x (Ve n τ d i x).1 (Ve n τ d i x).2
 |0,i,x,h,_,X,F=>⟨Nat.le_refl _,by show i<=n;omega,X,F,λh2=>by have:i<n:=h2;omega,λh2=>by omega⟩
 |d+1,i,x,h,t,X,F=>by
  have hi:i<n:=by omega
  obtain⟨L,C,Fu,D⟩:=t i (Nat.le_refl _) hi;unfold Ve
  cases e:(τ i).to (x.getD i 0) with
  |none=>exact⟨Nat.le_refl _,by show i<=n;omega,X,F,λ_=>e,λ_=>⟨bW n,.one,(cI X).symm⟩⟩
  |some y=>
   simp only;have Y:=L.dS _ y e
   have key: ∀x2,x2=(if x.getD i 0=i then x else aS x (cF y))->bG n x2/\Fix (i+1) x2/\x=aS x2 y:=by
    intro x2 h2
    by_cases hx:x.getD i 0=i
    ·rw[if_pos hx] at h2
     subst h2;rw[hx,L.one] at e;cases e;exact⟨X,F.succ hx,(cI X).symm⟩
    ·rw[if_neg hx] at h2
     subst h2;refine⟨X.mul Y.inv,(Fix.mul X (by omega) F (Fix.inv Y (by omega) (L.fix _ y e))).succ ?_,by rw[aW X Y.inv Y,gG Y,cI X]⟩;rw[cU (by rw[X.len];exact hi)];have:=sW Y hi;rwa [L.maps _ y e] at this
   obtain⟨X2,F2,ex⟩:=key _ rfl;have ih:=PJ d (i+1) _ (by omega) (t.mono (by omega)) X2 F2;refine⟨by have:=ih.ge;omega,ih.le,ih.dS,ih.fix,ih.out,λ_=>?_⟩
   by_cases hn:i+1<n
   ·obtain⟨w,hw,ew⟩:=ih.rest hn
    have hw2:fF n (· ∈(τ i).gens) w:=hw.le (fF.oG L.gP) (D hn);refine⟨aS w y,hw2.app L.gP (L.gen _ y e),?_⟩;rw[←aW ih.dS (hw2.dS L.gP) Y,←ew];exact ex
   ·have hd:d=0:=by omega
    subst hd;exact⟨y,L.gen _ y e,ex⟩
theorem XJ.in (f:XJ n i τ x n w)(t:oU n i τ)(hi:i<n):S n τ i x:=by
 obtain⟨v,hv,e⟩:=f.rest hi;have:=f.fix.all f.dS;rw[this,eY (hv.dS (t i (Nat.le_refl _) hi).1.gP)] at e;subst e;exact (t.gen hi).2 hv
theorem XJ.abT (f:XJ n i τ x k w)(t:oU n i τ)(hk:k<n)(h1:i<=j)(h2:j<=k): ¬S n τ j w:=by
 intro h;have t1:=t.mono h1;have h3:=(t1.Us h2 (by omega)).2 ⟨h,f.fix⟩;obtain⟨y,hy,_⟩:=(t.mono f.ge).sift hk h3;rw[f.out hk] at hy;cases hy
def push (τ:oT)(i k:Nat)(r:List Nat):oT:=λj=>if i<=j/\j<=k then (τ j).more r else τ j
theorem BE (τ:oT){i:Nat}(r:List Nat)(h1:i<=j)(h2:j<=k):push τ i k r j=(τ j).more r:=by simp [push,h1,h2]
theorem Is (τ:oT){i:Nat}(r:List Nat)(h:j<i∨k<j):push τ i k r j=τ j:=by
 unfold push;rw[if_neg (by omega)]
structure Kg (n i k:Nat)(r:List Nat)(τ τ':oT)(j:Nat):Prop where
 low: ∀m,m<j->τ' m=push τ i k r m
 tw:oU n j τ'
 gens:j<=k->(τ' j).gens=(τ j).gens++ [r]
 same:k<j->τ' j=τ j
theorem Kg.start (f:XJ n i τ x k w)(t:oU n i τ)(_:k<n):Kg n i k w τ (push τ i k w) (k+1):=
 ⟨λ_ _=>rfl,(t.mono (by have:=f.ge;omega)).congr λj h1 _=>(Is τ w (.inr (by omega))).symm,λh=>by omega,λ_=>Is τ w (.inr (by omega))⟩
theorem Kg.ci (f:XJ n i τ x k w)(t:oU n i τ)(hk:k<n)(a:Kg n i k w τ τ' (j+1))(h1:i<=j)(h2:j<=k):CI n j τ':=by
 have hj:j<n:=by omega
 obtain⟨L,C,Fu,D⟩:=t j h1 hj;have e:τ' j=(τ j).more w:=(a.low j (by omega)).trans (BE τ w h1 h2);have tj:=t.mono h1;have hno:w∉(τ j).gens:=λhw=>f.abT t hk h1 h2 ((tj.gen hj).2 (fF.of L.gP hw))
 have hup: ∀z,S n τ (j+1) z->S n τ' (j+1) z:=by
  intro z hz
  by_cases hn:j+1<n
  ·have tj1:=t.mono (show i<=j+1 by omega)
   refine (a.tw.gen hn).2 (((tj1.gen hn).1 hz).mono λg hg=>?_)
   by_cases hjk:j+1<=k
   ·rw[a.gens hjk];exact List.mem_append_left _ hg
   ·rw[a.same (by omega)];exact hg
  ·obtain rfl:j+1=n:=by omega
   rw[tY] at hz ⊢;exact hz
 have hold: ∀g,g∈(τ j).gens->g∈(τ j).gens++ [w]:=λg hg=>List.mem_append_left _ hg
 have hgP: ∀g,g∈(τ j).gens++ [w]->bG n g:=λg hg=>by
  rcases List.mem_append.1 hg with hg|hg
  ·exact L.gP g hg
  ·simp at hg;subst hg;exact f.dS
 refine⟨?_,λq y hy m s hm hs=>?_,λhn s hs=>?_,a.tw⟩
 ·rw[e]
  refine⟨L.nd,L.base,L.one,L.iff,L.dS,L.fix,L.maps,λp y h=>(L.gen p y h).mono hold,hgP,λg hg=>?_,?_,λq=>?_,L.zero⟩
  ·rcases List.mem_append.1 hg with hg|hg
   ·exact L.gF g hg
   ·simp at hg;subst hg;exact f.fix.mono h2
  ·show ((τ j).gens++ [w]).Nodup
   rw[List.nodup_append];exact⟨L.gN,by simp,λa ha b hb=>by simp at hb;subst hb;exact λe=>hno (e▸ha)⟩
  ·show (τ j).tr q<=((τ j).gens++ [w]).length
   have:=L.le q;simp;omega
 ·rw[e] at hy hm hs ⊢
  have hm':m<(τ j).tr q:=hm;have hs':((τ j).gens++ [w])[m]? =some s:=hs;rw[List.getElem?_append_left (by have:=L.le q;omega)] at hs';obtain⟨u,g1,g2⟩:=C q y hy m s hm' hs';exact⟨u,g1,hup _ g2⟩
 ·rw[e]
  show fF n (· ∈(τ j).gens++ [w]) s
  by_cases hjk:j+1<=k
  ·rw[a.gens hjk] at hs
   rcases List.mem_append.1 hs with hs|hs
   ·exact (D hn s hs).mono hold
   ·simp at hs;subst hs
    exact fF.of hgP (List.mem_append_right _ (by simp))
  ·rw[a.same (by omega)] at hs
   exact (D hn s hs).mono hold
theorem Kg.next {τ'':oT}(a:Kg n i k w τ τ' (j+1))(h1:i<=j)(h2:j<=k)(low: ∀m,m<j->τ'' m=τ' m)(g:(τ'' j).gens=(τ' j).gens)(t:oU n j τ''):Kg n i k w τ τ'' j:=
 ⟨λm hm=>(low m hm).trans (a.low m (by omega)),t,λ_=>by rw[g,a.low j (by omega),BE τ w h1 h2];rfl,λh=>by omega⟩
theorem Kg.done (f:XJ n i τ x k w)(t:oU n i τ)(X:bG n x)(hk:k<n)(a:Kg n i k w τ τ' i):Ez n i x τ τ':=by
 have hi:i<n:=by have:=f.ge;omega
 have L:=(t i (Nat.le_refl _) hi).1;have hg:=a.gens f.ge;obtain⟨v,hv,e⟩:=f.rest hi;have V:=hv.dS L.gP;refine⟨λj hj=>(a.low j hj).trans (Is τ w (.inl hj)),a.tw,λs hs=>?_,λs hs=>?_,?_⟩
 ·rw[hg];exact List.mem_append_left _ hs
 ·have hLP: ∀g,(g∈(τ i).gens∨g=x)->bG n g:=λg hg=>by
   rcases hg with hg|rfl
   ·exact L.gP g hg
   ·exact X
  rw[hg] at hs;rcases List.mem_append.1 hs with hs|hs
  ·exact fF.of hLP (.inl hs)
  ·simp at hs;subst hs
   have ew:s=aS x (cF v):=by rw[e,aW f.dS V V.inv,iA V,cI f.dS]
   rw[ew];exact (fF.of hLP (.inr rfl)).app hLP ((hv.mono λg hg=>Or.inl hg).inv hLP)
 ·have hLP: ∀g,g∈(τ' i).gens->bG n g:=(a.tw i (Nat.le_refl _) hi).1.gP
  rw[e];exact (fF.of hLP (by rw[hg];exact List.mem_append_right _ (by simp))).app hLP (hv.mono λg hg'=>by rw[hg];exact List.mem_append_left _ hg')
theorem Ez.none (t:oU n i τ)(hi:i<n)(h:Go.Pm.S n τ i x):Ez n i x τ τ:=by
 have L:=(t i (Nat.le_refl _) hi).1
 have hLP: ∀g,(g∈(τ i).gens∨g=x)->bG n g:=λg hg=>by
  rcases hg with hg|rfl
  ·exact L.gP g hg
  ·exact t.dS (by omega) h
 exact⟨λ_ _=>rfl,t,λ_ hs=>hs,λs hs=>fF.of hLP (.inl hs),(t.gen hi).1 h⟩
theorem KD.many {l:Lv}(L:KD n j l):l.gens.length<=n^n:=Ui L.gN L.gP
def LI (n:Nat):oT:=λj=>⟨[], [j],λp=>if p=j then some (bW n) else none,λ_=>0⟩
theorem IB (n:Nat):oU n 0 (LI n):=λj _ hj=>by
 refine⟨⟨by simp [LI],by simp [LI],by simp [LI],λp=>?_,λp y h=>?_,λp y h=>?_,λp y h=>?_,λp y h=>?_,λs hs=>?_,λs hs=>?_,by simp [LI],λq=>Nat.le_refl _,λ_ _=>rfl⟩,λq y hy k s hk=>?_,λq _=>rfl,λ_ s hs=>?_⟩
 ·show p∈ [j]↔(if p=j then some (bW n) else none).isSome
  by_cases e:p=j<;>simp [e]
 all_goals first
  |(have h':(if p=j then some (bW n) else none)=some y:=h
    split at h'
    ·rename_i e
     cases h'
     first
      |exact bG.one n
      |exact Fix.one n j (by omega)
      |(rw[e];exact fD hj)
      |exact .one
    ·cases h')
  |(cases hs;done)
  |(have hk':k<0:=hk;omega)
end
end
end Go.Pm
namespace Go.Proofs.YtapfcpkecmmagaaGreat
open Go Go.Ay Go.Pm
set_option maxRecDepth 100000
def Slot (W:Nat->Prop)(h:H)(v:V):Option (List Nat)->Prop
 |none=>v= .aC
 |some y=>PV W h v y
def uA (F:Nat->V)(s:Nat):V:=F (s/2*194+s%2)
def WT (n L:Nat)(F:Nat->V)(id:Nat):Prop:=id=L∨ ∃s,s<2*n/\ ∃off len c,uA F s= .sl id off len c
structure rF (h:H)(n tid L:Nat)(F:Nat->V)(τ:oT):Prop where
 t:h.get tid=some (.cells false [aB n,.sl L 0 n (.kn n)])
 l:h.get L=some (.cells false (rc (n*194) F))
 tn:tid<h.next
 ln:L<h.next
 tw: ¬WT n L F tid
 to: ∀j p,j<n->p<64->Slot (WT n L F) h (F (j*194+2+p)) ((τ j).to p)
 iv: ∀j p,j<n->p<64->Slot (WT n L F) h (F (j*194+66+p)) (((τ j).to p).map cF)
 tr: ∀j p,j<n->p<64->F (j*194+130+p)= aB ((τ j).tr p:Nat)
 gens: ∀j,j<n-> ∃vs,fC h (F (j*194)) 1 vs 0/\jO (WT n L F) h vs (τ j).gens
 orb: ∀j,j<n->fC h (F (j*194+1)) 1 (ints (zi (τ j).orb)) 0
 Hb: ∀s s',s<2*n->s'<2*n->s≠s'->Dis (uA F s) (uA F s')
 ap: ∀s,s<2*n->dO (uA F s) L
section
variable {h h':H} {n tid L:Nat} {F:Nat->V} {τ:oT}
theorem Slot.fx {W:Nat->Prop}{v:V}{o:Option (List Nat)}(s:Slot W h v o)(f:Fx W h h'):Slot W h' v o:=by
 cases o with
 |none=>exact s
 |some y=>exact PV.fx s f
theorem Slot.tN {W W':Nat->Prop}{v:V}{o:Option (List Nat)}(s:Slot W h v o)(hw: ∀id,id<h.next->W' id->W id):Slot W' h v o:=by
 cases o with
 |none=>exact s
 |some y=>exact PV.tN s hw
theorem Cj (F:Nat->V)(j:Nat):uA F (2*j)=F (j*194):=by
 unfold uA;congr 1;omega
theorem Gi (F:Nat->V)(j:Nat):uA F (2*j+1)=F (j*194+1):=by
 unfold uA;congr 1;omega
theorem rF.own (R:rF h n tid L F τ){s:Nat}(hs:s<2*n): ∃ws,fC h (uA F s) 1 ws 0:=by
 rcases Nat.mod_two_eq_zero_or_one s with e|e
 ·obtain⟨vs,h1,_⟩:=R.gens (s/2) (by omega)
  exact⟨vs,by unfold uA;rw[e];exact h1⟩
 ·exact⟨_,by unfold uA;rw[e];exact R.orb (s/2) (by omega)⟩
theorem rF.DJ (R:rF h n tid L F τ){id:Nat}(hw:WT n L F id):id<h.next:=by
 rcases hw with rfl|⟨s,hs,off,len,c,e⟩
 ·exact R.ln
 ·obtain⟨ws,o⟩:=R.own hs
  exact (o.in _ _ _ _ e).1
theorem rF.mono (R:rF h n tid L F τ)(f:Fr h h'):rF h' n tid L F τ:=by
 refine⟨by rw[f.get _ R.tn];exact R.t,by rw[f.get _ R.ln];exact R.l,kY R.tn f.next,kY R.ln f.next,R.tw,
  λj p h1 h2=>(R.to j p h1 h2).fx (Fx.of f),λj p h1 h2=>(R.iv j p h1 h2).fx (Fx.of f),R.tr,λj hj=>?_,λj hj=>(R.orb j hj).fr f,R.Hb,R.ap⟩
 obtain⟨vs,h1,h2⟩:=R.gens j hj;exact⟨vs,h1.fr f,h2.fx (Fx.of f)⟩
theorem rF.cell (R:rF h n tid L F τ){j c:Nat}(hj:j<n)(hc:c<194):h.cell L (j*194+c)=some (F (j*194+c)):=
 zQ R.l (by
         have:(j+1)*194<=n*194:=Nat.mul_le_mul_right _ hj
         omega)
theorem rF.Ng (R:rF h n tid L F τ){j c p:Nat}(hj:j<n)(hc:c+p<194):h.cell L (j*194+c+p)=some (F (j*194+c+p)):=by
 rw[Nat.add_assoc];exact R.cell hj hc
end
theorem NI {n:Nat}{τ:oT}{d i:Nat}{x:List Nat}(h:(τ i).to (x.getD i 0)=none):Ve n τ (d+1) i x=(i,x):=by
 rw[Ve,h]
theorem NP {n:Nat}{τ:oT}{d i:Nat}{x z:List Nat}(h:(τ i).to (x.getD i 0)=some z):Ve n τ (d+1) i x=Ve n τ d (i+1) (if x.getD i 0=i then x else aS x (cF z)):=by
 rw[Ve,h]
theorem UU (h:H)(n tid L:Nat)(F:Nat->V)(τ:oT)(vx:V)(x:List Nat)(i0:Nat)(hn:n<=64)(h0:0<n)(R:rF h n tid L F τ)(hx:PV (WT n L F) h vx x)(X:bG n x)(hi0:i0<=n)(t:oU n i0 τ):
  Ev T 177 [.ptr tid 0,vx,aB i0] h (λv h'=> ∃vr,v= .tup [aB (((Ve n τ (n-i0) i0 x).1:Nat):Int),vr]/\PV (WT n L F) h' vr (Ve n τ (n-i0) i0 x).2/\bG n (Ve n τ (n-i0) i0 x).2/\Fr h h'):=by
 refine bN mW rfl rfl ?_
 simp(disch:=omega)only[go_sem,mW,aF]
 refine aI (λk' vars hh=> ∃(i:Nat) (y:List Nat) (vy:V),(∃g:Nat->V,vars= [.ptr tid 0,vy,g 2,g 3,g 4,aB i,g 6,g 7,g 8,g 9])/\i0<=i/\i<=n/\Ve n τ (n-i) i y=Ve n τ (n-i0) i0 x/\
   PV (WT n L F) hh vy y/\bG n y/\Fr h hh/\k'=n-i) (n-i0)
  ⟨i0,x,vx,aA rfl,jA _,hi0,rfl,hx,X,Fr.refl h,rfl⟩ ?_
 rintro k' vars h2 ⟨i,y,vy,⟨g,rfl⟩,hi1,hi2,hs,hy,Y,f,rfl⟩
 have R2:=R.mono f
 have ct:h2.cell tid 0=some (aB n):=by rw[H.aE R2.t];rfl
 have cl:h2.cell tid 1=some (.sl L 0 n (.kn n)):=by rw[H.aE R2.t];rfl
 simp(disch:=omega)only[go_sem,ct,cl]
 by_cases hlt:(i:Int)<(n:Int)
 ·have hin:i<n:=by omega
  rw[decide_eq_true hlt]
  obtain⟨id,off,sh,hid,hc⟩:=hy.si.open
  rw[aP,Y.len] at sh hid hc
  have ci:h2.cell id (off+i)=some (aB (y.getD i 0:Nat)):=by rw[hc i hin];congr 2;simp [zi,Y.len,hin]
  have r:=Y.eZ hin
  have lv:=(t i hi1 hin).1
  generalize hk:y.getD i 0=k at ci r
  have cb:=R2.Ng (c:=66) (p:=k) hin (by omega)
  have hS:=R2.iv i k hin (by omega)
  simp(disch:=omega)only[go_sem,ct,cl,sh.ixa,ci,cb]
  generalize F (i*194+66+k)=vb at hS cb
  have hstep:n-i=(n-(i+1))+1:=by omega
  rw[hstep] at hs
  cases hto:(τ i).to k with
  |none=>
   rw[hto] at hS;rw[NI (by rw[hk];exact hto)] at hs;have hS':vb= .aC:=hS;subst hS';simp(disch:=omega)only[go_sem];rw[←hs];exact⟨vy,rfl,hy.fx (Fx.of ((Fr.refl h2).bJ (by omega))),Y,f.bJ (by omega)⟩
  |some z=>
   rw[hto] at hS;rw[NP (by rw[hk];exact hto),hk] at hs;have Z:=lv.dS _ _ hto;have hS':PV (WT n L F) h2 vb (cF z):=hS;have sn:=BT hS' (bG.ne h0 Z.inv) false;have fb:Fr h2 (H.mk h2.tr (h2.next+14)):=(Fr.refl h2).bJ (by omega)
   by_cases hki:k=i
   ·have e0:decide ((k:Int)≠(i:Int))=false:=jC (by omega)
    rw[if_pos hki] at hs;simp(disch:=omega)only[go_sem,sn,sh.ixa,ci,e0];rw[iJ i];exact⟨n-(i+1),by omega,i+1,y,vy,aA rfl,by omega,by omega,hs,hy.fx (Fx.of fb),Y,f.trans fb,rfl⟩
   ·have e0:decide ((k:Int)≠(i:Int))=true:=nL (by omega)
    rw[if_neg hki] at hs;simp(disch:=omega)only[go_sem,sn,sh.ixa,ci,e0];have hy':=hy.fx (Fx.of fb);have hS2:=hS'.fx (Fx.of fb);have f':=f.trans fb;generalize H.mk h2.tr (h2.next+14)=h3 at*;refine (rI (rfl:T 181=some lP) vy vb y (cF z) h3 (by rw[Y.len];omega) hy'.si hS2.si (λj hj=>by rw[jS,Z.len];exact Y.eZ (by rw[←Y.len];exact hj))).mono ?_;rintro v h4 nw;have f4:=f'.trans nw.fr;simp(disch:=omega)only[go_sem];rw[iJ i];refine⟨n-(i+1),by omega,i+1,_,v,aA rfl,by omega,by omega,hs,nw.pv (λhw=>?_),Y.mul Z.inv,f4,rfl⟩;have:=R.DJ hw;have:=f'.next;omega
 ·rw[decide_eq_false hlt]
  obtain rfl:i=n:=by omega
  simp(disch:=omega)only[go_sem,ct,cl]
  rw[Nat.sub_self] at hs
  have hs':Ve i τ (i-i0) i0 x=(i,y):=hs.symm
  rw[hs']
  exact⟨vy,rfl,hy,Y,f⟩
section
variable {h h' h2:H} {n tid L i:Nat} {F F':Nat->V} {τ τ':oT}
theorem JN (hs: ∀s,s<2*n->uA F' s=uA F s)(id:Nat):WT n L F' id↔WT n L F id:=by
 unfold WT;constructor
 ·rintro (e|⟨s,h1,h2⟩)
  ·exact .inl e
  ·exact .inr ⟨s,h1,by rw[←hs s h1];exact h2⟩
 ·rintro (e|⟨s,h1,h2⟩)
  ·exact .inl e
  ·exact .inr ⟨s,h1,by rw[hs s h1];exact h2⟩
theorem OP {j:Nat}(P: ∀s,s<2*n->uA F' s=uA F s)(hj:j<n):F' (j*194)=F (j*194)/\F' (j*194+1)=F (j*194+1):=
 ⟨(Cj F' j).symm.trans ((P _ (by omega)).trans (Cj F j)),(Gi F' j).symm.trans ((P _ (by omega)).trans (Gi F j))⟩
theorem PV.go {W W':Nat->Prop}{v:V}{l:List Nat}(p:PV W h v l)(f:Fx W h h')(hw: ∀id,id<h.next->W' id->W id):PV W' h' v l:=⟨p.si.fx p.off f,p.off.tN p.si hw⟩
theorem Slot.go {W W':Nat->Prop}{v:V}{o:Option (List Nat)}(s:Slot W h v o)(f:Fx W h h')(hw: ∀id,id<h.next->W' id->W id):Slot W' h' v o:=by
 cases o with
 |none=>exact s
 |some y=>exact PV.go s f hw
theorem jO.go {W W':Nat->Prop}{vs:List V}{ls:LN}(s:jO W h vs ls)(f:Fx W h h')(hw: ∀id,id<h.next->W' id->W id):jO W' h' vs ls:=s.mono λ_ _ x=>PV.go x f hw
theorem rF.cells (R:rF h n tid L F τ)(hn:h.next<=h'.next)(ho: ∀id,id≠L->id<h.next->h'.get id=h.get id)(hl:h'.get L=some (.cells false (rc (n*194) F')))
  (hs: ∀s,s<2*n->uA F' s=uA F s) (hg: ∀j,j<n->(τ' j).gens=(τ j).gens/\(τ' j).orb=(τ j).orb)
  (hto: ∀j p,j<n->p<64->Slot (WT n L F) h' (F' (j*194+2+p)) ((τ' j).to p)) (hiv: ∀j p,j<n->p<64->Slot (WT n L F) h' (F' (j*194+66+p)) (((τ' j).to p).map cF))
  (htr: ∀j p,j<n->p<64->F' (j*194+130+p)= aB ((τ' j).tr p:Nat)):rF h' n tid L F' τ'/\Fx (WT n L F) h h'/\ ∀id,WT n L F' id↔WT n L F id:=by
 have f:Fx (WT n L F) h h':=⟨hn,λid h1 h2=>ho id (λe=>h2 (.inl e)) h1⟩
 have hw:=JN (L:=L) hs
 have eW:WT n L F'=WT n L F:=funext λid=>propext (hw id)
 have hk: ∀s,s<2*n-> ∀id off len c,uA F s= .sl id off len c->id<h.next->h'.get id=h.get id:=λs h1 id off len c e h2=>ho id (λe2=>(R.ap s h1 _ _ _ _ e) e2.symm) h2
 refine⟨⟨?_,hl,kY R.tn hn,kY R.ln hn,by rw[eW];exact R.tw,by rw[eW];exact hto,by rw[eW];exact hiv,htr,λj hj=>?_,λj hj=>?_,λs s' h1 h2 h3=>by rw[hs s h1,hs s' h2];exact R.Hb s s' h1 h2 h3,λs h1=>by rw[hs s h1];exact R.ap s h1⟩,f,hw⟩
 ·rw[f.get tid R.tn R.tw];exact R.t
 ·obtain⟨vs,h1,h2⟩:=R.gens j hj
  rw[(OP hs hj).1,eW,(hg j hj).1]
  exact⟨vs,h1.qU hn λid off m c e h3=>hk (2*j) (by omega) id off m c (by rw[Cj];exact e) h3,h2.fx f⟩
 ·rw[(OP hs hj).2,(hg j hj).2]
  exact (R.orb j hj).qU hn λid off m c e h3=>hk (2*j+1) (by omega) id off m c (by rw[Gi];exact e) h3
structure acU (h h':H)(n tid L:Nat)(F F':Nat->V)(s0:Nat):Prop where
 fx:Fx (WT n L F) h h'
 wt: ∀id,id<h.next->WT n L F' id->WT n L F id
 Hb: ∀s s',s<2*n->s'<2*n->s≠s'->Dis (uA F' s) (uA F' s')
 ap: ∀s,s<2*n->dO (uA F' s) L
 own: ∀s,s<2*n->s≠s0->uA F' s=uA F s/\ ∀ws,fC h (uA F s) 1 ws 0->fC h' (uA F s) 1 ws 0
theorem rF.acW (R:rF h n tid L F τ){s0 nn m:Nat}(h0:s0<2*n){ws us:List V}(p:yQ h (uA F s0) nn m 1 ws us h2)(hF: ∀s,s<2*n->s≠s0->uA F' s=uA F s){cp:qP}(hF0:uA F' s0= .sl h.next 0 (nn+m) cp)(o:Option Ob):
  acU h (h2.set L o) n tid L F F' s0:=by
 have hin: ∀s,s<2*n-> ∀id off len c,uA F s= .sl id off len c->id<h.next:=λs hs id off len c e=>by
  obtain⟨ws,o⟩:=R.own hs;exact (o.in _ _ _ _ e).1
 have f2:Fx (WT n L F) h h2:=p.fx λid off len c e=> .inr ⟨s0,h0,off,len,c,e⟩
 refine⟨f2.trans (Fx.set h2 (.inl rfl:WT n L F L) o) (λ_ _ h=>h),λid h1 hw=>?_,λs s' h1 h2 h3=>?_,λs h1=>?_,λs h1 h3=>⟨hF s h1 h3,λws ow=>?_⟩⟩
 ·rcases hw with e|⟨s,hs,off,len,c,e⟩
  ·exact .inl e
  ·by_cases e2:s=s0
   ·rw[e2,hF0] at e;cases e;omega
   ·exact .inr ⟨s,hs,off,len,c,by rw[←hF s hs e2];exact e⟩
 ·by_cases e2:s=s0
  ·rw[e2,hF0,hF s' h2 (by omega)]
   intro i o n c e i' o' n' c' e'
   cases e
   have:=hin s' h2 _ _ _ _ e'
   omega
  ·rw[hF s h1 e2]
   by_cases e3:s'=s0
   ·rw[e3,hF0]
    intro i o n c e i' o' n' c' e'
    cases e'
    have:=hin s h1 _ _ _ _ e
    omega
   ·rw[hF s' h2 e3];exact R.Hb s s' h1 h2 h3
 ·by_cases e2:s=s0
  ·rw[e2,hF0]
   exact dO.sl (by have:=R.ln;omega)
  ·rw[hF s h1 e2];exact R.ap s h1
 ·refine ow.qU (show h.next<=h2.next by rw[p.next];omega) λid off m c e hid=>?_
  rw[H.aH h2 (λe2:id=L=>(R.ap s h1 _ _ _ _ e) e2.symm)]
  refine p.old id (by omega) λid' off' n' c' e' e2=>?_
  exact R.Hb s s0 h1 h0 h3 _ _ _ _ e _ _ _ _ e' e2
def F1 (F:Nat->V)(k:Nat)(v:V):Nat->V:=λc=>if c=k then v else F c
theorem rF.slot (R:rF h n tid L F τ){e nn m:Nat}(hi:i<n)(he:e<2){ws us:List V}(p:yQ h (F (i*194+e)) nn m 1 ws us h2){h3:H}{v:V}{cp:qP}(hcp:cp= .un 1∨cp= .kn (nn+m))(hv:v= .sl h.next 0 (nn+m) cp)(h3e:h3=h2.set L (some (.cells false (rc (n*194) (F1 F (i*194+e) v)))))
  (hsame: ∀j,j<n->(τ' j).to=(τ j).to/\(τ' j).tr=(τ j).tr)
  (hg:Fx (WT n L F) h h3->(∀id,id<h.next->WT n L (F1 F (i*194+e) v) id->WT n L F id)->(∀s,s<2*n->s≠2*i+e-> ∀ws,fC h (uA F s) 1 ws 0->fC h3 (uA F s) 1 ws 0)->fC h3 v 1 (ws++us) 0->ws.length=nn*1/\us.length=m*1->
   (∀j,j<n-> ∃vs,fC h3 (F1 F (i*194+e) v (j*194)) 1 vs 0/\jO (WT n L (F1 F (i*194+e) v)) h3 vs (τ' j).gens)/\ ∀j,j<n->fC h3 (F1 F (i*194+e) v (j*194+1)) 1 (ints (zi (τ' j).orb)) 0)
  (hl:ws.length=nn*1/\us.length=m*1):
  rF h3 n tid L (F1 F (i*194+e) v) τ'/\Fx (WT n L F) h h3/\ ∀id,id<h.next->WT n L (F1 F (i*194+e) v) id->WT n L F id:=by
 have hsl: ∀s,s<2*n->s≠2*i+e->uA (F1 F (i*194+e) v) s=uA F s:=λs h1 h2=>by
  unfold uA F1;rw[if_neg (by omega)]
 have hdiv:(2*i+e)/2*194+(2*i+e)%2=i*194+e:=by omega
 have hs0:uA F (2*i+e)=F (i*194+e):=by unfold uA;rw[hdiv]
 have hs1:uA (F1 F (i*194+e) v) (2*i+e)= .sl h.next 0 (nn+m) cp:=by unfold uA F1;rw[hdiv,if_pos rfl,hv]
 have G:=R.acW (F':=F1 F (i*194+e) v) (s0:=2*i+e) (by omega) (by rw[hs0];exact p) hsl hs1 (some (.cells false (rc (n*194) (F1 F (i*194+e) v))))
 rw[←h3e] at G
 obtain⟨g1,g2⟩:=hg G.fx G.wt (λs h1 h2=>(G.own s h1 h2).2) (by
  rw[hv,h3e];have ow:fC h2 (.sl h.next 0 (nn+m) cp) 1 (ws++us) 0:= .inr ⟨h.next,nn+m,cp, [],rfl,by rw[oS,hl.1,hl.2];omega,by rcases hcp with e|e;exact .inl e;exact .inr ⟨e,rfl⟩,lG _,by rw[p.next];omega,by rw[List.append_nil];exact p.get⟩;refine ow.qU (jA _) λid off m c e hid=>?_
  cases e
  exact H.aH h2 (by have:=R.ln;omega) _) hl
 have hc: ∀j c,2<=c->c<194->F1 F (i*194+e) v (j*194+c)=F (j*194+c):=λj c h1 h2=>by
  unfold F1;rw[if_neg (by omega)]
 have hc2: ∀j b c,2<=b->b+c<194->F1 F (i*194+e) v (j*194+b+c)=F (j*194+b+c):=λj b c h1 h2=>by
  rw[Nat.add_assoc];exact hc j (b+c) (by omega) h2
 have hnx:=G.fx.next
 refine⟨⟨?_,by rw[h3e,H.aT],kY R.tn hnx,kY R.ln hnx,λhw=>R.tw (G.wt _ R.tn hw),λj p h1 h2=>?_,λj p h1 h2=>?_,λj p h1 h2=>?_,g1,g2,G.Hb,G.ap⟩,G.fx,G.wt⟩
 ·rw[G.fx.get tid R.tn R.tw];exact R.t
 ·rw[hc2 j 2 p (by omega) (by omega),(hsame j h1).1];exact (R.to j p h1 h2).go G.fx G.wt
 ·rw[hc2 j 66 p (by omega) (by omega),(hsame j h1).1];exact (R.iv j p h1 h2).go G.fx G.wt
 ·rw[hc2 j 130 p (by omega) (by omega),(hsame j h1).2];exact R.tr j p h1 h2
theorem rF.more (R:rF h n tid L F τ)(hi:i<n){vs:List V}{vr:V}{r:List Nat}(pv:jO (WT n L F) h vs (τ i).gens)(hr:PV (WT n L F) h vr r)(p:yQ h (F (i*194)) (τ i).gens.length 1 1 vs [vr] h2){h3:H}{v:V}(hv:v= .sl h.next 0 ((τ i).gens.length+1) (.un 1))(h3e:h3=h2.set L (some (.cells false (rc (n*194) (F1 F (i*194) v))))):
  rF h3 n tid L (F1 F (i*194) v) (uS τ i ((τ i).more r))/\Fx (WT n L F) h h3/\ ∀id,id<h.next->WT n L (F1 F (i*194) v) id->WT n L F id:=by
 refine R.slot (e:=0) hi (by omega) p (.inl rfl) hv h3e (λj hj=>?_) (λf hw hk ho hl=>⟨λj hj=>?_,λj hj=>?_⟩) ⟨by have:=bY.length pv;omega,rfl⟩
 ·by_cases e:j=i
  ·subst e;rw[bU];exact⟨rfl,rfl⟩
  ·rw[eQ _ _ e];exact⟨rfl,rfl⟩
 ·by_cases e:j=i
  ·subst e
   rw[bU]
   refine⟨vs++ [vr],?_,(jO.go pv f hw).append (jO.one (PV.go hr f hw))⟩
   unfold F1;rw[if_pos (Nat.add_zero _).symm];exact ho
  ·rw[eQ _ _ e]
   obtain⟨us,h1,h2⟩:=R.gens j hj
   refine⟨us,?_,jO.go h2 f hw⟩
   have:=hk (2*j) (by omega) (by omega) us (by rw[Cj];exact h1)
   rw[Cj] at this
   unfold F1;rw[if_neg (by omega)];exact this
 ·have:=hk (2*j+1) (by omega) (by omega) _ (by rw[Gi];exact R.orb j hj)
  rw[Gi] at this
  unfold F1;rw[if_neg (by omega)]
  by_cases e:j=i
  ·subst e;rw[bU];exact this
  ·rw[eQ _ _ e];exact this
theorem rF.HI (R:rF h n tid L F τ)(hi:i<n){q:Nat}(p:yQ h (F (i*194+1)) (τ i).orb.length 1 1 (ints (zi (τ i).orb)) [aB q] h2){h3:H}{v:V}{cp:qP}(hcp:cp= .un 1∨cp= .kn ((τ i).orb.length+1))(hv:v= .sl h.next 0 ((τ i).orb.length+1) cp)(h3e:h3=h2.set L (some (.cells false (rc (n*194) (F1 F (i*194+1) v))))):
  rF h3 n tid L (F1 F (i*194+1) v) (uS τ i {τ i with orb:=(τ i).orb++ [q]})/\Fx (WT n L F) h h3/\ ∀id,id<h.next->WT n L (F1 F (i*194+1) v) id->WT n L F id:=by
 refine R.slot (e:=1) hi (by omega) p hcp hv h3e (λj hj=>?_) (λf hw hk ho hl=>⟨λj hj=>?_,λj hj=>?_⟩) ⟨by rw[aJ,aP,Nat.mul_one],rfl⟩
 ·by_cases e:j=i
  ·subst e;rw[bU];exact⟨rfl,rfl⟩
  ·rw[eQ _ _ e];exact⟨rfl,rfl⟩
 ·obtain⟨us,h1,h2⟩:=R.gens j hj
  have:=hk (2*j) (by omega) (by omega) us (by rw[Cj];exact h1)
  rw[Cj] at this
  refine⟨us,?_,?_⟩
  ·unfold F1;rw[if_neg (by omega)];exact this
  ·by_cases e:j=i
   ·subst e;rw[bU];exact jO.go h2 f hw
   ·rw[eQ _ _ e];exact jO.go h2 f hw
 ·by_cases e:j=i
  ·subst e
   rw[bU]
   have ez:ints (zi ((τ j).orb++ [q]))=ints (zi (τ j).orb)++ [aB q]:=by simp [zi,ints]
   show fC h3 _ 1 (ints (zi ((τ j).orb++ [q]))) 0
   rw[ez]
   unfold F1;rw[if_pos rfl];exact ho
  ·rw[eQ _ _ e]
   have:=hk (2*j+1) (by omega) (by omega) _ (by rw[Gi];exact R.orb j hj)
   rw[Gi] at this
   unfold F1;rw[if_neg (by omega)];exact this
theorem rF.tick (R:rF h n tid L F τ)(hi:i<n){q:Nat}(hq:q<64){z:Int}(hz:z=((τ i).tr q:Nat)+1){h3:H}(h3e:h3=h.set L (some (.cells false (rc (n*194) (F1 F (i*194+130+q) (aB z)))))):
  rF h3 n tid L (F1 F (i*194+130+q) (aB z)) (uS τ i ((τ i).tick q))/\Fx (WT n L F) h h3/\ ∀id,WT n L (F1 F (i*194+130+q) (aB z)) id↔WT n L F id:=by
 subst h3e
 have f:Fx (WT n L F) h (h.set L (some (.cells false (rc (n*194) (F1 F (i*194+130+q) (aB z)))))):=Fx.set h (.inl rfl) _
 have hto: ∀j,(uS τ i ((τ i).tick q) j).to=(τ j).to/\(uS τ i ((τ i).tick q) j).gens=(τ j).gens/\(uS τ i ((τ i).tick q) j).orb=(τ j).orb:=λj=>by
  by_cases e:j=i
  ·subst e;rw[bU];exact⟨rfl,rfl,rfl⟩
  ·rw[eQ _ _ e];exact⟨rfl,rfl,rfl⟩
 refine R.cells (jA _) (λid h1 _=>H.aH h h1 _) (H.aT ..) (λs hs=>?_) (λj _=>(hto j).2) (λj p h1 h2=>?_) (λj p h1 h2=>?_) (λj p h1 h2=>?_)
 ·unfold uA F1;rw[if_neg (by omega)]
 ·rw[(hto j).1]
  have:=(R.to j p h1 h2).fx f
  unfold F1;rw[if_neg (by omega)];exact this
 ·rw[(hto j).1]
  have:=(R.iv j p h1 h2).fx f
  unfold F1;rw[if_neg (by omega)];exact this
 ·have:=R.tr j p h1 h2
  unfold F1
  by_cases e:j=i
  ·subst e
   rw[bU]
   show _=aB (if p=q then (τ j).tr q+1 else (τ j).tr p:Nat)
   by_cases e2:p=q
   ·subst e2;rw[if_pos rfl,if_pos rfl,hz];rfl
   ·rw[if_neg (by omega),if_neg e2];exact this
  ·rw[if_neg (by omega),eQ _ _ e];exact this
theorem rF.way (R:rF h n tid L F τ)(hi:i<n){q:Nat}(hq:q<64){vy vu:V}{y:List Nat}(hy:PV (WT n L F) h vy y)(hu:PV (WT n L F) h vu (cF y)){h3:H}(hn:h.next<=h3.next)(ho: ∀id,id≠L->id<h.next->h3.get id=h.get id)
  (hl:h3.get L=some (.cells false (rc (n*194) (F1 (F1 F (i*194+2+q) vy) (i*194+66+q) vu)))):
  rF h3 n tid L (F1 (F1 F (i*194+2+q) vy) (i*194+66+q) vu) (uS τ i {τ i with to:=λr=>if r=q then some y else (τ i).to r})/\Fx (WT n L F) h h3/\ ∀id,WT n L (F1 (F1 F (i*194+2+q) vy) (i*194+66+q) vu) id↔WT n L F id:=by
 have f:Fx (WT n L F) h h3:=⟨hn,λid h1 h2=>ho id (λe=>h2 (.inl e)) h1⟩
 have hto: ∀j,(uS τ i {τ i with to:=λr=>if r=q then some y else (τ i).to r} j).tr=(τ j).tr/\(uS τ i {τ i with to:=λr=>if r=q then some y else (τ i).to r} j).gens=(τ j).gens/\(uS τ i {τ i with to:=λr=>if r=q then some y else (τ i).to r} j).orb=(τ j).orb:=λj=>by
  by_cases e:j=i
  ·subst e;rw[bU];exact⟨rfl,rfl,rfl⟩
  ·rw[eQ _ _ e];exact⟨rfl,rfl,rfl⟩
 refine R.cells hn ho hl (λs hs=>?_) (λj _=>(hto j).2) (λj p h1 h2=>?_) (λj p h1 h2=>?_) (λj p h1 h2=>?_)
 ·unfold uA F1;rw[if_neg (by omega),if_neg (by omega)]
 ·have:=(R.to j p h1 h2).fx f
  unfold F1
  by_cases e:j=i
  ·subst e
   rw[bU]
   show Slot _ _ _ (if p=q then some y else (τ j).to p)
   by_cases e2:p=q
   ·subst e2;rw[if_neg (by omega),if_pos rfl,if_pos rfl];exact PV.fx hy f
   ·rw[if_neg (by omega),if_neg (by omega),if_neg e2];exact this
  ·rw[if_neg (by omega),if_neg (by omega),eQ _ _ e];exact this
 ·have:=(R.iv j p h1 h2).fx f
  unfold F1
  by_cases e:j=i
  ·subst e
   rw[bU]
   show Slot _ _ _ ((if p=q then some y else (τ j).to p).map cF)
   by_cases e2:p=q
   ·subst e2;rw[if_pos rfl,if_pos rfl];exact PV.fx hu f
   ·rw[if_neg (by omega),if_neg (by omega),if_neg e2];exact this
  ·rw[if_neg (by omega),if_neg (by omega),eQ _ _ e];exact this
 ·rw[(hto j).1]
  have:=R.tr j p h1 h2
  unfold F1;rw[if_neg (by omega),if_neg (by omega)];exact this
end
theorem Xu {l:List Nat}(nd:l.Nodup){k:Nat}(hk:k<l.length):l.getD k 0∉l.take k:=by
 intro h;obtain⟨m,hm,e⟩:=Gx.1 h;have hm':m<k:=by simp at hm;omega
 rw[List.getElem_take,cJ hk] at e;have e1:=nd.idxOf_getElem m (by omega);have e2:=nd.idxOf_getElem k hk;rw[e] at e1;omega
theorem YH {n i:Nat}{τ τ2:oT}{y s u z:List Nat}{q k:Nat}(c:CI n i τ)(hn:i+1<n)(hq:(τ i).to q=some y)(hk:(τ i).tr q=k)(hs:(τ i).gens[k]? =some s)(hu:(τ i).to ((aS y s).getD i 0)=some u)
  (hz:z=aS (aS y s) (cF u)) (a:Ez n (i+1) z (uS τ i ((τ i).tick q)) τ2):CI n i τ2/\τ2 i=(τ i).tick q/\ ∀j,j<i->τ2 j=τ j:=by
 have e0:τ2 i=(τ i).tick q:=(a.low i (by omega)).trans (bU ..)
 have elow: ∀j,j<i->τ2 j=τ j:=λj hj=>(a.low j (by omega)).trans (eQ _ _ (by omega))
 have a1:Ez n (i+1) z τ (uS τ2 i (τ i)):=by
  have en: ∀j,i<j->uS τ i ((τ i).tick q) j=τ j:=λj hj=>eQ _ _ (by omega)
  have en2: ∀j,i<j->uS τ2 i (τ i) j=τ2 j:=λj hj=>eQ _ _ (by omega)
  refine⟨λj hj=>?_,a.tw.congr λj h1 _=>(en2 j (by omega)).symm,λs hs=>?_,λs hs=>?_,?_⟩
  ·by_cases e:j=i
   ·subst e;exact bU ..
   ·rw[eQ _ _ e];exact elow j (by omega)
  ·rw[en2 _ (by omega)];exact a.old s (by rw[en _ (by omega)];exact hs)
  ·rw[en2 _ (by omega)] at hs
   have:=a.new s hs;rwa [en _ (by omega)] at this
  ·rw[en2 _ (by omega)];exact a.has
 have hmem:s∈(τ i).gens:=List.mem_of_getElem? hs
 obtain⟨_,_,hgz⟩:=c.Hx (by omega) hq hmem hu
 obtain⟨c1,hz1⟩:=c.added hn a1 (by rw[hz];exact hgz)
 have es:uS τ2 i (τ i) i=τ i:=bU ..
 have c2:=c1.tick (q:=q) (k:=k) (y:=y) (s:=s) (u:=u) (by rw[es];exact hq) (by rw[es];exact hk) (by rw[es];exact hs) (by rw[es];exact hu) (by rw[←hz];exact hz1)
 have e:uS (uS τ2 i (τ i)) i ((uS τ2 i (τ i) i).tick q)=τ2:=by
  funext j
  by_cases h:j=i
  ·subst h;rw[bU,bU,e0]
  ·rw[eQ _ _ h,eQ _ _ h]
 rw[e] at c2
 exact⟨c2,e0,elow⟩
theorem fC.lens {h:H}{v:V}{ws:List V}{b n:Nat}(o:fC h v 1 ws b)(hn:ws.length=n):dM v=some (aB n):=by
 unfold dM;rw[o.sv.len (n:=n) (by omega) (by omega)];rfl
theorem BY {F:Nat->V}{k c:Nat}{v:V}(h:c≠k):F1 F k v c=F c:=if_neg h
theorem Ef {N k:Nat}{F:Nat->V}(hk:k<N)(hh:H)(L:Nat)(v:V):fI (some (.cells false (rc N F))) hh L k [v]=some (hh.set L (some (.cells false (rc N (F1 F k v))))):=by
 rw[aX (by rw[cZ];exact hk),fW];rfl
def QL (h:H)(n tid L:Nat)(F:Nat->V)(τ:oT)(i:Nat)(x:List Nat):V->H->Prop:=λ_ h'=> ∃F' τ',rF h' n tid L F' τ'/\Ez n i x τ τ'/\Fx (WT n L F) h h'/\ ∀id,id<h.next->WT n L F' id->WT n L F id
def GY (h:H)(n tid L:Nat)(F:Nat->V)(τ:oT)(i:Nat):V->H->Prop:=λ_ h'=> ∃F' τ',rF h' n tid L F' τ'/\oU n i τ'/\(∀j,j<i->τ' j=τ j)/\(τ' i).gens=(τ i).gens/\Fx (WT n L F) h h'/\ ∀id,id<h.next->WT n L F' id->WT n L F id
def UZ (n i:Nat):Prop:= ∀(h:H) (tid L:Nat) (F:Nat->V) (τ:oT) (vx:V) (x:List Nat),rF h n tid L F τ->PV (WT n L F) h vx x->bG n x->Fix i x->oU n i τ->Ev T 156 [.ptr tid 0,vx,aB i] h (QL h n tid L F τ i x)
def Qq (n i:Nat):Prop:= ∀(h:H) (tid L:Nat) (F:Nat->V) (τ:oT),rF h n tid L F τ->CI n i τ->Ev T 178 [.ptr tid 0,aB i] h (GY h n tid L F τ i)
structure ClS (h:H)(n tid L:Nat)(F:Nat->V)(τ:oT)(i:Nat)(h':H)(F':Nat->V)(τ':oT)(k:Nat):Prop where
 R:rF h' n tid L F' τ'
 c:CI n i τ'
 hk:k<=(τ' i).orb.length
 done: ∀r∈(τ' i).orb.take k,(τ' i).tr r=(τ' i).gens.length
 low: ∀j,j<i->τ' j=τ j
 gens:(τ' i).gens=(τ i).gens
 fx:Fx (WT n L F) h h'
 wt: ∀id,id<h.next->WT n L F' id->WT n L F id
theorem UA {n j:Nat}{l:Lv}(V:KD n j l)(hj:j<n):l.orb.length<=n:=by
 have:=List.Nodup.length_le_of_subset V.nd (l₂:=List.range n) λx hx=>Pl.2 (V.lt hj hx)
 simpa using this
theorem Rc (n i:Nat)(hn:n<=7)(hi:i<n)(A:i+1<n->UZ n (i+1)):Qq n i:=by
 intro h tid L F τ R c;refine bN mJ rfl rfl ?_;have cl:h.cell tid 1=some (.sl L 0 n (.kn n)):=by rw[H.aE R.t];rfl
 simp(disch:=omega)only[go_sem,mJ,aF,cl];refine aI (λm vars hh=> ∃(k:Nat) (F':Nat->V) (τ':oT),(∃g:Nat->V,vars= [.ptr tid 0,aB i,.ptr L (i*194),aB k,g 4,g 5,g 6,g 7,g 8,g 9,g 10,g 11])/\ClS h n tid L F τ i hh F' τ' k/\m=n-k) n
  ⟨0,F,τ,aA rfl,⟨R,c,lG _,λr hr=>by simp at hr,λ_ _=>rfl,rfl,Fx.refl _ h,λ_ _ h=>h⟩,rfl⟩ ?_
 rintro m vars h1 ⟨k,F1',τ1,⟨g,rfl⟩,S,rfl⟩;have co:h1.cell L (i*194+1)=some (F1' (i*194+1)):=S.R.cell hi (by omega);have oo:=S.R.orb i hi;have lo:=fC.lens oo (by rw[aJ,aP]);have hon:=UA S.c.lZ hi;simp(disch:=omega)only[go_sem,co,lo]
 by_cases hlt:(k:Int)<((τ1 i).orb.length:Int)
 case neg=>
  rw[decide_eq_false hlt];simp(disch:=omega)only[go_sem];refine⟨F1',τ1,S.R,S.c.full λq hq=>S.done q ?_,S.low,S.gens,S.fx,S.wt⟩;rw[List.take_of_length_le (by omega)];exact hq
 rw[decide_eq_true hlt];have hk':k<(τ1 i).orb.length:=by omega
 obtain⟨id,off,sh,hid,hc⟩:=(show SI h1 (F1' (i*194+1)) (zi (τ1 i).orb) from oo.sv).open;rw[aP] at sh hid hc;obtain⟨q,hq⟩:=exI ((τ1 i).orb.getD k 0);have ck:h1.cell id (off+k)=some (aB q):=by rw[hc k hk'];congr 2;simp [zi,hk',←hq]
 simp(disch:=omega)only[go_sem,co,sh.ixa,ck];have hqm:q∈(τ1 i).orb:=by rw[←hq,cJ hk'];exact List.getElem_mem hk'
 have hqn:q<n:=S.c.lZ.lt hi hqm;clear sh hid hc ck co lo oo hon hqm
 refine aI (λm vars hh=> ∃(F':Nat->V) (τ':oT),(∃g:Nat->V,vars= [.ptr tid 0,aB i,.ptr L (i*194),aB k,aB q,g 5,g 6,g 7,g 8,g 9,g 10,g 11])/\ClS h n tid L F τ i hh F' τ' k/\
   k<(τ' i).orb.length/\(τ' i).orb.getD k 0=q/\m=(τ' i).gens.length-(τ' i).tr q) ((τ1 i).gens.length-(τ1 i).tr q)
  ⟨F1',τ1,aA rfl,S,hk',hq,rfl⟩ ?_
 clear hlt hk' hq S τ1 F1';rintro m vars h2 ⟨F2,τ2,⟨g2,rfl⟩,S,hk',hq,rfl⟩;have R2:=S.R;have lZ:=S.c.lZ;have hqm:q∈(τ2 i).orb:=by rw[←hq,cJ hk'];exact List.getElem_mem hk'
 obtain⟨y,hy⟩:=lZ.to hqm;have Y:=lZ.dS _ _ hy;have ctr:h2.cell L (i*194+130+q)=some (aB ((τ2 i).tr q:Nat)):=by rw[R2.Ng hi (by omega),R2.tr i q hi (by omega)]
 have cg:h2.cell L (i*194)=some (F2 (i*194)):=by
  have:=R2.cell (c:=0) hi (by omega);rwa [Nat.add_zero] at this
 obtain⟨vs,og,pvs⟩:=R2.gens i hi;have lg:=fC.lens og (bY.length pvs);have hon:=UA lZ hi;simp(disch:=omega)only[go_sem,ctr,cg,lg]
 by_cases hlt:(((τ2 i).tr q:Nat):Int)<((τ2 i).gens.length:Int)
 case neg=>
  rw[decide_eq_false hlt];simp(disch:=omega)only[go_sem];rw[iJ k];have fb:Fr h2 (H.mk h2.tr (h2.next+12)):=(Fr.refl h2).bJ (by omega);have hle:=lZ.le q;refine⟨n-(k+1),by omega,k+1,F2,τ2,aA rfl,⟨R2.mono fb,S.c,hk',λr hr=>?_,S.low,S.gens,⟨Nat.le_trans S.fx.next fb.next,S.fx.get⟩,S.wt⟩,rfl⟩;rw[List.take_add_one,iK hk',←cJ hk',hq] at hr;rcases La.1 hr with hr|hr
  ·exact S.done r hr
  ·simp at hr;subst hr;omega
 rw[decide_eq_true hlt];obtain⟨t,ht⟩:=exI ((τ2 i).tr q);rw[ht] at hlt ctr;have hgl:(τ2 i).gens.length<=1000000:=Nat.le_trans lZ.many (Nat.le_trans (Nat.pow_le_pow_left hn n) (Nat.le_trans (Nat.pow_le_pow_right (by omega) hn) (by decide)));obtain⟨idg,offg,shg,hidg,hcg⟩:=og.sv.shape (τ2 i).gens.length (by have:=bY.length pvs;omega) (by omega);obtain⟨vS,hvS,pS⟩:=pvs.at (i:=t) (by omega);obtain⟨s,hs⟩:=exI ((τ2 i).gens.getD t []);rw[hs] at pS
 have hsq:(τ2 i).gens[t]? =some s:=by
  rw[←hs,List.getD,iK (by omega)];rfl
 have Sp:=lZ.gP s (List.mem_of_getElem? hsq);have cS:h2.cell idg (offg+t)=some vS:=by rw[hcg t (by have:=bY.length pvs;omega)];exact hvS
 have pT:PV (WT n L F2) h2 (F2 (i*194+2+q)) y:=by
  have:=R2.to i q hi (by omega);rw[hy] at this;exact this
 have hN:i*194+194<=n*194:=by omega
 simp(disch:=omega)only[go_sem,ctr,cg,lg,shg.ixa,cS,R2.l,Ef,kF,BY];have fb:Fr h2 (H.mk h2.tr (h2.next+12+13+11)):=(Fr.refl h2).bJ (by omega)
 obtain⟨h3,h3e⟩: ∃h3,h3=(H.mk h2.tr (h2.next+12+13+11)).set L (some (.cells false (rc (n*194) (F1 F2 (i*194+130+q) (aB ((t:Int)+1)))))):=⟨_,rfl⟩
 rw[←h3e];obtain⟨R3,f3,w3⟩:=(R2.mono fb).tick hi (q:=q) (by omega) (z:=(t:Int)+1) (by rw[ht]) h3e;have f3':=(Fx.of (W:=WT n L F2) fb).trans f3 (λ_ _ h=>h);have pT3:=PV.go pT f3' (λid _ h=>(w3 id).1 h);have pS3:=PV.go pS f3' (λid _ h=>(w3 id).1 h);generalize F2 (i*194+2+q)=vt at pT pT3;clear h3e pT pS ctr cg lg shg hidg hcg cS hvS pvs og
 obtain⟨F3,hF3⟩: ∃F3,F3=F1 F2 (i*194+130+q) (aB ((t:Int)+1)):=⟨_,rfl⟩
 rw[←hF3] at R3 w3 pT3 pS3
 obtain⟨τ3,hτ3⟩: ∃τ3,τ3=uS τ2 i ((τ2 i).tick q):=⟨_,rfl⟩
 rw[←hτ3] at R3;have e3:τ3 i=(τ2 i).tick q:=by rw[hτ3];exact bU ..
 refine (rI (rfl:T 181=some lP) vt vS y s h3 (by rw[Y.len];omega) pT3.si pS3.si (λj hj=>by rw[Sp.len];exact Y.eZ (by rw[←Y.len];exact hj))).mono ?_;rintro v h4 nw;have P:=Y.mul Sp;obtain⟨p,hp⟩:=exI ((aS y s).getD i 0);have hpn:p<n:=by rw[←hp];exact P.eZ hi
 have R4:=R3.mono nw.fr;have pv:=nw.pv (W:=WT n L F3) (λhw=>by have:=R3.DJ hw;omega)
 have cp:h4.cell h3.next i=some (aB p):=by
  rw[H.aE nw.get,Bl (by rw[P.len];exact hi),hp]
 have cto:h4.cell L (i*194+2+p)=some (F3 (i*194+2+p)):=R4.Ng hi (by omega);have hto:=R4.to i p hi (by omega);have ev:=nw.val;rw[P.len] at ev;have f4:Fx (WT n L F2) h2 h4:=f3'.trans (Fx.of (W:=WT n L F2) nw.fr) (λ_ _ h=>h);simp(disch:=omega)only[go_sem,ev,cp,cto];rw[←ev];have hdone: ∀r∈(τ2 i).orb.take k,r≠q:=λr hr e=>Xu lZ.nd hk' (by rw[hq,←e];exact hr)
 cases hpo:(τ2 i).to p with
 |none=>
  have hto':F3 (i*194+2+p)= .aC:=by
   rw[e3] at hto;have hto:Slot _ _ _ ((τ2 i).to p):=hto;rw[hpo] at hto;exact hto
  simp(disch:=omega)only[go_sem,hto'];refine (Oj (rfl:T 188=some tP) v n (aS y s) (H.mk h4.tr (h4.next+15)) (by omega) P (pv.mono ((Fr.refl h4).bJ (by omega))).si).mono ?_;rintro vu h5 nu;have f5:Fr h4 h5:=((Fr.refl h4).bJ (by omega):Fr h4 (H.mk h4.tr (h4.next+15))).trans nu.fr;have R5:=R4.mono f5;have pv5:=pv.mono f5;have pu5:=nu.pv (W:=WT n L F3) (λhw=>by have:=R4.DJ hw;simp at this;omega);simp(disch:=omega)only[go_sem,R5.l,lE pv5.iG.1 pv5.iG.2,lE pu5.iG.1 pu5.iG.2,Ef,kF,BY]
  obtain⟨F6,hF6⟩: ∃F6,F6=F1 (F1 F3 (i*194+2+p) v) (i*194+66+p) vu:=⟨_,rfl⟩
  obtain⟨h6,h6e⟩: ∃h6,h6=(h5.set L (some (Ob.cells false (rc (n*194) (F1 F3 (i*194+2+p) v))))).set L (some (Ob.cells false (rc (n*194) (F1 (F1 F3 (i*194+2+p) v) (i*194+66+p) vu)))):=⟨_,rfl⟩
  rw[←h6e];obtain⟨R6,f6,w6⟩:=R5.way hi (q:=p) (by omega) pv5 pu5 (h3:=h6) (by rw[h6e];exact jA _) (λid h1 _=>by rw[h6e,H.aH _ h1,H.aH _ h1]) (by rw[h6e,H.aT]);have eO:F3 (i*194+1)=F6 (i*194+1):=by rw[hF6,BY (by omega),BY (by omega)]
  rw[←hF6] at R6 w6
  obtain⟨τ6,hτ6⟩: ∃τ6,τ6=uS τ3 i {τ3 i with to:=λr=>if r=p then some (aS y s) else (τ3 i).to r}:=⟨_,rfl⟩
  rw[←hτ6] at R6;have e6:τ6 i={τ3 i with to:=λr=>if r=p then some (aS y s) else (τ3 i).to r}:=by rw[hτ6];exact bU ..
  have eo6:(τ6 i).orb=(τ2 i).orb:=by rw[e6,e3];rfl
  simp(disch:=omega)only[go_sem,dL h6 (z:= aB 0) (v:= aB p) rfl rfl,eO]
  obtain⟨h7,h7e⟩: ∃h7,h7=h6.new (.cells false [aB p]):=⟨_,rfl⟩
  have f7:Fr h6 h7:=by rw[h7e];exact (Fr.refl h6).new _
  have n7:h7.next=h6.next+1:=by rw[h7e];exact H.aV ..
  have g7:h7.get h6.next=some (.cells false [aB p]):=by rw[h7e];exact H.aL ..
  rw[←h7e];have R7:=R6.mono f7;have o7:=R7.orb i hi;rw[eo6] at o7;obtain⟨h8,a8,p8⟩:=o7.push (bytes:=8) (SV.one (by omega) g7 (.kn 1)) (n:=(τ2 i).orb.length) (m:=1) (by rw[aJ,aP,Nat.mul_one]) rfl (by omega) (by omega) (by omega)
  have gL:h8.get L=some (.cells false (rc (n*194) F6)):=by
   rw[p8.old L (by have:=R7.ln;omega) (by have:=R7.ap (2*i+1) (by omega);rw[Gi] at this;exact this)];exact R7.l
  simp(disch:=omega)only[go_sem,a8,gL,Ef]
  obtain⟨h9,h9e⟩: ∃h9,h9=h8.set L (some (.cells false (rc (n*194) (F1 F6 (i*194+1) (.sl h7.next 0 ((τ2 i).orb.length+1) (.un 1)))))):=⟨_,rfl⟩
  rw[←h9e];obtain⟨R9,f9,w9⟩:=R7.HI hi (q:=p) (by rw[eo6];exact p8) (.inl rfl) (by rw[eo6]) h9e;rw[eo6] at R9
  have eT:uS τ6 i {τ6 i with orb:=(τ2 i).orb++ [p]}=uS τ2 i (((τ2 i).tick q).reach p (aS y s)):=by
   funext j
   by_cases e:j=i
   ·subst e
    rw[bU,bU,e6,e3];rfl
   ·rw[eQ _ _ e,eQ _ _ e,hτ6,eQ _ _ e,hτ3,eQ _ _ e]
  rw[eT] at R9;have c9:=S.c.found hi hy ht hsq hp hpo;have ei:uS τ2 i (((τ2 i).tick q).reach p (aS y s)) i=((τ2 i).tick q).reach p (aS y s):=bU ..
  have W9: ∀id,id<h2.next->WT n L (F1 F6 (i*194+1) (.sl h7.next 0 ((τ2 i).orb.length+1) (.un 1))) id->WT n L F2 id:=λid h1 hw=>
   (w3 id).1 ((w6 id).1 (w9 id (by have:=f4.next;have:=f5.next;have:=f6.next;have:=f7.next;omega) hw))
  have eW3:WT n L F3=WT n L F2:=funext λid=>propext (w3 id)
  have eW6:WT n L F6=WT n L F2:=(funext λid=>propext (w6 id)).trans eW3;rw[eW3] at f6;rw[eW6] at f9;have f9':Fx (WT n L F2) h2 h9:=f4.trans ((Fx.of f5).trans (f6.trans ((Fx.of f7).trans f9 (λ_ _ h=>h)) (λ_ _ h=>h)) (λ_ _ h=>h)) (λ_ _ h=>h);refine⟨(τ2 i).gens.length-(t+1),by omega,_,_,aA rfl,⟨R9,c9,?_,?_,λj hj=>(eQ _ _ (by omega)).trans (S.low j hj),?_,S.fx.trans f9' λid h1 hw=>S.wt id h1 hw,λid h1 hw=>S.wt id h1 (W9 id (by have:=S.fx.next;omega) hw)⟩,?_,?_,?_⟩
  all_goals rw[ei]
  ·show k<=((τ2 i).orb++ [p]).length
   rw[oS];omega
  ·intro r hr
   have hr:r∈((τ2 i).orb++ [p]).take k:=hr;rw[List.take_append_of_le_length (by omega)] at hr;show (if r=q then (τ2 i).tr q+1 else (τ2 i).tr r)=(τ2 i).gens.length;rw[if_neg (hdone r hr)];exact S.done r hr
  ·exact S.gens
  ·show k<((τ2 i).orb++ [p]).length
   rw[oS];omega
  ·show ((τ2 i).orb++ [p]).getD k 0=q
   rw[←hq,List.getD,List.getD,Hu hk']
  ·show _=(τ2 i).gens.length-(if q=q then (τ2 i).tr q+1 else (τ2 i).tr q)
   rw[if_pos rfl,ht]
 |some u=>
  have U:=lZ.dS _ _ hpo
  have hto':PV (WT n L F3) h4 (F3 (i*194+2+p)) u:=by
   rw[e3] at hto;have hto:Slot _ _ _ ((τ2 i).to p):=hto;rw[hpo] at hto;exact hto
  have sn:=BT hto' (bG.ne (by omega) U) false;have ct:h4.cell tid 0=some (aB n):=by rw[H.aE R4.t];rfl
  have cby:h4.cell L (i*194+66+p)=some (F3 (i*194+66+p)):=R4.Ng hi (by omega)
  have hby:PV (WT n L F3) h4 (F3 (i*194+66+p)) (cF u):=by
   have:=R4.iv i p hi (by omega);rw[e3] at this;have this:Slot _ _ _ (((τ2 i).to p).map cF):=this;rw[hpo] at this;exact this
  simp(disch:=omega)only[go_sem,sn,ct]
  by_cases hlt2:(i:Int)+1<(n:Int)
  ·rw[decide_eq_true hlt2]
   simp(disch:=omega)only[go_sem,cby];refine (rI (rfl:T 181=some lP) v _ (aS y s) (cF u) h4 (by rw[P.len];omega) pv.si hby.si (λj hj=>by rw[jS,U.len];exact P.eZ (by rw[←P.len];exact hj))).mono ?_;rintro v2 h5 nu;have R5:=R4.mono nu.fr;have Z:=P.mul U.inv;have pz:=nu.pv (W:=WT n L F3) (λhw=>by have:=R4.DJ hw;omega);obtain⟨_,hzf,_⟩:=S.c.Hx hi hy (List.mem_of_getElem? hsq) (by rw[hp];exact hpo);simp(disch:=omega)only[go_sem];rw[iJ i];refine (A (by omega) h5 tid L F3 τ3 v2 _ R5 pz Z hzf ?_).mono ?_
   ·rw[hτ3];exact S.c.up.XV (by omega)
   rintro vv h6 ⟨F6,τ6,R6,a6,f6,w6⟩;rw[hτ3] at a6;obtain⟨c6,e6,l6⟩:=YH S.c (by omega) hy ht hsq (by rw[hp];exact hpo) rfl a6;have eW3:WT n L F3=WT n L F2:=funext λid=>propext (w3 id)
   rw[eW3] at f6 w6;have f6':Fx (WT n L F2) h2 h6:=f4.trans ((Fx.of nu.fr).trans f6 (λ_ _ h=>h)) (λ_ _ h=>h);simp(disch:=omega)only[go_sem];refine⟨(τ2 i).gens.length-(t+1),by omega,_,_,aA rfl,⟨R6,c6,?_,?_,λj hj=>(l6 j hj).trans (S.low j hj),?_,S.fx.trans f6' λid h1 hw=>S.wt id h1 hw,λid h1 hw=>S.wt id h1 (w6 id (by have:=S.fx.next;have:=f4.next;have:=nu.fr.next;omega) hw)⟩,?_,?_,?_⟩
   all_goals rw[e6]
   ·exact Nat.le_of_lt hk'
   ·intro r hr
    have hr:r∈(τ2 i).orb.take k:=hr;show (if r=q then (τ2 i).tr q+1 else (τ2 i).tr r)=(τ2 i).gens.length;rw[if_neg (hdone r hr)];exact S.done r hr
   ·exact S.gens
   ·exact hk'
   ·exact hq
   ·show _=(τ2 i).gens.length-(if q=q then (τ2 i).tr q+1 else (τ2 i).tr q)
    rw[if_pos rfl,ht]
  ·rw[decide_eq_false hlt2]
   obtain⟨hz1,hzf,_⟩:=S.c.Hx hi hy (List.mem_of_getElem? hsq) (by rw[hp];exact hpo);have en:i+1=n:=by omega
   have c6:=S.c.tick hy ht hsq (by rw[hp];exact hpo) (by
    rw[en];rw[en] at hzf
    exact tY.2 (hzf.all hz1))
   simp(disch:=omega)only[go_sem];rw[hτ3] at R4;have e6:uS τ2 i ((τ2 i).tick q) i=(τ2 i).tick q:=bU ..;refine⟨(τ2 i).gens.length-(t+1),by omega,_,_,aA rfl,⟨R4,c6,?_,?_,λj hj=>(eQ _ _ (by omega)).trans (S.low j hj),?_,S.fx.trans f4 λid h1 hw=>S.wt id h1 hw,λid h1 hw=>S.wt id h1 ((w3 id).1 hw)⟩,?_,?_,?_⟩
   all_goals rw[e6]
   ·exact Nat.le_of_lt hk'
   ·intro r hr
    have hr:r∈(τ2 i).orb.take k:=hr;show (if r=q then (τ2 i).tr q+1 else (τ2 i).tr r)=(τ2 i).gens.length;rw[if_neg (hdone r hr)];exact S.done r hr
   ·exact S.gens
   ·exact hk'
   ·exact hq
   ·show _=(τ2 i).gens.length-(if q=q then (τ2 i).tr q+1 else (τ2 i).tr q)
    rw[if_pos rfl,ht]
def xT (τ:oT)(i m:Nat)(r:List Nat):oT:=λj=>if i<=j/\j<m then (τ j).more r else τ j
theorem Xh (τ:oT)(i:Nat)(r:List Nat):xT τ i i r=τ:=by
 funext j;unfold xT;rw[if_neg (by omega)]
theorem Yv (τ:oT){i m:Nat}(r:List Nat)(h:i<=m):uS (xT τ i m r) m ((xT τ i m r m).more r)=xT τ i (m+1) r:=by
 funext j
 by_cases e:j=m
 ·subst e
  rw[bU];unfold xT;rw[if_neg (by omega),if_pos (by omega)]
 ·rw[eQ _ _ e]
  unfold xT
  by_cases h1:i<=j/\j<m
  ·rw[if_pos h1,if_pos (by omega)]
  ·rw[if_neg h1,if_neg (by omega)]
theorem Wo (τ:oT)(i k:Nat)(r:List Nat):xT τ i (k+1) r=push τ i k r:=by
 funext j;unfold xT push
 by_cases h:i<=j/\j<=k
 ·rw[if_pos h,if_pos (by omega)]
 ·rw[if_neg h,if_neg (by omega)]
theorem YT (a b c:Nat)(d:qP):eN (.sl a b c d) (.sl a b c d)=true:=by simp [eN]
theorem Pj (n i0:Nat)(hn:n<=7)(hi:i0<n)(C: ∀j,i0<=j->j<n->Qq n j):UZ n i0:=by
 intro h tid L F τ vx x R hx X Fi t;refine bN nZ rfl rfl ?_;simp(disch:=omega)only[go_sem,nZ,aF];refine (UU h n tid L F τ vx x i0 (by omega) (by omega) R hx X (by omega) t).mono ?_;have sf:=PJ (n-i0) i0 x (by omega) t X Fi;obtain⟨k,hk⟩:=exI ((Ve n τ (n-i0) i0 x).1);obtain⟨r,hr⟩:=exI ((Ve n τ (n-i0) i0 x).2);rw[hk,hr] at sf ⊢;rintro _ h1 ⟨vr,rfl,pr,Rr,f1⟩;have R1:=R.mono f1;have ct:h1.cell tid 0=some (aB n):=by rw[H.aE R1.t];rfl
 simp(disch:=omega)only[go_sem,ct]
 by_cases hkn:(k:Int)=(n:Int)
 ·rw[decide_eq_true hkn]
  have e:k=n:=by omega
  subst e;simp(disch:=omega)only[go_sem];exact⟨F,τ,R1,Ez.none t hi (sf.in t hi),Fx.of f1,λ_ _ h=>h⟩
 rw[decide_eq_false hkn];have hkn':k<n:=by have:=sf.le;omega
 have hge:=sf.ge;simp(disch:=omega)only[go_sem]
 refine aI (λm' vars hh=> ∃(m:Nat) (F':Nat->V),(∃g:Nat->V,vars= [.ptr tid 0,g 1,aB i0,aB k,vr,aB m,g 6,g 7,g 8,g 9])/\i0<=m/\m<=k+1/\rF hh n tid L F' (xT τ i0 m r)/\PV (WT n L F') hh vr r/\
   Fx (WT n L F) h hh/\(∀id,id<h.next->WT n L F' id->WT n L F id)/\m'=k+1-m) (k+1-i0)
  ⟨i0,F,aA rfl,jA _,by omega,by rw[Xh];exact R1,pr,Fx.of f1,λ_ _ h=>h,rfl⟩ ?_
 clear R1 ct pr f1;rintro m' vars h2 ⟨m,F2,⟨g,rfl⟩,hm1,hm2,R2,pr,f2,w2,rfl⟩;simp(disch:=omega)only[go_sem]
 by_cases hlt:(m:Int)<=(k:Int)
 ·rw[decide_eq_true hlt]
  have hmn:m<n:=by omega
  have cl:h2.cell tid 1=some (.sl L 0 n (.kn n)):=by rw[H.aE R2.t];rfl
  have cg:h2.cell L (m*194)=some (F2 (m*194)):=by
   have:=R2.cell (c:=0) hmn (by omega);rwa [Nat.add_zero] at this
  have em:xT τ i0 m r m=τ m:=by unfold xT;rw[if_neg (by omega)]
  have ln:=R2.ln;have tn:=R2.tn;simp(disch:=omega)only[go_sem,cl,cg,dL _ pr.iG.1 pr.iG.2]
  obtain⟨h3,h3e⟩: ∃h3:H,h3=H.mk ((H.mk h2.tr (h2.next+14)).new (Ob.cells false [vr])).tr (h2.next+19):=⟨_,rfl⟩
  rw[←h3e];have g3:h3.get (h2.next+14)=bZ [vr]:=by rw[h3e];exact H.aL (H.mk h2.tr (h2.next+14)) _
  have n3:h3.next=h2.next+19:=by rw[h3e]
  have f3:Fr h2 h3:=⟨by omega,λid hid=>by rw[h3e];exact H.bE (H.mk h2.tr (h2.next+14)) (by simp;omega) _⟩
  have R3:=R2.mono f3;have pr3:=pr.mono f3;obtain⟨vs,o3,pvs⟩:=R3.gens m hmn;rw[em] at pvs;have lZ:=(t m hm1 hmn).1;have hgl:(τ m).gens.length<=1000000:=Nat.le_trans lZ.many (Nat.le_trans (Nat.pow_le_pow_left hn n) (Nat.le_trans (Nat.pow_le_pow_right (by omega) hn) (by decide)));obtain⟨h4,a4,p4⟩:=o3.push (bytes:=24) (SV.one (by omega) g3 (.kn 1)) (n:=(τ m).gens.length) (m:=1) (by have:=bY.length pvs;omega) rfl (by omega) (by omega) (by omega);have gt:h4.get tid=h3.get tid:=p4.old tid (by omega) (λid off nn c e e2=>R3.tw (.inr ⟨2*m,by omega,off,nn,c,by rw[Cj,e2];exact e⟩))
  have gL:h4.get L=bZ (rc (n*194) F2):=by
   rw[p4.old L (by omega) (by have:=R3.ap (2*m) (by omega);rw[Cj] at this;exact this)];exact R3.l
  have cl4:h4.cell tid 1=some (.sl L 0 n (.kn n)):=by unfold H.cell;rw[gt,R3.t];rfl
  have hN:m*194+194<=n*194:=by omega
  simp(disch:=omega)only[go_sem,a4,cl4,YT,gL,Ef]
  obtain⟨h5,h5e⟩: ∃h5,h5=h4.set L (bZ (rc (n*194) (F1 F2 (m*194) (.sl h3.next 0 ((τ m).gens.length+1) (.un 1))))):=⟨_,rfl⟩
  rw[←h5e];obtain⟨R5,f5,w5⟩:=R3.more hmn (by rw[em];exact pvs) pr3 (by rw[em];exact p4) (by rw[em]) h5e;rw[Yv τ r hm1] at R5;rw[iJ m];refine⟨k+1-(m+1),by omega,m+1,_,aA rfl,by omega,by omega,R5,PV.go pr3 f5 w5,f2.trans ((Fx.of (W:=WT n L F2) f3).trans f5 (λ_ _ h=>h)) (λid h1 hw=>w2 id h1 hw),λid h1 hw=>w2 id h1 (w5 id (by have:=f2.next;omega) hw),rfl⟩
 rw[decide_eq_false hlt];have em:m=k+1:=by omega
 subst em;rw[Wo] at R2;simp(disch:=omega)only[go_sem];have AI0:=Kg.start sf t hkn'
 refine aI (λm' vars hh=> ∃(m:Nat) (F':Nat->V) (τ':oT),(∃g:Nat->V,vars= [.ptr tid 0,g 1,aB i0,g 3,g 4,g 5,aB ((m:Int)- 1),g 7,g 8,g 9])/\i0<=m/\m<=k+1/\rF hh n tid L F' τ'/\Kg n i0 k r τ τ' m/\
   Fx (WT n L F) h hh/\(∀id,id<h.next->WT n L F' id->WT n L F id)/\m'=m) (k+1)
  ⟨k+1,F2,_,aA (by rw[show ((k+1:Nat):Int)- 1=(k:Int) from by omega];rfl),by omega,by omega,R2,AI0,f2,w2,rfl⟩ ?_
 clear R2 AI0 f2 w2 pr hlt hm1 hm2;rintro m' vars h3 ⟨m,F3,τ3,⟨g3,rfl⟩,hm1,hm2,R3,AI,f3,w3,hm⟩;subst hm;simp(disch:=omega)only[go_sem]
 by_cases hlt:(i0:Int)<=(m':Int)- 1
 ·rw[decide_eq_true hlt]
  obtain⟨j,rfl⟩: ∃j,m'=j+1:=⟨m'- 1,by omega⟩
  have ci:=AI.ci sf t hkn' (by omega) (by omega);simp(disch:=omega)only[go_sem];rw[show ((j+1:Nat):Int)- 1=(j:Int) from by omega];refine (C j (by omega) (by omega) h3 tid L F3 τ3 R3 ci).mono ?_;rintro _ h4 ⟨F4,τ4,R4,t4,l4,g4,f4,w4⟩;simp(disch:=omega)only[go_sem];refine⟨j,by omega,j,F4,τ4,aA rfl,by omega,by omega,R4,AI.next (by omega) (by omega) l4 g4 t4,f3.trans f4 (λid h1 hw=>w3 id h1 hw),λid h1 hw=>w3 id h1 (w4 id (by have:=f3.next;omega) hw),rfl⟩
 rw[decide_eq_false hlt];have em:m'=i0:=by omega
 rw[em] at AI;simp(disch:=omega)only[go_sem];exact⟨F3,τ3,R3,AI.done sf t X hkn',f3,w3⟩
theorem Pq (n:Nat)(hn:n<=7): ∀d i,i+d=n->(i<n->UZ n i)/\(i<n->Qq n i)
 |0,i,h=>⟨λh2=>by omega,λh2=>by omega⟩
 |d+1,i,h=>by
  have ih:=Pq n hn d (i+1) (by omega)
  have cl: ∀j,i<=j->j<n->Qq n j:=λj h1 h2=>by
   by_cases e:j=i
   ·subst e;exact Rc n j hn h2 λh3=>ih.1 h3
   ·exact (Pq n hn (n-j) j (by omega)).2 h2
  exact⟨λh2=>Pj n i hn h2 cl,λh2=>cl i (jA _) h2⟩
termination_by d=>d
theorem abG (n:Nat)(hn:n<=7)(h0:0<n):UZ n 0:=(Pq n hn n 0 (by omega)).1 h0
end Go.Proofs.YtapfcpkecmmagaaGreat
namespace Go.Pm
set_option maxRecDepth 100000
section
variable {x y:List Nat} {R:IH}
def Lt (x y:List Nat):Prop:= ∃k,k<x.length/\(∀j,j<k->x.getD j 0=y.getD j 0)/\x.getD k 0<y.getD k 0
def Le (x y:List Nat):Prop:=x=y∨Lt x y
theorem Lt.asymm (a:Lt x y)(b:Lt y x):False:=by
 obtain⟨k,_,h1,h2⟩:=a;obtain⟨m,_,h3,h4⟩:=b;rcases Nat.lt_trichotomy k m with h|h|h
 ·have:=h3 k h;omega
 ·subst h;omega
 ·have:=h1 m h;omega
theorem Le.antisymm (a:Le x y)(b:Le y x):x=y:=by
 rcases a with a|a
 ·exact a
 ·rcases b with b|b
  ·exact b.symm
  ·exact (a.asymm b).elim
def uX (x:List Nat):Nat->List Nat->Nat
 |b, []=>b
 |b,q::l=>uX x (if x.getD q 0<x.getD b 0 then q else b) l
theorem Zq (x:List Nat): ∀(l:List Nat) (b:Nat),uX x b l∈b::l/\ ∀q∈b::l,x.getD (uX x b l) 0<=x.getD q 0
 | [],b=>⟨by simp [uX],λq hq=>by simp at hq;subst hq;exact Nat.le_refl _⟩
 |q::l,b=>by
  have ih:=Zq x l (if x.getD q 0<x.getD b 0 then q else b);unfold uX;refine⟨?_,λr hr=>?_⟩
  ·rcases List.mem_cons.1 ih.1 with h|h
   ·rw[h];split<;>simp
   ·exact List.mem_cons_of_mem _ (List.mem_cons_of_mem _ h)
  ·have h0:=ih.2 _ (List.mem_cons_self ..)
   rcases List.mem_cons.1 hr with rfl|hr
   ·split at h0<;>(split<;>omega)
   ·rcases List.mem_cons.1 hr with rfl|hr
    ·split at h0<;>(split<;>omega)
    ·exact ih.2 r (List.mem_cons_of_mem _ hr)
def Xr (τ:oT):Nat->Nat->List Nat->List Nat
 |0,_,x=>x
 |d+1,k,x=>Xr τ d (k+1) (if uX x k (τ k).orb=k then x else aS (((τ k).to (uX x k (τ k).orb)).getD []) x)
section
variable {n:Nat} {τ:oT} {G:List Nat->Prop}
theorem PA: ∀(d k:Nat) (x:List Nat),k+d=n->oU n k τ->bG n x-> ∃h,S n τ k h/\Xr τ d k x=aS h x/\ ∀g,S n τ k g->Le (Xr τ d k x) (aS g x)
 |0,k,x,h,_,X=>by
  obtain rfl:k=n:=by omega
  refine⟨bW k,tY.2 rfl,(eY X).symm,λg hg=> .inl ?_⟩;rw[tY] at hg;subst hg;exact (eY X).symm
 |d+1,k,x,h,t,X=>by
  have hk:k<n:=by omega
  have L:=(t k (Nat.le_refl _) hk).1;have t1:=t.mono (Nat.le_succ k);obtain⟨b1,b2⟩:=Zq x (τ k).orb k
  have hq:uX x k (τ k).orb∈(τ k).orb:=by
   rcases List.mem_cons.1 b1 with h|h
   ·rw[h];exact L.base
   ·exact h
  obtain⟨y,hy⟩:=L.to hq;have Y:=L.dS _ y hy
  have hx':(if uX x k (τ k).orb=k then x else aS (((τ k).to (uX x k (τ k).orb)).getD []) x)=aS y x:=by
   split
   ·rename_i e
    rw[e,L.one] at hy;cases hy;exact (eY X).symm
   ·rw[hy];rfl
  unfold Xr;rw[hx'];obtain⟨g,hg,e,hle⟩:=PA d (k+1) (aS y x) (by omega) t1 (Y.mul X);have Gp:=t1.dS hk hg;have hgy:S n τ k (aS g y):=(pU hk).2 ⟨_,y,g,hy,hg,rfl⟩;refine⟨aS g y,hgy,by rw[e,aW Gp Y X],λu hu=>?_⟩;have U:=t.dS (by omega) hu;obtain⟨v,hv,hv2⟩:=t.sift hk hu;have hmem:=L.mem hv;have V:=L.dS _ v hv;have r1:(aS u x).getD k 0=x.getD (u.getD k 0) 0:=cU (by rw[U.len];exact hk)
  have r2:(aS g (aS y x)).getD k 0=x.getD (uX x k (τ k).orb) 0:=by
   rw[cU (by rw[Gp.len];exact hk),t1.fix hk hg k (by omega),cU (by rw[Y.len];exact hk),L.maps _ y hy]
  have hb:=b2 _ (List.mem_cons_of_mem _ hmem)
  by_cases hlt:x.getD (uX x k (τ k).orb) 0<x.getD (u.getD k 0) 0
  ·rw[e]
   refine .inr ⟨k,by rw[fK,Gp.len];exact hk,λj hj=>?_,by rw[r1,r2];exact hlt⟩;rw[cU (by rw[Gp.len];omega),t1.fix hk hg j (by omega),cU (by rw[Y.len];omega),L.fix _ y hy j hj,cU (by rw[U.len];omega),t.fix (by omega) hu j hj]
  ·have heq:uX x k (τ k).orb=u.getD k 0:=X.inj (L.lt hk hq) (L.lt hk hmem) (by omega)
   rw[←heq,hy] at hv;cases hv;have:=hle _ hv2;rwa [aW U Y.inv (Y.mul X),←aW Y.inv Y X,gG Y,eY X] at this
structure Gf (n:Nat)(G:List Nat->Prop)(i p:Nat)(x:List Nat):Prop where
 mem:G x
 fix:Fix i x
 maps:x.getD i 0=p
 least: ∀y,G y->Fix i y->y.getD i 0=p->Le x y
theorem Gf.uniq {i p:Nat}(a:Gf n G i p x)(b:Gf n G i p y):x=y:=
 (a.least y b.mem b.fix b.maps).antisymm (b.least x a.mem a.fix a.maps)
structure eX (n:Nat)(G:List Nat->Prop)(O:yA)(R:IH):Prop where
 lo:O.length=n
 lr:R.length=n
 asc: ∀i,i<n->(O.getD i []).Pairwise (· < ·)
 mem: ∀i,i<n-> ∀p,p∈O.getD i []↔ ∃x,G x/\Fix i x/\x.getD i 0=p
 rl: ∀i,i<n->(R.getD i []).length=(O.getD i []).length
 rep: ∀i,i<n-> ∀k,k<(O.getD i []).length->Gf n G i ((O.getD i []).getD k 0) ((R.getD i []).getD k [])
theorem Vm: ∀{a b:List Nat},a.Pairwise (· < ·)->b.Pairwise (· < ·)->(∀p,p∈a↔p∈b)->a=b
 | [], [],_,_,_=>rfl
 | [],y::b,_,_,h=>by have:=(h y).2 (by simp);simp at this
 |x::a, [],_,_,h=>by have:=(h x).1 (by simp);simp at this
 |x::a,y::b,ha,hb,h=>by
  obtain⟨a1,a2⟩:=List.pairwise_cons.1 ha;obtain⟨b1,b2⟩:=List.pairwise_cons.1 hb
  have e:x=y:=by
   have h1:=(h x).1 (by simp);have h2:=(h y).2 (by simp);rcases List.mem_cons.1 h1 with h1|h1
   ·exact h1
   ·rcases List.mem_cons.1 h2 with h2|h2
    ·exact h2.symm
    ·have:=b1 x h1;have:=a1 y h2;omega
  subst e;congr 1
  refine Vm a2 b2 λp=>⟨λhp=>?_,λhp=>?_⟩
  ·rcases List.mem_cons.1 ((h p).1 (List.mem_cons_of_mem _ hp)) with e|h3
   ·subst e;have:=a1 p hp;omega
   ·exact h3
  ·rcases List.mem_cons.1 ((h p).2 (List.mem_cons_of_mem _ hp)) with e|h3
   ·subst e;have:=b1 p hp;omega
   ·exact h3
theorem Dh {α:Type}{d:α}{a b:List α}(hl:a.length=b.length)(h: ∀i,i<a.length->a.getD i d=b.getD i d):a=b:=by
 refine List.ext_getElem hl λi h1 h2=>?_
 have:=h i h1;simpa [List.getD,h1,h2] using this
theorem eX.uniq {O O':yA}{R':IH}(a:eX n G O R)(b:eX n G O' R'):O=O'/\R=R':=by
 have e:O=O':=Dh (d:= []) (by rw[a.lo,b.lo]) λi hi=>by
  rw[a.lo] at hi;exact Vm (a.asc i hi) (b.asc i hi) λp=>(a.mem i hi p).trans (b.mem i hi p).symm
 subst e;refine⟨rfl,Dh (d:= []) (by rw[a.lr,b.lr]) λi hi=>?_⟩;rw[a.lr] at hi;refine Dh (d:= []) (by rw[a.rl i hi,b.rl i hi]) λk hk=>?_
 rw[a.rl i hi] at hk;exact (a.rep i hi k hk).uniq (b.rep i hi k hk)
theorem eX.congr {H:List Nat->Prop}{O:yA}(a:eX n G O R)(h: ∀x,G x↔H x):eX n H O R:=by
 have:G=H:=funext λx=>propext (h x)
 exact this▸a
theorem oU.chain (t:oU n 0 τ){O:yA}(lo:O.length=n)(lr:R.length=n)
  (asc: ∀i,i<n->(O.getD i []).Pairwise (· < ·)) (mem: ∀i,i<n-> ∀p,p∈O.getD i []↔p∈(τ i).orb) (rl: ∀i,i<n->(R.getD i []).length=(O.getD i []).length)
  (rep: ∀i,i<n-> ∀k,k<(O.getD i []).length-> ∀y,(τ i).to ((O.getD i []).getD k 0)=some y->(R.getD i []).getD k []=Xr τ (n-(i+1)) (i+1) y):eX n (S n τ 0) O R:=by
 refine⟨lo,lr,asc,λi hi p=>?_,rl,λi hi k hk=>?_⟩
 ·have L:=(t i (Nat.zero_le _) hi).1
  have ti:=t.mono (Nat.zero_le i)
  rw[mem i hi p]
  constructor
  ·intro hp
   obtain⟨y,hy⟩:=L.to hp
   have hS:S n τ i y:=(ti.gen hi).2 (L.gen p y hy)
   have:=(t.Us (Nat.zero_le i) (by omega)).1 hS
   exact⟨y,this.1,this.2,L.maps p y hy⟩
  ·rintro⟨x,h1,h2,rfl⟩
   obtain⟨y,hy,_⟩:=ti.sift hi ((t.Us (Nat.zero_le i) (by omega)).2 ⟨h1,h2⟩)
   exact L.mem hy
 ·have L:=(t i (Nat.zero_le _) hi).1
  have ti:=t.mono (Nat.zero_le i)
  have t1:=t.mono (Nat.zero_le (i+1))
  have hp:(O.getD i []).getD k 0∈O.getD i []:=by
   rw[cJ hk];exact List.getElem_mem hk
  obtain⟨y,hy⟩:=L.to ((mem i hi _).1 hp)
  rw[rep i hi k hk y hy]
  generalize (O.getD i []).getD k 0=p at hy
  have Y:=L.dS p y hy
  obtain⟨h,hh,e,hle⟩:=PA (n-(i+1)) (i+1) y (by omega) t1 Y
  have H:=t1.dS hi hh
  have hSi:S n τ i (aS h y):=(pU hi).2 ⟨p,y,h,hy,hh,rfl⟩
  have hs:=(t.Us (Nat.zero_le i) (by omega)).1 hSi
  rw[e] at hle ⊢
  refine⟨hs.1,hs.2,?_,λz h1 h2 h3=>?_⟩
  ·rw[cU (by rw[H.len];exact hi),t1.fix hi hh i (by omega),L.maps p y hy]
  ·obtain⟨v,hv,hv2⟩:=ti.sift hi ((t.Us (Nat.zero_le i) (by omega)).2 ⟨h1,h2⟩)
   rw[h3,hy] at hv
   cases hv
   have Z:=t.dS (Nat.zero_le _) h1
   have:=hle _ hv2
   rwa [aW Z Y.inv Y,gG Y,cI Z] at this
theorem Ez.group {i:Nat}{τ':oT}(a:Ez n i x τ τ')(t:oU n i τ)(hi:i<n)(X:bG n x)(z:List Nat):Go.Pm.S n τ' i z↔fF n (λg=>Go.Pm.S n τ i g∨g=x) z:=by
 have L:=(t i (Nat.le_refl _) hi).1
 have hP: ∀g,(Go.Pm.S n τ i g∨g=x)->bG n g:=λg hg=>by
  rcases hg with hg|rfl
  ·exact t.dS (by omega) hg
  ·exact X
 rw[a.tw.gen hi];constructor
 ·intro h
  refine h.le (fF.oG hP) λg hg=>(a.new g hg).mono λu hu=>?_
  rcases hu with hu|hu
  ·exact .inl ((t.gen hi).2 (fF.of L.gP hu))
  ·exact .inr hu
 ·intro h
  refine h.le (fF.oG (a.tw i (Nat.le_refl _) hi).1.gP) λg hg=>?_
  rcases hg with hg|rfl
  ·exact ((t.gen hi).1 hg).mono a.old
  ·exact a.has
end
end
section
variable {j:Nat} {y:List Nat}
abbrev Dj:=Nat->Nat->Option (List Nat)
def ins (t:Dj):Nat->Nat->List Nat->Option (Nat×List Nat)
 |0,_,_=>none
 |d+1,i,x=>if x.getD i 0=i then ins t d (i+1) x else
  match t i (x.getD i 0) with
  |none=>some (i,x)
  |some y=>ins t d (i+1) (aS x (cF y))
def dd:yA->yA
 | []=> []
 |a::l=>if a∈dd l then dd l else a::dd l
theorem Ra {a:List Nat}: ∀{l:yA},a∈dd l↔a∈l
 | []=>Iff.rfl
 |b::l=>by
  unfold dd;have ih:=Ra (a:=a) (l:=l);split
  ·rename_i h
   rw[ih];constructor
   ·exact List.mem_cons_of_mem _
   ·intro h2
    rcases List.mem_cons.1 h2 with rfl|h2
    ·exact ih.1 h
    ·exact h2
  ·simp [ih]
theorem Jt: ∀l:yA,(dd l).Nodup
 | []=>List.nodup_nil
 |b::l=>by
  unfold dd;split
  ·exact Jt l
  ·rename_i h;exact List.nodup_cons.2 ⟨h,Jt l⟩
def iU (n:Nat)(t:Dj)(j:Nat):yA:=(List.range n).flatMap λi=>if j<=i then (List.range n).filterMap λp=>t i p else []
theorem fZ {n:Nat}{t:Dj}:y∈iU n t j↔ ∃i p,j<=i/\i<n/\p<n/\t i p=some y:=by
 simp only[iU,List.mem_flatMap,List.mem_range];constructor
 ·rintro⟨i,hi,h⟩
  split at h
  ·rename_i hj
   obtain⟨p,hp,e⟩:=List.mem_filterMap.1 h;exact⟨i,p,hj,hi,List.mem_range.1 hp,e⟩
  ·simp at h
 ·rintro⟨i,p,hj,hi,hp,e⟩
  refine⟨i,hi,?_⟩;rw[if_pos hj];exact List.mem_filterMap.2 ⟨p,List.mem_range.2 hp,e⟩
def xX (n:Nat)(t:Dj):oT:=λj=>
 {gens:=dd (iU n t j)
  orb:=(List.range n).filter λp=>p==j||(t j p).isSome
  to:=λp=>if p=j then some (bW n) else t j p
  tr:=λq=>if q=j∨(t j q).isSome then (dd (iU n t j)).length else 0}
structure vM (n:Nat)(t:Dj):Prop where
 lt: ∀i p y,t i p=some y->i<n/\p<n/\p≠i
 dS: ∀i p y,t i p=some y->bG n y
 fix: ∀i p y,t i p=some y->Fix i y
 maps: ∀i p y,t i p=some y->y.getD i 0=p
def Ql (n:Nat)(t:Dj):Prop:= ∀a b,a∈iU n t 0->b∈iU n t 0->ins t n 0 (aS a b)=none
section
variable {n:Nat} {t:Dj}
theorem wY {p:Nat}(T:vM n t)(hj:j<n)(h:(xX n t j).to p=some y):bG n y/\Fix j y/\y.getD j 0=p/\(p=j/\y=bW n∨t j p=some y):=by
 have h':(if p=j then some (bW n) else t j p)=some y:=h;split at h'
 ·rename_i e
  cases h';exact⟨bG.one n,Fix.one n j (by omega),by rw[e];exact fD hj,.inl ⟨e,rfl⟩⟩
 ·exact⟨T.dS _ _ _ h',T.fix _ _ _ h',T.maps _ _ _ h',.inr h'⟩
theorem NR (T:vM n t): ∀(d j:Nat) (x:List Nat),j+d=n->S n (xX n t) j x->bG n x/\Fix j x
 |0,j,x,h,hs=>by
  obtain rfl:j=n:=by omega
  rw[tY] at hs;subst hs;exact⟨bG.one j,Fix.one j j (Nat.le_refl _)⟩
 |d+1,j,x,h,hs=>by
  obtain⟨p,y,g,h1,h2,rfl⟩:=(pU (by omega)).1 hs;obtain⟨G,F⟩:=NR T d (j+1) g (by omega) h2;obtain⟨Y,F2,_⟩:=wY T (by omega) h1;exact⟨G.mul Y,Fix.mul G (by omega) (F.mono (by omega)) F2⟩
theorem Jp (j:Nat)(hj:j<n){x:List Nat}(X:bG n x)(h:S n (xX n t) (j+1) x):S n (xX n t) j x:=
 (pU hj).2 ⟨j,bW n,x,by show (if j=j then some (bW n) else t j j)=_;rw[if_pos rfl],h,(cI X).symm⟩
theorem Sx: ∀(d j:Nat),j+d=n->S n (xX n t) j (bW n)
 |0,j,h=>by
         obtain rfl:j=n:=by omega
         exact tY.2 rfl
 |d+1,j,h=>Jp j (by omega) (bG.one n) (Sx d (j+1) (by omega))
theorem Il (T:vM n t): ∀(d j:Nat) (x:List Nat),j+d=n->bG n x->Fix j x->ins t d j x=none->S n (xX n t) j x
 |0,j,x,h,X,F,_=>by
  obtain rfl:j=n:=by omega
  exact tY.2 (F.all X)
 |d+1,j,x,h,X,F,hi=>by
  unfold ins at hi;split at hi
  ·rename_i e
   exact Jp j (by omega) X (Il T d (j+1) x (by omega) X (F.succ e) hi)
  ·rename_i e
   split at hi
   ·cases hi
   ·rename_i y hy
    have Y:=T.dS _ _ _ hy;have F2:=T.fix _ _ _ hy;refine (pU (by omega)).2 ⟨x.getD j 0,y,aS x (cF y),?_,?_,by rw[aW X Y.inv Y,gG Y,cI X]⟩
    ·show (if x.getD j 0=j then some (bW n) else t j (x.getD j 0))=_
     rw[if_neg e];exact hy
    ·refine Il T d (j+1) _ (by omega) (X.mul Y.inv) ((Fix.mul X (by omega) F (Fix.inv Y (by omega) F2)).succ ?_) hi
     rw[cU (by rw[X.len];omega)];have:=sW Y (show j<n by omega);rwa [T.maps _ _ _ hy] at this
theorem Ru: ∀(k d j:Nat) (x:List Nat),Fix (j+k) x->ins t (d+k) j x=ins t d (j+k) x
 |0,_,_,_,_=>rfl
 |k+1,d,j,x,F=>by
  have e:ins t (d+k+1) j x=ins t (d+k) (j+1) x:=by
   show (if x.getD j 0=j then ins t (d+k) (j+1) x else _)=_;rw[if_pos (F j (by omega))]
  rw[show d+(k+1)=(d+k)+1 from rfl,e,Ru k d (j+1) x (by rw[show j+1+k=j+(k+1) from by omega];exact F),show j+1+k=j+(k+1) from by omega]
theorem JM (T:vM n t)(c:Ql n t){a b:List Nat}(hj:j<=n)(ha:a∈iU n t 0)(hb:b∈iU n t 0)(A:bG n a)(B:bG n b)(fa:Fix j a)(fb:Fix j b):S n (xX n t) j (aS a b):=by
 have F:=Fix.mul A hj fa fb;have h:=c a b ha hb;rw[show n=(n-j)+j from by omega,Ru j (n-j) 0 _ (by rw[Nat.zero_add];exact F),Nat.zero_add] at h;exact Il T (n-j) j _ (by omega) (A.mul B) F h
theorem abQ (T:vM n t)(h:y∈iU n t j):S n (xX n t) j y:=by
 obtain⟨i,p,h1,h2,h3,e⟩:=fZ.1 h;have Y:=T.dS _ _ _ e
 have base:S n (xX n t) i y:=by
  refine (pU h2).2 ⟨p,y,bW n,?_,Sx (n-(i+1)) (i+1) (by omega),(eY Y).symm⟩;show (if p=i then some (bW n) else t i p)=_;rw[if_neg (T.lt _ _ _ e).2.2];exact e
 have: ∀k,k<=i->S n (xX n t) (i-k) y:=by
  intro k
  induction k with
  |zero=>intro _;exact base
  |succ k ih=>
   intro hk;refine Jp (i-(k+1)) (by omega) Y ?_;rw[show i-(k+1)+1=i-k from by omega];exact ih (by omega)
 have:=this (i-j) (by omega);rwa [show i-(i-j)=j from by omega] at this
theorem SO (T:vM n t)(c:Ql n t):oU n 0 (xX n t):=λj _ hj=>by
 have horb: ∀p,p∈(xX n t j).orb↔((xX n t j).to p).isSome:=by
  intro p;show p∈(List.range n).filter (λp=>p==j||(t j p).isSome)↔(if p=j then some (bW n) else t j p).isSome;rw[List.mem_filter,List.mem_range]
  by_cases e:p=j
  ·subst e;simp [hj]
  ·simp only[beq_iff_eq,e,if_neg,Bool.or_eq_true,false_or]
   constructor
   ·exact λh=>h.2
   ·intro h
    obtain⟨y,hy⟩:=Option.isSome_iff_exists.1 h;exact⟨(T.lt _ _ _ hy).2.1,h⟩
 have hmem: ∀s,s∈(xX n t j).gens↔s∈iU n t j:=λs=>Ra
 have hentP: ∀s,s∈iU n t j->bG n s/\Fix j s/\s∈iU n t 0:=λs hs=>by
  obtain⟨i,p,h1,h2,h3,e⟩:=fZ.1 hs;exact⟨T.dS _ _ _ e,(T.fix _ _ _ e).mono h1,fZ.2 ⟨i,p,Nat.zero_le _,h2,h3,e⟩⟩
 refine⟨⟨List.nodup_range.filter _,(horb j).2 ?_,?_,horb,λp y h=>(wY T hj h).1,λp y h=>(wY T hj h).2.1,λp y h=>(wY T hj h).2.2.1,λp y h=>?_,λs hs=>(hentP s ((hmem s).1 hs)).1,λs hs=>(hentP s ((hmem s).1 hs)).2.1,Jt _,λq=>?_,λq hq=>?_⟩,λq y hy k s hk hs=>?_,λq hq=>?_,λh s hs=>?_⟩
 ·show (if j=j then some (bW n) else t j j).isSome
  rw[if_pos rfl];rfl
 ·show (if j=j then some (bW n) else t j j)=_
  rw[if_pos rfl]
 ·rcases (wY T hj h).2.2.2 with ⟨_,rfl⟩|e
  ·exact .one
  ·refine fF.of (λg hg=>(hentP g ((hmem g).1 hg)).1) ((hmem y).2 (fZ.2 ⟨j,p,Nat.le_refl _,hj,(T.lt _ _ _ e).2.1,e⟩))
 ·show (if q=j∨(t j q).isSome then (dd (iU n t j)).length else 0)<=_
  split
  ·exact Nat.le_refl _
  ·exact Nat.zero_le _
 ·show (if q=j∨(t j q).isSome then (dd (iU n t j)).length else 0)=0
  rw[if_neg];rintro (e|e)
  ·exact hq ((horb q).2 (by show (if q=j then some (bW n) else t j q).isSome;rw[if_pos e];rfl))
  ·refine hq ((horb q).2 ?_)
   show (if q=j then some (bW n) else t j q).isSome;split
   ·rfl
   ·exact e
 ·--closure
  have hse:s∈iU n t j:=(hmem s).1 (List.mem_of_getElem? hs);obtain⟨Sp,fs,hs0⟩:=hentP s hse;obtain⟨Y,fy,my,hcase⟩:=wY T hj hy
  have hS:S n (xX n t) j (aS y s):=by
   rcases hcase with ⟨_,rfl⟩|e
   ·rw[eY Sp];exact abQ T hse
   ·exact JM T c (by omega) (fZ.2 ⟨j,q,Nat.zero_le _,hj,(T.lt _ _ _ e).2.1,e⟩) hs0 Y Sp fy fs
  obtain⟨p,u,g,h1,h2,h3⟩:=(pU hj).1 hS;obtain⟨U,fu,mu,_⟩:=wY T hj h1;obtain⟨Gp,fg⟩:=NR T (n-(j+1)) (j+1) g (by omega) h2
  have ep:(aS y s).getD j 0=p:=by
   rw[h3,cU (by rw[Gp.len];exact hj),fg j (by omega),mu]
  refine⟨u,by rw[ep];exact h1,?_⟩;rw[h3,aW Gp U U.inv,iA U,cI Gp];exact h2
 ·show (if q=j∨(t j q).isSome then (dd (iU n t j)).length else 0)=(dd (iU n t j)).length
  rw[if_pos];have:=(horb q).1 hq;have h':(if q=j then some (bW n) else t j q).isSome:=this;split at h'
  ·rename_i e;exact .inl e
  ·exact .inr h'
 ·have hs':s∈iU n t (j+1):=Ra.1 hs
  obtain⟨i,p,h1,h2,h3,e⟩:=fZ.1 hs';exact fF.of (λg hg=>(hentP g ((hmem g).1 hg)).1) ((hmem s).2 (fZ.2 ⟨i,p,by omega,h2,h3,e⟩))
theorem Zf (T:vM n t)(c:Ql n t)(hn:0<n)(x:List Nat):S n (xX n t) 0 x↔fF n (· ∈iU n t 0) x:=by
 rw[(SO T c).gen hn];have:(λg=>g∈(xX n t 0).gens)=λg=>g∈iU n t 0:=funext λg=>propext Ra
 rw[this]
def put (t:Dj)(i p:Nat)(x:List Nat):Dj:=λj q=>if j=i/\q=p then some x else t j q
def uH (t:Dj)(n:Nat)(x:List Nat):Dj:=match ins t n 0 x with
 |none=>t
 |some (i,r)=>put t i (r.getD i 0) r
theorem yH (T:vM n t): ∀(d j:Nat) (x:List Nat) (i:Nat) (r:List Nat),j+d=n->bG n x->Fix j x->ins t d j x=some (i,r)->
  j<=i/\i<n/\bG n r/\Fix i r/\r.getD i 0≠i/\t i (r.getD i 0)=none/\ ∃w,fF n (· ∈iU n t 0) w/\x=aS r w
 |0,_,_,_,_,_,_,_,h=>by cases h
 |d+1,j,x,i,r,h,X,F,hi=>by
  unfold ins at hi;split at hi
  ·rename_i e
   obtain⟨h1,h2⟩:=yH T d (j+1) x i r (by omega) X (F.succ e) hi;exact⟨by omega,h2⟩
  ·rename_i e
   split at hi
   ·rename_i hn
    cases hi;exact⟨Nat.le_refl _,by omega,X,F,e,hn,bW n,.one,(cI X).symm⟩
   ·rename_i y hy
    have Y:=T.dS _ _ _ hy
    have hE: ∀g,g∈iU n t 0->bG n g:=λg hg=>by
     obtain⟨_,_,_,_,_,e⟩:=fZ.1 hg;exact T.dS _ _ _ e
    obtain⟨h1,h2,h3,h4,h5,h6,w,hw,ew⟩:=yH T d (j+1) _ i r (by omega) (X.mul Y.inv) ((Fix.mul X (by omega) F (Fix.inv Y (by omega) (T.fix _ _ _ hy))).succ (by
     rw[cU (by rw[X.len];omega)];have:=sW Y (show j<n by omega)
     rwa [T.maps _ _ _ hy] at this)) hi
    have hyE:y∈iU n t 0:=fZ.2 ⟨j,_,Nat.zero_le _,by omega,(T.lt _ _ _ hy).2.1,hy⟩;refine⟨by omega,h2,h3,h4,h5,h6,aS w y,hw.mul hyE,?_⟩;rw[←aW h3 (hw.dS hE) Y,←ew,aW X Y.inv Y,gG Y,cI X]
theorem xA (T:vM n t): ∀(d j:Nat) (x:List Nat),j+d=n->bG n x->Fix j x->ins t d j x=none->fF n (· ∈iU n t 0) x
 |0,j,x,h,X,F,_=>by
  obtain rfl:j=n:=by omega
  rw[F.all X];exact .one
 |d+1,j,x,h,X,F,hi=>by
  unfold ins at hi;split at hi
  ·rename_i e
   exact xA T d (j+1) x (by omega) X (F.succ e) hi
  ·rename_i e
   split at hi
   ·cases hi
   ·rename_i y hy
    have Y:=T.dS _ _ _ hy
    have ih:=xA T d (j+1) _ (by omega) (X.mul Y.inv) ((Fix.mul X (by omega) F (Fix.inv Y (by omega) (T.fix _ _ _ hy))).succ (by
     rw[cU (by rw[X.len];omega)];have:=sW Y (show j<n by omega)
     rwa [T.maps _ _ _ hy] at this)) hi
    have:=ih.mul (fZ.2 ⟨j,_,Nat.zero_le _,by omega,(T.lt _ _ _ hy).2.1,hy⟩);rwa [aW X Y.inv Y,gG Y,cI X] at this
def Sub (t t':Dj):Prop:= ∀i p y,t i p=some y->t' i p=some y
theorem Qo {t':Dj}(s:Sub t t'): ∀(d j:Nat) (x:List Nat),ins t d j x=none->ins t' d j x=none
 |0,_,_,_=>rfl
 |d+1,j,x,h=>by
  unfold ins at h ⊢;split at h
  ·rename_i e;rw[if_pos e];exact Qo s d _ _ h
  ·rename_i e
   rw[if_neg e];split at h
   ·cases h
   ·rename_i y hy
    rw[s _ _ _ hy];exact Qo s d _ _ h
theorem CF {i p:Nat}{x:List Nat}(h:t i p=none):Sub t (put t i p x):=λj q y hy=>by
 unfold put;rw[if_neg (λe=>by rw[e.1,e.2,h] at hy;cases hy)];exact hy
theorem Ov (T:vM n t): ∀(d j:Nat) (x:List Nat) (i:Nat) (r:List Nat),j+d=n->bG n x->Fix j x->ins t d j x=some (i,r)->ins (put t i (r.getD i 0) r) d j x=none
 |0,_,_,_,_,_,_,_,h=>by cases h
 |d+1,j,x,i,r,h,X,F,hi=>by
  obtain⟨a1,a2,a3,a4,a5,a6,_⟩:=yH T (d+1) j x i r h X F hi;have sub:=CF (t:=t) (x:=r) a6;unfold ins at hi ⊢;split at hi
  ·rename_i e;rw[if_pos e];exact Ov T d (j+1) x i r (by omega) X (F.succ e) hi
  ·rename_i e
   rw[if_neg e];split at hi
   ·cases hi
    have:put t j (x.getD j 0) x j (x.getD j 0)=some x:=by unfold put;rw[if_pos ⟨rfl,rfl⟩]
    rw[this];simp only;rw[iA X]
    have: ∀(d j:Nat),j+d=n-> ∀t':Dj,ins t' d j (bW n)=none:=by
     intro d
     induction d with
     |zero=>intro _ _ _;rfl
     |succ d ih=>intro j hj t';unfold ins;rw[if_pos (fD (by omega))];exact ih (j+1) (by omega) t'
    exact this d (j+1) (by omega) _
   ·rename_i y hy
    have Y:=T.dS _ _ _ hy;rw[sub _ _ _ hy]
    exact Ov T d (j+1) _ i r (by omega) (X.mul Y.inv) ((Fix.mul X (by omega) F (Fix.inv Y (by omega) (T.fix _ _ _ hy))).succ (by
     rw[cU (by rw[X.len];omega)];have:=sW Y (show j<n by omega)
     rwa [T.maps _ _ _ hy] at this)) hi
end
end
section
variable {x:List Nat}
section
variable {n:Nat} {t:Dj}
theorem vM.NX (T:vM n t){j:Nat}: ∀g,g∈iU n t j->bG n g:=λg hg=>by
 obtain⟨_,_,_,_,_,e⟩:=fZ.1 hg;exact T.dS _ _ _ e
theorem Sub.refl (t:Dj):Sub t t:=λ_ _ _ h=>h
theorem Sub.trans {a b c:Dj}(x:Sub a b)(y:Sub b c):Sub a c:=λi p z h=>y i p z (x i p z h)
theorem vM.empty (n:Nat):vM n (λ_ _=>none):=⟨λ_ _ _ h=>(by cases h),λ_ _ _ h=>(by cases h),λ_ _ _ h=>(by cases h),λ_ _ _ h=>(by cases h)⟩
theorem SD (T:vM n t)(X:bG n x):vM n (uH t n x)/\Sub t (uH t n x)/\ins (uH t n x) n 0 x=none/\ ∀g,g∈iU n (uH t n x) 0->fF n (λu=>u∈iU n t 0∨u=x) g:=by
 unfold uH
 cases h:ins t n 0 x with
 |none=>exact⟨T,Sub.refl t,h,λg hg=>fF.of (λu hu=>by rcases hu with hu|rfl;exact T.NX u hu;exact X) (.inl hg)⟩
 |some q=>
  obtain⟨i,r⟩:=q;have F0:Fix 0 x:=λk hk=>by omega
  obtain⟨a1,a2,a3,a4,a5,a6,w,hw,ew⟩:=yH T n 0 x i r (by omega) X F0 h
  have hput: ∀j q y,put t i (r.getD i 0) r j q=some y->(j=i/\q=r.getD i 0/\y=r)∨t j q=some y:=λj q y hy=>by
   unfold put at hy;split at hy
   ·rename_i e;cases hy;exact .inl ⟨e.1,e.2,rfl⟩
   ·exact .inr hy
  refine⟨⟨λj q y hy=>?_,λj q y hy=>?_,λj q y hy=>?_,λj q y hy=>?_⟩,CF a6,Ov T n 0 x i r (by omega) X F0 h,λg hg=>?_⟩
  ·rcases hput j q y hy with ⟨rfl,rfl,rfl⟩|h
   ·exact⟨a2,a3.eZ a2,a5⟩
   ·exact T.lt _ _ _ h
  ·rcases hput j q y hy with ⟨rfl,rfl,rfl⟩|h
   ·exact a3
   ·exact T.dS _ _ _ h
  ·rcases hput j q y hy with ⟨rfl,rfl,rfl⟩|h
   ·exact a4
   ·exact T.fix _ _ _ h
  ·rcases hput j q y hy with ⟨rfl,rfl,rfl⟩|h
   ·rfl
   ·exact T.maps _ _ _ h
  ·have hP: ∀u,(u∈iU n t 0∨u=x)->bG n u:=λu hu=>by
    rcases hu with hu|rfl
    ·exact T.NX u hu
    ·exact X
   obtain⟨j,q,h1,h2,h3,e⟩:=fZ.1 hg;rcases hput j q g e with ⟨_,_,rfl⟩|h
   ·have W:=hw.dS T.NX
    have er:g=aS x (cF w):=by rw[ew,aW a3 W W.inv,iA W,cI a3]
    rw[er];exact (fF.of hP (.inr rfl)).app hP ((hw.mono λu hu=>Or.inl hu).inv hP)
   ·exact fF.of hP (.inl (fZ.2 ⟨j,q,h1,h2,h3,h⟩))
structure Xt (n:Nat)(L:List Nat->Prop)(t:Dj):Prop where
 Jx:vM n t
 gen: ∀g,g∈iU n t 0->fF n L g
variable {L:List Nat->Prop}
theorem Xt.ins (a:Xt n L t)(hL: ∀g,L g->bG n g)(hx:fF n L x):Xt n L (uH t n x)/\Sub t (uH t n x)/\Go.Pm.ins (uH t n x) n 0 x=none:=by
 obtain⟨h1,h2,h3,h4⟩:=SD a.Jx (hx.dS hL);refine⟨⟨h1,λg hg=>(h4 g hg).le (fF.oG hL) λu hu=>?_⟩,h2,h3⟩;rcases hu with hu|rfl
 ·exact a.gen u hu
 ·exact hx
theorem Xt.group (a:Xt n L t)(hL: ∀g,L g->bG n g)(hn:0<n)(c:Ql n t)(hi: ∀g,L g->Go.Pm.ins t n 0 g=none)(x:List Nat):S n (xX n t) 0 x↔fF n L x:=by
 rw[Zf a.Jx c hn];constructor
 ·exact λh=>h.le (fF.oG hL) a.gen
 ·exact λh=>h.le (fF.oG a.Jx.NX) λg hg=>xA a.Jx n 0 g (by omega) (hL g hg) (λk hk=>by omega) (hi g hg)
structure HO (n:Nat)(L:List Nat->Prop)(τ:oT):Prop where
 tw:oU n 0 τ
 group: ∀x,S n τ 0 x↔fF n L x
theorem HO.start (hn:0<n):HO n (λ_=>False) (LI n):=by
 refine⟨IB n,λx=>?_⟩;rw[(IB n).gen hn];have:(λg=>g∈(LI n 0).gens)=λ_=>False:=funext λg=>propext ⟨λh=>(by cases h),λh=>h.elim⟩
 rw[this]
theorem HO.add {τ τ':oT}(a:HO n L τ)(hn:0<n)(hL: ∀g,L g->bG n g)(X:bG n x)(b:Ez n 0 x τ τ'):HO n (λg=>L g∨g=x) τ':=by
 refine⟨b.tw,λz=>?_⟩
 have hP: ∀g,(L g∨g=x)->bG n g:=λg hg=>by
  rcases hg with hg|rfl
  ·exact hL g hg
  ·exact X
 rw[b.group a.tw hn X z];constructor
 ·intro h
  refine h.le (fF.oG hP) λg hg=>?_
  rcases hg with hg|rfl
  ·exact ((a.group g).1 hg).mono λu hu=> .inl hu
  ·exact fF.of hP (.inr rfl)
 ·intro h
  refine h.mono λg hg=>?_
  rcases hg with hg|rfl
  ·exact .inl ((a.group g).2 (fF.of hL hg))
  ·exact .inr rfl
theorem HO.congr {M:List Nat->Prop}{τ:oT}(a:HO n L τ)(h: ∀g,L g↔M g):HO n M τ:=by
 have:L=M:=funext λg=>propext (h g)
 exact this▸a
end
def Xf (n:Nat)(R:IH):List Nat->Prop:=fF n λg=>g∈R.flatten
def Valid (n:Nat)(O:yA)(R:IH):Prop:=(∀g∈R.flatten,bG n g)/\eX n (Xf n R) O R
theorem Valid.iff {n:Nat}{O O':yA}{R R':IH}(hP: ∀g∈R.flatten,bG n g)(c:eX n (Xf n R) O' R'):Valid n O R↔O=O'/\R=R':=by
 constructor
 ·rintro⟨_,h⟩;exact h.uniq c
 ·rintro⟨rfl,rfl⟩;exact⟨hP,c⟩
theorem Valid.oG {n:Nat}{O:yA}{R:IH}(v:Valid n O R):rO n (Xf n R):=fF.oG v.1
end
end Go.Pm
namespace Go.Proofs.YtapfcpkecmmagaaGreat
open Go Go.Ay Go.Pm
set_option maxRecDepth 100000
def Gz (c:Nat):V:=if c<130 then .aC else aB 0
def lv0:Lv:=⟨[], [],λ_=>none,λ_=>0⟩
theorem WH: [V.aC,V.aC,V.aC,V.aC,V.aC,V.aC,V.aC,V.aC,V.aC,V.aC,V.aC,V.aC,V.aC,V.aC,V.aC,V.aC,V.aC,V.aC,V.aC,V.aC,V.aC,V.aC,V.aC,V.aC,V.aC,V.aC,V.aC,V.aC,V.aC,V.aC,V.aC,V.aC,V.aC,V.aC,V.aC,V.aC,V.aC,V.aC,V.aC,V.aC,V.aC,V.aC,V.aC,V.aC,V.aC,V.aC,V.aC,V.aC,V.aC,V.aC,V.aC,V.aC,V.aC,V.aC,V.aC,V.aC,V.aC,V.aC,V.aC,V.aC,V.aC,V.aC,V.aC,V.aC,V.aC,V.aC,V.aC,V.aC,V.aC,V.aC,V.aC,V.aC,V.aC,V.aC,V.aC,V.aC,V.aC,V.aC,V.aC,V.aC,V.aC,V.aC,V.aC,V.aC,V.aC,V.aC,V.aC,V.aC,V.aC,V.aC,V.aC,V.aC,V.aC,V.aC,V.aC,V.aC,V.aC,V.aC,V.aC,V.aC,V.aC,V.aC,V.aC,V.aC,V.aC,V.aC,V.aC,V.aC,V.aC,V.aC,V.aC,V.aC,V.aC,V.aC,V.aC,V.aC,V.aC,V.aC,V.aC,V.aC,V.aC,V.aC,V.aC,V.aC,V.aC,V.aC,V.aC,V.aC,V.aC,V.aC,(aB 0),(aB 0),(aB 0),(aB 0),(aB 0),(aB 0),(aB 0),(aB 0),(aB 0),(aB 0),(aB 0),(aB 0),(aB 0),(aB 0),(aB 0),(aB 0),(aB 0),(aB 0),(aB 0),(aB 0),(aB 0),(aB 0),(aB 0),(aB 0),(aB 0),(aB 0),(aB 0),(aB 0),(aB 0),(aB 0),(aB 0),(aB 0),(aB 0),(aB 0),(aB 0),(aB 0),(aB 0),(aB 0),(aB 0),(aB 0),(aB 0),(aB 0),(aB 0),(aB 0),(aB 0),(aB 0),(aB 0),(aB 0),(aB 0),(aB 0),(aB 0),(aB 0),(aB 0),(aB 0),(aB 0),(aB 0),(aB 0),(aB 0),(aB 0),(aB 0),(aB 0),(aB 0),(aB 0),(aB 0)]=rc 194 Gz:=rfl
theorem DF (n:Nat):eE (rc 194 Gz) (n*194)=rc (n*194) λc=>Gz (c%194):=by
 refine List.ext_getElem (by simp [eE,cZ]) λi h1 h2=>?_
 simp [eE,rc];rw[List.getElem?_range (Nat.mod_lt _ (by omega))];rfl
def MZ (n i:Nat):oT:=λj=>if j<i then LI n j else lv0
theorem rF.congr {h:H}{n tid L:Nat}{F:Nat->V}{τ τ':oT}(R:rF h n tid L F τ)(e: ∀j,j<n->τ j=τ' j):rF h n tid L F τ':=
 ⟨R.t,R.l,R.tn,R.ln,R.tw,λj p h1 h2=>by rw[←e j h1];exact R.to j p h1 h2,λj p h1 h2=>by rw[←e j h1];exact R.iv j p h1 h2,λj p h1 h2=>by rw[←e j h1];exact R.tr j p h1 h2,
  λj hj=>by rw[←e j hj];exact R.gens j hj,λj hj=>by rw[←e j hj];exact R.orb j hj,R.Hb,R.ap⟩
theorem Ss (n:Nat)(h:H)(h0:0<n)(hn:n<=7):
  Ev T 155 [aB n] h (λv h'=> ∃tid L F,v= .ptr tid 0/\rF h' n tid L F (LI n)/\Fr h h'/\ ∀id,WT n L F id->h.next<=id):=by
 refine bN oX rfl rfl ?_
 have hm:Fh h 194 3632 (rc 194 Gz) (aB n) (aB n)=some (.sl h.next 0 n (.kn n),h.new (.cells false (rc (n*194) λc=>Gz (c%194)))):=by
  rw[sG (by omega) (Int.le_refl _) (by omega) (by omega),Int.toNat_natCast,DF]
 obtain⟨F0,hF0⟩: ∃F0:Nat->V,F0=λc=>Gz (c%194):=⟨_,rfl⟩
 obtain⟨L,hL⟩:=exI h.next
 rw[hL,←hF0] at hm
 simp(disch:=omega)only[go_sem,oX,aF,WH,hm,KA (z1:= aB 0) (z2:= .aC) (v:= aB n) (u:= .sl L 0 n (.kn n)) rfl rfl rfl rfl,Nb _ (v:= aB n) (u:= .sl L 0 n (.kn n)) rfl rfl,hL]
 obtain⟨h2,h2e⟩: ∃h2,h2=(h.new (.cells false (rc (n*194) F0))).new (.cells false [aB n,.sl L 0 n (.kn n)]):=⟨_,rfl⟩
 rw[←h2e]
 have g1:h2.get L=some (.cells false (rc (n*194) F0)):=by rw[h2e,H.bE _ (by rw[H.aV];omega),←hL,H.aL]
 have g2:h2.get (L+1)=some (.cells false [aB n,.sl L 0 n (.kn n)]):=by
  rw[h2e];have:=H.aL (h.new (.cells false (rc (n*194) F0))) (.cells false [aB n,.sl L 0 n (.kn n)]);rwa [H.aV,hL] at this
 have n2:h2.next=L+2:=by rw[h2e,H.aV,H.aV,hL]
 have f2:Fr h h2:=by rw[h2e];exact ((Fr.refl h).new _).new _
 clear h2e hm
 have s0: ∀s,s<2*n->uA F0 s= .aC:=λs _=>by
  unfold uA Gz at*;rw[hF0];simp only;rw[if_pos (by omega)]
 have w0: ∀id,WT n L F0 id->id=L:=λid hw=>by
  rcases hw with e|⟨s,hs,off,len,c,e⟩
  ·exact e
  ·rw[s0 s hs] at e;cases e
 have z0: ∀j c,c<194->F0 (j*194+c)=Gz c:=λj c hc=>by
  rw[hF0];simp only;rw[Nat.mul_comm,Nat.mul_add_mod,Nat.mod_eq_of_lt hc]
 have z1: ∀j b c,b+c<194->F0 (j*194+b+c)=Gz (b+c):=λj b c hc=>by rw[Nat.add_assoc];exact z0 j (b+c) hc
 have R:rF h2 n (L+1) L F0 (MZ n 0):=by
  refine⟨g2,g1,by omega,by omega,λhw=>by have:=w0 _ hw;omega,λj p h1 h2=>?_,λj p h1 h2=>?_,λj p h1 h2=>?_,λj hj=>⟨[],?_,trivial⟩,λj hj=>?_,λs s' h1 h2 _=>?_,λs h1=>?_⟩
  ·rw[z1 j 2 p (by omega)];unfold Gz;rw[if_pos (by omega)];rfl
  ·rw[z1 j 66 p (by omega)];unfold Gz;rw[if_pos (by omega)];rfl
  ·rw[z1 j 130 p (by omega)];unfold Gz;rw[if_neg (by omega)];rfl
  ·have:=z0 j 0 (by omega)
   rw[Nat.add_zero] at this;rw[this];exact fC.aC ..
  ·rw[z0 j 1 (by omega)];exact fC.aC ..
  ·rw[s0 s h1];intro i o n c e;cases e
  ·rw[s0 s h1];exact dO.aC _
 have cl0:h2.cell (L+1) 1=some (.sl L 0 n (.kn n)):=by rw[H.aE g2];rfl
 simp(disch:=omega)only[go_sem,cl0]
 refine aI (λk' vars hh=> ∃(i:Nat) (F:Nat->V),(∃g:Nat->V,vars= [aB n,g 1,.ptr (L+1) 0,g 3,g 4,aB n,aB i,g 7])/\i<=n/\rF hh n (L+1) L F (MZ n i)/\Fr h hh/\(∀id,WT n L F id->h.next<=id)/\k'=n-i) n
  ⟨0,F0,aA rfl,lG _,R,f2,λid hw=>by rw[w0 id hw];omega,rfl⟩ ?_
 clear R g1 g2 n2 f2 s0 w0 z0 z1
 rintro k' vars h3 ⟨i,F,⟨g,rfl⟩,hi,R,f,hw,rfl⟩
 simp(disch:=omega)only[go_sem]
 by_cases hlt:(i:Int)<(n:Int)
 ·rw[decide_eq_true hlt]
  have hi':i<n:=by omega
  have cl:h3.cell (L+1) 1=some (.sl L 0 n (.kn n)):=by rw[H.aE R.t];rfl
  have ln:=R.ln
  have hN:i*194+194<=n*194:=by omega
  have e0:MZ n i i=lv0:=by unfold MZ;rw[if_neg (by omega)]
  simp(disch:=omega)only[go_sem,cl,dL h3 (z:= aB 0) (v:= aB i) rfl rfl,R.l,Ef]
  obtain⟨h4,h4e⟩: ∃h4,h4=(h3.new (.cells false [aB i])).set L (some (.cells false (rc (n*194) (F1 F (i*194+1) (.sl h3.next 0 1 (.kn 1)))))):=⟨_,rfl⟩
  rw[←h4e]
  have p4:yQ h3 (F (i*194+1)) 0 1 1 [] [aB i] (h3.new (.cells false [aB i])):=⟨H.aL ..,H.aV ..,λk hk _=>H.bE h3 hk _⟩
  obtain⟨R4,f4,w4⟩:=R.HI hi' (q:=i) (v:= .sl h3.next 0 1 (.kn 1)) (by rw[e0];exact p4) (.inr rfl) (by rw[e0];rfl) h4e
  obtain⟨F4,hF4⟩: ∃F4,F4=F1 F (i*194+1) (.sl h3.next 0 1 (.kn 1)):=⟨_,rfl⟩
  rw[←hF4] at R4 w4
  have n4:h4.next=h3.next+1:=by rw[h4e,H.cW,H.aV]
  have hw4: ∀id,WT n L F4 id->h.next<=id:=λid h1=>by
   by_cases h2:id<h3.next
   ·exact hw id (w4 id h2 h1)
   ·have:=f.next;omega
  have f4':Fr h h4:=⟨Nat.le_trans f.next f4.next,λid h1=>(f4.get id (kY h1 f.next) λh2=>by have:=hw id h2;omega).trans (f.get id h1)⟩
  clear h4e
  generalize hTe:uS (MZ n i) i {MZ n i i with orb:=(MZ n i i).orb++ [i]}=τ4 at R4
  have e4:τ4 i={lv0 with orb:= [i]}:=by rw[←hTe,bU,e0];rfl
  refine (Hd (rfl:T 176=some qB) n (H.mk h4.tr (h3.next+1+16)) (by omega)).mono ?_
  rintro va h5 na
  simp(disch:=omega)only[go_sem]
  refine (Hd (rfl:T 176=some qB) n h5 (by omega)).mono ?_
  rintro vb h6 nb
  have f5:Fr h4 h5:=((Fr.refl h4).bJ (by omega):Fr h4 (H.mk h4.tr (h3.next+1+16))).trans na.fr
  have R6:=R4.mono (f5.trans nb.fr)
  have pa:=(na.pv (W:=WT n L F4) (λh1=>by have:=R4.DJ h1;simp at this;omega)).mono nb.fr
  have pb:=nb.pv (W:=WT n L F4) (λh1=>by have:=R4.DJ h1;have:=f5.next;omega)
  have pb':PV (WT n L F4) h6 vb (cF (bW n)):=by rw[yE];exact pb
  simp(disch:=omega)only[go_sem,R6.l,lE pa.iG.1 pa.iG.2,lE pb.iG.1 pb.iG.2,Ef]
  obtain⟨R7,f7,w7⟩:=R6.way hi' (q:=i) (by omega) pa pb' (h3:=(h6.set L (some (Ob.cells false (rc (n*194) (F1 F4 (i*194+2+i) va))))).set L (some (Ob.cells false (rc (n*194) (F1 (F1 F4 (i*194+2+i) va) (i*194+66+i) vb))))) (jA _) (λid h1 _=>by rw[H.aH _ h1,H.aH _ h1]) (by rw[H.aT])
  have eT:uS τ4 i {τ4 i with to:=λr=>if r=i then some (bW n) else (τ4 i).to r}=MZ n (i+1):=by
   funext j
   by_cases e:j=i
   ·subst e
    rw[bU,e4];unfold MZ;rw[if_pos (by omega)]
    rfl
   ·rw[eQ _ _ e,←hTe,eQ _ _ e]
    unfold MZ
    by_cases e2:j<i
    ·rw[if_pos e2,if_pos (by omega)]
    ·rw[if_neg e2,if_neg (by omega)]
  rw[eT] at R7
  have f6:=f4'.trans (f5.trans nb.fr)
  rw[iJ i]
  refine⟨n-(i+1),by omega,i+1,_,aA rfl,by omega,R7,⟨Nat.le_trans f6.next f7.next,λid h1=>(f7.get id (kY h1 f6.next) λh2=>by have:=hw4 id h2;omega).trans (f6.get id h1)⟩,λid h1=>hw4 id ((w7 id).1 h1),rfl⟩
 rw[decide_eq_false hlt]
 obtain rfl:i=n:=by omega
 simp(disch:=omega)only[go_sem]
 have eT:rF h3 i (L+1) L F (LI i):=R.congr λj hj=>by unfold MZ;rw[if_pos hj]
 exact⟨L+1,L,F,rfl,eT,f,λid h1=>by have:=hw id h1;omega⟩
abbrev SP (h:H)(v:V)(l:LN):Prop:=SR h v (l.map zi)
theorem Tw {h:H}{ws:List V}{l:LN}(a:bY (SI h) ws (l.map zi)){i:Nat}(hi:i<l.length):SI h (ws.getD i .undef) (zi (l.getD i [])):=by
 have:=Oi a (i:=i) (by simpa using hi);rwa [show (l.map zi).getD i []=zi (l.getD i []) by simp [List.getD,hi]] at this
theorem VB {W:Nat->Prop}{h:H}{b:Nat}{v:V}{l:List Int}(s:SI h v l)(hb:h.next<=b)(hw: ∀id,W id->b<=id):Vl W v:=by
 cases v with
 |sl id off len cap=>exact λh2=>by have:=s.in _ _ _ _ rfl;have:=hw id h2;omega
 |_=>trivial
theorem DP {l:LN}{i:Nat}(hi:i<l.length)(g:List Nat):g∈l.take (i+1)↔g∈l.take i∨g=l.getD i []:=by
 rw[List.take_add_one,iK hi,La];simp [List.getD,hi]
theorem JG (n:Nat)(vl:V)(l:LN)(h:H)(h0:0<n)(hn:n<=7)(hl:l.length<1000000)(hv:SP h vl l)(hP: ∀g∈l,bG n g):
  Ev T 116 [aB n,vl] h (λv h'=> ∃tid L F τ,v= .ptr tid 0/\rF h' n tid L F τ/\HO n (· ∈l) τ/\Fr h h'/\ ∀id,WT n L F id->h.next<=id):=by
 refine bN uR rfl rfl ?_
 simp(disch:=omega)only[go_sem,uR,aF]
 refine (Ss n h h0 hn).mono ?_
 rintro _ h1 ⟨tid,L,F,rfl,R,f,hw⟩
 have lv:=hv.lens
 rw[qX] at lv
 obtain⟨id,off,ws,sh,hid,hwl,hc,hall⟩:=hv.open
 rw[qX] at sh hid hwl hc
 simp(disch:=omega)only[go_sem,lv]
 refine aI (λk' vars hh=> ∃(i:Nat) (F:Nat->V) (τ:oT),(∃g:Nat->V,vars= [aB n,vl,g 2,.ptr tid 0,g 4,vl,aB (l.length:Int),aB i,g 8])/\i<=l.length/\rF hh n tid L F τ/\HO n (· ∈l.take i) τ/\Fr h hh/\(∀id,WT n L F id->h.next<=id)/\k'=l.length-i) l.length
  ⟨0,F,LI n,aA rfl,lG _,R,(HO.start h0).congr (by simp),f,hw,rfl⟩ ?_
 clear R f hw F
 rintro k' vars h2 ⟨i,F,τ,⟨g,rfl⟩,hi,R,t,f,hw,rfl⟩
 simp(disch:=omega)only[go_sem]
 by_cases hlt:(i:Int)<(l.length:Int)
 ·rw[decide_eq_true hlt]
  have hi':i<l.length:=by omega
  have ci:h2.cell id (off+i)=some (ws.getD i .undef):=by rw[f.cell (hid (by omega)),hc i hi']
  have s0:=Tw hall hi'
  have pv:PV (WT n L F) h2 (ws.getD i .undef) (l.getD i []):=⟨s0.mono f,VB s0 (jA _) hw⟩
  have X:bG n (l.getD i []):=hP _ (by simp [List.getD,hi'])
  simp(disch:=omega)only[go_sem,sh.ixa,ci]
  refine (abG n hn h0 h2 tid L F τ _ _ R pv X (λk hk=>by omega) t.tw).mono ?_
  rintro vv h3 ⟨F3,τ3,R3,a3,f3,w3⟩
  have t3:=(t.add h0 (λg hg=>hP g (List.mem_of_mem_take hg)) X a3).congr λg=>(DP hi' g).symm
  simp(disch:=omega)only[go_sem]
  rw[iJ i]
  refine⟨l.length-(i+1),by omega,i+1,F3,τ3,aA rfl,by omega,R3,t3,⟨Nat.le_trans f.next f3.next,λid h1=>(f3.get id (kY h1 f.next) λh4=>by have:=hw id h4;omega).trans (f.get id h1)⟩,λid h1=>?_,rfl⟩
  by_cases h4:id<h2.next
  ·exact hw id (w3 id h4 h1)
  ·have:=f.next;omega
 rw[decide_eq_false hlt]
 obtain rfl:i=l.length:=by omega
 simp(disch:=omega)only[go_sem]
 exact⟨tid,L,F,τ,rfl,R,t.congr λg=>by rw[List.take_length],f,hw⟩
theorem CT (x:List Nat)(l:List Nat){i:Nat}(hi:i<l.length)(b:Nat):uX x b (l.drop i)=uX x (if x.getD (l.getD i 0) 0<x.getD b 0 then l.getD i 0 else b) (l.drop (i+1)):=by
 rw[List.drop_eq_getElem_cons hi,cJ hi];rfl
theorem OW (h:H)(n tid L:Nat)(F:Nat->V)(τ:oT)(vx:V)(x:List Nat)(i0:Nat)(hn:n<=7)(R:rF h n tid L F τ)(hx:PV (WT n L F) h vx x)(X:bG n x)(hi0:i0<n)(t:oU n (i0+1) τ):
  Ev T 159 [.ptr tid 0,vx,aB i0] h (λv h'=>PV (WT n L F) h' v (Xr τ (n-(i0+1)) (i0+1) x)/\bG n (Xr τ (n-(i0+1)) (i0+1) x)/\Fr h h'):=by
 refine bN mH rfl rfl ?_
 simp(disch:=omega)only[go_sem,mH,aF]
 rw[iJ i0]
 refine aI (λk' vars hh=> ∃(k:Nat) (y:List Nat) (vy:V),(∃g:Nat->V,vars= [.ptr tid 0,vy,g 2,g 3,aB k,g 5,g 6,g 7,g 8,g 9,g 10,g 11,g 12,g 13])/\i0<k/\k<=n/\Xr τ (n-k) k y=Xr τ (n-(i0+1)) (i0+1) x/\
   PV (WT n L F) hh vy y/\bG n y/\Fr h hh/\k'=n-k) (n-(i0+1))
  ⟨i0+1,x,vx,aA rfl,by omega,by omega,rfl,hx,X,Fr.refl h,rfl⟩ ?_
 rintro k' vars h2 ⟨k,y,vy,⟨g,rfl⟩,hi1,hi2,hs,hy,Y,f,rfl⟩
 have R2:=R.mono f
 have ct:h2.cell tid 0=some (aB n):=by rw[H.aE R2.t];rfl
 have cl:h2.cell tid 1=some (.sl L 0 n (.kn n)):=by rw[H.aE R2.t];rfl
 simp(disch:=omega)only[go_sem,ct,cl]
 by_cases hlt:(k:Int)<(n:Int)
 case neg=>
  rw[decide_eq_false hlt];obtain rfl:k=n:=by omega
  rw[Nat.sub_self] at hs;simp(disch:=omega)only[go_sem];rw[←hs];exact⟨hy,Y,f⟩
 have hkn:k<n:=by omega
 rw[decide_eq_true hlt]
 have co:h2.cell L (k*194+1)=some (F (k*194+1)):=R2.cell hkn (by omega)
 have oo:=R2.orb k hkn
 have lo:=fC.lens oo (by rw[aJ,aP])
 have lZ:=(t k (by omega) hkn).1
 have hon:=UA lZ hkn
 simp(disch:=omega)only[go_sem,cl,co,lo]
 obtain⟨id,off,sh,hid,hc⟩:=(show SI h2 (F (k*194+1)) (zi (τ k).orb) from oo.sv).open
 rw[aP] at sh hid hc
 obtain⟨id2,off2,sh2,hid2,hc2⟩:=hy.si.open
 rw[aP,Y.len] at sh2 hid2 hc2
 refine aI (λm' vars hh=> ∃(m b:Nat),(∃g:Nat->V,vars= [.ptr tid 0,vy,g 2,g 3,aB k,aB b,g 6,g 7,F (k*194+1),aB ((τ k).orb.length:Int),aB m,g 11,g 12,g 13])/\m<=(τ k).orb.length/\b<n/\b∈k::(τ k).orb/\
   uX y b ((τ k).orb.drop m)=uX y k (τ k).orb/\Fr h2 hh/\m'=(τ k).orb.length-m) (τ k).orb.length
  ⟨0,k,aA rfl,lG _,hkn,List.mem_cons_self ..,rfl,Fr.refl h2,rfl⟩ ?_
 rintro m' vars h3 ⟨m,b,⟨g3,rfl⟩,hm,hb,hbm,hbest,f3,rfl⟩
 simp(disch:=omega)only[go_sem]
 by_cases hlt2:(m:Int)<((τ k).orb.length:Int)
 ·rw[decide_eq_true hlt2]
  have hm':m<(τ k).orb.length:=by omega
  rw[CT _ _ hm'] at hbest
  have cq:h3.cell id (off+m)=some (aB ((τ k).orb.getD m 0:Nat)):=by rw[f3.cell (hid (by omega)),hc m hm'];congr 2;simp [zi,hm']
  have hqm:(τ k).orb.getD m 0∈(τ k).orb:=by rw[cJ hm'];exact List.getElem_mem hm'
  have hqn:=lZ.lt hkn hqm
  generalize (τ k).orb.getD m 0=q at cq hqm hqn hbest
  have c1:h3.cell id2 (off2+q)=some (aB (y.getD q 0:Nat)):=by rw[f3.cell (hid2 (by omega)),hc2 q hqn];congr 2;simp [zi,Y.len,hqn]
  have c2:h3.cell id2 (off2+b)=some (aB (y.getD b 0:Nat)):=by rw[f3.cell (hid2 (by omega)),hc2 b hb];congr 2;simp [zi,Y.len,hb]
  simp(disch:=omega)only[go_sem,sh.ixa,cq,sh2.ixa,c1,c2]
  have fb:Fr h2 (H.mk h3.tr (h3.next+9)):=f3.bJ (by omega)
  by_cases hxx:((y.getD q 0:Nat):Int)<((y.getD b 0:Nat):Int)
  ·rw[decide_eq_true hxx]
   rw[if_pos (by omega)] at hbest
   simp(disch:=omega)only[go_sem]
   rw[iJ m]
   exact⟨(τ k).orb.length-(m+1),by omega,m+1,q,aA rfl,by omega,hqn,List.mem_cons_of_mem _ hqm,hbest,fb,rfl⟩
  ·rw[decide_eq_false hxx]
   rw[if_neg (by omega)] at hbest
   simp(disch:=omega)only[go_sem]
   rw[iJ m]
   exact⟨(τ k).orb.length-(m+1),by omega,m+1,b,aA rfl,by omega,hb,hbm,hbest,fb,rfl⟩
 rw[decide_eq_false hlt2]
 have em:m=(τ k).orb.length:=by omega
 rw[em,List.drop_length] at hbest
 have hbest:b=uX y k (τ k).orb:=hbest
 have hstep:n-k=(n-(k+1))+1:=by omega
 rw[hstep] at hs
 have hs:Xr τ (n-(k+1)) (k+1) (if uX y k (τ k).orb=k then y else aS (((τ k).to (uX y k (τ k).orb)).getD []) y)=Xr τ (n-(i0+1)) (i0+1) x:=hs
 rw[←hbest] at hs
 have R3:=R2.mono f3
 have hy3:=hy.mono f3
 simp(disch:=omega)only[go_sem]
 by_cases hbk:b=k
 ·rw[if_pos hbk] at hs
  have e0:decide ((b:Int)≠(k:Int))=false:=jC (by omega)
  simp(disch:=omega)only[go_sem,e0]
  rw[iJ k]
  exact⟨n-(k+1),by omega,k+1,y,vy,aA rfl,by omega,by omega,hs,hy3,Y,f.trans f3,rfl⟩
 rw[if_neg hbk] at hs
 have e0:decide ((b:Int)≠(k:Int))=true:=nL (by omega)
 have cl3:h3.cell tid 1=some (.sl L 0 n (.kn n)):=by rw[H.aE R3.t];rfl
 have hbo:b∈(τ k).orb:=by
  rcases List.mem_cons.1 hbm with e|e
  ·exact absurd e hbk
  ·exact e
 obtain⟨u,hu⟩:=lZ.to hbo
 have U:=lZ.dS _ _ hu
 have cto:h3.cell L (k*194+2+b)=some (F (k*194+2+b)):=R3.Ng hkn (by omega)
 have pto:PV (WT n L F) h3 (F (k*194+2+b)) u:=by
  have:=R3.to k b hkn (by omega);rw[hu] at this;exact this
 rw[hu] at hs
 simp(disch:=omega)only[go_sem,e0,cl3,cto]
 refine (rI (rfl:T 181=some lP) _ vy u y h3 (by rw[U.len];omega) pto.si hy3.si (λj hj=>by rw[Y.len];exact U.eZ (by rw[←U.len];exact hj))).mono ?_
 rintro v h4 nw
 simp(disch:=omega)only[go_sem]
 rw[iJ k]
 exact⟨n-(k+1),by omega,k+1,_,v,aA rfl,by omega,by omega,hs,nw.pv (λhw=>by have:=R3.DJ hw;omega),U.mul Y,(f.trans f3).trans nw.fr,rfl⟩
end Go.Proofs.YtapfcpkecmmagaaGreat
namespace Go.Proofs.YtapfcpkecmmagaaGreat
open Go Go.Ay Go.Sort
set_option maxRecDepth 100000
section
variable {h:H} {S N i j a:Nat} {d:Array Int} {lt:Int->Int->Bool}
structure dR (h:H)(S N:Nat)(d:Array Int):Prop where
 get:h.get S=bZ (ints d.toList)
 size:d.size=N
 lt:S<h.next
theorem dR.rd (A:dR h S N d)(hi:i<N):h.cell S i=some (aB d[i]!):=by
 have hi':i<d.size:=by rw[A.size];exact hi
 rw[H.aE A.get];simp [ints,hi']
theorem dR.fr {h':H}(A:dR h S N d)(f:Fr h h'):dR h' S N d:=⟨by rw[f.get _ A.lt];exact A.get,A.size,kY A.lt f.next⟩
theorem bP (hi:i<d.size)(hh:H)(S:Nat)(x:Int):fI (bZ (ints d.toList)) hh S i [aB x]=some (hh.set S (bZ (ints (d.setIfInBounds i x).toList))):=by
 rw[Ma (by simpa using hi),Array.toList_setIfInBounds]
theorem bH {y:Int}(hi:i<d.size)(hh:H)(S:Nat)(x:Int):fI (bZ (ints (d.setIfInBounds j y).toList)) hh S i [aB x]=some (hh.set S (bZ (ints ((d.setIfInBounds j y).setIfInBounds i x).toList))):=
 bP (by simpa using hi) hh S x
theorem dR.swap {h2:H}(A:dR h S N d){nx:Nat}(hnx:h.next<=nx)(e:h2=((H.mk h.tr nx).set S (bZ (ints (d.setIfInBounds i d[j]!).toList))).set S (bZ (ints ((d.setIfInBounds i d[j]!).setIfInBounds j d[i]!).toList))):dR h2 S N (swp d i j)/\Fx (· =S) h h2:=by
 subst e;refine⟨⟨?_,?_,kY A.lt hnx⟩,⟨hnx,λid _ hs=>?_⟩⟩
 ·rw[H.aT];rfl
 ·have:=A.size;simp [swp,this]
 ·rw[H.aH _ hs,H.aH _ hs];rfl
theorem zO (a:Int)(h:H):Ev T 147 [aB a] h (λv h'=>v= .bool false/\h'=h):=by
 refine bN kQ rfl rfl ?_;have e:decide (a≠a)=false:=jC (by omega);simp(disch:=omega)only[go_sem,kQ,aF,e]
theorem gY (a b:Int)(h:H):Ev T 134 [aB a,aB b] h (λv h'=>v= .bool (ltInt a b)/\Fr h h'):=by
 refine bN sI rfl rfl ?_;simp(disch:=omega)only[go_sem,sI,aF];refine (zO a h).mono ?_;rintro _ h1 ⟨rfl,rfl⟩;simp(disch:=omega)only[go_sem];exact⟨rfl,Fr.refl _⟩
theorem fX {a b c:H}(x:Fx (· =S) a b)(y:Fx (· =S) b c):Fx (· =S) a c:=x.trans y λ_ _ h=>h
theorem Ye (h1:a<j+1)(h2:lt d[j+1]! d[j]! =true):insInner lt a (j+1) d=insInner lt a j (swp d (j+1) j):=by
 rw[insInner,if_pos (by simp [h1,h2])]
theorem Wt (h2:lt d[j+1]! d[j]! =false):insInner lt a (j+1) d=d:=by
 rw[insInner,if_neg (by simp [h2])]
theorem Yr (h:j<=a):insInner lt a j d=d:=by
 cases j with
 |zero=>rfl
 |succ j=>rw[insInner,if_neg (by simp;omega)]
theorem wI (h:H)(S N a b:Nat)(d:Array Int)(cp:qP)(hN:N<1000000)(A:dR h S N d)(hb:b<=N)(hab:a<=b):
  Ev T 128 [.sl S 0 N cp,aB a,aB b] h (λ_ h'=>dR h' S N (insertionSort ltInt d a b)/\Fx (· =S) h h'):=by
 refine bN fM rfl rfl ?_
 simp(disch:=omega)only[go_sem,fM,aF]
 rw[iJ a]
 refine aI (λk' vars hh=> ∃(i:Nat) (e:Array Int),(∃g:Nat->V,vars= [.sl S 0 N cp,aB a,aB b,aB i,g 4,g 5,g 6])/\a<i/\i<=b+1/\dR hh S N e/\insOuter ltInt a b i e=insertionSort ltInt d a b/\Fx (· =S) h hh/\k'=b+1-i) (b+1-(a+1))
  ⟨a+1,d,aA rfl,by omega,by omega,A,rfl,Fx.refl _ h,rfl⟩ ?_
 clear A
 rintro k' vars h1 ⟨i,e,⟨g,rfl⟩,hi1,hi2,A,hR,F,rfl⟩
 simp(disch:=omega)only[go_sem]
 by_cases hlt:(i:Int)<(b:Int)
 case neg=>
  rw[decide_eq_false hlt];simp(disch:=omega)only[go_sem];rw[insOuter,if_neg (by omega)] at hR;rw[←hR];exact⟨A,F⟩
 rw[decide_eq_true hlt]
 rw[insOuter,if_pos (by omega)] at hR
 simp(disch:=omega)only[go_sem]
 refine aI (λk' vars hh=> ∃(j:Nat) (e':Array Int),(∃g:Nat->V,vars= [.sl S 0 N cp,aB a,aB b,aB i,aB j,g 5,g 6])/\a<=j/\j<=i/\dR hh S N e'/\insInner ltInt a j e'=insInner ltInt a i e/\Fx (· =S) h hh/\k'=j) i
  ⟨i,e,aA rfl,by omega,by omega,A,rfl,F,rfl⟩ ?_
 clear A F
 rintro k' vars h2 ⟨j,e',⟨g2,rfl⟩,hj1,hj2,A,hI,F,hk⟩
 have sz:=A.size
 by_cases haj:(a:Int)<(j:Int)
 ·obtain⟨m,rfl⟩: ∃m,j=m+1:=⟨j- 1,by omega⟩
  have c1:=A.rd (i:=m+1) (by omega)
  have c2:=A.rd (i:=m) (by omega)
  have e1:decide ((a:Int)<((m+1:Nat):Int))=true:=decide_eq_true haj
  have e2:((m+1:Nat):Int)- 1=(m:Int):=by omega
  simp(disch:=omega)only[go_sem,e1,e2,c1,c2]
  refine (gY _ _ _).mono ?_
  rintro _ h3 ⟨rfl,fh3⟩
  have f3':Fr h2 h3:=Fr.trans ((Fr.refl h2).bJ (by omega)) fh3
  have A3:=A.fr f3'
  have c3:=A3.rd (i:=m+1) (by omega)
  have c4:=A3.rd (i:=m) (by omega)
  cases hl:ltInt e'[m+1]! e'[m]! with
  |false=>
   rw[Wt hl] at hI;simp(disch:=omega)only[go_sem,hl];rw[iJ i];rw[←hI] at hR;exact⟨b+1-(i+1),by omega,i+1,e',aA rfl,by omega,by omega,A3,hR,fX F (Fx.of f3'),rfl⟩
  |true=>
   rw[Ye (by omega) hl] at hI;simp(disch:=omega)only[go_sem,hl,e2,c3,c4,A3.get,bP,bH];have W:=A3.swap (i:=m+1) (j:=m) (nx:=h3.next+18) (by omega) rfl;exact⟨m,by omega,m,_,aA rfl,by omega,by omega,W.1,hI,fX (fX F (Fx.of f3')) W.2,rfl⟩
 ·have e1:decide ((a:Int)<(j:Int))=false:=decide_eq_false haj
  rw[Yr (by omega)] at hI
  simp(disch:=omega)only[go_sem,e1]
  rw[iJ i]
  rw[←hI] at hR
  have f3:Fr h2 (H.mk h2.tr (h2.next+15)):=(Fr.refl h2).bJ (by omega)
  exact⟨b+1-(i+1),by omega,i+1,e',aA rfl,by omega,by omega,A.fr f3,hR,fX F (Fx.of f3),rfl⟩
end
def Ys (lt:Int->Int->Bool)(hi first root:Nat)(d:Array Int):Nat:=if 2*root+1+1<hi/\lt d[first+(2*root+1)]! d[first+(2*root+1)+1]! =true then 2*root+2 else 2*root+1
theorem Cm {lt:Int->Int->Bool}(hi first root:Nat)(d:Array Int):siftDown lt hi first root d=if 2*root+1≥hi then d else
  if lt d[first+root]! d[first+Ys lt hi first root d]! =true then siftDown lt hi first (Ys lt hi first root d) (swp d (first+root) (first+Ys lt hi first root d)) else d:=by
 rw[siftDown]
 unfold Ys
 by_cases h1:2*root+1≥hi
 ·rw[dif_pos h1,if_pos h1]
 ·rw[dif_neg h1,if_neg h1]
  by_cases h2:2*root+1+1<hi/\lt d[first+(2*root+1)]! d[first+(2*root+1)+1]! =true
  ·rw[if_pos (by simpa using h2),if_pos h2]
   cases h3:lt d[first+root]! d[first+(2*root+2)]!
   ·simp
   ·simp [show 2*root+2<hi by omega]
  ·rw[if_neg (by simpa using h2),if_neg h2]
   cases h3:lt d[first+root]! d[first+(2*root+1)]! <;>simp
theorem qE  (h:H)(S N lo hi first:Nat)(d:Array Int)(cp:qP)(hN:N<1000000)(A:dR h S N d)(hb:first+hi<=N)(hlo:lo<=hi):
  Ev T 168 [.sl S 0 N cp,aB lo,aB hi,aB first] h (λ_ h'=>dR h' S N (siftDown ltInt hi first lo d)/\Fx (· =S) h h'):=by
 refine bN gU rfl rfl ?_
 simp(disch:=omega)only[go_sem,gU,aF]
 refine aI (λk' vars hh=> ∃(r:Nat) (e:Array Int),(∃g:Nat->V,vars= [.sl S 0 N cp,aB lo,aB hi,aB first,aB r,g 5,g 6,g 7,g 8])/\r<=hi/\dR hh S N e/\siftDown ltInt hi first r e=siftDown ltInt hi first lo d/\Fx (· =S) h hh/\k'=hi-r) (hi-lo)
  ⟨lo,d,aA rfl,hlo,A,rfl,Fx.refl _ h,rfl⟩ ?_
 clear A
 rintro k' vars h1 ⟨r,e,⟨g,rfl⟩,hr,A,hR,F,rfl⟩
 have e0:2*(r:Int)+1=((2*r+1:Nat):Int):=by omega
 by_cases hge:(hi:Int)<=((2*r+1:Nat):Int)
 ·have eg:decide ((hi:Int)<=((2*r+1:Nat):Int))=true:=decide_eq_true hge
  simp(disch:=omega)only[go_sem,e0,eg]
  rw[Cm,if_pos (by omega)] at hR
  rw[←hR]
  exact⟨A,F⟩
 have eg:decide ((hi:Int)<=((2*r+1:Nat):Int))=false:=decide_eq_false hge
 rw[Cm,if_neg (by omega)] at hR
 have ec:((2*r+1:Nat):Int)+1=((2*r+2:Nat):Int):=by omega
 have ef0:(first:Int)+(r:Int)=((first+r:Nat):Int):=by omega
 have ef1:(first:Int)+((2*r+1:Nat):Int)=((first+(2*r+1):Nat):Int):=by omega
 have ef2:(first:Int)+((2*r+2:Nat):Int)=((first+(2*r+2):Nat):Int):=by omega
 have ef3:((first+(2*r+1):Nat):Int)+1=((first+(2*r+1)+1:Nat):Int):=by omega
 have sz:=A.size
 by_cases hc2:((2*r+2:Nat):Int)<(hi:Int)
 ·have e2:decide (((2*r+2:Nat):Int)<(hi:Int))=true:=decide_eq_true hc2
  have c1:=A.rd (i:=first+(2*r+1)) (by omega)
  have c2:=A.rd (i:=first+(2*r+1)+1) (by omega)
  simp(disch:=omega)only[go_sem,e0,eg,ec,e2,ef1,ef3,c1,c2]
  refine (gY _ _ _).mono ?_
  rintro _ h2 ⟨rfl,fh2⟩
  have f2:Fr h1 h2:=Fr.trans ((Fr.refl h1).bJ (by omega)) fh2
  have A2:=A.fr f2
  have c0:=A2.rd (i:=first+r) (by omega)
  have c1:=A2.rd (i:=first+(2*r+1)) (by omega)
  have c2:=A2.rd (i:=first+(2*r+2)) (by omega)
  cases hl:ltInt e[first+(2*r+1)]! e[first+(2*r+1)+1]! with
  |false=>
   have hch:Ys ltInt hi first r e=2*r+1:=if_neg (by rw[hl];simp)
   rw[hch] at hR;simp(disch:=omega)only[go_sem,hl,ef0,ef1,c0,c1];refine (gY _ _ _).mono ?_;rintro _ h3 ⟨rfl,fh3⟩;have f3:Fr h2 h3:=Fr.trans ((Fr.refl h2).bJ (by omega)) fh3;have A3:=A2.fr f3;have c0:=A3.rd (i:=first+r) (by omega);have c1:=A3.rd (i:=first+(2*r+1)) (by omega);have F3:=fX (fX F (Fx.of f2)) (Fx.of f3)
   cases hl2:ltInt e[first+r]! e[first+(2*r+1)]! with
   |false=>
    rw[if_neg (by rw[hl2];simp)] at hR;simp(disch:=omega)only[go_sem,hl2];rw[←hR];exact⟨A3,F3⟩
   |true=>
    rw[if_pos hl2] at hR;simp(disch:=omega)only[go_sem,hl2,ef0,ef1,c0,c1,A3.get,bP,bH];have W:=A3.swap (i:=first+r) (j:=first+(2*r+1)) (nx:=h3.next+24) (by omega) rfl;exact⟨hi-(2*r+1),by omega,2*r+1,_,aA rfl,by omega,W.1,hR,fX F3 W.2,rfl⟩
  |true=>
   have hch:Ys ltInt hi first r e=2*r+2:=if_pos ⟨by omega,hl⟩
   rw[hch] at hR;simp(disch:=omega)only[go_sem,hl,ec,ef0,ef2,c0,c2];refine (gY _ _ _).mono ?_;rintro _ h3 ⟨rfl,fh3⟩;have f3:Fr h2 h3:=Fr.trans ((Fr.refl h2).bJ (by omega)) fh3;have A3:=A2.fr f3;have c0:=A3.rd (i:=first+r) (by omega);have c2:=A3.rd (i:=first+(2*r+2)) (by omega);have F3:=fX (fX F (Fx.of f2)) (Fx.of f3)
   cases hl2:ltInt e[first+r]! e[first+(2*r+2)]! with
   |false=>
    rw[if_neg (by rw[hl2];simp)] at hR;simp(disch:=omega)only[go_sem,hl2];rw[←hR];exact⟨A3,F3⟩
   |true=>
    rw[if_pos hl2] at hR;simp(disch:=omega)only[go_sem,hl2,ef0,ef2,c0,c2,A3.get,bP,bH];have W:=A3.swap (i:=first+r) (j:=first+(2*r+2)) (nx:=h3.next+24) (by omega) rfl;exact⟨hi-(2*r+2),by omega,2*r+2,_,aA rfl,by omega,W.1,hR,fX F3 W.2,rfl⟩
 ·have e2:decide (((2*r+2:Nat):Int)<(hi:Int))=false:=decide_eq_false hc2
  have hch:Ys ltInt hi first r e=2*r+1:=if_neg (by omega)
  rw[hch] at hR
  have f2:Fr h1 (H.mk h1.tr (h1.next+20)):=(Fr.refl h1).bJ (by omega)
  have A2:=A.fr f2
  have c0:=A.rd (i:=first+r) (by omega)
  have c1:=A.rd (i:=first+(2*r+1)) (by omega)
  simp(disch:=omega)only[go_sem,e0,eg,ec,e2,ef0,ef1,c0,c1]
  refine (gY _ _ _).mono ?_
  rintro _ h3 ⟨rfl,fh3⟩
  have f3:Fr h1 h3:=Fr.trans ((Fr.refl h1).bJ (by omega)) fh3
  have A3:=A.fr f3
  have c0:=A3.rd (i:=first+r) (by omega)
  have c1:=A3.rd (i:=first+(2*r+1)) (by omega)
  have F3:=fX F (Fx.of f3)
  cases hl2:ltInt e[first+r]! e[first+(2*r+1)]! with
  |false=>
   rw[if_neg (by rw[hl2];simp)] at hR;simp(disch:=omega)only[go_sem,hl2];rw[←hR];exact⟨A3,F3⟩
  |true=>
   rw[if_pos hl2] at hR;simp(disch:=omega)only[go_sem,hl2,ef0,ef1,c0,c1,A3.get,bP,bH];have W:=A3.swap (i:=first+r) (j:=first+(2*r+1)) (nx:=h3.next+24) (by omega) rfl;exact⟨hi-(2*r+1),by omega,2*r+1,_,aA rfl,by omega,W.1,hR,fX F3 W.2,rfl⟩
theorem yO  (h:H)(S N a b:Nat)(d:Array Int)(cp:qP)(hN:N<1000000)(A:dR h S N d)(hb:b<=N)(hab:a<=b):
  Ev T 129 [.sl S 0 N cp,aB a,aB b] h (λ_ h'=>dR h' S N (heapSort ltInt d a b)/\Fx (· =S) h h'):=by
 refine bN gW rfl rfl ?_
 obtain⟨n,hn⟩:=exI (b-a)
 have en:(b:Int)-(a:Int)=(n:Int):=by omega
 have ed:((n:Int)- 1).tdiv 2=(((n- 1)/2+1:Nat):Int)- 1:=by
  by_cases h0:n=0
  ·subst h0;decide
  ·rw[Int.tdiv_eq_ediv_of_nonneg (by omega)];omega
 simp(disch:=omega)only[go_sem,gW,aF,en,ed]
 refine aI (λk' vars hh=> ∃(k:Nat) (e:Array Int),(∃g:Nat->V,vars= [.sl S 0 N cp,aB a,aB b,aB a,aB 0,aB n,aB ((k:Int)- 1),g 7,g 8,g 9])/\k<=n+1/\(k=1∨k<=n)/\dR hh S N e/\heapBuild ltInt n a k e=heapBuild ltInt n a ((n- 1)/2+1) d/\Fx (· =S) h hh/\k'=k) ((n- 1)/2+1)
  ⟨(n- 1)/2+1,d,aA rfl,by omega,by omega,A,rfl,Fx.refl _ h,rfl⟩ ?_
 clear A
 rintro k' vars h1 ⟨k,e,⟨g,rfl⟩,hk1,hk2,A,hR,F,hk⟩
 subst hk
 by_cases hlt:(0:Int)<=(k':Int)- 1
 ·have e1:=nL hlt
  obtain⟨m,rfl⟩: ∃m,k'=m+1:=⟨k'- 1,by omega⟩
  have e2:((m+1:Nat):Int)- 1=(m:Int):=by omega
  rw[e2] at e1
  rw[e2]
  simp(disch:=omega)only[go_sem,e1]
  refine (qE h1 S N m n a e cp hN A (by omega) (by omega)).mono ?_
  rintro _ h2 ⟨A2,F2⟩
  simp(disch:=omega)only[go_sem]
  exact⟨m,by omega,m,_,aA rfl,by omega,by omega,A2,hR,fX F F2,rfl⟩
 have e1:=jC hlt
 obtain rfl:k'=0:=by omega
 have hR:e=heapBuild ltInt n a ((n- 1)/2+1) d:=hR
 simp(disch:=omega)only[go_sem,e1]
 refine aI (λk' vars hh=> ∃(k:Nat) (e':Array Int),(∃g:Nat->V,vars= [.sl S 0 N cp,aB a,aB b,aB a,aB 0,aB n,g 6,aB ((k:Int)- 1),g 8,g 9])/\k<=n/\dR hh S N e'/\heapPop ltInt a k e'=heapPop ltInt a n e/\Fx (· =S) h hh/\k'=k) n
  ⟨n,e,aA rfl,by omega,A,rfl,F,rfl⟩ ?_
 clear A F hlt e1 hk1 hk2
 rintro k' vars h2 ⟨k,e',⟨g,rfl⟩,hk1,A,hP,F,hk⟩
 subst hk
 have sz:=A.size
 by_cases hlt:(0:Int)<=(k':Int)- 1
 ·have e1:=nL hlt
  obtain⟨m,rfl⟩: ∃m,k'=m+1:=⟨k'- 1,by omega⟩
  have e2:((m+1:Nat):Int)- 1=(m:Int):=by omega
  rw[e2] at e1
  rw[e2]
  have e3:(a:Int)+(m:Int)=((a+m:Nat):Int):=by omega
  have c1:=A.rd (i:=a+m) (by omega)
  have c2:=A.rd (i:=a) (by omega)
  simp(disch:=omega)only[go_sem,e1,e3,c1,c2,A.get,bP,bH]
  have W:=A.swap (i:=a) (j:=a+m) (nx:=h2.next+20) (by omega) rfl
  have s0:=qE _ S N 0 m a _ cp hN W.1 (by omega) (by omega)
  refine s0.mono ?_
  rintro _ h3 ⟨A3,F3⟩
  simp(disch:=omega)only[go_sem]
  exact⟨m,by omega,m,_,aA rfl,by omega,A3,hP,fX (fX F W.2) F3,rfl⟩
 have e1:=jC hlt
 obtain rfl:k'=0:=by omega
 simp(disch:=omega)only[go_sem,e1]
 have hP:e'=heapPop ltInt a n e:=hP
 have:heapSort ltInt d a b=e':=by unfold heapSort;rw[hn,hP,hR]
 rw[this]
 exact⟨A,F⟩
def QK (op:BinOp)(k:IntKind)(x y:V):Option V:=match x,y with
 | .int j a,.int _ b=>if j=k then Gd op k a b else none
 |_,_=>none
theorem Og (ρ:X->V)(h:H)(op:BinOp)(k:IntKind)(x y:X):cK ρ h (.shf op k x y)=(QK op k (ρ x) (ρ y)).map (·,h):=by
 simp only[cK,QK];cases ρ x<;>cases ρ y<;>try rfl
 simp only;split<;>rfl
theorem Ji (op:BinOp)(k j:IntKind)(a b:Int):QK op k (.int k a) (.int j b)=Gd op k a b:=by simp [QK]
theorem Tm (n:Int):0<=IntKind.u64.wrap n/\IntKind.u64.wrap n<18446744073709551616:=by
 unfold IntKind.wrap;simp only[IntKind.bits,IntKind.signed];have:=Int.emod_nonneg n (show (18446744073709551616:Int)≠0 by omega);have:=Int.emod_lt_of_pos n (show (0:Int)<18446744073709551616 by omega);simp;omega
theorem gE {n:Int}(h1:0<=n)(h2:n<18446744073709551616):IntKind.u64.wrap n=n:=by
 unfold IntKind.wrap;simp only[IntKind.bits,IntKind.signed];have:n%18446744073709551616=n:=Int.emod_eq_of_lt h1 h2;simp;exact this
theorem rY {n:Int}(h1:0<=n)(h2:n<256):IntKind.u8.wrap n=n:=by
 unfold IntKind.wrap;simp only[IntKind.bits,IntKind.signed];have:n%256=n:=Int.emod_eq_of_lt h1 h2;simp;exact this
theorem BI (a b:Int)(hb:0<=b): ∃y,Gd .shl .u64 a b=some (.int .u64 y)/\0<=y/\y<18446744073709551616:=by
 unfold Gd;rw[if_neg (by omega)];exact⟨_,rfl,Tm _⟩
theorem RB (a b:Int)(hb:0<=b): ∃y,Gd .shr .u64 a b=some (.int .u64 y):=by
 unfold Gd;rw[if_neg (by omega)];exact⟨_,rfl⟩
theorem DZ {x:Nat}:Gd .shr .u64 (x:Int) 8=some (.int .u64 ((x/256:Nat):Int)):=by
 unfold Gd;rw[if_neg (by omega)];simp only;congr 2;show Int.fdiv (x:Int) 256=_;rw[Int.fdiv_eq_ediv_of_nonneg _ (by omega)];rfl
theorem Rb (a b:Int): ∃y,arith .xor .u64 a b=some (.int .u64 y)/\0<=y/\y<18446744073709551616:=⟨_,rfl,Tm _⟩
theorem AL (a:Int)(b:Nat)(hb:b<18446744073709551616): ∃y:Nat,arith .and .u64 a (b:Int)=some (.int .u64 (y:Int))/\y<=b:=by
 refine⟨(BitVec.ofInt 64 a&&&BitVec.ofInt 64 (b:Int)).toNat,?_,?_⟩
 ·rw[GX]
  congr 2;show IntKind.u64.wrap (((BitVec.ofInt 64 a&&&BitVec.ofInt 64 (b:Int)).toNat:Nat):Int)=_;have:=(BitVec.ofInt 64 a&&&BitVec.ofInt 64 (b:Int)).isLt;generalize (BitVec.ofInt 64 a&&&BitVec.ofInt 64 (b:Int)).toNat=w at*;exact gE (by omega) (by omega)
 ·rw[BitVec.toNat_and]
  have:(BitVec.ofInt 64 (b:Int)).toNat=b:=by
   simp [BitVec.toNat_ofInt];omega
  rw[this];exact Nat.and_le_right
theorem JO: ∀z,z<256->([0,1,2,2,3,3,3,3,4,4,4,4,4,4,4,4,5,5,5,5,5,5,5,5,5,5,5,5,5,5,5,5,6,6,6,6,6,6,6,6,6,6,6,6,6,6,6,6,6,6,6,6,6,6,6,6,6,6,6,6,6,6,6,6,7,7,7,7,7,7,7,7,7,7,7,7,7,7,7,7,7,7,7,7,7,7,7,7,7,7,7,7,7,7,7,7,7,7,7,7,7,7,7,7,7,7,7,7,7,7,7,7,7,7,7,7,7,7,7,7,7,7,7,7,7,7,7,7,8,8,8,8,8,8,8,8,8,8,8,8,8,8,8,8,8,8,8,8,8,8,8,8,8,8,8,8,8,8,8,8,8,8,8,8,8,8,8,8,8,8,8,8,8,8,8,8,8,8,8,8,8,8,8,8,8,8,8,8,8,8,8,8,8,8,8,8,8,8,8,8,8,8,8,8,8,8,8,8,8,8,8,8,8,8,8,8,8,8,8,8,8,8,8,8,8,8,8,8,8,8,8,8,8,8,8,8,8,8,8,8,8,8,8,8,8,8,8,8,8,8,8,8,8,8,8,8][z]? :Option Nat)=some (bitsLen z):=by decide+kernel
theorem Zw {z:Nat}(hz:z<256):TG (.str [0,1,2,2,3,3,3,3,4,4,4,4,4,4,4,4,5,5,5,5,5,5,5,5,5,5,5,5,5,5,5,5,6,6,6,6,6,6,6,6,6,6,6,6,6,6,6,6,6,6,6,6,6,6,6,6,6,6,6,6,6,6,6,6,7,7,7,7,7,7,7,7,7,7,7,7,7,7,7,7,7,7,7,7,7,7,7,7,7,7,7,7,7,7,7,7,7,7,7,7,7,7,7,7,7,7,7,7,7,7,7,7,7,7,7,7,7,7,7,7,7,7,7,7,7,7,7,7,8,8,8,8,8,8,8,8,8,8,8,8,8,8,8,8,8,8,8,8,8,8,8,8,8,8,8,8,8,8,8,8,8,8,8,8,8,8,8,8,8,8,8,8,8,8,8,8,8,8,8,8,8,8,8,8,8,8,8,8,8,8,8,8,8,8,8,8,8,8,8,8,8,8,8,8,8,8,8,8,8,8,8,8,8,8,8,8,8,8,8,8,8,8,8,8,8,8,8,8,8,8,8,8,8,8,8,8,8,8,8,8,8,8,8,8,8,8,8,8,8,8,8,8,8,8,8,8]) (.int .u8 (z:Int))=some (.int .u8 ((bitsLen z:Nat):Int)):=by
 have hl:bitsLen z<=8:=(bitsLen_le_iff z 8).2 (by omega);have hb:=JO z hz;generalize ([0,1,2,2,3,3,3,3,4,4,4,4,4,4,4,4,5,5,5,5,5,5,5,5,5,5,5,5,5,5,5,5,6,6,6,6,6,6,6,6,6,6,6,6,6,6,6,6,6,6,6,6,6,6,6,6,6,6,6,6,6,6,6,6,7,7,7,7,7,7,7,7,7,7,7,7,7,7,7,7,7,7,7,7,7,7,7,7,7,7,7,7,7,7,7,7,7,7,7,7,7,7,7,7,7,7,7,7,7,7,7,7,7,7,7,7,7,7,7,7,7,7,7,7,7,7,7,7,8,8,8,8,8,8,8,8,8,8,8,8,8,8,8,8,8,8,8,8,8,8,8,8,8,8,8,8,8,8,8,8,8,8,8,8,8,8,8,8,8,8,8,8,8,8,8,8,8,8,8,8,8,8,8,8,8,8,8,8,8,8,8,8,8,8,8,8,8,8,8,8,8,8,8,8,8,8,8,8,8,8,8,8,8,8,8,8,8,8,8,8,8,8,8,8,8,8,8,8,8,8,8,8,8,8,8,8,8,8,8,8,8,8,8,8,8,8,8,8,8,8,8,8,8,8,8,8]:List Nat)=l at*;unfold TG;simp only;rw[if_pos (by omega),Int.toNat_natCast,hb];simp only[Option.map_some];rw[Nat.mod_eq_of_lt (by omega)]
theorem MP {x:Nat}(h:256<=x):bitsLen x=8+bitsLen (x/256):=by
 apply Nat.le_antisymm
 ·rw[bitsLen_le_iff,Nat.pow_add]
  have:=lt_two_pow_bitsLen (x/256);omega
 ·have h1:=lt_two_pow_bitsLen x
  have h2: ¬bitsLen x<=8:=λh3=>by rw[bitsLen_le_iff] at h3;omega
  obtain⟨k,hk⟩: ∃k,bitsLen x=8+k:=⟨bitsLen x- 8,by omega⟩
  rw[hk,Nat.pow_add] at h1;have:bitsLen (x/256)<=k:=(bitsLen_le_iff _ _).2 (by omega);omega
theorem OK (x:Nat)(h:H)(hx:x<65536):Ev T 138 [.int .u64 (x:Int)] h (λv h'=>v= aB (bitsLen x:Nat)/\h'=h):=by
 refine bN lH rfl rfl ?_;have e1:decide ((4294967296:Int)<=(x:Int))=false:=jC (by omega);have e2:decide ((65536:Int)<=(x:Int))=false:=jC (by omega)
 by_cases h3:256<=x
 ·have e3:decide ((256:Int)<=(x:Int))=true:=nL (by omega)
  have hb:=MP h3;have hl:bitsLen (x/256)<=8:=(bitsLen_le_iff _ 8).2 (by omega);simp(disch:=omega)only[go_sem,lH,aF,e1,e2,e3,Og,Ji,DZ,CC,Zw,rY];exact⟨by congr 1;omega,trivial⟩
 ·have e3:decide ((256:Int)<=(x:Int))=false:=jC (by omega)
  have hl:bitsLen x<=8:=(bitsLen_le_iff _ 8).2 (by omega);simp(disch:=omega)only[go_sem,lH,aF,e1,e2,e3,CC,Zw,rY];exact⟨by congr 1;omega,trivial⟩
theorem Ww (x:Nat)(h:H)(hx:x<65536):Ev T 112 [.int .u64 (x:Int)] h (λv h'=>v= aB (bitsLen x:Nat)/\h'=h):=by
 refine bN rD rfl rfl ?_;simp(disch:=omega)only[go_sem,rD,aF];refine (OK x h hx).mono ?_;rintro _ _ ⟨rfl,rfl⟩;simp(disch:=omega)only[go_sem]
theorem Zv (n:Nat)(h:H)(hx:n<65536):Ev T 169 [aB n] h (λv h'=>v= .int .u64 ((2^bitsLen n:Nat):Int)/\h'=h):=by
 refine bN jX rfl rfl ?_;have hl:bitsLen n<=16:=(bitsLen_le_iff _ 16).2 (by omega);have hp:2^bitsLen n<=2^16:=Nat.pow_le_pow_right (by omega) hl;obtain⟨m,hm⟩:=exI (2^bitsLen n);rw[hm] at hp ⊢
 have hs:Gd .shl .u64 1 ((bitsLen n:Nat):Int)=some (.int .u64 (m:Int)):=by
  unfold Gd;rw[if_neg (by omega)];simp only[Int.toNat_natCast,IntKind.bits];rw[Nat.min_eq_left (by omega)];have e:(1:Int)*2^bitsLen n=(m:Int):=by rw[Int.one_mul,←hm];push_cast;rfl
  rw[e,gE (by omega) (by omega)]
 simp(disch:=omega)only[go_sem,jX,aF,gE (n:=(n:Int)) (by omega) (by omega)];refine (Ww n h hx).mono ?_;rintro _ _ ⟨rfl,rfl⟩;simp(disch:=omega)only[go_sem,Og,Ji,hs]
theorem BZ (R:Nat)(x:Int)(h:H)(hx:h.get R=some (.cells false [.int .u64 x]))(hR:R<h.next):
  Ev T 170 [.ptr R 0] h (λv h'=> ∃y,v= .int .u64 y/\h'.get R=some (.cells false [.int .u64 y])/\Fx (· =R) h h'):=by
 refine bN kI rfl rfl ?_
 have cx:h.cell R 0=some (.int .u64 x):=by rw[H.aE hx];rfl
 obtain⟨a1,ha1,_⟩:=BI x 13 (by omega)
 obtain⟨x1,hx1,_⟩:=Rb x a1
 obtain⟨a2,ha2⟩:=RB x1 7 (by omega)
 obtain⟨x2,hx2,_⟩:=Rb x1 a2
 obtain⟨a3,ha3,_⟩:=BI x2 17 (by omega)
 obtain⟨x3,hx3,_⟩:=Rb x2 a3
 have pt: ∀(u w:Int) (hh:H),fI (some (.cells false [.int .u64 u])) hh R 0 [.int .u64 w]=some (hh.set R (some (.cells false [.int .u64 w]))):=λu w hh=>aX (by simp) hh R _
 simp(disch:=omega)only[go_sem,kI,aF,cx,Og,Ji,ha1,hx1,ha2,hx2,ha3,hx3,hx,pt]
 exact⟨x3,rfl,rfl,⟨by simp only[H.cW];omega,λid _ h2=>by
  rw[H.aH _ h2,H.oZ,H.aH _ h2,H.oZ,H.aH _ h2,H.oZ]⟩⟩
theorem dR.FO  {h h':H}{S N R:Nat}{d:Array Int}(A:dR h S N d)(f:Fx (· =R) h h')(hR:R≠S):dR h' S N d:=⟨by rw[f.get S A.lt (λe=>hR e.symm)];exact A.get,A.size,kY A.lt f.next⟩
theorem Bg  (h:H)(S N a b:Nat)(d:Array Int)(cp:qP)(hN:N<1000000)(A:dR h S N d)(hb:b<=N)(hab:a<b):
  Ev T 132 [.sl S 0 N cp,aB a,aB b] h (λ_ h'=>dR h' S N (reverseRange d a b)/\Fx (· =S) h h'):=by
 refine bN fP rfl rfl ?_
 have eb:(b:Int)- 1=((b- 1:Nat):Int):=by omega
 simp(disch:=omega)only[go_sem,fP,aF,eb]
 refine aI (λk' vars hh=> ∃(i j:Nat) (e:Array Int),(∃g:Nat->V,vars= [.sl S 0 N cp,aB a,aB b,aB i,aB j,g 5])/\j<b/\i<=b/\dR hh S N e/\reverseLoop i j e=reverseLoop a (b- 1) d/\Fx (· =S) h hh/\k'=j) (b- 1)
  ⟨a,b- 1,d,aA rfl,by omega,by omega,A,rfl,Fx.refl _ h,rfl⟩ ?_
 clear A
 rintro k' vars h1 ⟨i,j,e,⟨g,rfl⟩,hj,hi,A,hR,F,hk⟩
 subst hk
 have sz:=A.size
 rw[reverseLoop] at hR
 by_cases hlt:(i:Int)<(k':Int)
 ·have e1:=nL hlt
  rw[if_pos (by omega)] at hR
  have c1:=A.rd (i:=i) (by omega)
  have c2:=A.rd (i:=k') (by omega)
  simp(disch:=omega)only[go_sem,e1,c1,c2,A.get,bP,bH]
  have W:=A.swap (i:=i) (j:=k') (nx:=h1.next+16) (by omega) rfl
  rw[show (i:Int)+1=((i+1:Nat):Int) from by omega,show (k':Int)- 1=((k'- 1:Nat):Int) from by omega]
  exact⟨k'- 1,by omega,i+1,k'- 1,_,aA rfl,by omega,by omega,W.1,hR,fX F W.2,rfl⟩
 have e1:=jC hlt
 rw[if_neg (by omega)] at hR
 simp(disch:=omega)only[go_sem,e1]
 unfold reverseRange
 rw[←hR]
 exact⟨A,F⟩
theorem Jm (n:Nat){k:Int}{m:Nat}(hk:k=(m:Int)):(n:Int).tdiv k=((n/m:Nat):Int):=by
 rw[hk,Int.tdiv_eq_ediv_of_nonneg (by omega)];rfl
theorem Hs  (h:H)(S N a b:Nat)(d:Array Int)(cp:qP)(hN:N<60000)(A:dR h S N d)(hb:b<=N)(hab:a<=b):
  Ev T 130 [.sl S 0 N cp,aB a,aB b] h (λ_ h'=> ∃e,dR h' S N e/\PermIn a b d e/\Fx (· =S) h h'):=by
 refine bN dQ rfl rfl ?_
 obtain⟨n,hn⟩:=exI (b-a)
 have en:(b:Int)-(a:Int)=(n:Int):=by omega
 by_cases h8:(8:Int)<=(n:Int)
 case neg=>
  have e8:decide ((8:Int)<=(n:Int))=false:=decide_eq_false h8;simp(disch:=omega)only[go_sem,dQ,aF,en,e8];exact⟨d,A,permIn_refl d a b,Fx.refl _ h⟩
 have e8:decide ((8:Int)<=(n:Int))=true:=decide_eq_true h8
 have e4:=Jm n (k:=4) (m:=4) rfl
 obtain⟨q,hq⟩:=exI (n/4)
 rw[hq] at e4
 have ei:(a:Int)+(q:Int)*2- 1=((a+q*2- 1:Nat):Int):=by omega
 have ej:(a:Int)+(q:Int)*2+1=((a+q*2+1:Nat):Int):=by omega
 have hp:=two_pow_bitsLen_le (show 0<n by omega)
 have hp1:=lt_two_pow_bitsLen n
 obtain⟨m,hm⟩:=exI (2^bitsLen n)
 rw[hm] at hp hp1
 obtain⟨R,hR⟩:=exI h.next
 have hRS:R≠S:=by have:=A.lt;omega
 have pt0: ∀hh:H,fI (bZ [.int .u64 0]) hh R 0 [.int .u64 (n:Int)]=some (hh.set R (bZ [.int .u64 (n:Int)])):=λhh=>aX (by simp) hh R _
 have gnew:(h.new (.cells false [.int .u64 0])).get R=bZ [.int .u64 0]:=by rw[←hR,H.aL]
 simp(disch:=omega)only[go_sem,dQ,aF,en,e8,hR,gE (n:=(n:Int)) (by omega) (by omega),gnew,pt0]
 obtain⟨h1,h1e⟩: ∃h1,h1=(h.new (.cells false [.int .u64 0])).set R (bZ [.int .u64 (n:Int)]):=⟨_,rfl⟩
 rw[←h1e]
 have g1:h1.get R=bZ [.int .u64 (n:Int)]:=by rw[h1e,H.aT]
 have n1:h1.next=R+1:=by rw[h1e,H.cW,H.aV,hR]
 have f1:Fr h h1:=by rw[h1e];exact ((Fr.refl h).new _).set (by omega) _
 clear h1e
 refine (Zv n h1 (by omega)).mono ?_
 rintro _ h1' ⟨rfl,hh⟩
 rw[hh,hm]
 simp(disch:=omega)only[go_sem,e4,ei]
 refine aI (λk' vars hh=> ∃(i:Nat) (e:Array Int) (x:Int),(∃g:Nat->V,vars= [.sl S 0 N cp,aB a,aB b,aB n,.ptr R 0,.int .u64 (m:Int),aB i,g 7,g 8,g 9,g 10])/\a<=i/\i<=a+q*2+2/\dR hh S N e/\PermIn a b d e/\hh.get R=bZ [.int .u64 x]/\R<hh.next/\Fx (· =S) h hh/\k'=a+q*2+2-i) (a+q*2+2-(a+q*2- 1))
  ⟨a+q*2- 1,d,_,aA rfl,by omega,by omega,A.fr f1,permIn_refl d a b,g1,by omega,Fx.of f1,rfl⟩ ?_
 clear A g1 n1 f1 hh h1
 rintro k' vars h1 ⟨i,e,x,⟨g,rfl⟩,hi1,hi2,A,hP,gR,nR,F,rfl⟩
 by_cases hlt:(i:Int)<=((a+q*2+1:Nat):Int)
 case neg=>
  have e1:decide ((i:Int)<=((a+q*2+1:Nat):Int))=false:=decide_eq_false hlt;simp(disch:=omega)only[go_sem,e4,ej,e1];exact⟨e,A,hP,F⟩
 have e1:decide ((i:Int)<=((a+q*2+1:Nat):Int))=true:=decide_eq_true hlt
 simp(disch:=omega)only[go_sem,e4,ej,e1]
 refine (BZ R x h1 gR nR).mono ?_
 rintro _ h2 ⟨y,rfl,gR2,F2⟩
 have A2:=A.FO F2 hRS
 obtain⟨w,hw,hwm⟩:=AL y (m- 1) (by omega)
 have em:(m:Int)- 1=((m- 1:Nat):Int):=by omega
 have sz:=A2.size
 have F2':Fx (· =S) h h2:=⟨Nat.le_trans F.next F2.next,λid h3 h4=>(F2.get id (kY h3 F.next) (λe=>by have:id=R:=e;omega)).trans (F.get id h3 h4)⟩
 have nR2:R<h2.next:=kY nR F2.next
 by_cases hge:(n:Int)<=(w:Int)
 ·have e2:decide ((n:Int)<=(w:Int))=true:=decide_eq_true hge
  have e3:(w:Int)-(n:Int)=((w-n:Nat):Int):=by omega
  have e5:(a:Int)+((w-n:Nat):Int)=((a+(w-n):Nat):Int):=by omega
  have c1:=A2.rd (i:=i) (by omega)
  have c2:=A2.rd (i:=a+(w-n)) (by omega)
  simp(disch:=omega)only[go_sem,em,gE (n:=((m- 1:Nat):Int)) (by omega) (by omega),hw,e2,e3,e5,c1,c2,A2.get,bP,bH]
  have W:=A2.swap (i:=i) (j:=a+(w-n)) (nx:=h2.next+20) (by omega) rfl
  rw[iJ i]
  refine⟨a+q*2+2-(i+1),by omega,i+1,_,y,aA rfl,by omega,by omega,W.1,permIn_trans _ _ _ a b hP (swp_permIn e a b i (a+(w-n)) hi1 (by omega) (by omega) (by omega) (by omega)),?_,kY nR2 W.2.next,fX F2' W.2,rfl⟩
  exact gR2
 ·have e2:decide ((n:Int)<=(w:Int))=false:=decide_eq_false hge
  have e5:(a:Int)+(w:Int)=((a+w:Nat):Int):=by omega
  have c1:=A2.rd (i:=i) (by omega)
  have c2:=A2.rd (i:=a+w) (by omega)
  simp(disch:=omega)only[go_sem,em,gE (n:=((m- 1:Nat):Int)) (by omega) (by omega),hw,e2,e5,c1,c2,A2.get,bP,bH]
  have W:=A2.swap (i:=i) (j:=a+w) (nx:=h2.next+20) (by omega) rfl
  rw[iJ i]
  refine⟨a+q*2+2-(i+1),by omega,i+1,_,y,aA rfl,by omega,by omega,W.1,permIn_trans _ _ _ a b hP (swp_permIn e a b i (a+w) hi1 (by omega) (by omega) (by omega) (by omega)),?_,kY nR2 W.2.next,fX F2' W.2,rfl⟩
  exact gR2
structure Xa (h h':H)(R:Nat):Prop where
 get: ∃s,h'.get R=bZ [aB s]
 fx:Fx (· =R) h h'
theorem Xa.trans {a b c:H}{R:Nat}(x:Xa a b R)(y:Xa b c R):Xa a c R:=⟨y.get,x.fx.trans y.fx λ_ _ h=>h⟩
theorem pD  (h:H)(S N a b R:Nat)(d:Array Int)(cp:qP)(hN:N<1000000)(A:dR h S N d)(ha:a<N)(hb:b<N)(hR:R≠S)(hRn:R<h.next)(s:Int)(gR:h.get R=bZ [aB s]):
  Ev T 186 [.sl S 0 N cp,aB a,aB b,.ptr R 0] h (λv h'=>(v= .tup [aB a,aB b]∨v= .tup [aB b,aB a])/\Xa h h' R):=by
 refine bN iO rfl rfl ?_
 have c1:=A.rd (i:=a) (by omega)
 have c2:=A.rd (i:=b) (by omega)
 simp(disch:=omega)only[go_sem,iO,aF,c1,c2]
 refine (gY _ _ _).mono ?_
 rintro _ h2 ⟨rfl,fh2⟩
 have f2:Fr h h2:=Fr.trans ((Fr.refl h).bJ (by omega)) fh2
 have gR2:h2.get R=bZ [aB s]:=by rw[f2.get R hRn];exact gR
 cases hl:ltInt d[b]! d[a]! with
 |false=>
  simp(disch:=omega)only[go_sem,hl];exact⟨.inl trivial,⟨s,gR2⟩,Fx.of f2⟩
 |true=>
  have cR:h2.cell R 0=some (aB s):=by rw[H.aE gR2];rfl
  have pt: ∀(w:Int) (hh:H),fI (bZ [aB s]) hh R 0 [aB w]=some (hh.set R (bZ [aB w])):=λw hh=>aX (by simp) hh R _
  simp(disch:=omega)only[go_sem,hl,cR,gR2,pt];exact⟨.inr trivial,⟨_,by rw[H.aT]⟩,(Fx.of (W:=(· =R)) f2).trans (Fx.set h2 (W:=(· =R)) rfl _) (λ_ _ h=>h)⟩
theorem vJ  (h:H)(S N a b c R:Nat)(d:Array Int)(cp:qP)(hN:N<1000000)(A:dR h S N d)(ha:a<N)(hb:b<N)(hc:c<N)(hR:R≠S)(hRn:R<h.next)(s:Int)(gR:h.get R=bZ [aB s]):
  Ev T 172 [.sl S 0 N cp,aB a,aB b,aB c,.ptr R 0] h (λv h'=>(∃m,v= aB (m:Nat)/\(m=a∨m=b∨m=c))/\Xa h h' R):=by
 refine bN iN rfl rfl ?_
 simp(disch:=omega)only[go_sem,iN,aF]
 refine (pD h S N a b R d cp hN A ha hb hR hRn s gR).mono ?_
 rintro v1 h1 ⟨hv1,C1⟩
 obtain⟨x1,y1,rfl,hx1,hy1,hxy1⟩: ∃x y,v1= .tup [aB (x:Nat),aB (y:Nat)]/\x<N/\y<N/\((x=a∨x=b)/\(y=a∨y=b)):=by
  rcases hv1 with rfl|rfl
  ·exact⟨a,b,rfl,ha,hb,.inl rfl,.inr rfl⟩
  ·exact⟨b,a,rfl,hb,ha,.inr rfl,.inl rfl⟩
 have A1:=A.FO C1.fx hR
 obtain⟨s1,g1⟩:=C1.get
 have n1:=kY hRn C1.fx.next
 simp(disch:=omega)only[go_sem]
 refine (pD h1 S N y1 c R d cp hN A1 hy1 hc hR n1 s1 g1).mono ?_
 rintro v2 h2 ⟨hv2,C2⟩
 obtain⟨x2,y2,rfl,hx2,hxy2⟩: ∃x y,v2= .tup [aB (x:Nat),aB (y:Nat)]/\x<N/\(x=y1∨x=c):=by
  rcases hv2 with rfl|rfl
  ·exact⟨y1,c,rfl,hy1,.inl rfl⟩
  ·exact⟨c,y1,rfl,hc,.inr rfl⟩
 have A2:=A1.FO C2.fx hR
 obtain⟨s2,g2⟩:=C2.get
 have n2:=kY n1 C2.fx.next
 simp(disch:=omega)only[go_sem]
 refine (pD h2 S N x1 x2 R d cp hN A2 hx1 hx2 hR n2 s2 g2).mono ?_
 rintro v3 h3 ⟨hv3,C3⟩
 have C:=(C1.trans C2).trans C3
 rcases hv3 with rfl|rfl
 ·simp(disch:=omega)only[go_sem]
  exact⟨⟨x2,rfl,by omega⟩,C⟩
 ·simp(disch:=omega)only[go_sem]
  exact⟨⟨x1,rfl,by omega⟩,C⟩
theorem mX  (h:H)(S N a R:Nat)(d:Array Int)(cp:qP)(hN:N<1000000)(A:dR h S N d)(h0:0<a)(ha:a+1<N)(hR:R≠S)(hRn:R<h.next)(s:Int)(gR:h.get R=bZ [aB s]):
  Ev T 171 [.sl S 0 N cp,aB a,.ptr R 0] h (λv h'=>(∃m,v= aB (m:Nat)/\(m=a- 1∨m=a∨m=a+1))/\Xa h h' R):=by
 refine bN fH rfl rfl ?_
 have e1:(a:Int)- 1=((a- 1:Nat):Int):=by omega
 have e2:(a:Int)+1=((a+1:Nat):Int):=by omega
 simp(disch:=omega)only[go_sem,fH,aF,e1,e2]
 refine (vJ h S N (a- 1) a (a+1) R d cp hN A (by omega) (by omega) (by omega) hR hRn s gR).mono ?_
 rintro _ h2 ⟨⟨m,rfl,hm⟩,C⟩
 simp(disch:=omega)only[go_sem]
 exact⟨⟨m,rfl,hm⟩,C⟩
theorem Kp  (h:H)(S N a b:Nat)(d:Array Int)(cp:qP)(hN:N<1000000)(A:dR h S N d)(hb:b<=N)(hab:a<b):
  Ev T 131 [.sl S 0 N cp,aB a,aB b] h (λv h'=> ∃(p:Nat) (t:Int),v= .tup [aB p,aB t]/\a<=p/\p<b/\Fr h h'):=by
 refine bN dC rfl rfl ?_
 obtain⟨n,hn⟩:=exI (b-a)
 have en:(b:Int)-(a:Int)=(n:Int):=by omega
 have e4:=Jm n (k:=4) (m:=4) rfl
 obtain⟨q,hq⟩:=exI (n/4)
 rw[hq] at e4
 have ei:(a:Int)+(q:Int)*1=((a+q:Nat):Int):=by omega
 have ej:(a:Int)+(q:Int)*2=((a+q*2:Nat):Int):=by omega
 have ek:(a:Int)+(q:Int)*3=((a+q*3:Nat):Int):=by omega
 obtain⟨R,hR⟩:=exI h.next
 have hRS:R≠S:=by have:=A.lt;omega
 obtain⟨h1,h1e⟩: ∃h1,h1=h.new (.cells false [aB 0]):=⟨_,rfl⟩
 have g1:h1.get R=bZ [aB 0]:=by rw[h1e,←hR,H.aL]
 have n1:h1.next=R+1:=by rw[h1e,H.aV,hR]
 have f1:Fr h h1:=by rw[h1e];exact (Fr.refl h).new _
 have A1:=A.fr f1
 have fin: ∀(p:Nat) (h2:H),a<=p->p<b->Fx (· =R) h1 h2->a<=p/\p<b/\Fr h h2:=λp h2 x1 x2 x3=>⟨x1,x2,Nat.le_trans f1.next x3.next,λid hid=>(x3.get id (by omega) (λe=>by have:id=R:=e;omega)).trans (f1.get id hid)⟩
 by_cases h8:(8:Int)<=(n:Int)
 case neg=>
  have e8:decide ((8:Int)<=(n:Int))=false:=decide_eq_false h8;simp(disch:=omega)only[go_sem,dC,aF,en,e4,ei,ej,ek,e8];rw[←h1e];have cR:h1.cell R 0=some (aB 0):=by rw[H.aE g1];rfl
  simp(disch:=omega)only[go_sem,hR,cR];refine aZ (λ_=>?_) (λhc=>(hc (by trivial)).elim);simp(disch:=omega)only[go_sem];exact⟨a+q*2,1,rfl,fin _ _ (by omega) (by omega) (Fx.refl _ _)⟩
 have e8:decide ((8:Int)<=(n:Int))=true:=decide_eq_true h8
 have last: ∀(i j k:Nat) (h2:H) (s2:Int),a<=i->i<b->a<=j->j<b->a<=k->k<b->dR h2 S N d->h2.get R=bZ [aB s2]->R<h2.next->Fx (· =R) h1 h2->
   Ev T 172 [.sl S 0 N cp,aB i,aB j,aB k,.ptr R 0] h2 (λv h'=> ∃p s3,v= aB (p:Nat)/\a<=p/\p<b/\h'.get R=bZ [aB s3]/\Fr h h'):=by
  intro i j k h2 s2 i1 i2 j1 j2 k1 k2 A2 g2 n2 F2
  refine (vJ h2 S N i j k R d cp hN A2 (by omega) (by omega) (by omega) hRS n2 s2 g2).mono ?_
  rintro _ h3 ⟨⟨p,rfl,hp⟩,⟨s3,g3⟩,F3⟩
  exact⟨p,s3,rfl,by omega,by omega,g3,(fin p h3 (by omega) (by omega) (F2.trans F3 λ_ _ h=>h)).2.2⟩
 by_cases h50:(50:Int)<=(n:Int)
 case neg=>
  have e50:decide ((50:Int)<=(n:Int))=false:=decide_eq_false h50;simp(disch:=omega)only[go_sem,dC,aF,en,e4,ei,ej,ek,e8,e50];rw[←h1e];simp(disch:=omega)only[go_sem,hR];refine (last (a+q) (a+q*2) (a+q*3) h1 0 (by omega) (by omega) (by omega) (by omega) (by omega) (by omega) A1 g1 (by omega) (Fx.refl _ _)).mono ?_;rintro _ h3 ⟨p,s3,rfl,p1,p2,g3,f3⟩;have cR:h3.cell R 0=some (aB s3):=by rw[H.aE g3];rfl
  simp(disch:=omega)only[go_sem,cR];refine aZ (λ_=>?_) (λ_=>?_)
  ·simp(disch:=omega)only[go_sem]
   exact⟨p,1,rfl,p1,p2,f3⟩
  ·simp(disch:=omega)only[go_sem]
   refine aZ (λ_=>?_) (λ_=>?_)
   ·simp(disch:=omega)only[go_sem]
    exact⟨p,2,rfl,p1,p2,f3⟩
   ·simp(disch:=omega)only[go_sem]
    exact⟨p,0,rfl,p1,p2,f3⟩
 have e50:decide ((50:Int)<=(n:Int))=true:=decide_eq_true h50
 simp(disch:=omega)only[go_sem,dC,aF,en,e4,ei,ej,ek,e8,e50]
 rw[←h1e]
 simp(disch:=omega)only[go_sem,hR]
 refine (mX h1 S N (a+q) R d cp hN A1 (by omega) (by omega) hRS (by omega) 0 g1).mono ?_
 rintro _ h2 ⟨⟨i,rfl,hi⟩,⟨s2,g2⟩,F2⟩
 have A2:=A1.FO F2 hRS
 have n2:=F2.next
 simp(disch:=omega)only[go_sem]
 refine (mX h2 S N (a+q*2) R d cp hN A2 (by omega) (by omega) hRS (by omega) s2 g2).mono ?_
 rintro _ h3 ⟨⟨j,rfl,hj⟩,⟨s3,g3⟩,F3⟩
 have A3:=A2.FO F3 hRS
 have n3:=F3.next
 simp(disch:=omega)only[go_sem]
 refine (mX h3 S N (a+q*3) R d cp hN A3 (by omega) (by omega) hRS (by omega) s3 g3).mono ?_
 rintro _ h4 ⟨⟨k,rfl,hk⟩,⟨s4,g4⟩,F4⟩
 have A4:=A3.FO F4 hRS
 have n4:=F4.next
 simp(disch:=omega)only[go_sem]
 refine (last i j k h4 s4 (by omega) (by omega) (by omega) (by omega) (by omega) (by omega) A4 g4 (by omega) ((F2.trans F3 λ_ _ h=>h).trans F4 λ_ _ h=>h)).mono ?_
 rintro _ h3 ⟨p,s3,rfl,p1,p2,g3,f3⟩
 have cR:h3.cell R 0=some (aB s3):=by rw[H.aE g3];rfl
 simp(disch:=omega)only[go_sem,cR]
 refine aZ (λ_=>?_) (λ_=>?_)
 ·simp(disch:=omega)only[go_sem]
  exact⟨p,1,rfl,p1,p2,f3⟩
 ·simp(disch:=omega)only[go_sem]
  refine aZ (λ_=>?_) (λ_=>?_)
  ·simp(disch:=omega)only[go_sem]
   exact⟨p,2,rfl,p1,p2,f3⟩
  ·simp(disch:=omega)only[go_sem]
   exact⟨p,0,rfl,p1,p2,f3⟩
section
variable {lt:Int->Int->Bool} {j b:Nat} {d:Array Int}
theorem KH (h:lt d[j+1]! d[j]! =true):shiftDown lt (j+1) d=shiftDown lt j (swp d (j+1) j):=by rw[shiftDown,if_neg (by simp [h])]
theorem JC (h:lt d[j+1]! d[j]! =false):shiftDown lt (j+1) d=d:=by rw[shiftDown,if_pos (by simp [h])]
theorem LX (hj:j<b)(h:lt d[j]! d[j- 1]! =true):shiftUp lt b j d=shiftUp lt b (j+1) (swp d j (j- 1)):=by rw[shiftUp,if_pos hj,if_neg (by simp [h])]
theorem KP (hj:j<b)(h:lt d[j]! d[j- 1]! =false):shiftUp lt b j d=d:=by rw[shiftUp,if_pos hj,if_pos (by simp [h])]
theorem KK {i:Nat}(hi:i<b)(h:lt d[i]! d[i- 1]! =false):scanSorted lt d b i=scanSorted lt d b (i+1):=by rw[scanSorted,if_pos (by simp [h,hi])]
theorem Un {i:Nat}(h: ¬(i<b/\lt d[i]! d[i- 1]! =false)):scanSorted lt d b i=i:=by rw[scanSorted,if_neg (by simpa using h)]
theorem Qm (lt:Int->Int->Bool)(a b s i:Nat)(d:Array Int):partialIns lt a b (s+1) i d=if scanSorted lt d b i=b then (d,true) else if b-a<50 then (d,false) else
  partialIns lt a b s (scanSorted lt d b i) (if b-scanSorted lt d b i≥2 then shiftUp lt b (scanSorted lt d b i+1) (if scanSorted lt d b i-a≥2 then shiftDown lt (scanSorted lt d b i- 1) (swp d (scanSorted lt d b i) (scanSorted lt d b i- 1)) else swp d (scanSorted lt d b i) (scanSorted lt d b i- 1)) else
   (if scanSorted lt d b i-a≥2 then shiftDown lt (scanSorted lt d b i- 1) (swp d (scanSorted lt d b i) (scanSorted lt d b i- 1)) else swp d (scanSorted lt d b i) (scanSorted lt d b i- 1))):=by rw[partialIns]
theorem Aq (h:H)(S N a b:Nat)(d:Array Int)(cp:qP)(hN:N<1000000)(A:dR h S N d)(hb:b<=N)(hab:a<b):
  Ev T 133 [.sl S 0 N cp,aB a,aB b] h (λv h'=>v= .bool (partialInsertionSort ltInt d a b).2/\dR h' S N (partialInsertionSort ltInt d a b).1/\Fx (· =S) h h'):=by
 refine bN dV rfl rfl ?_
 simp(disch:=omega)only[go_sem,dV,aF]
 rw[iJ a]
 refine aI (λk' vars hh=> ∃(s i:Nat) (e:Array Int),(∃g:Nat->V,vars= [.sl S 0 N cp,aB a,aB b,g 3,aB i,aB (5-(s:Int)),g 6,g 7,g 8,g 9,g 10,g 11,g 12,g 13,g 14,g 15,g 16,g 17])/\s<=5/\a<i/\i<=b/\dR hh S N e/\partialIns ltInt a b s i e=partialInsertionSort ltInt d a b/\Fx (· =S) h hh/\k'=s) 5
  ⟨5,a+1,d,aA rfl,by omega,by omega,by omega,A,rfl,Fx.refl _ h,rfl⟩ ?_
 clear A
 rintro k' vars h1 ⟨s,i,e,⟨g,rfl⟩,hs,hi1,hi2,A,hR,F,hk⟩
 subst hk
 by_cases hlt:(5:Int)-(k':Int)<5
 case neg=>
  have e1:=jC hlt;obtain rfl:k'=0:=by omega
  simp(disch:=omega)only[go_sem,e1];have hR:(e,false)=partialInsertionSort ltInt d a b:=hR;rw[←hR];exact⟨rfl,A,F⟩
 have e1:=nL hlt
 obtain⟨s,rfl⟩: ∃s,k'=s+1:=⟨k'- 1,by omega⟩
 simp(disch:=omega)only[go_sem,e1]
 rw[Qm] at hR
 refine aI (λk' vars hh=> ∃(m:Nat),(∃g:Nat->V,vars= [.sl S 0 N cp,aB a,aB b,g 3,aB m,aB (5-((s+1:Nat):Int)),g 6,g 7,g 8,g 9,g 10,g 11,g 12,g 13,g 14,g 15,g 16,g 17])/\a<m/\m<=b/\dR hh S N e/\scanSorted ltInt e b m=scanSorted ltInt e b i/\Fx (· =S) h hh/\k'=b-m) (b-i)
  ⟨i,aA rfl,hi1,hi2,A,rfl,F,rfl⟩ ?_
 clear A F hlt e1
 rintro k' vars h2 ⟨m,⟨g,rfl⟩,hm1,hm2,A,hS,F,rfl⟩
 have sz:=A.size
 have em1:(m:Int)- 1=((m- 1:Nat):Int):=by omega
 have eM1:(m:Int)+1=((m+1:Nat):Int):=by omega
 by_cases hmb:(m:Int)<(b:Int)
 case neg=>
  have e1:decide ((m:Int)<(b:Int))=false:=decide_eq_false hmb;have em:m=b:=by omega
  rw[Un (by omega)] at hS;rw[←hS,if_pos em] at hR;have e2:decide ((m:Int)=(b:Int))=true:=nL (by omega);simp(disch:=omega)only[go_sem,e1,e2];rw[←hR];exact⟨rfl,A.fr ((Fr.refl h2).bJ (by omega)),fX F (Fx.of ((Fr.refl h2).bJ (by omega)))⟩
 have e1:decide ((m:Int)<(b:Int))=true:=decide_eq_true hmb
 have c1:=A.rd (i:=m) (by omega)
 have c2:=A.rd (i:=m- 1) (by omega)
 simp(disch:=omega)only[go_sem,e1,em1,c1,c2]
 refine (gY _ _ _).mono ?_
 rintro _ h3 ⟨rfl,fh3⟩
 have f3':Fr h2 h3:=Fr.trans ((Fr.refl h2).bJ (by omega)) fh3
 have A3:=A.fr f3'
 have F3:=fX F (Fx.of f3')
 cases hl:ltInt e[m]! e[m- 1]! with
 |false=>
  rw[KK (by omega) hl] at hS;simp(disch:=omega)only[go_sem,hl,eM1];exact⟨b-(m+1),by omega,m+1,aA rfl,by omega,by omega,A3,hS,F3,rfl⟩
 |true=>
  rw[Un (by rw[hl];simp)] at hS;rw[←hS,if_neg (by omega)] at hR;have e2:decide ((m:Int)=(b:Int))=false:=jC (by omega)
  by_cases h50:(b:Int)-(a:Int)<50
  ·have e50:decide ((b:Int)-(a:Int)<50)=true:=decide_eq_true h50
   rw[if_pos (by omega)] at hR;simp(disch:=omega)only[go_sem,hl,e2,e50];rw[←hR];exact⟨rfl,A3,F3⟩
  have e50:decide ((b:Int)-(a:Int)<50)=false:=decide_eq_false h50;rw[if_neg (by omega)] at hR;have c1:=A3.rd (i:=m) (by omega);have c2:=A3.rd (i:=m- 1) (by omega);simp(disch:=omega)only[go_sem,hl,e2,e50,em1,c1,c2,A3.get,bP,bH];have W:=A3.swap (i:=m) (j:=m- 1) (nx:=h3.next+18) (by omega) rfl
  obtain⟨h4,h4e⟩: ∃h4,h4=((H.mk h3.tr (h3.next+18)).set S (bZ (ints (e.setIfInBounds m e[m- 1]!).toList))).set S (bZ (ints ((e.setIfInBounds m e[m- 1]!).setIfInBounds (m- 1) e[m]!).toList)):=⟨_,rfl⟩
  rw[←h4e] at W ⊢;obtain⟨A4,F4⟩:=W;have F4':=fX F3 F4;clear h4e F4 A3 F3 f3' fh3 c1 c2;obtain⟨e4,he4⟩:=exI (swp e m (m- 1));rw[he4] at A4 hR;refine pN (λvs h5=> ∃e5,(∃g:Nat->V,vs= [.sl S 0 N cp,aB a,aB b,g 3,aB m,aB (5-((s+1:Nat):Int)),g 6,g 7,g 8,g 9,g 10,g 11,g 12,g 13,g 14,g 15,g 16,g 17])/\dR h5 S N e5/\e5=(if m-a≥2 then shiftDown ltInt (m- 1) e4 else e4)/\Fx (· =S) h h5) ?_ ?_
  ·refine aZ (λh2=>?_) (λh2=>?_)
   ·simp(disch:=omega)only[go_sem,em1]
    refine aI (λk' vars hh=> ∃(j:Nat) (x:Array Int),(∃g:Nat->V,vars= [.sl S 0 N cp,aB a,aB b,g 3,aB m,aB (5-((s+1:Nat):Int)),aB j,g 7,g 8,g 9,g 10,g 11,g 12,g 13,g 14,g 15,g 16,g 17])/\j<b/\dR hh S N x/\shiftDown ltInt j x=shiftDown ltInt (m- 1) e4/\Fx (· =S) h hh/\k'=j) (m- 1)
     ⟨m- 1,e4,aA rfl,by omega,A4,rfl,F4',rfl⟩ ?_
    rintro k' vars h5 ⟨j,x,⟨g,rfl⟩,hj,A5,hD,F5,hk⟩;subst hk;have sz5:=A5.size
    by_cases h1:(1:Int)<=(k':Int)
    ·have e1:decide ((1:Int)<=(k':Int))=true:=decide_eq_true h1
     obtain⟨q,rfl⟩: ∃q,k'=q+1:=⟨k'- 1,by omega⟩
     have eq1:((q+1:Nat):Int)- 1=(q:Int):=by omega
     have c1:=A5.rd (i:=q+1) (by omega);have c2:=A5.rd (i:=q) (by omega);simp(disch:=omega)only[go_sem,e1,eq1,c1,c2];refine (gY _ _ _).mono ?_;rintro _ h6 ⟨rfl,fh6⟩;have f6:Fr h5 h6:=Fr.trans ((Fr.refl h5).bJ (by omega)) fh6;have A6:=A5.fr f6;have F6:=fX F5 (Fx.of f6)
     cases hl:ltInt x[q+1]! x[q]! with
     |false=>
      rw[JC hl] at hD;simp(disch:=omega)only[go_sem,hl];exact .inl ⟨x,aA rfl,A6,by rw[if_pos (by omega),←hD],F6⟩
     |true=>
      rw[KH hl] at hD;have c1:=A6.rd (i:=q+1) (by omega);have c2:=A6.rd (i:=q) (by omega);simp(disch:=omega)only[go_sem,hl,eq1,c1,c2,A6.get,bP,bH];have W:=A6.swap (i:=q+1) (j:=q) (nx:=h6.next+18) (by omega) rfl;exact⟨q,by omega,q,_,aA rfl,by omega,W.1,hD,fX F6 W.2,rfl⟩
    ·have e1:decide ((1:Int)<=(k':Int))=false:=decide_eq_false h1
     obtain rfl:k'=0:=by omega
     simp(disch:=omega)only[go_sem,e1];have hD:x=shiftDown ltInt (m- 1) e4:=hD;exact .inl ⟨x,aA rfl,A5,by rw[if_pos (by omega),←hD],F5⟩
   ·simp(disch:=omega)only[go_sem]
    exact .inl ⟨e4,aA rfl,A4,by rw[if_neg (by omega)],F4'⟩
  ·rintro vars h5 ⟨e5,⟨g,rfl⟩,A5,he5,F5⟩
   rw[←he5] at hR;clear A4 F4' he5 he4;simp(disch:=omega)only[go_sem];have e55:(5:Int)-((s+1:Nat):Int)+1=5-(s:Int):=by omega
   refine aZ (λh2=>?_) (λh2=>?_)
   ·rw[if_pos (by omega)] at hR
    simp(disch:=omega)only[go_sem,eM1];refine aI (λk' vars hh=> ∃(j:Nat) (x:Array Int),(∃g:Nat->V,vars= [.sl S 0 N cp,aB a,aB b,g 3,aB m,aB (5-((s+1:Nat):Int)),g 6,aB j,g 8,g 9,g 10,g 11,g 12,g 13,g 14,g 15,g 16,g 17])/\0<j/\j<=b/\dR hh S N x/\shiftUp ltInt b j x=shiftUp ltInt b (m+1) e5/\Fx (· =S) h hh/\k'=b-j) (b-(m+1))
     ⟨m+1,e5,aA rfl,by omega,by omega,A5,rfl,F5,rfl⟩ ?_
    rintro k' vars h6 ⟨j,x,⟨g,rfl⟩,hj0,hj,A6,hU,F6,rfl⟩;have sz6:=A6.size
    by_cases h1:(j:Int)<(b:Int)
    ·have e1:decide ((j:Int)<(b:Int))=true:=decide_eq_true h1
     have ej1:(j:Int)- 1=((j- 1:Nat):Int):=by omega
     have eJ1:(j:Int)+1=((j+1:Nat):Int):=by omega
     have c1:=A6.rd (i:=j) (by omega);have c2:=A6.rd (i:=j- 1) (by omega);simp(disch:=omega)only[go_sem,e1,ej1,c1,c2];refine (gY _ _ _).mono ?_;rintro _ h7 ⟨rfl,fh7⟩;have f7:Fr h6 h7:=Fr.trans ((Fr.refl h6).bJ (by omega)) fh7;have A7:=A6.fr f7;have F7:=fX F6 (Fx.of f7)
     cases hl:ltInt x[j]! x[j- 1]! with
     |false=>
      rw[KP (by omega) hl] at hU;rw[←hU] at hR;simp(disch:=omega)only[go_sem,hl,e55];exact⟨s,by omega,s,m,x,aA rfl,by omega,by omega,by omega,A7,hR,F7,rfl⟩
     |true=>
      rw[LX (by omega) hl] at hU;have c1:=A7.rd (i:=j) (by omega);have c2:=A7.rd (i:=j- 1) (by omega);simp(disch:=omega)only[go_sem,hl,ej1,eJ1,c1,c2,A7.get,bP,bH];have W:=A7.swap (i:=j) (j:=j- 1) (nx:=h7.next+18) (by omega) rfl;exact⟨b-(j+1),by omega,j+1,_,aA rfl,by omega,by omega,W.1,hU,fX F7 W.2,rfl⟩
    ·have e1:decide ((j:Int)<(b:Int))=false:=decide_eq_false h1
     rw[shiftUp,if_neg (by omega)] at hU;rw[←hU] at hR;simp(disch:=omega)only[go_sem,e1,e55];exact⟨s,by omega,s,m,x,aA rfl,by omega,by omega,by omega,A6,hR,F6,rfl⟩
   ·rw[if_neg (by omega)] at hR
    simp(disch:=omega)only[go_sem,e55];exact⟨s,by omega,s,m,e5,aA rfl,by omega,by omega,by omega,A5,hR,F5,rfl⟩
end
section
variable {p:Int->Bool} {d:Array Int} {j i:Nat}
theorem Ce (h1:i<=j)(h2:p d[i]! =true):scanUp p d j i=scanUp p d j (i+1):=by rw[scanUp,if_pos (by simp [h1,h2])]
theorem qG (h: ¬(i<=j/\p d[i]! =true)):scanUp p d j i=i:=by rw[scanUp,if_neg (by simpa using h)]
theorem Kw (h1:i<=j+1)(h2:p d[j+1]! =true):scanDown p d i (j+1)=scanDown p d i j:=by rw[scanDown,if_pos (by simp [h1,h2])]
theorem uZ (h: ¬(i<=j/\p d[j]! =true)):scanDown p d i j=j:=by
 cases j with
 |zero=>rfl
 |succ j=>rw[scanDown,if_neg (by simpa using h)]
theorem pI (p:Int->Bool)(d:Array Int)(j i:Nat):scanUp p d j i<=max i (j+1):=by
 obtain⟨n,hn⟩:=exI (j+1-i)
 induction n generalizing i with
 |zero=>rw[qG (λh=>by have:=h.1;omega)];omega
 |succ n ih=>
  by_cases h:i<=j/\p d[i]! =true
  ·rw[Ce h.1 h.2]
   have:=ih (i+1) (by omega);omega
  ·rw[qG h];omega
theorem xH (h:H)(S N a b pv:Nat)(d:Array Int)(cp:qP)(hN:N<1000000)(A:dR h S N d)(hb:b<=N)(hap:a<=pv)(hpb:pv<b):
  Ev T 136 [.sl S 0 N cp,aB a,aB b,aB pv] h (λv h'=>v= .tup [aB ((partition ltInt d a b pv).1:Nat),.bool (partition ltInt d a b pv).2.1]/\dR h' S N (partition ltInt d a b pv).2.2/\Fx (· =S) h h'):=by
 refine bN gI rfl rfl ?_
 have sz:=A.size
 have c1:=A.rd (i:=a) (by omega)
 have c2:=A.rd (i:=pv) (by omega)
 simp(disch:=omega)only[go_sem,gI,aF,c1,c2,A.get,bP,bH]
 have W:=A.swap (i:=a) (j:=pv) (nx:=h.next+16) (by omega) rfl
 obtain⟨h1,h1e⟩: ∃h1,h1=((H.mk h.tr (h.next+16)).set S (bZ (ints (d.setIfInBounds a d[pv]!).toList))).set S (bZ (ints ((d.setIfInBounds a d[pv]!).setIfInBounds pv d[a]!).toList)):=⟨_,rfl⟩
 rw[←h1e] at W ⊢
 obtain⟨A1,F1⟩:=W
 obtain⟨e,he⟩:=exI (swp d a pv)
 rw[he] at A1
 clear h1e c1 c2 A
 have eb:(b:Int)- 1=((b- 1:Nat):Int):=by omega
 have ea:(a:Int)+1=((a+1:Nat):Int):=by omega
 have hP:partition ltInt d a b pv=if scanUp (λx=>ltInt x e[a]!) e (b- 1) (a+1)>scanDown (λx=>!ltInt x e[a]!) e (scanUp (λx=>ltInt x e[a]!) e (b- 1) (a+1)) (b- 1) then
   (scanDown (λx=>!ltInt x e[a]!) e (scanUp (λx=>ltInt x e[a]!) e (b- 1) (a+1)) (b- 1),true,swp e (scanDown (λx=>!ltInt x e[a]!) e (scanUp (λx=>ltInt x e[a]!) e (b- 1) (a+1)) (b- 1)) a) else
   ((partLoop ltInt a (scanUp (λx=>ltInt x e[a]!) e (b- 1) (a+1)+1) (scanDown (λx=>!ltInt x e[a]!) e (scanUp (λx=>ltInt x e[a]!) e (b- 1) (a+1)) (b- 1)- 1) (swp e (scanUp (λx=>ltInt x e[a]!) e (b- 1) (a+1)) (scanDown (λx=>!ltInt x e[a]!) e (scanUp (λx=>ltInt x e[a]!) e (b- 1) (a+1)) (b- 1)))).1,false,
    swp (partLoop ltInt a (scanUp (λx=>ltInt x e[a]!) e (b- 1) (a+1)+1) (scanDown (λx=>!ltInt x e[a]!) e (scanUp (λx=>ltInt x e[a]!) e (b- 1) (a+1)) (b- 1)- 1) (swp e (scanUp (λx=>ltInt x e[a]!) e (b- 1) (a+1)) (scanDown (λx=>!ltInt x e[a]!) e (scanUp (λx=>ltInt x e[a]!) e (b- 1) (a+1)) (b- 1)))).2 (partLoop ltInt a (scanUp (λx=>ltInt x e[a]!) e (b- 1) (a+1)+1) (scanDown (λx=>!ltInt x e[a]!) e (scanUp (λx=>ltInt x e[a]!) e (b- 1) (a+1)) (b- 1)- 1) (swp e (scanUp (λx=>ltInt x e[a]!) e (b- 1) (a+1)) (scanDown (λx=>!ltInt x e[a]!) e (scanUp (λx=>ltInt x e[a]!) e (b- 1) (a+1)) (b- 1)))).1 a):=by
  rw[←he];rfl
 obtain⟨R,hRe⟩:=exI (partition ltInt d a b pv)
 rw[hRe] at hP
 rw[hRe]
 simp(disch:=omega)only[go_sem,ea,eb]
 refine cV (λvs hh=>(∃g:Nat->V,vs= [.sl S 0 N cp,aB a,aB b,aB pv,g 4,g 5,aB (scanUp (λx=>ltInt x e[a]!) e (b- 1) (a+1):Nat),aB ((b- 1):Nat),g 8,g 9,g 10,g 11,g 12,g 13])/\dR hh S N e/\Fx (· =S) h hh) ?_ ?_
 ·refine aI (λk' vs hh=> ∃(k:Nat),(∃g:Nat->V,vs= [.sl S 0 N cp,aB a,aB b,aB pv,g 4,g 5,aB (k:Nat),aB ((b- 1):Nat),g 8,g 9,g 10,g 11,g 12,g 13])/\(a+1)<=k/\k<=N+2/\dR hh S N e/\scanUp (λx=>ltInt x e[a]!) e (b- 1) k=scanUp (λx=>ltInt x e[a]!) e (b- 1) (a+1)/\Fx (· =S) h hh/\k'=(b- 1)+1-k) ((b- 1)+1-(a+1))
   ⟨(a+1),aA rfl,by omega,by omega,A1,rfl,F1,rfl⟩ ?_
  rintro k' vars hs ⟨k,⟨g,rfl⟩,hk1,hk2,As,hS,Fs,rfl⟩
  by_cases hij:(k:Int)<=(((b- 1):Nat):Int)
  ·have e1:decide ((k:Int)<=(((b- 1):Nat):Int))=true:=decide_eq_true hij
   have eK:(k:Int)+1=((k+1:Nat):Int):=by omega
   have szs:=As.size
   have c1:=As.rd (i:=k) (by omega)
   have c2:=As.rd (i:=a) (by omega)
   simp(disch:=omega)only[go_sem,e1,c1,c2]
   refine (gY _ _ _).mono ?_
   rintro _ hs2 ⟨rfl,fhs2⟩
   have fs2:Fr hs hs2:=Fr.trans ((Fr.refl hs).bJ (by omega)) fhs2
   have As2:=As.fr fs2
   have Fs2:=fX Fs (Fx.of fs2)
   cases hl:ltInt e[k]! e[a]! with
   |false=>
    rw[qG (λhh=>by have:=hh.2;simp [hl] at this)] at hS;simp(disch:=omega)only[go_sem,hl];exact⟨by rw[←hS];exact aA rfl,As2,Fs2⟩
   |true=>
    rw[Ce (by omega) (by simp [hl])] at hS;simp(disch:=omega)only[go_sem,hl,eK];exact⟨(b- 1)+1-(k+1),by omega,k+1,aA rfl,by omega,by omega,As2,hS,Fs2,rfl⟩
  ·have e1:decide ((k:Int)<=(((b- 1):Nat):Int))=false:=decide_eq_false hij
   rw[qG (λhh=>hij (by have:=hh.1;omega))] at hS
   simp(disch:=omega)only[go_sem,e1]
   exact⟨by rw[←hS];exact aA rfl,As.fr ((Fr.refl hs).bJ (by omega)),fX Fs (Fx.of ((Fr.refl hs).bJ (by omega)))⟩
 ·rintro vars h9 ⟨⟨g,rfl⟩,A9,F9⟩
  have hge:=scanUp_ge (λx=>ltInt x e[a]!) e (b- 1) (a+1)
  have hhi:=pI (λx=>ltInt x e[a]!) e (b- 1) (a+1)
  obtain⟨i2,hi2⟩: ∃x,scanUp (λx=>ltInt x e[a]!) e (b- 1) (a+1)=x:=⟨_,rfl⟩
  rw[hi2] at hge hhi
  rw[hi2]
  simp(disch:=omega)only[go_sem]
  refine cV (λvs hh=>(∃g:Nat->V,vs= [.sl S 0 N cp,aB a,aB b,aB pv,g 4,g 5,aB (i2:Nat),aB (scanDown (λx=>!ltInt x e[a]!) e i2 (b- 1):Nat),g 8,g 9,g 10,g 11,g 12,g 13])/\dR hh S N e/\Fx (· =S) h hh) ?_ ?_
  ·refine aI (λk' vs hh=> ∃(k:Nat),(∃g:Nat->V,vs= [.sl S 0 N cp,aB a,aB b,aB pv,g 4,g 5,aB (i2:Nat),aB (k:Nat),g 8,g 9,g 10,g 11,g 12,g 13])/\k<=(b- 1)/\dR hh S N e/\scanDown (λx=>!ltInt x e[a]!) e i2 k=scanDown (λx=>!ltInt x e[a]!) e i2 (b- 1)/\Fx (· =S) h hh/\k'=k) (b- 1)
    ⟨(b- 1),aA rfl,by omega,A9,rfl,F9,rfl⟩ ?_
   rintro k' vars hs ⟨k,⟨g,rfl⟩,hk1,As,hS,Fs,hkk⟩
   subst hkk
   by_cases hij:((i2:Nat):Int)<=(k':Int)
   ·have e1:decide (((i2:Nat):Int)<=(k':Int))=true:=decide_eq_true hij
    obtain⟨k,rfl⟩: ∃k,k'=k+1:=⟨k'- 1,by omega⟩
    have eK:((k+1:Nat):Int)- 1=(k:Int):=by omega
    have szs:=As.size
    have c1:=As.rd (i:=k+1) (by omega)
    have c2:=As.rd (i:=a) (by omega)
    simp(disch:=omega)only[go_sem,e1,c1,c2]
    refine (gY _ _ _).mono ?_
    rintro _ hs2 ⟨rfl,fhs2⟩
    have fs2:Fr hs hs2:=Fr.trans ((Fr.refl hs).bJ (by omega)) fhs2
    have As2:=As.fr fs2
    have Fs2:=fX Fs (Fx.of fs2)
    cases hl:ltInt e[k+1]! e[a]! with
    |true=>
     rw[uZ (λhh=>by have:=hh.2;simp [hl] at this)] at hS;simp(disch:=omega)only[go_sem,hl];exact⟨by rw[←hS];exact aA rfl,As2,Fs2⟩
    |false=>
     rw[Kw (by omega) (by simp [hl])] at hS;simp(disch:=omega)only[go_sem,hl,eK];exact⟨k,by omega,k,aA rfl,by omega,As2,hS,Fs2,rfl⟩
   ·have e1:decide (((i2:Nat):Int)<=(k':Int))=false:=decide_eq_false hij
    rw[uZ (λhh=>hij (by have:=hh.1;omega))] at hS
    simp(disch:=omega)only[go_sem,e1]
    exact⟨by rw[←hS];exact aA rfl,As.fr ((Fr.refl hs).bJ (by omega)),fX Fs (Fx.of ((Fr.refl hs).bJ (by omega)))⟩
  ·rintro vars h2 ⟨⟨g,rfl⟩,A2,F2⟩
   have hle:=scanDown_le (λx=>!ltInt x e[a]!) e i2 (b- 1)
   obtain⟨j2,hj2⟩: ∃x,scanDown (λx=>!ltInt x e[a]!) e i2 (b- 1)=x:=⟨_,rfl⟩
   rw[hj2] at hle
   rw[hj2]
   rw[hi2,hj2] at hP
   have sz2:=A2.size
   by_cases hgt:(j2:Int)<(i2:Int)
   ·have e1:decide ((j2:Int)<(i2:Int))=true:=decide_eq_true hgt
    rw[if_pos (by omega)] at hP
    have c1:=A2.rd (i:=j2) (by omega)
    have c2:=A2.rd (i:=a) (by omega)
    simp(disch:=omega)only[go_sem,e1,c1,c2,A2.get,bP,bH]
    have W:=A2.swap (i:=j2) (j:=a) (nx:=h2.next+16) (by omega) rfl
    rw[hP]
    exact⟨rfl,W.1,fX F2 W.2⟩
   have e1:decide ((j2:Int)<(i2:Int))=false:=decide_eq_false hgt
   rw[if_neg (by omega)] at hP
   have c1:=A2.rd (i:=i2) (by omega)
   have c2:=A2.rd (i:=j2) (by omega)
   simp(disch:=omega)only[go_sem,e1,c1,c2,A2.get,bP,bH]
   have W:=A2.swap (i:=i2) (j:=j2) (nx:=h2.next+16) (by omega) rfl
   obtain⟨h3,h3e⟩: ∃h3,h3=((H.mk h2.tr (h2.next+16)).set S (bZ (ints (e.setIfInBounds i2 e[j2]!).toList))).set S (bZ (ints ((e.setIfInBounds i2 e[j2]!).setIfInBounds j2 e[i2]!).toList)):=⟨_,rfl⟩
   rw[←h3e] at W ⊢
   obtain⟨A3,F30⟩:=W
   have F3:=fX F2 F30
   have hij2:i2<=j2:=by omega
   obtain⟨e0,he0⟩:=exI (swp e i2 j2)
   rw[he0] at A3 hP
   clear h3e c1 c2 A2 A9 F9 A1 F1 he hgt e1
   have ei:(i2:Int)+1=((i2+1:Nat):Int):=by omega
   have ej:(j2:Int)- 1=((j2- 1:Nat):Int):=by omega
   simp(disch:=omega)only[go_sem,ei,ej]
   refine cV (λvs hh=>(∃g:Nat->V,vs= [.sl S 0 N cp,aB a,aB b,aB pv,g 4,g 5,g 6,aB (((partLoop ltInt a (i2+1) (j2- 1) e0).1:Nat):Int),g 8,g 9,g 10,g 11,g 12,g 13])/\dR hh S N (partLoop ltInt a (i2+1) (j2- 1) e0).2/\(partLoop ltInt a (i2+1) (j2- 1) e0).1<b/\Fx (· =S) h hh) ?_ ?_
   ·refine aI (λk' vs hh=> ∃(i j:Nat) (e:Array Int),(∃g:Nat->V,vs= [.sl S 0 N cp,aB a,aB b,aB pv,g 4,g 5,aB i,aB j,g 8,g 9,g 10,g 11,g 12,g 13])/\a<i/\i<=b+1/\j<b/\dR hh S N e/\partLoop ltInt a i j e=partLoop ltInt a (i2+1) (j2- 1) e0/\Fx (· =S) h hh/\k'=j) (j2- 1)
     ⟨i2+1,j2- 1,e0,aA rfl,by omega,by omega,by omega,A3,rfl,F3,rfl⟩ ?_
    obtain⟨R2,hR2⟩:=exI (partLoop ltInt a (i2+1) (j2- 1) e0)
    rw[hR2]
    clear hP hR2 hi2 hj2 he0 ei ej hle hge hhi F3 F30 A3 sz2 h3 hij2
    clear i2 j2
    rintro k' vars h3 ⟨i,j,e,⟨g,rfl⟩,hi1,hi2,hj,A3,hL,F3,hkk⟩
    rw[partLoop_eq] at hL
    simp(disch:=omega)only[go_sem]
    refine cV (λvs hh=>(∃g:Nat->V,vs= [.sl S 0 N cp,aB a,aB b,aB pv,g 4,g 5,aB (scanUp (λx=>ltInt x e[a]!) e j i:Nat),aB (j:Nat),g 8,g 9,g 10,g 11,g 12,g 13])/\dR hh S N e/\Fx (· =S) h hh) ?_ ?_
    ·refine aI (λk' vs hh=> ∃(k:Nat),(∃g:Nat->V,vs= [.sl S 0 N cp,aB a,aB b,aB pv,g 4,g 5,aB (k:Nat),aB (j:Nat),g 8,g 9,g 10,g 11,g 12,g 13])/\i<=k/\k<=N+2/\dR hh S N e/\scanUp (λx=>ltInt x e[a]!) e j k=scanUp (λx=>ltInt x e[a]!) e j i/\Fx (· =S) h hh/\k'=j+1-k) (j+1-i)
      ⟨i,aA rfl,by omega,by omega,A3,rfl,F3,rfl⟩ ?_
     rintro k' vars hs ⟨k,⟨g,rfl⟩,hk1,hk2,As,hS,Fs,rfl⟩
     by_cases hij:(k:Int)<=((j:Nat):Int)
     ·have e1:decide ((k:Int)<=((j:Nat):Int))=true:=decide_eq_true hij
      have eK:(k:Int)+1=((k+1:Nat):Int):=by omega
      have szs:=As.size
      have c1:=As.rd (i:=k) (by omega)
      have c2:=As.rd (i:=a) (by omega)
      simp(disch:=omega)only[go_sem,e1,c1,c2]
      refine (gY _ _ _).mono ?_
      rintro _ hs2 ⟨rfl,fhs2⟩
      have fs2:Fr hs hs2:=Fr.trans ((Fr.refl hs).bJ (by omega)) fhs2
      have As2:=As.fr fs2
      have Fs2:=fX Fs (Fx.of fs2)
      cases hl:ltInt e[k]! e[a]! with
      |false=>
       rw[qG (λhh=>by have:=hh.2;simp [hl] at this)] at hS;simp(disch:=omega)only[go_sem,hl];exact⟨by rw[←hS];exact aA rfl,As2,Fs2⟩
      |true=>
       rw[Ce (by omega) (by simp [hl])] at hS;simp(disch:=omega)only[go_sem,hl,eK];exact⟨j+1-(k+1),by omega,k+1,aA rfl,by omega,by omega,As2,hS,Fs2,rfl⟩
     ·have e1:decide ((k:Int)<=((j:Nat):Int))=false:=decide_eq_false hij
      rw[qG (λhh=>hij (by have:=hh.1;omega))] at hS
      simp(disch:=omega)only[go_sem,e1]
      exact⟨by rw[←hS];exact aA rfl,As.fr ((Fr.refl hs).bJ (by omega)),fX Fs (Fx.of ((Fr.refl hs).bJ (by omega)))⟩
    ·rintro vars h9 ⟨⟨g,rfl⟩,A9,F9⟩
     have hge:=scanUp_ge (λx=>ltInt x e[a]!) e j i
     have hhi:=pI (λx=>ltInt x e[a]!) e j i
     obtain⟨u,hu⟩: ∃x,scanUp (λx=>ltInt x e[a]!) e j i=x:=⟨_,rfl⟩
     rw[hu] at hge hhi
     rw[hu]
     simp(disch:=omega)only[go_sem]
     refine cV (λvs hh=>(∃g:Nat->V,vs= [.sl S 0 N cp,aB a,aB b,aB pv,g 4,g 5,aB (u:Nat),aB (scanDown (λx=>!ltInt x e[a]!) e u j:Nat),g 8,g 9,g 10,g 11,g 12,g 13])/\dR hh S N e/\Fx (· =S) h hh) ?_ ?_
     ·refine aI (λk' vs hh=> ∃(k:Nat),(∃g:Nat->V,vs= [.sl S 0 N cp,aB a,aB b,aB pv,g 4,g 5,aB (u:Nat),aB (k:Nat),g 8,g 9,g 10,g 11,g 12,g 13])/\k<=j/\dR hh S N e/\scanDown (λx=>!ltInt x e[a]!) e u k=scanDown (λx=>!ltInt x e[a]!) e u j/\Fx (· =S) h hh/\k'=k) j
       ⟨j,aA rfl,by omega,A9,rfl,F9,rfl⟩ ?_
      rintro k' vars hs ⟨k,⟨g,rfl⟩,hk1,As,hS,Fs,hkk⟩
      subst hkk
      by_cases hij:((u:Nat):Int)<=(k':Int)
      ·have e1:decide (((u:Nat):Int)<=(k':Int))=true:=decide_eq_true hij
       obtain⟨k,rfl⟩: ∃k,k'=k+1:=⟨k'- 1,by omega⟩
       have eK:((k+1:Nat):Int)- 1=(k:Int):=by omega
       have szs:=As.size
       have c1:=As.rd (i:=k+1) (by omega)
       have c2:=As.rd (i:=a) (by omega)
       simp(disch:=omega)only[go_sem,e1,c1,c2]
       refine (gY _ _ _).mono ?_
       rintro _ hs2 ⟨rfl,fhs2⟩
       have fs2:Fr hs hs2:=Fr.trans ((Fr.refl hs).bJ (by omega)) fhs2
       have As2:=As.fr fs2
       have Fs2:=fX Fs (Fx.of fs2)
       cases hl:ltInt e[k+1]! e[a]! with
       |true=>
        rw[uZ (λhh=>by have:=hh.2;simp [hl] at this)] at hS;simp(disch:=omega)only[go_sem,hl];exact⟨by rw[←hS];exact aA rfl,As2,Fs2⟩
       |false=>
        rw[Kw (by omega) (by simp [hl])] at hS;simp(disch:=omega)only[go_sem,hl,eK];exact⟨k,by omega,k,aA rfl,by omega,As2,hS,Fs2,rfl⟩
      ·have e1:decide (((u:Nat):Int)<=(k':Int))=false:=decide_eq_false hij
       rw[uZ (λhh=>hij (by have:=hh.1;omega))] at hS
       simp(disch:=omega)only[go_sem,e1]
       exact⟨by rw[←hS];exact aA rfl,As.fr ((Fr.refl hs).bJ (by omega)),fX Fs (Fx.of ((Fr.refl hs).bJ (by omega)))⟩
     ·rintro vars h4 ⟨⟨g,rfl⟩,A4,F4⟩
      have hle:=scanDown_le (λx=>!ltInt x e[a]!) e u j
      obtain⟨w,hw⟩: ∃x,scanDown (λx=>!ltInt x e[a]!) e u j=x:=⟨_,rfl⟩
      rw[hw] at hle
      rw[hw]
      rw[hu,hw] at hL
      have sz4:=A4.size
      by_cases hgt:(w:Int)<(u:Int)
      ·have e1:decide ((w:Int)<(u:Int))=true:=decide_eq_true hgt
       rw[if_pos (by omega)] at hL
       simp(disch:=omega)only[go_sem,e1]
       rw[←hL]
       exact⟨aA rfl,A4,by omega,F4⟩
      have e1:decide ((w:Int)<(u:Int))=false:=decide_eq_false hgt
      rw[if_neg (by omega)] at hL
      have c1:=A4.rd (i:=u) (by omega)
      have c2:=A4.rd (i:=w) (by omega)
      have ei:(u:Int)+1=((u+1:Nat):Int):=by omega
      have ej:(w:Int)- 1=((w- 1:Nat):Int):=by omega
      simp(disch:=omega)only[go_sem,e1,c1,c2,A4.get,bP,bH,ei,ej]
      have W:=A4.swap (i:=u) (j:=w) (nx:=h4.next+16) (by omega) rfl
      exact⟨w- 1,by omega,u+1,w- 1,_,aA rfl,by omega,by omega,by omega,W.1,hL,fX F4 W.2,rfl⟩
   ·rintro vars h5 ⟨⟨g,rfl⟩,A5,hlt5,F5⟩
    generalize partLoop ltInt a (i2+1) (j2- 1) e0=r at hP A5 hlt5
    obtain⟨m,e5⟩:=r
    have hlt5:m<b:=hlt5
    have A5:dR h5 S N e5:=A5
    have sz5:=A5.size
    have c1:=A5.rd (i:=m) (by omega)
    have c2:=A5.rd (i:=a) (by omega)
    simp(disch:=omega)only[go_sem,c1,c2,A5.get,bP,bH]
    have W:=A5.swap (i:=m) (j:=a) (nx:=h5.next+16) (by omega) rfl
    rw[hP]
    exact⟨rfl,W.1,fX F5 W.2⟩
theorem Eo (h:H)(S N a b pv:Nat)(d:Array Int)(cp:qP)(hN:N<1000000)(A:dR h S N d)(hb:b<=N)(hap:a<=pv)(hpb:pv<b):
  Ev T 135 [.sl S 0 N cp,aB a,aB b,aB pv] h (λv h'=>v= aB ((partitionEqual ltInt d a b pv).1:Nat)/\dR h' S N (partitionEqual ltInt d a b pv).2/\Fx (· =S) h h'):=by
 refine bN fG rfl rfl ?_
 have sz:=A.size
 have c1:=A.rd (i:=a) (by omega)
 have c2:=A.rd (i:=pv) (by omega)
 simp(disch:=omega)only[go_sem,fG,aF,c1,c2,A.get,bP,bH]
 have W:=A.swap (i:=a) (j:=pv) (nx:=h.next+16) (by omega) rfl
 obtain⟨h1,h1e⟩: ∃h1,h1=((H.mk h.tr (h.next+16)).set S (bZ (ints (d.setIfInBounds a d[pv]!).toList))).set S (bZ (ints ((d.setIfInBounds a d[pv]!).setIfInBounds pv d[a]!).toList)):=⟨_,rfl⟩
 rw[←h1e] at W ⊢
 obtain⟨A1,F1⟩:=W
 have eb:(b:Int)- 1=((b- 1:Nat):Int):=by omega
 have ea:(a:Int)+1=((a+1:Nat):Int):=by omega
 unfold partitionEqual
 obtain⟨e0,he⟩: ∃e,swp d a pv=e:=⟨_,rfl⟩
 rw[he] at A1 ⊢
 clear h1e c1 c2 A
 simp(disch:=omega)only[go_sem,ea,eb]
 refine cV (λvs hh=>(∃g:Nat->V,vs= [.sl S 0 N cp,aB a,aB b,aB pv,g 4,aB (((partEqLoop ltInt a (a+1) (b- 1) e0).1:Nat):Int),g 6,g 7,g 8,g 9])/\dR hh S N (partEqLoop ltInt a (a+1) (b- 1) e0).2/\Fx (· =S) h hh) ?_ ?_
 ·refine aI (λk' vs hh=> ∃(i j:Nat) (e:Array Int),(∃g:Nat->V,vs= [.sl S 0 N cp,aB a,aB b,aB pv,g 4,aB i,aB j,g 7,g 8,g 9])/\a<i/\i<=b+1/\j<b/\dR hh S N e/\partEqLoop ltInt a i j e=partEqLoop ltInt a (a+1) (b- 1) e0/\Fx (· =S) h hh/\k'=j) (b- 1)
   ⟨a+1,b- 1,e0,aA rfl,by omega,by omega,by omega,A1,rfl,F1,rfl⟩ ?_
  obtain⟨R2,hR2⟩:=exI (partEqLoop ltInt a (a+1) (b- 1) e0)
  rw[hR2]
  clear hR2 F1 A1 h1 he e0
  rintro k' vars h3 ⟨i,j,e,⟨g,rfl⟩,hi1,hi2,hj,A3,hL,F3,hkk⟩
  rw[partEqLoop_eq] at hL
  simp(disch:=omega)only[go_sem]
  refine cV (λvs hh=>(∃g:Nat->V,vs= [.sl S 0 N cp,aB a,aB b,aB pv,g 4,aB (scanUp (λx=>!ltInt e[a]! x) e j i:Nat),aB (j:Nat),g 7,g 8,g 9])/\dR hh S N e/\Fx (· =S) h hh) ?_ ?_
  ·refine aI (λk' vs hh=> ∃(k:Nat),(∃g:Nat->V,vs= [.sl S 0 N cp,aB a,aB b,aB pv,g 4,aB (k:Nat),aB (j:Nat),g 7,g 8,g 9])/\i<=k/\k<=N+2/\dR hh S N e/\scanUp (λx=>!ltInt e[a]! x) e j k=scanUp (λx=>!ltInt e[a]! x) e j i/\Fx (· =S) h hh/\k'=j+1-k) (j+1-i)
    ⟨i,aA rfl,by omega,by omega,A3,rfl,F3,rfl⟩ ?_
   rintro k' vars hs ⟨k,⟨g,rfl⟩,hk1,hk2,As,hS,Fs,rfl⟩
   by_cases hij:(k:Int)<=((j:Nat):Int)
   ·have e1:decide ((k:Int)<=((j:Nat):Int))=true:=decide_eq_true hij
    have eK:(k:Int)+1=((k+1:Nat):Int):=by omega
    have szs:=As.size
    have c1:=As.rd (i:=k) (by omega)
    have c2:=As.rd (i:=a) (by omega)
    simp(disch:=omega)only[go_sem,e1,c1,c2]
    refine (gY _ _ _).mono ?_
    rintro _ hs2 ⟨rfl,fhs2⟩
    have fs2:Fr hs hs2:=Fr.trans ((Fr.refl hs).bJ (by omega)) fhs2
    have As2:=As.fr fs2
    have Fs2:=fX Fs (Fx.of fs2)
    cases hl:ltInt e[a]! e[k]! with
    |true=>
     rw[qG (λhh=>by have:=hh.2;simp [hl] at this)] at hS;simp(disch:=omega)only[go_sem,hl];exact⟨by rw[←hS];exact aA rfl,As2,Fs2⟩
    |false=>
     rw[Ce (by omega) (by simp [hl])] at hS;simp(disch:=omega)only[go_sem,hl,eK];exact⟨j+1-(k+1),by omega,k+1,aA rfl,by omega,by omega,As2,hS,Fs2,rfl⟩
   ·have e1:decide ((k:Int)<=((j:Nat):Int))=false:=decide_eq_false hij
    rw[qG (λhh=>hij (by have:=hh.1;omega))] at hS
    simp(disch:=omega)only[go_sem,e1]
    exact⟨by rw[←hS];exact aA rfl,As.fr ((Fr.refl hs).bJ (by omega)),fX Fs (Fx.of ((Fr.refl hs).bJ (by omega)))⟩
  ·rintro vars h9 ⟨⟨g,rfl⟩,A9,F9⟩
   have hge:=scanUp_ge (λx=>!ltInt e[a]! x) e j i
   have hhi:=pI (λx=>!ltInt e[a]! x) e j i
   obtain⟨u,hu⟩: ∃x,scanUp (λx=>!ltInt e[a]! x) e j i=x:=⟨_,rfl⟩
   rw[hu] at hge hhi
   rw[hu]
   simp(disch:=omega)only[go_sem]
   refine cV (λvs hh=>(∃g:Nat->V,vs= [.sl S 0 N cp,aB a,aB b,aB pv,g 4,aB (u:Nat),aB (scanDown (λx=>ltInt e[a]! x) e u j:Nat),g 7,g 8,g 9])/\dR hh S N e/\Fx (· =S) h hh) ?_ ?_
   ·refine aI (λk' vs hh=> ∃(k:Nat),(∃g:Nat->V,vs= [.sl S 0 N cp,aB a,aB b,aB pv,g 4,aB (u:Nat),aB (k:Nat),g 7,g 8,g 9])/\k<=j/\dR hh S N e/\scanDown (λx=>ltInt e[a]! x) e u k=scanDown (λx=>ltInt e[a]! x) e u j/\Fx (· =S) h hh/\k'=k) j
     ⟨j,aA rfl,by omega,A9,rfl,F9,rfl⟩ ?_
    rintro k' vars hs ⟨k,⟨g,rfl⟩,hk1,As,hS,Fs,hkk⟩
    subst hkk
    by_cases hij:((u:Nat):Int)<=(k':Int)
    ·have e1:decide (((u:Nat):Int)<=(k':Int))=true:=decide_eq_true hij
     obtain⟨k,rfl⟩: ∃k,k'=k+1:=⟨k'- 1,by omega⟩
     have eK:((k+1:Nat):Int)- 1=(k:Int):=by omega
     have szs:=As.size
     have c1:=As.rd (i:=k+1) (by omega)
     have c2:=As.rd (i:=a) (by omega)
     simp(disch:=omega)only[go_sem,e1,c1,c2]
     refine (gY _ _ _).mono ?_
     rintro _ hs2 ⟨rfl,fhs2⟩
     have fs2:Fr hs hs2:=Fr.trans ((Fr.refl hs).bJ (by omega)) fhs2
     have As2:=As.fr fs2
     have Fs2:=fX Fs (Fx.of fs2)
     cases hl:ltInt e[a]! e[k+1]! with
     |false=>
      rw[uZ (λhh=>by have:=hh.2;simp [hl] at this)] at hS;simp(disch:=omega)only[go_sem,hl];exact⟨by rw[←hS];exact aA rfl,As2,Fs2⟩
     |true=>
      rw[Kw (by omega) (by simp [hl])] at hS;simp(disch:=omega)only[go_sem,hl,eK];exact⟨k,by omega,k,aA rfl,by omega,As2,hS,Fs2,rfl⟩
    ·have e1:decide (((u:Nat):Int)<=(k':Int))=false:=decide_eq_false hij
     rw[uZ (λhh=>hij (by have:=hh.1;omega))] at hS
     simp(disch:=omega)only[go_sem,e1]
     exact⟨by rw[←hS];exact aA rfl,As.fr ((Fr.refl hs).bJ (by omega)),fX Fs (Fx.of ((Fr.refl hs).bJ (by omega)))⟩
   ·rintro vars h4 ⟨⟨g,rfl⟩,A4,F4⟩
    have hle:=scanDown_le (λx=>ltInt e[a]! x) e u j
    obtain⟨w,hw⟩: ∃x,scanDown (λx=>ltInt e[a]! x) e u j=x:=⟨_,rfl⟩
    rw[hw] at hle
    rw[hw]
    rw[hu,hw] at hL
    have sz4:=A4.size
    by_cases hgt:(w:Int)<(u:Int)
    ·have e1:decide ((w:Int)<(u:Int))=true:=decide_eq_true hgt
     rw[if_pos (by omega)] at hL
     simp(disch:=omega)only[go_sem,e1]
     rw[←hL]
     exact⟨aA rfl,A4,F4⟩
    have e1:decide ((w:Int)<(u:Int))=false:=decide_eq_false hgt
    rw[if_neg (by omega)] at hL
    have c1:=A4.rd (i:=u) (by omega)
    have c2:=A4.rd (i:=w) (by omega)
    have ei:(u:Int)+1=((u+1:Nat):Int):=by omega
    have ej:(w:Int)- 1=((w- 1:Nat):Int):=by omega
    simp(disch:=omega)only[go_sem,e1,c1,c2,A4.get,bP,bH,ei,ej]
    have W:=A4.swap (i:=u) (j:=w) (nx:=h4.next+16) (by omega) rfl
    exact⟨w- 1,by omega,u+1,w- 1,_,aA rfl,by omega,by omega,by omega,W.1,hL,fX F4 W.2,rfl⟩
 ·rintro vars h5 ⟨⟨g,rfl⟩,A5,F5⟩
  simp(disch:=omega)only[go_sem]
  exact⟨A5,F5⟩
end
def Yt  (n:Nat):Prop:= ∀(h:H) (S N a b:Nat) (lim:Int) (d:Array Int) (cp:qP),N<60000->dR h S N d->a<=b->b<=N->b-a<=n->0<=lim->lim<1000000->Below ltInt a b d->
 Ev T 111 [.sl S 0 N cp,aB a,aB b,aB lim] h (λ_ h'=> ∃e,dR h' S N e/\PermIn a b d e/\SortedIn ltInt a b e/\Fx (· =S) h h')
theorem Zn  (n:Nat)(ih: ∀m,m<n->Yt m):Yt n:=by
 intro h S N a b lim d cp hN A hab hbN hn hl0 hl1 hB;refine bN iH rfl rfl ?_;simp(disch:=omega)only[go_sem,iH,aF]
 refine aI (λk' vars hh=> ∃(a' b':Nat) (l':Int) (wb wp:Bool) (e:Array Int),(∃g:Nat->V,vars= [.sl S 0 N cp,aB (a':Int),aB (b':Int),aB l',.bool wb,.bool wp,g 6,g 7,g 8,g 9,g 10,g 11,g 12,g 13,g 14,g 15,g 16,g 17,g 18,g 19,g 20,g 21,g 22])/\a'<=b'/\b'<=N/\a<=a'/\b'<=b/\0<=l'/\l'<1000000/\Below ltInt a' b' e/\dR hh S N e/\Fx (· =S) h hh/\
   (∀R,PermIn a' b' e R->SortedIn ltInt a' b' R->PermIn a b d R/\SortedIn ltInt a b R)/\k'=b'-a') (b-a)
  ⟨a,b,lim,true,true,d,aA rfl,hab,hbN,jA _,jA _,hl0,hl1,hB,A,Fx.refl _ h,λR h1 h2=>⟨h1,h2⟩,rfl⟩ ?_
 clear A hB hl0 hl1;rintro k' vars h1 ⟨a',b',l',wb,wp,e,⟨g,rfl⟩,hab',hbN',haa,hbb,hl0,hl1,hB,A,F,K,rfl⟩;obtain⟨m,hm⟩:=exI (b'-a');have em:(b':Int)-(a':Int)=(m:Int):=by omega
 have ez: ∀{x:Array Int} {hx:H},dR hx S N x->b'<=x.size:=λA=>by rw[A.size];exact hbN'
 by_cases h12:(m:Int)<=12
 ·have e1:decide ((m:Int)<=12)=true:=decide_eq_true h12
  simp(disch:=omega)only[go_sem,em,e1];refine (wI h1 S N a' b' e cp (by omega) A hbN' hab').mono ?_;rintro _ h2 ⟨A2,F2⟩;obtain⟨p1,p2⟩:=insertionSort_holds swo_ltInt e a' b' hab' (ez A);obtain⟨q1,q2⟩:=K _ p1 p2;simp(disch:=omega)only[go_sem];exact⟨_,A2,q1,q2,fX F F2⟩
 have e1:decide ((m:Int)<=12)=false:=decide_eq_false h12
 by_cases hl:l'=0
 ·have e2:decide (l'=0)=true:=decide_eq_true hl
  simp(disch:=omega)only[go_sem,em,e1,e2];refine (yO h1 S N a' b' e cp (by omega) A hbN' hab').mono ?_;rintro _ h2 ⟨A2,F2⟩;obtain⟨p1,p2⟩:=heapSort_holds swo_ltInt e a' b' hab' (ez A);obtain⟨q1,q2⟩:=K _ p1 p2;simp(disch:=omega)only[go_sem];exact⟨_,A2,q1,q2,fX F F2⟩
 have e2:decide (l'=0)=false:=decide_eq_false hl;simp(disch:=omega)only[go_sem,em,e1,e2];refine pN (λvs hh=> ∃(e2:Array Int) (l2:Int) (g:Nat->V),vs= [.sl S 0 N cp,aB (a':Int),aB (b':Int),aB l2,.bool wb,.bool wp,aB m,g 7,g 8,g 9,g 10,g 11,g 12,g 13,g 14,g 15,g 16,g 17,g 18,g 19,g 20,g 21,g 22]/\0<=l2/\l2<1000000/\dR hh S N e2/\PermIn a' b' e e2/\Fx (· =S) h hh) ?_ ?_
 ·cases wb with
  |true=>
   simp(disch:=omega)only[go_sem];exact .inl ⟨e,l',_,(aA rfl: ∃g:Nat->V,_= [.sl S 0 N cp,aB (a':Int),aB (b':Int),aB l',.bool true,.bool wp,aB m,g 7,g 8,g 9,g 10,g 11,g 12,g 13,g 14,g 15,g 16,g 17,g 18,g 19,g 20,g 21,g 22]).choose_spec,hl0,hl1,A,permIn_refl e a' b',F⟩
  |false=>
   simp(disch:=omega)only[go_sem];refine (Hs h1 S N a' b' e cp hN A hbN' hab').mono ?_;rintro _ h2 ⟨e2,A2,p2,F2⟩;simp(disch:=omega)only[go_sem];exact .inl ⟨e2,l'- 1,_,(aA rfl: ∃g:Nat->V,_= [.sl S 0 N cp,aB (a':Int),aB (b':Int),aB (l'- 1),.bool false,.bool wp,aB m,g 7,g 8,g 9,g 10,g 11,g 12,g 13,g 14,g 15,g 16,g 17,g 18,g 19,g 20,g 21,g 22]).choose_spec,by omega,by omega,A2,p2,fX F F2⟩
 clear A F hl0 hl1 hl e2 g;rintro vars h2 ⟨e2,l2,g,rfl,hl0,hl1,A,P2,F⟩;have B2:=hB.perm (by rw[←P2.1];exact ez A) P2;simp(disch:=omega)only[go_sem];refine (Kp h2 S N a' b' e2 cp (by omega) A hbN' (by omega)).mono ?_;rintro _ h3 ⟨p,t,rfl,hp1,hp2,f3⟩;have A3:=A.fr f3;have F3:=fX F (Fx.of f3);clear A F;simp(disch:=omega)only[go_sem];refine pN (λvs hh=> ∃(e3:Array Int) (p2:Nat) (t2:Int) (g:Nat->V),vs= [.sl S 0 N cp,aB (a':Int),aB (b':Int),aB l2,.bool wb,.bool wp,aB m,aB p2,aB t2,g 9,g 10,g 11,g 12,g 13,g 14,g 15,g 16,g 17,g 18,g 19,g 20,g 21,g 22]/\a'<=p2/\p2<b'/\dR hh S N e3/\PermIn a' b' e2 e3/\Fx (· =S) h hh) ?_ ?_
 ·refine aZ (λht=>?_) (λht=>?_)
  ·simp(disch:=omega)only[go_sem]
   refine (Bg h3 S N a' b' e2 cp (by omega) A3 hbN' (by omega)).mono ?_;rintro _ h4 ⟨A4,F4⟩;have e5:(b':Int)- 1-((p:Int)-(a':Int))=(((b'- 1)-(p-a'):Nat):Int):=by omega
   simp(disch:=omega)only[go_sem,e5];exact .inl ⟨_,(b'- 1)-(p-a'),1,_,(aA rfl: ∃g:Nat->V,_= [.sl S 0 N cp,aB (a':Int),aB (b':Int),aB l2,.bool wb,.bool wp,aB m,aB ((b'- 1)-(p-a'):Nat),aB 1,g 9,g 10,g 11,g 12,g 13,g 14,g 15,g 16,g 17,g 18,g 19,g 20,g 21,g 22]).choose_spec,by omega,by omega,A4,reverseRange_holds e2 a' b' hab' (ez A3),fX F3 F4⟩
  ·simp(disch:=omega)only[go_sem]
   exact .inl ⟨e2,p,t,_,(aA rfl: ∃g:Nat->V,_= [.sl S 0 N cp,aB (a':Int),aB (b':Int),aB l2,.bool wb,.bool wp,aB m,aB p,aB t,g 9,g 10,g 11,g 12,g 13,g 14,g 15,g 16,g 17,g 18,g 19,g 20,g 21,g 22]).choose_spec,hp1,hp2,A3,permIn_refl e2 a' b',F3⟩
 have ez2:=ez A3;clear A3 F3 hp1 hp2 f3 p t g;rintro vars h4 ⟨e3,p,t,g,rfl,hp1,hp2,A,P3,F⟩;have B3:=B2.perm ez2 P3;have P23:=permIn_trans _ _ _ a' b' P2 P3;have ez3:b'<=e2.size:=ez2;clear ez2 B2 hB;refine Hm (λvs hh=> ∃(e4:Array Int) (g:Nat->V),vs= [.sl S 0 N cp,aB (a':Int),aB (b':Int),aB l2,.bool wb,.bool wp,aB m,aB p,g 8,g 9,g 10,g 11,g 12,g 13,g 14,g 15,g 16,g 17,g 18,g 19,g 20,g 21,g 22]/\dR hh S N e4/\PermIn a' b' e e4/\Below ltInt a' b' e4/\Fx (· =S) h hh) ?_ ?_
 ·have skip: ∀(vs:List V),(∃g:Nat->V,vs= [.sl S 0 N cp,aB (a':Int),aB (b':Int),aB l2,.bool wb,.bool wp,aB m,aB p,g 8,g 9,g 10,g 11,g 12,g 13,g 14,g 15,g 16,g 17,g 18,g 19,g 20,g 21,g 22])-> ∃(e4:Array Int) (g:Nat->V),vs= [.sl S 0 N cp,aB (a':Int),aB (b':Int),aB l2,.bool wb,.bool wp,aB m,aB p,g 8,g 9,g 10,g 11,g 12,g 13,g 14,g 15,g 16,g 17,g 18,g 19,g 20,g 21,g 22]/\dR h4 S N e4/\PermIn a' b' e e4/\Below ltInt a' b' e4/\Fx (· =S) h h4:=λvs ⟨g,hv⟩=>⟨e3,g,hv,A,P23,B3,F⟩
  have run: ∀g:Nat->V,Ev T 133 [.sl S 0 N cp,aB (a':Int),aB (b':Int)] h4 (λv h'=> ∃r:Array Int×Bool,v= .bool r.2/\dR h' S N r.1/\Fx (· =S) h4 h'/\PermIn a' b' e3 r.1/\(r.2=true->SortedIn ltInt a' b' r.1)):=λ_=>by
   refine (Aq h4 S N a' b' e3 cp (by omega) A hbN' (by omega)).mono ?_;rintro v h5 ⟨hv,A5,F5⟩;obtain⟨q1,q2⟩:=partialInsertionSort_holds swo_ltInt e3 a' b' (by omega) (ez A) B3;exact⟨_,hv,A5,F5,q1,q2⟩
  cases wb with
  |false=>
   simp(disch:=omega)only[go_sem];exact .inl (skip _ (aA rfl))
  |true=>cases wp with
   |false=>
    simp(disch:=omega)only[go_sem]
    exact .inl (skip _ (aA rfl))
   |true=>
    simp(disch:=omega)only[go_sem]
    refine aZ (λht=>?_) (λht=>?_)
    ·simp(disch:=omega)only[go_sem]
     refine (run g).mono ?_
     rintro v h5 ⟨⟨e5,r5⟩,rfl,A5,F5,q1,q2⟩
     have A5:dR h5 S N e5:=A5
     have q1:PermIn a' b' e3 e5:=q1
     have P5:=permIn_trans _ _ _ a' b' P23 q1
     cases r5 with
     |false=>
      simp(disch:=omega)only[go_sem];exact .inl ⟨e5,_,(aA rfl: ∃g:Nat->V,_= [.sl S 0 N cp,aB (a':Int),aB (b':Int),aB l2,.bool true,.bool true,aB m,aB p,g 8,g 9,g 10,g 11,g 12,g 13,g 14,g 15,g 16,g 17,g 18,g 19,g 20,g 21,g 22]).choose_spec,A5,P5,B3.perm (ez A) q1,fX F F5⟩
     |true=>
      obtain⟨w1,w2⟩:=K _ P5 (q2 rfl);simp(disch:=omega)only[go_sem];exact .inr ⟨by simp,e5,A5,w1,w2,fX F F5⟩
    ·simp(disch:=omega)only[go_sem]
     exact .inl (skip _ (aA rfl))
 clear A P3 P23 B3 F P2 ez3 e3 e2;rintro vars h5 ⟨e4,g,rfl,A,P4,B4,F⟩;have ez4:=ez A;refine Hm (λvs hh=> ∃(g:Nat->V),vs= [.sl S 0 N cp,aB (a':Int),aB (b':Int),aB l2,.bool wb,.bool wp,aB m,aB p,g 8,g 9,g 10,g 11,g 12,g 13,g 14,g 15,g 16,g 17,g 18,g 19,g 20,g 21,g 22]/\dR hh S N e4/\Fx (· =S) h hh) ?_ ?_
 ·by_cases h0:(0:Int)<(a':Int)
  case neg=>
   have e1:decide ((0:Int)<(a':Int))=false:=decide_eq_false h0;simp(disch:=omega)only[go_sem,e1];exact .inl ⟨_,(aA rfl: ∃g:Nat->V,_= [.sl S 0 N cp,aB (a':Int),aB (b':Int),aB l2,.bool wb,.bool wp,aB m,aB p,g 8,g 9,g 10,g 11,g 12,g 13,g 14,g 15,g 16,g 17,g 18,g 19,g 20,g 21,g 22]).choose_spec,A.fr ((Fr.refl h5).bJ (by omega)),fX F (Fx.of ((Fr.refl h5).bJ (by omega)))⟩
  have e1:decide ((0:Int)<(a':Int))=true:=decide_eq_true h0;have ea:(a':Int)- 1=((a'- 1:Nat):Int):=by omega
  have c1:=A.rd (i:=a'- 1) (by omega);have c2:=A.rd (i:=p) (by omega);simp(disch:=omega)only[go_sem,e1,ea,c1,c2];refine (gY _ _ _).mono ?_;rintro _ h6 ⟨rfl,fh6⟩;have f6:Fr h5 h6:=Fr.trans ((Fr.refl h5).bJ (by omega)) fh6;have A6:=A.fr f6;have F6:=fX F (Fx.of f6)
  cases hl:ltInt e4[a'- 1]! e4[p]! with
  |true=>
   simp(disch:=omega)only[go_sem,hl];exact .inl ⟨_,(aA rfl: ∃g:Nat->V,_= [.sl S 0 N cp,aB (a':Int),aB (b':Int),aB l2,.bool wb,.bool wp,aB m,aB p,g 8,g 9,g 10,g 11,g 12,g 13,g 14,g 15,g 16,g 17,g 18,g 19,g 20,g 21,g 22]).choose_spec,A6,F6⟩
  |false=>
   obtain⟨w1,w2,w3,w4,w5⟩:=round_eq swo_ltInt (partitionEqual_holds ltInt) (by omega) hp1 hp2 ez4 B4 hl (Prod.eta (partitionEqual ltInt e4 a' b' p)).symm;simp(disch:=omega)only[go_sem,hl];refine (Eo h6 S N a' b' p e4 cp (by omega) A6 hbN' hp1 hp2).mono ?_;rintro _ h7 ⟨rfl,A7,F7⟩;simp(disch:=omega)only[go_sem];refine .inr ⟨by simp,b'-(partitionEqual ltInt e4 a' b' p).1,by omega,(partitionEqual ltInt e4 a' b' p).1,b',l2,wb,wp,_,aA rfl,w2,hbN',by omega,hbb,hl0,hl1,w4,A7,fX F6 F7,λR r1 r2=>?_,rfl⟩;obtain⟨t1,t2⟩:=w5 R r1 r2;exact K R (permIn_trans _ _ _ a' b' P4 t1) t2
 clear A F;rintro vars h6 ⟨g,rfl,A,F⟩;have e8:=Jm m (k:=8) (m:=8) rfl;simp(disch:=omega)only[go_sem];refine (xH h6 S N a' b' p e4 cp (by omega) A hbN' hp1 hp2).mono ?_;obtain⟨r,hr⟩:=exI (partition ltInt e4 a' b' p);rw[hr];obtain⟨mid,ap,e5⟩:=r;obtain⟨w1,w2,w3,w4,w5,w6,w7⟩:=round_part swo_ltInt (partition_holds ltInt) hp1 hp2 ez4 B4 hr;rintro _ h7 ⟨rfl,A7,F7⟩;have A7:dR h7 S N e5:=A7;have F7:=fX F F7;have el:(mid:Int)-(a':Int)=((mid-a':Nat):Int):=by omega
 have er:(b':Int)-(mid:Int)=((b'-mid:Nat):Int):=by omega
 have e1:(mid:Int)+1=((mid+1:Nat):Int):=by omega
 simp(disch:=omega)only[go_sem,el,er,e8];refine aZ (λht=>?_) (λht=>?_)
 ·simp(disch:=omega)only[go_sem]
  refine (ih (mid-a') (by omega) h7 S N a' mid l2 e5 cp hN A7 w1 (by omega) (jA _) hl0 hl1 w4).mono ?_;rintro _ h8 ⟨L,A8,p8,s8,F8⟩;obtain⟨u1,u2⟩:=w6 L p8 s8;simp(disch:=omega)only[go_sem,e1];refine⟨b'-(mid+1),by omega,mid+1,b',l2,_,ap,L,aA rfl,by omega,hbN',by omega,hbb,hl0,hl1,u1,A8,fX F7 F8,λR r1 r2=>?_,rfl⟩;obtain⟨t1,t2⟩:=u2 R r1 r2;exact K R (permIn_trans _ _ _ a' b' P4 t1) t2
 ·simp(disch:=omega)only[go_sem,e1]
  refine (ih (b'-(mid+1)) (by omega) h7 S N (mid+1) b' l2 e5 cp hN A7 (by omega) hbN' (jA _) hl0 hl1 w5).mono ?_;rintro _ h8 ⟨L,A8,p8,s8,F8⟩;obtain⟨u1,u2⟩:=w7 L p8 s8;simp(disch:=omega)only[go_sem];refine⟨mid-a',by omega,a',mid,l2,_,ap,L,aA rfl,by omega,by omega,haa,by omega,hl0,hl1,u1,A8,fX F7 F8,λR r1 r2=>?_,rfl⟩;obtain⟨t1,t2⟩:=u2 R r1 r2;exact K R (permIn_trans _ _ _ a' b' P4 t1) t2
theorem Pd  (n:Nat):Yt n:=by
 induction n using Nat.strongRecOn with
 |_ n ih=>exact Zn n  ih
theorem Zg (h:H)(S N:Nat)(d:Array Int)(cp:qP)(hN:N<60000)(A:dR h S N d):
  Ev T 87 [.sl S 0 N cp] h (λ_ h'=> ∃e,dR h' S N e/\PermIn 0 N d e/\SortedIn ltInt 0 N e/\Fx (· =S) h h'):=by
 refine bN lB rfl rfl ?_
 have hb:bitsLen N<=16:=(bitsLen_le_iff _ 16).2 (by omega)
 simp(disch:=omega)only[go_sem,lB,aF,gE (n:=(N:Int)) (by omega) (by omega)]
 refine (Ww N h (by omega)).mono ?_
 rintro _ h1 ⟨rfl,hh⟩
 subst hh
 simp(disch:=omega)only[go_sem]
 refine (Pd N h1 S N 0 N _ d cp hN A (by omega) (by omega) (by omega) (by omega) (by omega) (.inl rfl)).mono ?_
 rintro _ h2 ⟨e,A2,p,s,F⟩
 simp(disch:=omega)only[go_sem]
 exact⟨e,A2,p,s,F⟩
theorem Ik {l:List Int}{N:Nat}(hl:l.length=N){e:Array Int}(hp:PermIn 0 N l.toArray e)(hs:SortedIn ltInt 0 N e):e.toList.Perm l/\e.toList.Pairwise (· <= ·):=by
 obtain⟨p1,p2,p3⟩:=hp;have hsz:e.size=N:=by rw[p1];simpa using hl
 refine⟨?_,?_⟩
 ·have a1:(e.extract 0 N).toList=e.toList:=by rw[←hsz];simp
  have a2:(l.toArray.extract 0 N).toList=l:=by rw[←hl];simp
  rwa [a1,a2] at p3
 ·rw[List.pairwise_iff_getElem]
  intro i j hi hj hij;have hj':j<N:=by simpa [hsz] using hj
  have:=hs i j (lG _) hij hj';unfold ltInt at this;have e1:e[i]! =e.toList[i]:=by simp at hi;simp [hi]
  have e2:e[j]! =e.toList[j]:=by simp at hj;simp [hj]
  rw[e1,e2] at this;simpa using this
theorem Pt (h:H)(S:Nat)(l:List Int)(cp:qP)(hN:l.length<60000)(hg:h.get S=bZ (ints l))(hS:S<h.next):
  Ev T 87 [.sl S 0 l.length cp] h (λ_ h'=> ∃l',h'.get S=bZ (ints l')/\l'.Perm l/\l'.Pairwise (· <= ·)/\Fx (· =S) h h'):=by
 refine (Zg h S l.length l.toArray cp hN ⟨hg,by simp,hS⟩).mono ?_
 rintro _ h' ⟨e,A,p,s,F⟩
 obtain⟨q1,q2⟩:=Ik rfl p s
 exact⟨e.toList,A.get,q1,q2,F⟩
theorem Up {a b:List Int}(h:a.Perm b)(ha:a.Pairwise (· <= ·))(hb:b.Pairwise (· <= ·)):a=b:=
 h.eq_of_pairwise (λ_ _ _ _ h1 h2=>Int.le_antisymm h1 h2) ha hb
end Go.Proofs.YtapfcpkecmmagaaGreat
namespace Go.Proofs.YtapfcpkecmmagaaGreat
open Go Go.Ay Go.Pm
set_option maxRecDepth 100000
theorem Vv (id b:Nat)(vl:V)(l:List Int)(h:H)(hn:l.length<1000000)(J:Nat->H->Prop)(D:H->Prop)(h0:J 0 h)
  (hk: ∀i hh,J i hh->hh.get b=bZ [vl]/\SI hh vl l)
  (hy: ∀i hh,i<l.length->J i hh->Ey T id [aB (l.getD i 0)] hh (λv h'=>v= .bool true/\J (i+1) h'∨v= .bool false/\D h')):
  Ev T 180 [.yl id,.ptr b 0] h (λ_ h'=>J l.length h'∨D h'):=by
 refine bN iV rfl rfl ?_
 obtain⟨g0,s0⟩:=hk 0 h h0
 have cb:h.cell b 0=some vl:=by rw[H.aE g0];rfl
 have lv:=s0.lens
 simp(disch:=omega)only[go_sem,iV,aF,cb,lv]
 refine aI (λk' vars hh=> ∃(i:Nat),(∃g:Nat->V,vars= [.yl id,.ptr b 0,g 2,vl,aB (l.length:Int),aB i,g 6,g 7])/\i<=l.length/\J i hh/\k'=l.length-i) l.length
  ⟨0,aA rfl,lG _,h0,rfl⟩ ?_
 rintro k' vars h2 ⟨i,⟨g,rfl⟩,hi,hJ,rfl⟩
 by_cases hlt:(i:Int)<(l.length:Int)
 ·have e1:=nL hlt
  obtain⟨g2,s2⟩:=hk i h2 hJ
  obtain⟨id2,off,sh,hid,hc⟩:=s2.open
  have ci:=hc i (by omega)
  simp(disch:=omega)only[go_sem,e1,sh.ixa,ci]
  refine (hy i h2 (by omega) hJ).mono ?_
  rintro v h3 (⟨rfl,h4⟩|⟨rfl,h4⟩)
  ·simp(disch:=omega)only[go_sem]
   rw[iJ i]
   exact⟨l.length-(i+1),by omega,i+1,aA rfl,by omega,h4,rfl⟩
  ·simp(disch:=omega)only[go_sem]
   exact .inr h4
 have e1:=jC hlt
 obtain rfl:i=l.length:=by omega
 simp(disch:=omega)only[go_sem,e1]
 exact .inl hJ
theorem Ym (b:Nat)(vl:V)(l:List Int)(h:H)(hn:l.length<100000)(hb:h.get b=bZ [vl])(hbn:b<h.next)(hv:SI h vl l):
  Ev T 179 [.fn 180 [] [.ptr b 0]] h (λv h'=>fC h' v 1 (ints l) h.next/\(v= .aC∨ ∃id cap,v= .sl id 0 l.length cap/\h.next<=id/\id<h'.next/\h'.get id=bZ (ints l))/\Fr h h'):=by
 refine bN lU rfl rfl ?_
 simp(disch:=omega)only[go_sem,lU,aF]
 refine Ev.mono (Q:=λv h'=>fC h' v 1 (ints l) h.next/\(v= .aC∨ ∃id cap,v= .sl id 0 l.length cap/\h.next<=id/\id<h'.next/\h'.get id=bZ (ints l))/\Fr h h') ?_ (λv h' hv=>by simp(disch:=omega)only[go_sem];exact hv)
 refine bN iR rfl rfl ?_
 simp(disch:=omega)only[go_sem,iR,aF,oH (x:= .aC) rfl rfl]
 obtain⟨B,hB⟩:=exI h.next
 obtain⟨h1,h1e⟩: ∃h1,h1=h.new (.cells false [.aC]):=⟨_,rfl⟩
 have g1:h1.get B=bZ [.aC]:=by rw[h1e,←hB,H.aL]
 have n1:h1.next=B+1:=by rw[h1e,H.aV,hB]
 have f1:Fr h h1:=by rw[h1e];exact (Fr.refl h).new _
 rw[←h1e,hB]
 refine⟨rfl,?_⟩
 refine zI λr hr=>?_
 refine (Vv (B+1) b vl l _ (by omega) (λi hh=>hh.get (B+1)=some (.loop r)/\B+1<hh.next/\Fr h hh/\ ∃va,hh.get B=bZ [va]/\fC hh va 1 (ints (l.take i)) (B+2)/\(va= .aC∨ ∃id cap,va= .sl id 0 i cap/\B+2<=id/\id<hh.next/\hh.get id=bZ (ints (l.take i)))) (λ_=>False) ?_ ?_ ?_).mono ?_
 ·have e:=H.aL h1 (.loop r)
  rw[n1] at e
  refine⟨e,by rw[H.aV];omega,f1.new _,.aC,by rw[H.bE h1 (by omega)];exact g1,fC.aC _ _ _,.inl rfl⟩
 ·rintro i hh ⟨_,_,f,_⟩
  exact⟨by rw[f.get b hbn];exact hb,hv.mono f⟩
 ·rintro i hh hi ⟨gr,nr,f,va,gB,ow,sh⟩
  have jG:r.st= .ready:=by rw[hr]
  have hpd:r.pend=none:=by rw[hr]
  refine vN gr (by rw[hr];rfl) jG λh2 g2 n2 o2=>?_
  rw[congrArg gX.assign hr,congrArg gX.vars hr,congrArg gX.pars hr]
  simp(disch:=omega)only[go_sem,List.zip_cons_cons,List.zip_nil_left]
  rw[congrArg gX.body hr]
  have cB:h2.cell B 0=some va:=by unfold H.cell;rw[o2 B (by omega),gB];rfl
  simp(disch:=omega)only[go_sem,cB,dL h2 (z:= aB 0) (v:= aB (l.getD i 0)) rfl rfl,n2]
  obtain⟨h3,h3e⟩: ∃h3,h3=h2.new (.cells false [aB (l.getD i 0)]):=⟨_,rfl⟩
  have g3:h3.get hh.next=bZ [aB (l.getD i 0)]:=by rw[h3e,←n2,H.aL]
  have n3:h3.next=hh.next+1:=by rw[h3e,H.aV,n2]
  have o3: ∀k,k<hh.next->k≠B+1->h3.get k=hh.get k:=λk h4 h5=>by rw[h3e,H.bE h2 (by omega),o2 k h5]
  have r3:h3.get (B+1)=some (.loop (tQ r)):=by rw[h3e,H.bE h2 (by omega),g2]
  rw[←h3e]
  have ow3:fC h3 va 1 (ints (l.take i)) (B+2):=ow.mono (by omega) λid off n c e h4 h5=>o3 id h5 (by omega)
  have hli:(l.take i).length=i:=by rw[Lm];omega
  obtain⟨h4,a4,p4⟩:=ow3.push (bytes:=8) (SV.one (by omega) g3 (.kn 1)) (n:=i) (m:=1) (by rw[aJ,hli,Nat.mul_one]) rfl (by omega) (by omega) (by omega)
  have ap: ∀k,k<B+2->dO va k:=λk hk id off n c e e2=>by
   have:=(ow.in _ _ _ _ e).2.1;omega
  have g4:h4.get B=bZ [va]:=by rw[p4.old B (by omega) (ap B (by omega)),o3 B (by omega) (by omega)];exact gB
  have r4:h4.get (B+1)=some (.loop (tQ r)):=by rw[p4.old (B+1) (by omega) (ap (B+1) (by omega))];exact r3
  have pt:fI (bZ [va]) h4 B 0 [.sl h3.next 0 (i+1) (.un 1)]=some (h4.set B (bZ [.sl h3.next 0 (i+1) (.un 1)])):=aX (by simp) h4 B _
  simp(disch:=omega)only[go_sem,a4,g4,pt]
  refine uV jG hpd (by rw[H.aH h4 (by omega)];exact r4) (.inl ⟨rfl,?_⟩)
  have et:ints (l.take (i+1))=ints (l.take i)++ [aB (l.getD i 0)]:=by
   rw[←List.take_append_getElem hi,qD];simp [ints,List.getD,hi]
  have n4:=p4.next
  have g5:((h4.set B (bZ [.sl h3.next 0 (i+1) (.un 1)])).set (B+1) (some (.loop r))).get h3.next=bZ (ints (l.take (i+1))):=by
   rw[H.aH _ (by omega),H.aH _ (by omega),p4.get,et]
  refine⟨by rw[H.aT],by simp only[H.cW];omega,⟨by simp only[H.cW];have:=f.next;omega,λid hid=>?_⟩,_,by rw[H.aH _ (by omega),H.aT],?_,.inr ⟨h3.next,_,rfl,by omega,by simp only[H.cW];omega,g5⟩⟩
  ·rw[H.aH _ (by omega),H.aH _ (by omega),p4.old id (by have:=f.next;omega) (ap id (by omega)),o3 id (by have:=f.next;omega) (by omega)]
   exact f.get id hid
  ·exact .inr ⟨h3.next,i+1,_, [],rfl,by rw[aJ,Lm];omega,.inl rfl,by omega,by simp only[H.cW];omega,by rw[List.append_nil];exact g5⟩
 ·rintro _ h2 (⟨gr,nr,f,va,gB,ow,sh⟩|h)
  case inr=>exact h.elim
  refine⟨r,gr,by rw[hr];simp,?_⟩
  have cB:(h2.set (B+1) (some (.loop {r with st:= .out}))).cell B 0=some va:=by unfold H.cell;rw[H.aH _ (by omega),gB];rfl
  have en:r.pend.getD .norm= .norm:=by rw[hr];rfl
  rw[en]
  simp(disch:=omega)only[go_sem,cB]
  rw[List.take_length] at ow sh
  refine⟨?_,?_,⟨by simp only[H.cW];have:=f.next;omega,λid hid=>by rw[H.aH _ (by omega)];exact f.get id hid⟩⟩
  ·refine (ow.mono (by simp only[H.cW];omega) λid off n c e h4 h5=>H.aH _ (by omega) _).le (by omega)
  ·rcases sh with rfl|⟨id,cap,rfl,h3,h4,h5⟩
   ·exact .inl rfl
   ·exact .inr ⟨id,cap,rfl,by omega,h4,by rw[H.aH _ (by omega)];exact h5⟩
theorem GF (b:Nat)(vl:V)(l:List Int)(h:H)(h0:0<l.length)(hn:l.length<50000)(hb:h.get b=bZ [vl])(hbn:b<h.next)(hv:SI h vl l):
  Ev T 157 [.fn 180 [] [.ptr b 0]] h (λv h'=> ∃id cap l',v= .sl id 0 l.length cap/\h.next<=id/\id<h'.next/\h'.get id=bZ (ints l')/\l'.Perm l/\l'.Pairwise (· <= ·)/\Fr h h'):=by
 refine bN mO rfl rfl ?_
 simp(disch:=omega)only[go_sem,mO,aF]
 refine (Ym b vl l h (by omega) hb hbn hv).mono ?_
 rintro v h1 ⟨ow,sh,f1⟩
 rcases sh with rfl|⟨id,cap,rfl,h2,h3,h4⟩
 ·exfalso
  rcases ow with ⟨_,e⟩|⟨_,_,_,_,e,_⟩
  ·have:=congrArg List.length e
   rw[aJ,List.length_nil] at this
   omega
  ·cases e
 simp(disch:=omega)only[go_sem]
 refine (Pt h1 id l cap (by omega) h4 h3).mono ?_
 rintro _ h5 ⟨l',g5,p5,s5,f5⟩
 simp(disch:=omega)only[go_sem]
 exact⟨id,cap,l',rfl,h2,kY h3 f5.next,g5,p5,s5,Nat.le_trans f1.next f5.next,λk hk=>(f5.get k (kY hk f1.next) (λe=>by have:k=id:=e;omega)).trans (f1.get k hk)⟩
section
variable {v vO vR:V} {b C D n:Nat} {r O:LN} {wsO wsR:List V}
structure Ad (h h':H)(v:V)(l:List Int):Prop where
 ex: ∃id cap,v= .sl id 0 l.length cap/\h.next<=id/\id<h'.next/\h'.get id=bZ (ints l)/\(cap= .un 1∨cap= .kn l.length)
 fr:Fr h h'
theorem Ad.pv {h h':H}{l:List Nat}(f:Ad h h' v (zi l)){W:Nat->Prop}(hw: ∀id,W id->id<h.next):PV W h' v l:=by
 obtain⟨id,cap,rfl,h1,h2,h3,_⟩:=f.ex;exact⟨SV.all (by rw[aJ,Nat.mul_one]) h2 h3 _,λhx=>by have:=hw id hx;omega⟩
theorem Ad.si {h h':H}{l:List Int}(f:Ad h h' v l):SI h' v l:=by
 obtain⟨id,cap,rfl,h1,h2,h3,_⟩:=f.ex;exact SV.all (by rw[aJ,Nat.mul_one]) h2 h3 _
theorem Ad.own {h h':H}{l:List Int}(f:Ad h h' v l):fC h' v 1 (ints l) h.next:=by
 obtain⟨id,cap,rfl,h1,h2,h3,h4⟩:=f.ex;exact .inr ⟨id,l.length,cap, [],rfl,by rw[aJ,Nat.mul_one],by rcases h4 with e|e;exact .inl e;exact .inr ⟨e,rfl⟩,h1,h2,by rw[List.append_nil];exact h3⟩
theorem Ke (u:V)(l:List Int)(h:H)(h0:0<l.length)(hn:l.length<1000000)(hu:SI h u l):
  Ev T 100 [u] h (λv h'=>Ad h h' v l):=by
 refine bN iI rfl rfl ?_
 have sn:Ki false u=some (.bool false):=by
  rcases hu with ⟨_,e⟩|⟨id,off,len,cap,ro,vs,rfl,_⟩
  ·have:=congrArg List.length e
   rw[aJ,List.length_nil] at this;omega
  ·rfl
 simp(disch:=omega)only[go_sem,iI,aF,sn]
 have f1:Fr h (h.new (.cells false [])):=(Fr.refl h).new _
 have o1:fC (h.new (.cells false [])) (.sl h.next 0 0 (.kn 0)) 1 [] 0:=fC.new h 1 0 0 [] rfl (lG _)
 obtain⟨h2,a2,p2⟩:=o1.push (bytes:=8) (hu.mono f1) (n:=0) (m:=l.length) rfl (by rw[aJ,Nat.mul_one]) (by omega) h0 (by omega)
 have n1:(h.new (.cells false [])).next=h.next+1:=H.aV ..
 rw[n1] at a2
 have n2:=p2.next
 have g2:=p2.get
 rw[n1] at n2 g2
 simp(disch:=omega)only[go_sem,a2]
 refine⟨⟨h.next+1,_,rfl,by omega,by omega,g2,.inl rfl⟩,by omega,λid hid=>?_⟩
 rw[p2.old id (by omega) (λid' off n c e e2=>by cases e;omega)]
 exact f1.get id hid
def CG (v:V):Prop:= ∀id off len cap,v= .sl id off len cap->cap= .un 1∨ ∃c,cap= .kn c/\len<=c
theorem fC.JU {h:H}{ws:List V}(o:fC h v 1 ws b):CG v:=by
 rintro id off len cap rfl;rcases o with ⟨e,_⟩|⟨_,_,_,_,e,_,h2,_⟩
 ·cases e
 ·cases e
  rcases h2 with e|⟨e,_⟩
  ·exact .inl e
  ·exact .inr ⟨_,e,jA _⟩
def SRR (h:H)(v:V)(R:List (List (List Int))):Prop:= ∃ws,SV h v 1 ws/\bY (SR h) ws R/\ ∀w∈ws,CG w
theorem SRR.mono {h h':H}{R:List (List (List Int))}(s:SRR h v R)(f:Fr h h'):SRR h' v R:=by
 obtain⟨ws,s,a,k⟩:=s;exact⟨ws,s.mono f,a.mono λ_ _ x=>x.mono f,k⟩
def WM (h:H)(v:V)(d:Int)(O:List (List Int))(R:List (List (List Int))):Prop:= ∃vO vR,v= .agg [aB d,vO,vR]/\SR h vO O/\SRR h vR R
theorem WM.mono {h h':H}{d:Int}{O:List (List Int)}{R:List (List (List Int))}(s:WM h v d O R)(f:Fr h h'):WM h' v d O R:=by
 obtain⟨vO,vR,e,s1,s2⟩:=s;exact⟨vO,vR,e,s1.mono f,s2.mono f⟩
def PL (W:Nat->Prop)(h:H)(v:V)(r:LN):Prop:= ∃ws,SV h v 1 ws/\Vl W v/\jO W h ws r/\CG v
section
variable {W W':Nat->Prop} {h h' hh:H}
theorem PL.go (p:PL W h v r)(f:Fx W h h')(hw: ∀id,id<h.next->W' id->W id):PL W' h' v r:=by
 obtain⟨ws,s,o,a,k⟩:=p;exact⟨ws,s.fx o f,o.tN s hw,jO.go a f hw,k⟩
theorem PL.sp (p:PL W h v r):SP h v r:=by
 obtain⟨ws,s,o,a,_⟩:=p;refine⟨ws,s,?_⟩;have hl:=bY.length a
 exact bY.nC (by simpa using hl) λi hi hj=>by
  have:=(bY.get a i hi (by omega)).si;simpa using this
def Kt (W:Nat->Prop)(v:V):Prop:= ∀id off n c,v= .sl id off n c->W id
structure yM (h hh:H)(C D:Nat)(W:Nat->Prop)(n:Nat)(O:LN)(R:qI)(vO vR:V)(wsO wsR:List V):Prop where
 get:hh.get C=bZ [aB n,vO,vR]
 oO:fC hh vO 1 wsO h.next
 oR:fC hh vR 1 wsR h.next
 aO:jO W hh wsO O
 aR:bY (PL W hh) wsR R
 bO:Kt W vO
 bR:Kt W vR
 pO:dO vO C
 pR:dO vR C
 qO:dO vO D
 qR:dO vR D
 d:W D
 cd:C≠D
 Hb:Dis vO vR
 wb: ∀id,W id->id<hh.next
 low: ∀id,id<h.next->W id
 hC:h.next<=C
 hD:h.next<=D
 c:W C
 fr:Fr h hh
theorem yM.start (hC:h.next<=C)(hC2:C<hh.next)(hD:h.next<=D)(hD2:D<hh.next)(hCD:C≠D)(f:Fr h hh)(hg:hh.get C=bZ [aB n,.aC,.aC]):yM h hh C D (λid=>id=C∨id=D∨id<h.next) n [] [] .aC .aC [] []:=
 ⟨hg,fC.aC _ _ _,fC.aC _ _ _,trivial,trivial,λ_ _ _ _ e=>(by cases e),λ_ _ _ _ e=>(by cases e),dO.aC _,dO.aC _,dO.aC _,dO.aC _,.inr (.inl rfl),hCD,λ_ _ _ _ e=>(by cases e),λid e=>by rcases e with rfl|rfl|e;exact hC2;exact hD2;exact kY e f.next,λid e=> .inr (.inr e),hC,hD,.inl rfl,f⟩
theorem yM.mono {R:qI}(A:yM h hh C D W n O R vO vR wsO wsR){h2:H}(f:Fr hh h2):yM h h2 C D W n O R vO vR wsO wsR:=
 ⟨by rw[f.get C (A.wb C A.c)];exact A.get,A.oO.fr f,A.oR.fr f,jO.go A.aO (Fx.of f) (λ_ _ h=>h),A.aR.mono λ_ _ x=>x.go (Fx.of f) (λ_ _ h=>h),A.bO,A.bR,A.pO,A.pR,A.qO,A.qR,A.d,A.cd,A.Hb,λid h=>kY (A.wb id h) f.next,A.low,A.hC,A.hD,A.c,A.fr.trans f⟩
theorem yM.step {R:qI}(A:yM h hh C D W n O R vO vR wsO wsR){v4 v5:V}{o:List Nat}(h4:PV W hh v4 o)(h5:PL W hh v5 r)
  {h6:H} {a k1 k2:Nat} (ha:hh.next<=a) (hb:hh.next<=b) (hab:a≠b) (ha2:a<h6.next) (hb2:b<h6.next) (hl1:wsO.length+1=k1) (hl2:wsR.length+1=k2)
  (gC:h6.get C=bZ [aB n,.sl a 0 k1 (.un 1),.sl b 0 k2 (.un 1)]) (ga:h6.get a=bZ (wsO++ [v4])) (gb:h6.get b=bZ (wsR++ [v5]))
  (old: ∀k,k<hh.next->k≠C->dO vO k->dO vR k->h6.get k=hh.get k):
  yM h h6 C D (λid=>W id∨id=a∨id=b) n (O++ [o]) (R++ [r]) (.sl a 0 k1 (.un 1)) (.sl b 0 k2 (.un 1)) (wsO++ [v4]) (wsR++ [v5]):=by
 have hf:Fx W hh h6:=⟨by omega,λid h1 h2=>old id h1 (λe=>h2 (e▸A.c)) (λid' off n c e e2=>h2 (e2▸A.bO _ _ _ _ e)) (λid' off n c e e2=>h2 (e2▸A.bR _ _ _ _ e))⟩
 have hw: ∀id,id<hh.next->(W id∨id=a∨id=b)->W id:=λid h1 h2=>by
  rcases h2 with h2|h2|h2
  ·exact h2
  ·omega
  ·omega
 have cn:=A.wb C A.c
 have dn:=A.wb D A.d
 have fn:=A.fr.next
 refine⟨gC,.inr ⟨a,k1,_, [],rfl,by rw[oS];simp;omega,.inl rfl,by omega,ha2,by rw[List.append_nil];exact ga⟩,.inr ⟨b,k2,_, [],rfl,by rw[oS];simp;omega,.inl rfl,by omega,hb2,by rw[List.append_nil];exact gb⟩,
  (jO.go A.aO hf hw).append (jO.one (PV.go h4 hf hw)),(A.aR.mono λ_ _ x=>x.go hf hw).append ⟨h5.go hf hw,trivial⟩,λid off n c e=>by cases e;exact .inr (.inl rfl),λid off n c e=>by cases e;exact .inr (.inr rfl),
  dO.sl (by omega),dO.sl (by omega),dO.sl (by omega),dO.sl (by omega),.inl A.d,A.cd,λi o n c e i' o' n' c' e'=>by cases e;cases e';exact hab,λid h1=>?_,λid h1=> .inl (A.low id h1),A.hC,A.hD,.inl A.c,⟨by omega,λid hid=>?_⟩⟩
 ·rcases h1 with h1|h1|h1
  ·have:=A.wb id h1;omega
  ·omega
  ·omega
 ·have hC:=A.hC
  rw[old id (by omega) (by omega) (λid' off n c e e2=>by have:=(A.oO.in _ _ _ _ e).2.1;omega) (λid' off n c e e2=>by have:=(A.oR.in _ _ _ _ e).2.1;omega)]
  exact A.fr.get id hid
theorem yM.box {R:qI}(A:yM h hh C D W n O R vO vR wsO wsR){h3:H}{o:Option Ob}(e:h3=hh.set D o):yM h h3 C D W n O R vO vR wsO wsR:=by
 subst e;have f:Fx W hh (hh.set D o):=Fx.set hh A.d o;have hD:=A.wb D A.d
 refine⟨by rw[H.aH hh A.cd];exact A.get,A.oO.mono (jA _) λid off m c e _ _=>H.aH hh (λe2=>A.qO _ _ _ _ e e2.symm) o,A.oR.mono (jA _) λid off m c e _ _=>H.aH hh (λe2=>A.qR _ _ _ _ e e2.symm) o,
  jO.go A.aO f (λ_ _ h=>h),A.aR.mono λ_ _ x=>x.go f (λ_ _ h=>h),A.bO,A.bR,A.pO,A.pR,A.qO,A.qR,A.d,A.cd,A.Hb,A.wb,A.low,A.hC,A.hD,A.c,?_⟩
 exact A.fr.set A.hD o
end
def HF (W:Nat->Prop)(h:H)(v:V)(n:Nat)(O:LN)(R:qI):Prop:= ∃vO vR wsO wsR,v= .agg [aB n,vO,vR]/\SV h vO 1 wsO/\Vl W vO/\jO W h wsO O/\SV h vR 1 wsR/\Vl W vR/\bY (PL W h) wsR R
section
variable {W W':Nat->Prop} {h h' hh:H}
theorem HF.go {R:qI}(c:HF W h v n O R)(f:Fx W h h')(hw: ∀id,id<h.next->W' id->W id):HF W' h' v n O R:=by
 obtain⟨vO,vR,wsO,wsR,e,s1,o1,a1,s2,o2,a2⟩:=c;exact⟨vO,vR,wsO,wsR,e,s1.fx o1 f,o1.tN s1 hw,jO.go a1 f hw,s2.fx o2 f,o2.tN s2 hw,a2.mono λ_ _ x=>x.go f hw⟩
theorem HF.mono {R:qI}(c:HF W h v n O R)(f:Fr h h'):HF W h' v n O R:=c.go (Fx.of f) λ_ _ h=>h
theorem HF.ch {R:qI}(c:HF W h v n O R):WM h v (n:Int) (O.map zi) (R.map (List.map zi)):=by
 obtain⟨vO,vR,wsO,wsR,e,s1,o1,a1,s2,o2,a2⟩:=c;refine⟨vO,vR,e,⟨wsO,s1,?_⟩,⟨wsR,s2,?_,λw hw=>?_⟩⟩
 ·have hl:=bY.length a1
  exact bY.nC (by simpa using hl) λi hi hj=>by
   have:=(bY.get a1 i hi (by omega)).si;simpa using this
 ·have hl:=bY.length a2
  exact bY.nC (by simpa using hl) λi hi hj=>by
   have:=(bY.get a2 i hi (by omega)).sp;simpa using this
 ·obtain⟨i,hi,rfl⟩:=Gx.1 hw
  have hl:=bY.length a2;obtain⟨_,_,_,_,k⟩:=bY.get a2 i hi (by omega);exact k
theorem Wh {sz:Nat}{ws:List V}(o:fC h v sz ws b):Vl (λid=>id<b) v:=by
 cases v with
 |sl id off m c=>exact λe=>by have:=(o.in _ _ _ _ rfl).2.1;omega
 |_=>trivial
theorem yM.chw {R:qI}(A:yM h hh C D W n O R vO vR wsO wsR):HF (λid=>id<h.next) hh (.agg [aB n,vO,vR]) n O R:=
 ⟨vO,vR,wsO,wsR,rfl,A.oO.sv,Wh A.oO,jO.tN A.aO λid _ h=>A.low id h,A.oR.sv,Wh A.oR,A.aR.mono λ_ _ x=>x.go (Fx.refl _ _) λid _ h=>A.low id h⟩
end
theorem QE {h:H}{O:List (List Int)}(s:SR h v O):v.one=true:=by
 obtain⟨_,t,_⟩:=s;exact t.eD.2.1
theorem QF {h:H}{O:List (List (List Int))}(s:SRR h v O):v.one=true:=by
 obtain⟨_,t,_⟩:=s;exact t.eD.2.1
end
def ChL (τ:oT)(n j:Nat)(o:List Nat)(r:LN):Prop:=o.Pairwise (· < ·)/\(∀p,p∈o↔p∈(τ j).orb)/\r.length=o.length/\ ∀k,k<o.length-> ∀y,(τ j).to (o.getD k 0)=some y->r.getD k []=Xr τ (n-(j+1)) (j+1) y
theorem UM {l:List Int}{a:List Nat}(h:l.Perm (zi a)): ∃q,l=zi q/\q.Perm a:=by
 refine⟨l.map Int.toNat,?_,?_⟩
 ·unfold zi
  rw[List.map_map];refine (List.map_id l).symm.trans (List.map_congr_left λx hx=>?_);have:=h.mem_iff.1 hx;obtain⟨k,_,rfl⟩:=xV.1 this;simp
 ·have:=h.map Int.toNat
  have e:(zi a).map Int.toNat=a:=by
   unfold zi;rw[List.map_map];exact (List.map_congr_left λx _=>by simp).trans (List.map_id a)
  rwa [e] at this
theorem YM {q:List Nat}(h:(zi q).Pairwise (· <= ·))(nd:q.Nodup):q.Pairwise (· < ·):=by
 unfold zi at h;rw[List.pairwise_map] at h;rw[List.nodup_iff_pairwise_ne] at nd;exact (h.and nd).imp λ⟨h1,h2⟩=>by omega
theorem GN (u:V)(hu1:u.cells= [u])(hu2:u.one=true)(h:H):Ev T 158 [u] h (λv h'=>v= .fn 180 [] [.ptr h.next 0]/\h'.get h.next=bZ [u]/\h'.next=h.next+1/\Fr h h'):=by
 refine bN jV rfl rfl ?_;simp(disch:=omega)only[go_sem,jV,aF,oH hu1 hu2];exact (Fr.refl h).new _
theorem mE {α:Type}{a:List α}{x:α}{j:Nat}{d:α}(h:j<a.length):(a++ [x]).getD j d=a.getD j d:=by
 rw[List.getD,List.getD,Hu h]
theorem kE {α:Type}{a:List α}{x d:α}:(a++ [x]).getD a.length d=x:=by
 rw[List.getD,List.getElem?_append_right (jA _),Nat.sub_self];rfl
theorem FD (h:H)(n tid L:Nat)(F:Nat->V)(τ:oT)(hn:n<=7)(R:rF h n tid L F τ)(t:oU n 0 τ):
  Ev T 117 [.ptr tid 0] h (λv h'=> ∃O R',HF (λid=>id<h.next) h' v n O R'/\eX n (S n τ 0) O R'/\Fr h h'):=by
 refine bN mI rfl rfl ?_
 obtain⟨B,hB⟩:=exI h.next
 have tn:=R.tn
 have ln:=R.ln
 have ct:h.cell tid 0=some (aB n):=by rw[H.aE R.t];rfl
 have bl:uK [aB 0,.aC,.aC] [(0,1,aB n)]=some (.agg [aB n,.aC,.aC]):=by
  have e1:putAt [aB 0,.aC,.aC] 0 [aB n]=some [aB n,.aC,.aC]:=by simp [putAt]
  simp [uK,jQ,e1,V.cells,V.one]
 obtain⟨h1,h1e⟩: ∃h1,h1=(h.new (.cells false [aB 0,.aC,.aC])).new (.cells false [aB 0,.aC,.aC]):=⟨_,rfl⟩
 have n1:h1.next=B+2:=by rw[h1e,H.aV,H.aV,hB]
 have g1:h1.get (B+1)=bZ [aB 0,.aC,.aC]:=by
  rw[h1e];have:=H.aL (h.new (.cells false [aB 0,.aC,.aC])) (.cells false [aB 0,.aC,.aC]);rwa [H.aV,hB] at this
 have g0:h1.get B=bZ [aB 0,.aC,.aC]:=by rw[h1e,H.bE _ (by rw[H.aV,hB];omega),←hB,H.aL]
 have f1:Fr h h1:=by rw[h1e];exact ((Fr.refl h).new _).new _
 have ct1:h1.cell tid 0=some (aB n):=by rw[f1.cell tn];exact ct
 simp(disch:=omega)only[go_sem,mI,aF,hB,ct,bl]
 rw[←h1e]
 simp(disch:=omega)only[go_sem,nX h1 (B+1) 0 (v:= aB n) (u:= .aC) (w:= .aC) rfl rfl rfl,g1,kM]
 obtain⟨h2,h2e⟩: ∃h2,h2=h1.set (B+1) (bZ [aB n,.aC,.aC]):=⟨_,rfl⟩
 have n2:h2.next=B+2:=by rw[h2e];exact n1
 have f2:Fr h h2:=by rw[h2e];exact f1.set (by omega) _
 have g2:h2.get (B+1)=bZ [aB n,.aC,.aC]:=by rw[h2e,H.aT]
 have g20:h2.get B=bZ [aB 0,.aC,.aC]:=by rw[h2e,H.aH _ (by omega)];exact g0
 have cl1:h1.cell tid 1=some (.sl L 0 n (.kn n)):=by rw[H.aE (R.mono f1).t];rfl
 rw[←h2e]
 simp(disch:=omega)only[go_sem,cl1]
 clear h1e h2e f1 g0 g1 ct1 cl1 n1 h1
 refine aI (λk' vars hh=> ∃(i:Nat) (W:Nat->Prop) (O:LN) (R':qI) (vO vR:V) (wsO wsR:List V),(∃g:Nat->V,vars= [.ptr tid 0,.ptr B 0,.ptr (B+1) 0,g 3,g 4,g 5,g 6,aB n,aB i,g 9,g 10,g 11,g 12,g 13])/\i<=n/\yM h hh (B+1) B W n O R' vO vR wsO wsR/\
   hh.get B=bZ [aB 0,.aC,.aC]/\O.length=i/\R'.length=i/\(∀j,j<i->ChL τ n j (O.getD j []) (R'.getD j []))/\k'=n-i) n
  ⟨0,_, [], [],_,_,_,_,aA rfl,lG _,yM.start (by omega) (by omega) (by omega) (by omega) (by omega) f2 g2,g20,rfl,rfl,λj hj=>by omega,rfl⟩ ?_
 clear f2 g2 g20 n2 h2
 rintro k' vars h2 ⟨i,W,O,R',vO,vR,wsO,wsR,⟨g,rfl⟩,hi,A,gB,lO,lR,hC,rfl⟩
 by_cases hlt:(i:Int)<(n:Int)
 case neg=>
  have e1:=jC hlt;obtain rfl:i=n:=by omega
  have hr:=bX A.get;have nB:=A.fr.next;simp(disch:=omega)only[go_sem,e1,hr,nX h2 B 0 (v:= aB i) (u:=vO) (w:=vR) rfl (SV.eD A.oO.sv).2.1 (SV.eD A.oR.sv).2.1,gB,kM];have hr2:=bX (h:=h2.set B (bZ [aB i,vO,vR])) (H.aT ..);have fB:Fx (· =B) h2 (h2.set B (bZ [aB i,vO,vR])):=Fx.set h2 (W:=(· =B)) rfl _;simp(disch:=omega)only[go_sem,hr2]
  obtain⟨h3,h3e⟩: ∃h3,h3=h2.set B (bZ [aB i,vO,vR]):=⟨_,rfl⟩
  rw[←h3e] at fB ⊢;have A3:=A.box h3e;refine⟨O,R',by rw[←hB];exact A3.chw,?_,A3.fr⟩;have X:=t.chain (O:=O) (R:=R') lO lR (λj hj=>(hC j hj).1) (λj hj=>(hC j hj).2.1) (λj hj=>(hC j hj).2.2.1) (λj hj=>(hC j hj).2.2.2);exact X
 have e1:=nL hlt
 have hin:i<n:=by omega
 have R2:=R.mono A.fr
 have cl:h2.cell tid 1=some (.sl L 0 n (.kn n)):=by rw[H.aE R2.t];rfl
 have co:h2.cell L (i*194+1)=some (F (i*194+1)):=R2.cell hin (by omega)
 have oo:=R2.orb i hin
 obtain⟨lZ,_⟩:=t i (lG _) hin
 have hon:=UA lZ hin
 have hpos:0<(τ i).orb.length:=List.length_pos_of_mem lZ.base
 simp(disch:=omega)only[go_sem,e1,cl,co]
 refine (GN (F (i*194+1)) (SV.eD oo.sv).1 (SV.eD oo.sv).2.1 h2).mono ?_
 rintro _ h3 ⟨rfl,g3,n3,f3⟩
 simp(disch:=omega)only[go_sem]
 have oo3:SI h3 (F (i*194+1)) (zi (τ i).orb):=(show SI h2 _ _ from oo.sv).mono f3
 refine (GF h2.next _ (zi (τ i).orb) h3 (by rw[aP];exact hpos) (by rw[aP];omega) g3 (by omega) oo3).mono ?_
 rintro _ h4 ⟨P,cp,l',rfl,hP1,hP2,gP,pm,asc,f4⟩
 obtain⟨q,rfl,pmq⟩:=UM pm
 have ascq:=YM asc (pmq.nodup_iff.2 lZ.nd)
 have lq:q.length=(τ i).orb.length:=pmq.length_eq
 have memq: ∀p,p∈q↔p∈(τ i).orb:=λp=>pmq.mem_iff
 rw[aP,←lq]
 have A4:=A.mono (f3.trans f4)
 have pq:PV W h4 (.sl P 0 q.length cp) q:=⟨SV.all (by rw[aJ,aP,Nat.mul_one]) hP2 gP _,λhw=>by have:=A.wb P hw;omega⟩
 have gB4:h4.get B=bZ [aB 0,.aC,.aC]:=by rw[(f3.trans f4).get B (A.wb B A.d)];exact gB
 clear A gB g3 oo3 oo co cl R2 pm asc
 simp(disch:=omega)only[go_sem]
 refine cV (λvs hh=> ∃(vr:V) (r:LN),(∃g:Nat->V,vs= [.ptr tid 0,.ptr B 0,.ptr (B+1) 0,aB i,.sl P 0 q.length cp,vr,g 6,aB n,aB i,g 9,g 10,g 11,g 12,g 13])/\PL W hh vr r/\ChL τ n i q r/\Fr h4 hh) ?_ ?_
 ·refine aI (λk' vs hh=> ∃(k:Nat) (vr:V) (ws:List V) (r:LN) (W':Nat->Prop),(∃g:Nat->V,vs= [.ptr tid 0,.ptr B 0,.ptr (B+1) 0,aB i,.sl P 0 q.length cp,vr,g 6,aB n,aB i,g 9,.sl P 0 q.length cp,aB (q.length:Int),aB k,g 13])/\k<=q.length/\fC hh vr 1 ws h4.next/\jO W' hh ws r/\Kt W' vr/\(∀id,W id->W' id)/\(∀id,W' id->id<hh.next/\(W id∨h4.next<=id))/\r.length=k/\
    (∀j,j<k-> ∀y,(τ i).to (q.getD j 0)=some y->r.getD j []=Xr τ (n-(i+1)) (i+1) y)/\Fr h4 hh/\k'=q.length-k) q.length
   ⟨0,.aC, [], [],W,aA rfl,lG _,fC.aC _ _ _,trivial,λ_ _ _ _ e=>(by cases e),λ_ h=>h,λid h=>⟨A4.wb id h,.inl h⟩,rfl,λj hj=>by omega,Fr.refl _,rfl⟩ ?_
  rintro k' vars h5 ⟨k,vr,ws,r,W',⟨g,rfl⟩,hk,ow,pvs,bl',hW1,hW2,lr,hr,f5,rfl⟩
  by_cases hlt2:(k:Int)<(q.length:Int)
  case neg=>
   have e2:=jC hlt2;obtain rfl:k=q.length:=by omega
   simp(disch:=omega)only[go_sem,e2];refine⟨vr,r,aA rfl,⟨ws,ow.sv,?_,pvs.tN (λid _ h=>hW1 id h),fC.JU ow⟩,⟨ascq,memq,lr,hr⟩,f5⟩
   cases vr with
   |sl id off m c=>exact λh=>by have:=(ow.in _ _ _ _ rfl).2.1;have:=A4.wb id h;omega
   |_=>trivial
  have e2:=nL hlt2
  have hk':k<q.length:=by omega
  obtain⟨p,hp⟩:=exI (q.getD k 0)
  have pq5:=pq.mono f5
  have ck:h5.cell P k=some (aB p):=by
   rw[H.aE (by rw[f5.get P hP2];exact gP),Bl hk',hp]
  have hpm:p∈(τ i).orb:=(memq p).1 (by rw[←hp,cJ hk'];exact List.getElem_mem hk')
  have hpn:=lZ.lt hin hpm
  obtain⟨y,hy⟩:=lZ.to hpm
  have Y:=lZ.dS _ _ hy
  have R5:=R.mono (A4.fr.trans f5)
  have cl:h5.cell tid 1=some (.sl L 0 n (.kn n)):=by rw[H.aE R5.t];rfl
  have cto:h5.cell L (i*194+2+p)=some (F (i*194+2+p)):=R5.Ng hin (by omega)
  have pto:PV (WT n L F) h5 (F (i*194+2+p)) y:=by
   have:=R5.to i p hin (by omega);rw[hy] at this;exact this
  simp(disch:=omega)only[go_sem,e2,ck,cl,cto]
  refine (OW h5 n tid L F τ _ y i hn R5 pto Y hin (t.mono (by omega))).mono ?_
  rintro v6 h6 ⟨p6,Q6,f6⟩
  simp(disch:=omega)only[go_sem]
  refine (Ke v6 _ h6 (by rw[aP,Q6.len];omega) (by rw[aP,Q6.len];omega) p6.si).mono ?_
  rintro v7 h7 fr7
  have f7:=fr7.fr
  have p7:PV W' h7 v7 (Xr τ (n-(i+1)) (i+1) y):=fr7.pv λid h=>kY (hW2 id h).1 f6.next
  simp(disch:=omega)only[go_sem,dL h7 (z:= .aC) p7.iG.1 p7.iG.2]
  obtain⟨h8,h8e⟩: ∃h8,h8=h7.new (.cells false [v7]):=⟨_,rfl⟩
  have g8:h8.get h7.next=bZ [v7]:=by rw[h8e,H.aL]
  have n8:h8.next=h7.next+1:=by rw[h8e,H.aV]
  have f8:Fr h7 h8:=by rw[h8e];exact (Fr.refl h7).new _
  rw[←h8e]
  have f58:=(f6.trans f7).trans f8
  have ow8:=ow.fr f58
  have hws:=bY.length pvs
  obtain⟨h9,a9,p9⟩:=ow8.push (bytes:=24) (SV.one (by omega) g8 (.kn 1)) (n:=k) (m:=1) (by omega) rfl (by omega) (by omega) (by omega)
  simp(disch:=omega)only[go_sem,a9]
  rw[iJ k]
  have n9:=p9.next
  have f9:Fx W' h8 h9:=p9.fx bl'
  have hnext:=f58.next
  have hw9: ∀id,id<h8.next->(W' id∨id=h8.next)->W' id:=λid h1 h2=>by
   rcases h2 with h2|h2
   ·exact h2
   ·omega
  refine⟨q.length-(k+1),by omega,k+1,_,_,r++ [Xr τ (n-(i+1)) (i+1) y],λid=>W' id∨id=h8.next,aA rfl,by omega,p9.own (by omega) rfl (by have:=f5.next;omega),?_,λid off m c e=>by cases e;exact .inr rfl,λid h=> .inl (hW1 id h),λid h=>?_,by rw[oS,lr];rfl,λj hj z hz=>?_,?_,rfl⟩
  ·exact (jO.go (jO.go pvs (Fx.of f58) (λ_ _ h=>h)) f9 hw9).append (jO.one (PV.go (p7.mono f8) f9 hw9))
  ·rcases h with h|h
   ·have:=hW2 id h;exact⟨by omega,this.2⟩
   ·have:=f5.next;exact⟨by omega,.inr (by omega)⟩
  ·by_cases e:j=k
   ·subst e
    rw[hp,hy] at hz
    cases hz
    rw[←lr,kE]
   ·rw[mE (by omega)]
    exact hr j (by omega) z hz
  ·refine⟨by have:=f5.next;omega,λid hid=>?_⟩
   rw[p9.old id (by have:=f5.next;omega) (λid' off m c e e2=>by have:=(ow.in _ _ _ _ e).2.1;omega),f58.get id (by have:=f5.next;omega)]
   exact f5.get id hid
 rintro vars h5 ⟨vr,r,⟨g,rfl⟩,pl,hcl,f5⟩
 have A5:=A4.mono f5
 have pq5:=pq.mono f5
 have gB5:h5.get B=bZ [aB 0,.aC,.aC]:=by rw[f5.get B (A4.wb B A4.d)];exact gB4
 have cO:h5.cell (B+1) 1=some vO:=by rw[H.aE A5.get];rfl
 have cR:h5.cell (B+1) 2=some vR:=by rw[H.aE A5.get];rfl
 obtain⟨ws,pl1,pl2,pl3,pl4⟩:=pl
 have pl:PL W h5 vr r:=⟨ws,pl1,pl2,pl3,pl4⟩
 have fn5:=A5.fr.next
 have cn5:=A5.wb _ A5.c
 simp(disch:=omega)only[go_sem,cO,cR,dL _ (z:= .aC) (v:= .sl P 0 q.length cp) rfl rfl]
 obtain⟨h6,h6e⟩: ∃h6:H,h6=H.mk ((H.mk h5.tr (h5.next+3)).new (Ob.cells false [.sl P 0 q.length cp])).tr (h5.next+14):=⟨_,rfl⟩
 rw[←h6e]
 have g6:h6.get (h5.next+3)=bZ [.sl P 0 q.length cp]:=by rw[h6e];exact H.aL (H.mk h5.tr (h5.next+3)) _
 have n6:h6.next=h5.next+14:=by rw[h6e]
 have o6: ∀k,k≠h5.next+3->h6.get k=h5.get k:=λk hk=>by rw[h6e];exact H.bE (H.mk h5.tr (h5.next+3)) (by simpa using hk) _
 have f6:Fr h5 h6:=⟨by omega,λid hid=>o6 id (by omega)⟩
 have hwO:=bY.length A5.aO
 have hwR:=bY.length A5.aR
 obtain⟨h7,a7,p7⟩:=(A5.oO.fr f6).push (bytes:=24) (SV.one (by omega) g6 (.kn 1)) (n:=i) (m:=1) (by omega) rfl (by omega) (by omega) (by omega)
 have n7:=p7.next
 have oldO: ∀k,k<h5.next->dO vO k->h7.get k=h5.get k:=λk h1 h2=>by rw[p7.old k (by omega) h2,o6 k (by omega)]
 have cR7:h7.cell (B+1) 2=some vR:=by unfold H.cell;rw[oldO (B+1) cn5 A5.pO,A5.get];rfl
 have eR:eN vR vR=true:=A5.oR.sv.eN
 have svr:vr.cells= [vr]/\vr.one=true:=⟨(SV.eD pl1).1,(SV.eD pl1).2.1⟩
 simp(disch:=omega)only[go_sem,a7,cR7,eR,dL _ (z:= .aC) svr.1 svr.2]
 obtain⟨h8,h8e⟩: ∃h8:H,h8=H.mk ((H.mk h7.tr (h5.next+8)).new (Ob.cells false [vr])).tr h7.next:=⟨_,rfl⟩
 rw[←h8e]
 have g8:h8.get (h5.next+8)=bZ [vr]:=by rw[h8e];exact H.aL (H.mk h7.tr (h5.next+8)) _
 have n8:h8.next=h7.next:=by rw[h8e]
 have o8: ∀k,k≠h5.next+8->h8.get k=h7.get k:=λk hk=>by rw[h8e];exact H.bE (H.mk h7.tr (h5.next+8)) (by simpa using hk) _
 have oR8:fC h8 vR 1 wsR h.next:=A5.oR.mono (by omega) λid off m c e _ hid=>by
  rw[o8 id (by omega),oldO id hid (λid' off' n' c' e' e2=>A5.Hb _ _ _ _ e' _ _ _ _ e e2.symm)]
 obtain⟨h9,a9,p9⟩:=oR8.push (bytes:=24) (SV.one (by omega) g8 (.kn 1)) (n:=i) (m:=1) (by omega) rfl (by omega) (by omega) (by omega)
 have n9:=p9.next
 have apR: ∀k,h5.next<=k->dO vR k:=λk hk id off m c e e2=>by have:=(A5.oR.in _ _ _ _ e).1;omega
 have old9: ∀k,k<h5.next->dO vO k->dO vR k->h9.get k=h5.get k:=λk h1 h2 h3=>by rw[p9.old k (by omega) h3,o8 k (by omega),oldO k h1 h2]
 have gC9:h9.get (B+1)=bZ [aB n,vO,vR]:=by rw[old9 _ cn5 A5.pO A5.pR];exact A5.get
 have pt1: ∀(hh:H) (x:V),fI (bZ [aB n,vO,vR]) hh (B+1) 1 [x]=some (hh.set (B+1) (bZ [aB n,x,vR])):=λhh x=>aX (by simp) hh _ x
 have pt2: ∀(hh:H) (x y:V),fI (bZ [aB n,x,vR]) hh (B+1) 2 [y]=some (hh.set (B+1) (bZ [aB n,x,y])):=λhh x y=>aX (by simp) hh _ y
 simp(disch:=omega)only[go_sem,a9,gC9,pt1,pt2]
 rw[iJ i]
 obtain⟨ha,hb⟩:h6.next=h5.next+14/\h8.next=h5.next+15:=⟨n6,by omega⟩
 rw[ha,hb]
 obtain⟨h10,h10e⟩: ∃h10,h10=(h9.set (B+1) (bZ [aB n,.sl (h5.next+14) 0 (i+1) (.un 1),vR])).set (B+1) (bZ [aB n,.sl (h5.next+14) 0 (i+1) (.un 1),.sl (h5.next+15) 0 (i+1) (.un 1)]):=⟨_,rfl⟩
 rw[←h10e]
 have o10: ∀k,k≠B+1->h10.get k=h9.get k:=λk hk=>by rw[h10e,H.aH _ hk,H.aH _ hk]
 have n10:h10.next=h5.next+16:=by rw[h10e];show h9.next=_;omega
 have A10:=A5.step (v4:= .sl P 0 q.length cp) (v5:=vr) (o:=q) (r:=r) (h6:=h10) (a:=h5.next+14) (b:=h5.next+15) (k1:=i+1) (k2:=i+1) pq5 pl (by omega) (by omega) (by omega) (by omega) (by omega) (by omega) (by omega) (by rw[h10e,H.aT])
  (by rw[o10 _ (by omega),p9.old _ (by omega) (apR _ (by omega)),o8 _ (by omega),←ha];exact p7.get) (by rw[o10 _ (by omega),←hb];exact p9.get) (λk h1 h2 h3 h4=>by rw[o10 k h2];exact old9 k h1 h3 h4)
 refine⟨n-(i+1),by omega,i+1,_,_,_,_,_,_,_,aA rfl,by omega,A10,?_,by rw[oS,lO];rfl,by rw[oS,lR];rfl,λj hj=>?_,rfl⟩
 ·rw[old9 B (A5.wb B A5.d) A5.qO A5.qR];exact gB5
 ·by_cases e:j=i
  ·subst e
   have e1:(O++ [q]).getD j []=q:=by rw[←lO];exact kE
   have e2:(R'++ [r]).getD j []=r:=by rw[←lR];exact kE
   rw[e1,e2]
   exact hcl
  ·rw[mE (by omega),mE (by omega)]
   exact hC j (by omega)
end Go.Proofs.YtapfcpkecmmagaaGreat
namespace Go.Ay
set_option maxRecDepth 100000
section
variable {n:Nat} {f:Nat->Int}
def sm:Nat->(Nat->Int)->Int
 |0,_=>0
 |n+1,f=>sm n f+f n
theorem wZ (f:Nat->Int):sm 0 f=0:=rfl
theorem kA (n:Nat)(f:Nat->Int):sm (n+1) f=sm n f+f n:=rfl
theorem kS {g:Nat->Int}(h: ∀k,k<n->f k=g k):sm n f=sm n g:=by
 induction n with
 |zero=>rfl
 |succ n ih=>rw[kA,kA,ih λk hk=>h k (by omega),h n (by omega)]
theorem JK (n:Nat):sm n (λ_=>0)=0:=by
 induction n with
 |zero=>rfl
 |succ n ih=>rw[kA,ih];rfl
theorem Ut (h: ∀k,k<n->f k=0):sm n f=0:=by
 rw[kS h,JK]
theorem KQ (n:Nat)(f g:Nat->Int):sm n (λk=>f k+g k)=sm n f+sm n g:=by
 induction n with
 |zero=>rfl
 |succ n ih=>rw[kA,kA,kA,ih];omega
theorem YP (n m:Nat)(f:Nat->Int):sm (n+m) f=sm n f+sm m (λk=>f (n+k)):=by
 induction m with
 |zero=>rw[wZ,Int.add_zero];rfl
 |succ m ih=>rw[←Nat.add_assoc,kA,kA,ih,Int.add_assoc]
theorem OS (n:Nat)(f:Nat->Int):sm (n+1) f=f 0+sm n (λk=>f (k+1)):=by
 rw[show n+1=1+n by omega,YP,kA,wZ,Int.zero_add];congr 1;exact kS λk _=>by rw[Nat.add_comm]
theorem ZD {t:Nat}(ht:t<n)(h: ∀k,k<n->k≠t->f k=0):sm n f=f t:=by
 induction n with
 |zero=>omega
 |succ n ih=>
  rw[kA]
  by_cases hn:n=t
  ·subst hn
   rw[Ut λk hk=>h k (by omega) (by omega),Int.zero_add]
  ·rw[ih (by omega) λk hk hne=>h k (by omega) hne,h n (by omega) hn,Int.add_zero]
theorem IF {t:Nat}(ht:t<n)(f:Nat->Int):sm n (λk=>if t=k then f k else 0)=f t:=by
 rw[ZD ht λk _ hne=>if_neg (Ne.symm hne),if_pos rfl]
def ab (x:Int):Int:=if x<0 then -x else x
end
end Go.Ay
namespace Go.Proofs.YtapfcpkecmmagaaGreat
open Go Go.Ay
set_option maxRecDepth 100000
section
variable {h h' a:H} {l:List Int} {n:Int} {u:V} {b x:Nat}
def acE (h:H)(l:List Int)(v:V)(h':H):Prop:=fC h' v 1 (ints l) h.next/\Fr h h'/\(0<l.length-> ∃id,v= .sl id 0 l.length (.un 1)/\h.next<=id/\id<h'.next/\h'.get id=bZ (ints l))
theorem RT {v:V}(hs:SI h v l)(hl:l.length<1000000): ∃v' h',Bk (h.new (.cells false [])) 1 8 (.sl h.next 0 0 (.kn 0)) v=some (v',h')/\acE h l v' h':=by
 obtain⟨v',h',e,a⟩:=(fC.new h 1 0 h.next [] rfl (jA _)).app (bytes:=8) (n:=0) (by rw[H.aV];omega) (SV.mono hs ((Fr.refl h).new _)) (m:=l.length) rfl (by rw[aJ,Nat.mul_one]) (by omega) (by omega);refine⟨v',h',e,a.own,a.fr h ((Fr.refl h).new _) (jA _),λh0=>?_⟩;rcases a.eD with ⟨h1,_⟩|⟨id,h1,h2,h3,h4⟩
 ·omega
 ·exact⟨id,by rw[h1,Nat.zero_add],h2,h3,h4⟩
theorem aaI (v:V)(l:List Int)(h:H)(hs:SI h v l)(hl:l.length<1000000):Ev T 55 [v] h (acE h l):=by
 refine bN uM rfl rfl ?_;simp only[uM,aF,go_sem];obtain⟨v',h',e,c⟩:=RT hs hl;simp only[e,go_sem];exact c
theorem Ta (n d:Nat):(n:Int).tmod (d:Int)=((n%d:Nat):Int):=rfl
theorem Pg (a:Int)(hn:0<n): -n<a.tmod n/\a.tmod n<n:=by
 have h1:=Int.tmod_lt_of_pos a hn;refine⟨?_,h1⟩;rcases Int.le_total 0 a with h|h
 ·have:=Int.tmod_nonneg n h;omega
 ·have h2:=Int.tmod_lt_of_pos (-a) hn
  rw[Int.neg_tmod] at h2;omega
theorem Sb (a:Int)(hn:0<n):(if a.tmod n<0 then a.tmod n+n else a.tmod n)=a%n:=by
 have h0:=Pg a hn;have h1:a.tmod n=a-n*(a.tdiv n):=by have:=Int.mul_tdiv_add_tmod a n;omega
 have h2:a%n=a-n*(a/n):=Int.emod_def a n;have h3:=Int.emod_nonneg a (show n≠0 by omega);have h4:=Int.emod_lt_of_pos a hn
 have h5:(a.tmod n)%n=a%n:=by
  rw[h1,Int.sub_emod,Int.mul_emod_right,Int.sub_zero,Int.emod_emod]
 split
 ·rw[←h5,←Int.emod_eq_of_lt (a:=a.tmod n+n) (b:=n) (by omega) (by omega),Int.add_emod_right]
 ·rw[←h5,Int.emod_eq_of_lt (by omega) (by omega)]
theorem Qs (a n:Int)(h:H)(hn:0<n)(hn2:n<1000000000):Ev T 22 [aB a,aB n] h (λv h'=>v= aB (a%n)/\h'=h):=by
 refine bN Ar rfl rfl ?_;have h0:=Pg a hn;have h1:=Sb a hn;simp (disch:=first|omega|(simp only[Qn];(try omega);done)|fail) only[go_sem,Ar,aF];refine aZ (λhlt=>?_) (λhge=>?_)
 ·rw[if_pos hlt] at h1
  simp (disch:=first|omega|(simp only[Qn];(try omega);done)|fail) only[go_sem];exact⟨by rw[h1],trivial⟩
 ·rw[if_neg hge] at h1
  simp (disch:=first|omega|(simp only[Qn];(try omega);done)|fail) only[go_sem];exact⟨by rw[h1],trivial⟩
theorem Ju {a b:List Int}(hl:a.length=b.length)(h: ∀j,j<a.length->a.getD j 0=b.getD j 0):a=b:=by
 apply List.ext_getElem hl;intro i h1 h2;have:=h i h1;rw[List.getD_eq_getElem?_getD,iK h1,List.getD_eq_getElem?_getD,iK h2] at this;exact this
theorem Ni {g:Nat}(hgt:T g=some iE)(va vb:V)(a b:List Int)(h:H)(ha:SI h va a)(hb:SI h vb b)(hla:a.length<1000000)(hlb:b.length<1000000):Ev T g [va,vb] h (λv h'=>v= .bool (decide (a=b))/\Fr h h'):=by
 refine Gq hgt rfl ?_;obtain⟨id,off,hsl,hid,hc⟩:=ha.open;obtain⟨id2,off2,hsl2,hid2,hc2⟩:=hb.open;simp (disch:=first|omega|(simp only[Qn];(try omega);done)|fail) only[go_sem,iE,aF,ha.lens,hb.lens];refine aZ (λhne=>?_) (λheq=>?_)
 ·simp (disch:=first|omega|(simp only[Qn];(try omega);done)|fail) only[go_sem]
  have:a≠b:=λe=>hne (by rw[e])
  exact⟨by rw[decide_eq_false this],Fr.refl h⟩
 have heq:a.length=b.length:=by omega
 simp (disch:=first|omega|(simp only[Qn];(try omega);done)|fail) only[go_sem,ha.lens];refine aI (λk vars h2=> ∃(i:Nat) (x3 x7 x8:V),vars= [va,vb,.bool false,x3,.bool (decide ((a.length:Int)≠(b.length:Int))),aB (a.length:Int),aB i,x7,x8]/\i<=a.length/\(∀j,j<i->a.getD j 0=b.getD j 0)/\Fr h h2/\k=a.length-i) a.length
  ⟨0,_,_,_,rfl,lG _,λj hj=>by omega,Fr.refl h,rfl⟩ ?_
 rintro k vars h2 ⟨i,x3,x7,x8,rfl,hi,hpre,hf2,rfl⟩;simp (disch:=first|omega|(simp only[Qn];(try omega);done)|fail) only[go_sem];refine aZ (λhlt=>?_) (λhge=>?_)
 ·have hc':=Ci hf2 hid hc
  have hc2':=Ci hf2 hid2 hc2;simp (disch:=first|omega|(simp only[Qn];(try omega);done)|fail) only[go_sem,hsl.ixa,hsl2.ixa,hc',hc2',Int.toNat_natCast];refine aZ (λhne=>?_) (λhe=>?_)
  ·simp (disch:=first|omega|(simp only[Qn];(try omega);done)|fail) only[go_sem]
   have:a≠b:=λe=>hne (by rw[e])
   exact⟨by rw[decide_eq_false this],hf2.bJ (by omega)⟩
  ·simp (disch:=first|omega|(simp only[Qn];(try omega);done)|fail) only[go_sem]
   rw[iJ i];refine⟨a.length-(i+1),by omega,i+1,_,_,_,rfl,by omega,λj hj=>?_,hf2.bJ (by omega),rfl⟩
   by_cases h3:j=i
   ·rw[h3];exact Decidable.byContradiction he
   ·exact hpre j (by omega)
 ·simp (disch:=first|omega|(simp only[Qn];(try omega);done)|fail) only[go_sem]
  have:a=b:=Ju heq λj hj=>hpre j (by omega)
  exact⟨by rw[decide_eq_true this],hf2⟩
theorem OU (va vb:V)(a b:List Int)(h:H)(ha:SI h va a)(hb:SI h vb b)(hla:a.length<1000000)(hlb:b.length<1000000):Ev T 149 [va,vb] h (λv h'=>v= .bool (decide (a=b))/\Fr h h'):=Ni (rfl:T 149=some iE) va vb a b h ha hb hla hlb
theorem qA (va vb:V)(a b:List Int)(h:H)(ha:SI h va a)(hb:SI h vb b)(hla:a.length<1000000)(hlb:b.length<1000000):Ev T 16 [va,vb] h (λv h'=>v= .bool (decide (a=b))/\Fr h h'):=by
 refine bN tD rfl rfl ?_;obtain⟨id,off,hsl,hid,hc⟩:=ha.open;obtain⟨id2,off2,hsl2,hid2,hc2⟩:=hb.open;simp (disch:=first|omega|(simp only[Qn];(try omega);done)|fail) only[go_sem,tD,aF,ha.lens,hb.lens];refine aZ (λhne=>?_) (λheq=>?_)
 ·simp (disch:=first|omega|(simp only[Qn];(try omega);done)|fail) only[go_sem]
  have:a≠b:=λe=>hne (by rw[e])
  exact⟨by rw[decide_eq_false this],Fr.refl h⟩
 have heq:a.length=b.length:=by omega
 simp (disch:=first|omega|(simp only[Qn];(try omega);done)|fail) only[go_sem,ha.lens];refine aI (λk vars h2=> ∃(i:Nat) (x4 x5 x6:V),vars= [va,vb,.bool false,aB i,x4,x5,x6]/\i<=a.length/\(∀j,j<i->a.getD j 0=b.getD j 0)/\Fr h h2/\k=a.length-i) a.length
  ⟨0,_,_,_,rfl,lG _,λj hj=>by omega,Fr.refl h,rfl⟩ ?_
 rintro k vars h2 ⟨i,x3,x7,x8,rfl,hi,hpre,hf2,rfl⟩;simp (disch:=first|omega|(simp only[Qn];(try omega);done)|fail) only[go_sem,ha.lens];refine aZ (λhlt=>?_) (λhge=>?_)
 ·have hc':=Ci hf2 hid hc
  have hc2':=Ci hf2 hid2 hc2;simp (disch:=first|omega|(simp only[Qn];(try omega);done)|fail) only[go_sem,hsl.ixa,hsl2.ixa,hc',hc2',Int.toNat_natCast];refine aZ (λhne=>?_) (λhe=>?_)
  ·simp (disch:=first|omega|(simp only[Qn];(try omega);done)|fail) only[go_sem]
   have:a≠b:=λe=>hne (by rw[e])
   exact⟨by rw[decide_eq_false this],hf2.bJ (by omega)⟩
  ·simp (disch:=first|omega|(simp only[Qn];(try omega);done)|fail) only[go_sem]
   rw[iJ i];refine⟨a.length-(i+1),by omega,i+1,_,_,_,rfl,by omega,λj hj=>?_,hf2.bJ (by omega),rfl⟩
   by_cases h3:j=i
   ·rw[h3];exact Decidable.byContradiction he
   ·exact hpre j (by omega)
 ·simp (disch:=first|omega|(simp only[Qn];(try omega);done)|fail) only[go_sem]
  have:a=b:=Ju heq λj hj=>hpre j (by omega)
  exact⟨by rw[decide_eq_true this],hf2⟩
def WL (u:V)(b:Nat):Prop:= ∀id off n c,u= .sl id off n c->b<=id
theorem WL.ne {id off n:Nat}{c:qP}(f:WL u b)(h:id<b):u≠ .sl id off n c:=λe=>by have:=f _ _ _ _ e;omega
theorem WL.le {b':Nat}(f:WL u b)(h:b'<=b):WL u b':=λid off n c e=>Nat.le_trans h (f id off n c e)
theorem WL.own {v:V}{sz:Nat}{ws:List V}(o:fC h v sz ws b):WL v b:=λid off n c e=>by
 rcases o with ⟨h1,_⟩|⟨id',_,_,_,h1,_,_,h2,_⟩
 ·rw[h1] at e;cases e
 ·rw[h1] at e;cases e;exact h2
structure xY (x:Nat)(h h':H):Prop where
 next:h.next<=h'.next
 get: ∀id,id<h.next->id≠x->h'.get id=h.get id
theorem xY.refl (x:Nat)(h:H):xY x h h:=⟨jA _,λ_ _ _=>rfl⟩
theorem xY.of (f:Fr h h'):xY x h h':=⟨f.next,λid hid _=>f.get id hid⟩
theorem xY.trans {b c:H}(f:xY x a b)(g:xY x b c):xY x a c:=⟨Nat.le_trans f.next g.next,λid hid hx=>(g.get id (kY hid f.next) hx).trans (f.get id hid hx)⟩
theorem xY.set {b:H}(f:xY x a b)(o:Option Ob):xY x a (b.set x o):=⟨f.next,λid hid hx=>(H.aH b hx o).trans (f.get id hid hx)⟩
theorem xY.fr {b c:H}(f:Fr a b)(hx:a.next<=x)(g:xY x b c):Fr a c:=⟨Nat.le_trans f.next g.next,λid hid=>(g.get id (kY hid f.next) (by omega)).trans (f.get id hid)⟩
theorem SI.fx {lo:Nat}(s:SI h u l)(fs:WL u lo)(hx:x<lo)(f:xY x h h'):SI h' u l:=by
 rcases s with s|⟨id,off,len,cap,ro,vs,rfl,h2,h3,h4,h5,h6⟩
 ·exact .inl s
 ·have hid:=fs _ _ _ _ rfl
  exact .inr ⟨id,off,len,cap,ro,vs,rfl,h2,kY h3 f.next,by rw[f.get id h3 (by omega)];exact h4,h5,h6⟩
def Tk (h:H)(x:Nat)(l:List Int):Prop:= ∃vl,∃a:Nat,h.get x=bZ [vl,aB a]/\SI h vl l/\(∀id off len c,vl= .sl id off len c->id<x)/\a<=l.length/\x<h.next
theorem Tk.mono (t:Tk h x l)(f:Fr h h'):Tk h' x l:=by
 obtain⟨vl,a,h1,h2,h3,h4,h5⟩:=t;exact⟨vl,a,(f.get x h5).trans h1,h2.mono f,h3,h4,kY h5 f.next⟩
theorem Tk.low (t:Tk h x l)(hn:h.next<=h'.next)(hg: ∀id,id<=x->h'.get id=h.get id):Tk h' x l:=by
 obtain⟨vl,a,h1,h2,h3,h4,h5⟩:=t;refine⟨vl,a,(hg x (jA _)).trans h1,?_,h3,h4,kY h5 hn⟩;rcases h2 with h0|⟨id,off,len,cap,ro,vs,e,q2,q3,q4,q5,q6⟩
 ·exact .inl h0
 ·have:=h3 _ _ _ _ e
  exact .inr ⟨id,off,len,cap,ro,vs,e,q2,kY q3 hn,(hg id (by omega)).trans q4,q5,q6⟩
theorem Tk.set {y:Nat}(t:Tk h x l)(hy:h.next<=y)(o:Option Ob):Tk (h.set y o) x l:=t.mono ((Fr.refl h).set hy o)
theorem Wv (a:Int)(hn:0<n):0<=a%n/\a%n<n:=⟨Int.emod_nonneg a (by omega),Int.emod_lt_of_pos a hn⟩
def acB (n:Nat):Nat->Nat->Nat
 |0,_=>n
 |f+1,d=>if d*d<=n then (if n%d=0 then d else acB n f (d+1)) else n
def acS (n:Nat):Nat:=acB n 1000 2
def dS (n:Int):Bool:=decide (1<n)&&(decide (n<1000000)&&decide (acS n.toNat=n.toNat))
end
end Go.Proofs.YtapfcpkecmmagaaGreat
