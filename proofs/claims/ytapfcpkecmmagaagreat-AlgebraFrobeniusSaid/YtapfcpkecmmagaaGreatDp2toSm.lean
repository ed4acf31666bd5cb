/- Texts of the claim. -/
import Derived.Test.YtapfcpkecmmagaaGreatDp1
import Derived.Test.YtapfcpkecmmagaaGreatP5a
import Derived.Test.YtapfcpkecmmagaaGreatAy39
import Derived.Test.YtapfcpkecmmagaaGreatC27code
import Derived.Sort.AssemblyPlain
import Derived.Test.YtapfcpkecmmagaaGreatAy26
set_option maxHeartbeats 32000000
namespace Go.Pm
set_option maxRecDepth 100000
section
variable {j p:Nat}
structure Lv where
 gens:oN
 orb:List Nat
 to:Nat->Option (List Nat)
 tr:Nat->Nat
abbrev jI:=Nat->Lv
def Fix (i:Nat)(x:List Nat):Prop:= ∀k,k<i->x.getD k 0=k
def Yd (n:Nat)(τ:jI):Nat->Nat->List Nat->Prop
 |_,0,x=>x=aW n
 |i,d+1,x=> ∃p y h,(τ i).to p=some y/\Yd n τ (i+1) d h/\x=aQ h y
def S (n:Nat)(τ:jI)(i:Nat)(x:List Nat):Prop:=Yd n τ i (n-i) x
section
variable {n:Nat} {τ τ':jI} {x y z:List Nat} {i:Nat}
theorem mD:S n τ n x↔x=aW n:=by unfold S;rw[Nat.sub_self];exact Iff.rfl
theorem jP (hi:i<n):S n τ i x↔ ∃p y h,(τ i).to p=some y/\S n τ (i+1) h/\x=aQ h y:=by
 unfold S;rw[show n-i=(n-(i+1))+1 from by omega];exact Iff.rfl
theorem xW: ∀(d i:Nat) (x:List Nat),(∀j,i<=j->j<i+d->τ j=τ' j)->(Yd n τ i d x↔Yd n τ' i d x)
 |0,_,_,_=>Iff.rfl
 |d+1,i,x,h=>by
  simp only[Yd];rw[h i (Nat.le_refl _) (by omega)];have ih:=λg=>xW d (i+1) g (λj h1 h2=>h j (by omega) (by omega))
  simp only[ih]
theorem Hc (h: ∀j,i<=j->j<n->τ j=τ' j):S n τ i x↔S n τ' i x:=
 xW _ _ _ λj h1 h2=>h j h1 (by omega)
structure Mk (n j:Nat)(l:Lv):Prop where
 nd:l.orb.Nodup
 base:j∈l.orb
 one:l.to j=some (aW n)
 iff: ∀p,p∈l.orb↔(l.to p).isSome
 isP: ∀p y,l.to p=some y->aX n y
 fix: ∀p y,l.to p=some y->Fix j y
 maps: ∀p y,l.to p=some y->y.getD j 0=p
 gen: ∀p y,l.to p=some y->dF n (· ∈l.gens) y
 gP: ∀s∈l.gens,aX n s
 gF: ∀s∈l.gens,Fix j s
 gN:l.gens.Nodup
 le: ∀q,l.tr q<=l.gens.length
 zero: ∀q,q∉l.orb->l.tr q=0
theorem Mk.lt {l:Lv}(L:Mk n j l)(hj:j<n)(hp:p∈l.orb):p<n:=by
 obtain⟨y,hy⟩:=Option.isSome_iff_exists.1 ((L.iff p).1 hp);rw[←L.maps p y hy];exact (L.isP p y hy).dU hj
theorem Mk.to {l:Lv}(L:Mk n j l)(hp:p∈l.orb): ∃y,l.to p=some y:=Option.isSome_iff_exists.1 ((L.iff p).1 hp)
theorem Mk.mem {l:Lv}(L:Mk n j l){y:List Nat}(h:l.to p=some y):p∈l.orb:=(L.iff p).2 (by rw[h];rfl)
def Cl (n j:Nat)(τ:jI):Prop:= ∀q y,(τ j).to q=some y-> ∀k s,k<(τ j).tr q->(τ j).gens[k]? =some s->
 ∃u,(τ j).to ((aQ y s).getD j 0)=some u/\S n τ (j+1) (aQ (aQ y s) (bX u))
def Full (l:Lv):Prop:= ∀q∈l.orb,l.tr q=l.gens.length
def Dn (n j:Nat)(τ:jI):Prop:=j+1<n-> ∀s∈(τ (j+1)).gens,dF n (· ∈(τ j).gens) s
def jJ (n i:Nat)(τ:jI):Prop:= ∀j,i<=j->j<n->Mk n j (τ j)/\Cl n j τ/\Full (τ j)/\Dn n j τ
theorem jJ.mono (t:jJ n i τ){k:Nat}(h:i<=k):jJ n k τ:=λj h1 h2=>t j (by omega) h2
theorem jJ.congr (t:jJ n i τ)(h: ∀j,i<=j->j<n->τ j=τ' j):jJ n i τ':=λj h1 h2=>by
 obtain⟨a,b,c,d⟩:=t j h1 h2;have e:=h j h1 h2;refine⟨e▸a,λq y hy k s hk hs=>?_,e▸c,λhj s hs=>?_⟩
 ·rw[←e] at hy hk hs ⊢
  obtain⟨u,hu,hS⟩:=b q y hy k s hk hs;exact⟨u,hu,(Hc λk h3 h4=>h k (by omega) h4).1 hS⟩
 ·rw[←h (j+1) (by omega) hj] at hs
  rw[←e];exact d hj s hs
theorem Fix.one (n i:Nat)(hi:i<=n):Fix i (aW n):=λk hk=>dM (by omega)
theorem Fix.mul (X:aX n x)(hi:i<=n)(a:Fix i x)(b:Fix i y):Fix i (aQ x y):=λk hk=>by
 rw[cH (by rw[X.len];omega),a k hk,b k hk]
theorem Fix.inv (X:aX n x)(hi:i<=n)(a:Fix i x):Fix i (bX x):=λk hk=>by
 have:=lE X (show k<n by omega);rwa [a k hk] at this
theorem Fix.mono (a:Fix j x)(h:i<=j):Fix i x:=λk hk=>a k (by omega)
theorem Fix.succ (a:Fix i x)(h:x.getD i 0=i):Fix (i+1) x:=λk hk=>by
 by_cases e:k=i
 ·rw[e];exact h
 ·exact a k (by omega)
theorem Fix.all (X:aX n x)(a:Fix n x):x=aW n:=by
 refine lW (by rw[X.len,eJ]) λk hk=>?_
 rw[X.len] at hk;rw[a k hk,dM hk]
theorem dF.fix {L:List Nat->Prop}(hL: ∀g,L g->aX n g)(hi:i<=n)(hF: ∀g,L g->Fix i g)(h:dF n L x):Fix i x:=by
 induction h with
 |one=>exact Fix.one n i hi
 |mul hx hg ih=>exact Fix.mul (hx.isP hL) hi ih (hF _ hg)
theorem jJ.Hk: ∀(d i:Nat),i+d=n->jJ n i τ-> ∀x,(S n τ i x->aX n x/\Fix i x)/\(i<n->(S n τ i x↔dF n (· ∈(τ i).gens) x))
 |0,i,h,_,x=>by
  obtain rfl:i=n:=by omega
  refine⟨λhs=>?_,λh=>by omega⟩;rw[mD] at hs;subst hs;exact⟨aX.one i,Fix.one i i (Nat.le_refl _)⟩
 |d+1,i,h,t,x=>by
  have hi:i<n:=by omega
  have ih:=jJ.Hk d (i+1) (by omega) (t.mono (by omega));obtain⟨L,C,F,D⟩:=t i (Nat.le_refl _) hi;have hL: ∀g,g∈(τ i).gens->aX n g:=L.gP
  have up: ∀z,S n τ (i+1) z->dF n (· ∈(τ i).gens) z:=by
   intro z hz
   by_cases hn:i+1<n
   ·exact ((ih z).2 hn|>.1 hz).le (dF.grp hL) (D hn)
   ·obtain rfl:i+1=n:=by omega
    rw[mD] at hz;subst hz;exact .one
  have mulS: ∀u z,S n τ (i+1) u->S n τ (i+1) z->S n τ (i+1) (aQ u z):=by
   intro u z hu hz
   by_cases hn:i+1<n
   ·obtain⟨L2,_⟩:=t (i+1) (by omega) hn
    exact ((ih _).2 hn).2 ((((ih u).2 hn).1 hu).app L2.gP (((ih z).2 hn).1 hz))
   ·obtain rfl:i+1=n:=by omega
    rw[mD] at hu hz ⊢;subst hu hz;exact bB (aX.one _)
  have oneS:S n τ (i+1) (aW n):=by
   by_cases hn:i+1<n
   ·exact ((ih _).2 hn).2 .one
   ·obtain rfl:i+1=n:=by omega
    exact mD.2 rfl
  have fwd:S n τ i x->dF n (· ∈(τ i).gens) x:=by
   intro hs;obtain⟨p,y,g,h1,h2,rfl⟩:=(jP hi).1 hs;exact (up g h2).app hL (L.gen p y h1)
  refine⟨λhs=>⟨(fwd hs).isP hL,(fwd hs).fix hL (by omega) L.gF⟩,λ_=>⟨fwd,λhg=>?_⟩⟩;clear fwd
  induction hg with
  |one=>exact (jP hi).2 ⟨i,aW n,aW n,L.one,oneS,(bB (aX.one n)).symm⟩
  |mul hx hs hind=>
   rename_i x0 s;obtain⟨q,y,g,h1,h2,e⟩:=(jP hi).1 hind;obtain⟨k,hk,hks⟩:=List.mem_iff_getElem.1 hs;obtain⟨u,hu,hS⟩:=C q y h1 k s (by rw[F q (L.mem h1)];exact hk) (by rw[List.getElem?_eq_getElem hk,hks]);refine (jP hi).2 ⟨_,u,aQ g (aQ (aQ y s) (bX u)),hu,mulS _ _ h2 hS,?_⟩;have G:=((ih g).1 h2).1;have Y:=L.isP q y h1;have U:=L.isP _ u hu;have Sp:=hL s hs;rw[e,aI G Y Sp,aI G ((Y.mul Sp).mul U.inv) U,aI (Y.mul Sp) U.inv U,cZ U,bB (Y.mul Sp)]
theorem jJ.gen (t:jJ n i τ)(hi:i<n):S n τ i x↔dF n (· ∈(τ i).gens) x:=(jJ.Hk (n-i) i (by omega) t x).2 hi
theorem jJ.isP (t:jJ n i τ)(hi:i<=n)(h:S n τ i x):aX n x:=((jJ.Hk (n-i) i (by omega) t x).1 h).1
theorem jJ.fix (t:jJ n i τ)(hi:i<=n)(h:S n τ i x):Fix i x:=((jJ.Hk (n-i) i (by omega) t x).1 h).2
theorem jJ.grp (t:jJ n i τ)(hi:i<=n):iL n (S n τ i):=by
 by_cases h:i<n
 ·have g:=dF.grp (n:=n) (L:=(· ∈(τ i).gens)) (t i (Nat.le_refl _) h).1.gP
  exact⟨λa=>t.isP hi a,(t.gen h).2 g.one,λa b=>(t.gen h).2 (g.mul ((t.gen h).1 a) ((t.gen h).1 b)),λa=>(t.gen h).2 (g.inv ((t.gen h).1 a))⟩
 ·obtain rfl:i=n:=by omega
  refine⟨λa=>t.isP hi a,mD.2 rfl,λa b=>?_,λa=>?_⟩
  ·rw[mD] at a b ⊢;subst a b;exact bB (aX.one _)
  ·rw[mD] at a ⊢;subst a;exact nI _
theorem jJ.sift (t:jJ n i τ)(hi:i<n)(h:S n τ i x): ∃y,(τ i).to (x.getD i 0)=some y/\S n τ (i+1) (aQ x (bX y)):=by
 obtain⟨p,y,g,h1,h2,rfl⟩:=(jP hi).1 h;have L:=(t i (Nat.le_refl _) hi).1;have t1:=t.mono (Nat.le_succ i);have G:=t1.isP hi h2;have Y:=L.isP p y h1
 have e:(aQ g y).getD i 0=p:=by
  rw[cH (by rw[G.len];exact hi),t1.fix hi h2 i (by omega),L.maps p y h1]
 refine⟨y,by rw[e];exact h1,?_⟩;rw[aI G Y Y.inv,dL Y,bB G];exact h2
theorem jJ.back (t:jJ n i τ)(hi:i<n){y:List Nat}(hx:aX n x)(h1:(τ i).to (x.getD i 0)=some y)(h2:S n τ (i+1) (aQ x (bX y))):S n τ i x:=by
 have Y:=(t i (Nat.le_refl _) hi).1.isP _ y h1;refine (jP hi).2 ⟨_,y,_,h1,h2,?_⟩;rw[aI hx Y.inv Y,cZ Y,bB hx]
theorem jJ.Zg (t:jJ n i τ)(hi:i<n):S n τ (i+1) x↔S n τ i x/\x.getD i 0=i:=by
 have L:=(t i (Nat.le_refl _) hi).1;have t1:=t.mono (Nat.le_succ i);constructor
 ·intro h
  have e:=t1.fix hi h i (by omega);have X:=t1.isP hi h;refine⟨t.back hi X (y:=aW n) (by rw[e];exact L.one) ?_,e⟩;rw[nI,bB X];exact h
 ·rintro⟨h,e⟩
  obtain⟨y,h1,h2⟩:=t.sift hi h;rw[e,L.one] at h1;cases h1;rwa [nI,bB (t.isP (by omega) h)] at h2
theorem jJ.Dg (t:jJ n i τ): ∀{k:Nat},i<=k->k<=n->(S n τ k x↔S n τ i x/\Fix k x):=by
 intro k
 induction k with
 |zero=>
  intro h _;obtain rfl:i=0:=by omega
  exact⟨λh=>⟨h,λ_ h=>by omega⟩,λh=>h.1⟩
 |succ k ih=>
  intro h1 h2
  by_cases e:i=k+1
  ·subst e
   exact⟨λh=>⟨h,t.fix h2 h⟩,λh=>h.1⟩
  ·have a:=ih (by omega) (by omega)
   rw[(t.mono (by omega)).Zg (i:=k) h2,a];constructor
   ·rintro⟨⟨b,c⟩,d⟩;exact⟨b,c.succ d⟩
   ·rintro⟨b,c⟩;exact⟨⟨b,c.mono (by omega)⟩,c k (by omega)⟩
end
end
section
variable {j k q:Nat}
def mO (τ:jI)(i:Nat)(l:Lv):jI:=λj=>if j=i then l else τ j
theorem bT (τ:jI)(i:Nat)(l:Lv):mO τ i l i=l:=by simp [mO]
theorem dJ (τ:jI){i:Nat}(l:Lv)(h:j≠i):mO τ i l j=τ j:=by simp [mO,h]
def Lv.tick (l:Lv)(q:Nat):Lv:={l with tr:=λr=>if r=q then l.tr q+1 else l.tr r}
def Lv.reach (l:Lv)(p:Nat)(y:List Nat):Lv:={l with orb:=l.orb++ [p],to:=λr=>if r=p then some y else l.to r}
def Lv.more (l:Lv)(r:List Nat):Lv:={l with gens:=l.gens++ [r]}
structure CI (n i:Nat)(τ:jI):Prop where
 iC:Mk n i (τ i)
 cl:Cl n i τ
 dn:Dn n i τ
 up:jJ n (i+1) τ
section
variable {n:Nat} {τ τ':jI} {x y z s u w:List Nat} {i:Nat}
theorem CI.full (c:CI n i τ)(hf:Full (τ i)):jJ n i τ:=λj h1 h2=>by
 by_cases e:j=i
 ·subst e;exact⟨c.iC,c.cl,hf,c.dn⟩
 ·exact c.up j (by omega) h2
theorem Um {l:Lv}(h:i<k):S n (mO τ i l) k x↔S n τ k x:=Hc λj h1 _=>dJ τ l (by omega)
theorem jJ.Vd {l:Lv}(h:i<k)(t:jJ n k τ):jJ n k (mO τ i l):=t.congr λj h1 _=>(dJ τ l (by omega)).symm
theorem CI.vQ (c:CI n i τ)(hi:i<n)(hq:(τ i).to q=some y)(hs:s∈(τ i).gens)(hu:(τ i).to ((aQ y s).getD i 0)=some u):
  aX n (aQ (aQ y s) (bX u))/\Fix (i+1) (aQ (aQ y s) (bX u))/\dF n (· ∈(τ i).gens) (aQ (aQ y s) (bX u)):=by
 have L:=c.iC
 have Y:=L.isP q y hq
 have U:=L.isP _ u hu
 have Sp:=L.gP s hs
 have YS:=Y.mul Sp
 have g1:dF n (· ∈(τ i).gens) (aQ (aQ y s) (bX u)):=((L.gen q y hq).mul hs).app L.gP ((L.gen _ u hu).inv L.gP)
 refine⟨YS.mul U.inv,Fix.succ (g1.fix L.gP (by omega) L.gF) ?_,g1⟩
 rw[cH (by rw[YS.len];exact hi)]
 have:=lE U hi
 rwa [L.maps _ u hu] at this
theorem CI.tick (c:CI n i τ)(hq:(τ i).to q=some y)(hk:(τ i).tr q=k)(hs:(τ i).gens[k]? =some s)(hu:(τ i).to ((aQ y s).getD i 0)=some u)
  (hz:S n τ (i+1) (aQ (aQ y s) (bX u))):CI n i (mO τ i ((τ i).tick q)):=by
 have L:=c.iC
 have hlt:k<(τ i).gens.length:=(List.getElem?_eq_some_iff.1 hs).1
 refine⟨?_,?_,?_,c.up.Vd (by omega)⟩
 ·rw[bT]
  refine⟨L.nd,L.base,L.one,L.iff,L.isP,L.fix,L.maps,L.gen,L.gP,L.gF,L.gN,λr=>?_,λr hr=>?_⟩
  ·show (if r=q then (τ i).tr q+1 else (τ i).tr r)<=_
   split
   ·rw[hk];exact hlt
   ·exact L.le r
  ·show (if r=q then (τ i).tr q+1 else (τ i).tr r)=0
   have:r≠q:=λe=>hr (by rw[e];exact L.mem hq)
   rw[if_neg this];exact L.zero r hr
 ·intro r v hv j t hj ht
  rw[bT] at hv hj ht ⊢
  simp only[Um (Nat.lt_succ_self i)]
  have hj':j<(if r=q then (τ i).tr q+1 else (τ i).tr r):=hj
  by_cases e:r=q/\j=k
  ·obtain⟨rfl,rfl⟩:=e
   have hv':(τ i).to r=some v:=hv
   have ht':(τ i).gens[j]? =some t:=ht
   rw[hq] at hv';cases hv'
   rw[hs] at ht';cases ht'
   exact⟨u,hu,hz⟩
  ·refine c.cl r v hv j t ?_ ht
   split at hj'
   ·rename_i e2;subst e2
    have:j≠k:=λe3=>e ⟨rfl,e3⟩
    omega
   ·exact hj'
 ·intro hn g hg
  rw[dJ τ _ (by omega)] at hg
  rw[bT]
  exact c.dn hn g hg
theorem CI.reach (c:CI n i τ)(hi:i<n){p:Nat}(hp:(τ i).to p=none)(Y:aX n y)(F:Fix i y)(hm:y.getD i 0=p)(hg:dF n (· ∈(τ i).gens) y):CI n i (mO τ i ((τ i).reach p y)):=by
 have L:=c.iC;have hno:p∉(τ i).orb:=λh=>by have:=(L.iff p).1 h;rw[hp] at this;cases this
 have hto: ∀r v,((τ i).reach p y).to r=some v->(r=p/\v=y)∨(r≠p/\(τ i).to r=some v):=by
  intro r v h;have h':(if r=p then some y else (τ i).to r)=some v:=h;split at h'
  ·rename_i e;cases h';exact .inl ⟨e,rfl⟩
  ·rename_i e;exact .inr ⟨e,h'⟩
 have hkeep: ∀r v,(τ i).to r=some v->((τ i).reach p y).to r=some v:=by
  intro r v h;have:r≠p:=λe=>by rw[e,hp] at h;cases h
  show (if r=p then some y else (τ i).to r)=some v;rw[if_neg this];exact h
 refine⟨?_,?_,?_,c.up.Vd (by omega)⟩
 ·rw[bT]
  refine⟨?_,List.mem_append_left _ L.base,hkeep _ _ L.one,λr=>?_,λr v h=>?_,λr v h=>?_,λr v h=>?_,λr v h=>?_,L.gP,L.gF,L.gN,L.le,λr hr=>?_⟩
  ·show ((τ i).orb++ [p]).Nodup
   rw[List.nodup_append];exact⟨L.nd,by simp,λa ha b hb=>by simp at hb;subst hb;exact λe=>hno (e▸ha)⟩
  ·show r∈(τ i).orb++ [p]↔(if r=p then some y else (τ i).to r).isSome
   by_cases e:r=p
   ·subst e;simp
   ·rw[if_neg e,←L.iff r];simp [e]
  ·rcases hto r v h with ⟨_,rfl⟩|⟨_,h⟩
   ·exact Y
   ·exact L.isP r v h
  ·rcases hto r v h with ⟨_,rfl⟩|⟨_,h⟩
   ·exact F
   ·exact L.fix r v h
  ·rcases hto r v h with ⟨rfl,rfl⟩|⟨_,h⟩
   ·exact hm
   ·exact L.maps r v h
  ·rcases hto r v h with ⟨_,rfl⟩|⟨_,h⟩
   ·exact hg
   ·exact L.gen r v h
  ·exact L.zero r λh=>hr (List.mem_append_left _ h)
 ·intro r v hv j t hj ht
  rw[bT] at hv hj ht ⊢;simp only[Um (Nat.lt_succ_self i)];rcases hto r v hv with ⟨rfl,rfl⟩|⟨_,h⟩
  ·have hz:(τ i).tr r=0:=L.zero r hno
   have hj':j<(τ i).tr r:=hj;omega
  ·obtain⟨a,h1,h2⟩:=c.cl r v h j t hj ht
   exact⟨a,hkeep _ _ h1,h2⟩
 ·intro hn g hg2
  rw[dJ τ _ (by omega)] at hg2;rw[bT];exact c.dn hn g hg2
theorem CI.found (c:CI n i τ)(hi:i<n){p:Nat}(hq:(τ i).to q=some y)(hk:(τ i).tr q=k)(hs:(τ i).gens[k]? =some s)(hp:(aQ y s).getD i 0=p)(hn:(τ i).to p=none):
  CI n i (mO τ i (((τ i).tick q).reach p (aQ y s))):=by
 have L:=c.iC
 have hmem:s∈(τ i).gens:=List.mem_of_getElem? hs
 have Y:=L.isP q y hq
 have Sp:=L.gP s hmem
 have c1:=c.reach hi hn (Y.mul Sp) (Fix.mul Y (by omega) (L.fix q y hq) (L.gF s hmem)) hp ((L.gen q y hq).mul hmem)
 have hqp:q≠p:=λe=>by rw[e,hn] at hq;cases hq
 have hto:(mO τ i ((τ i).reach p (aQ y s)) i).to p=some (aQ y s):=by
  rw[bT];show (if p=p then some (aQ y s) else (τ i).to p)=_;rw[if_pos rfl]
 have hS:S n (mO τ i ((τ i).reach p (aQ y s))) (i+1) (aQ (aQ y s) (bX (aQ y s))):=by
  rw[dL (Y.mul Sp)];exact (c1.up.grp (by omega)).one
 have c2:=c1.tick (q:=q) (k:=k) (y:=y) (s:=s) (u:=aQ y s) (by
  rw[bT];show (if q=p then some (aQ y s) else (τ i).to q)=_
  rw[if_neg hqp];exact hq) (by rw[bT];exact hk) (by rw[bT];exact hs) (by rw[hp];exact hto) hS
 have e:mO (mO τ i ((τ i).reach p (aQ y s))) i ((mO τ i ((τ i).reach p (aQ y s)) i).tick q)=mO τ i (((τ i).tick q).reach p (aQ y s)):=by
  funext j
  by_cases h:j=i
  ·subst h;rw[bT,bT,bT];rfl
  ·rw[dJ _ _ h,dJ _ _ h,dJ _ _ h]
 rwa [e] at c2
structure tQ (n i:Nat)(x:List Nat)(τ τ':jI):Prop where
 low: ∀j,j<i->τ' j=τ j
 tw:jJ n i τ'
 old: ∀s∈(τ i).gens,s∈(τ' i).gens
 new: ∀s∈(τ' i).gens,dF n (λg=>g∈(τ i).gens∨g=x) s
 has:dF n (· ∈(τ' i).gens) x
theorem tQ.S (a:tQ n i x τ τ')(t:jJ n i τ)(hi:i<n)(h:Go.Pm.S n τ i z):Go.Pm.S n τ' i z:=
 (a.tw.gen hi).2 (((t.gen hi).1 h).mono a.old)
theorem CI.added (c:CI n i τ)(hn:i+1<n)(a:tQ n (i+1) z τ τ')(hz:dF n (· ∈(τ i).gens) z):CI n i τ'/\Go.Pm.S n τ' (i+1) z:=by
 have e:=a.low i (by omega);refine⟨⟨e▸c.iC,λq y hy k s hk hs=>?_,λh g hg=>?_,a.tw⟩,(a.tw.gen hn).2 a.has⟩
 ·rw[e] at hy hk hs ⊢
  obtain⟨u,h1,h2⟩:=c.cl q y hy k s hk hs;exact⟨u,h1,a.S c.up hn h2⟩
 ·rw[e]
  refine (a.new g hg).le (dF.grp c.iC.gP) λg hg=>?_
  rcases hg with hg|rfl
  ·exact c.dn hn g hg
  ·exact hz
def Ce (n:Nat)(τ:jI):Nat->Nat->List Nat->Nat×List Nat
 |0,i,x=>(i,x)
 |d+1,i,x=>match (τ i).to (x.getD i 0) with
  |none=>(i,x)
  |some y=>Ce n τ d (i+1) (if x.getD i 0=i then x else aQ x (bX y))
structure Uo (n i:Nat)(τ:jI)(x:List Nat)(k:Nat)(r:List Nat):Prop where
 ge:i<=k
 le:k<=n
 isP:aX n r
 fix:Fix k r
 out:k<n->(τ k).to (r.getD k 0)=none
 rest:i<n-> ∃w,dF n (· ∈(τ i).gens) w/\x=aQ r w
theorem Mm: ∀(d i:Nat) (x:List Nat),i+d=n->jJ n i τ->aX n x->Fix i x->Uo n i τ x (Ce n τ d i x).1 (Ce n τ d i x).2
 |0,i,x,h,_,X,F=>⟨Nat.le_refl _,by show i<=n;omega,X,F,λh2=>by have:i<n:=h2;omega,λh2=>by omega⟩
 |d+1,i,x,h,t,X,F=>by
  have hi:i<n:=by omega
  obtain⟨L,C,Fu,D⟩:=t i (Nat.le_refl _) hi;unfold Ce
  cases e:(τ i).to (x.getD i 0) with
  |none=>exact⟨Nat.le_refl _,by show i<=n;omega,X,F,λ_=>e,λ_=>⟨aW n,.one,(bB X).symm⟩⟩
  |some y=>
   simp only;have Y:=L.isP _ y e
   have key: ∀x2,x2=(if x.getD i 0=i then x else aQ x (bX y))->aX n x2/\Fix (i+1) x2/\x=aQ x2 y:=by
    intro x2 h2
    by_cases hx:x.getD i 0=i
    ·rw[if_pos hx] at h2
     subst h2;rw[hx,L.one] at e;cases e;exact⟨X,F.succ hx,(bB X).symm⟩
    ·rw[if_neg hx] at h2
     subst h2;refine⟨X.mul Y.inv,(Fix.mul X (by omega) F (Fix.inv Y (by omega) (L.fix _ y e))).succ ?_,by rw[aI X Y.inv Y,cZ Y,bB X]⟩;rw[cH (by rw[X.len];exact hi)];have:=lE Y hi;rwa [L.maps _ y e] at this
   obtain⟨X2,F2,ex⟩:=key _ rfl;have ih:=Mm d (i+1) _ (by omega) (t.mono (by omega)) X2 F2;refine⟨by have:=ih.ge;omega,ih.le,ih.isP,ih.fix,ih.out,λ_=>?_⟩
   by_cases hn:i+1<n
   ·obtain⟨w,hw,ew⟩:=ih.rest hn
    have hw2:dF n (· ∈(τ i).gens) w:=hw.le (dF.grp L.gP) (D hn);refine⟨aQ w y,hw2.app L.gP (L.gen _ y e),?_⟩;rw[←aI ih.isP (hw2.isP L.gP) Y,←ew];exact ex
   ·have hd:d=0:=by omega
    subst hd;exact⟨y,L.gen _ y e,ex⟩
theorem Uo.in (f:Uo n i τ x n w)(t:jJ n i τ)(hi:i<n):S n τ i x:=by
 obtain⟨v,hv,e⟩:=f.rest hi;have:=f.fix.all f.isP;rw[this,bW (hv.isP (t i (Nat.le_refl _) hi).1.gP)] at e;subst e;exact (t.gen hi).2 hv
theorem Uo.Yf (f:Uo n i τ x k w)(t:jJ n i τ)(hk:k<n)(h1:i<=j)(h2:j<=k): ¬S n τ j w:=by
 intro h;have t1:=t.mono h1;have h3:=(t1.Dg h2 (by omega)).2 ⟨h,f.fix⟩;obtain⟨y,hy,_⟩:=(t.mono f.ge).sift hk h3;rw[f.out hk] at hy;cases hy
def push (τ:jI)(i k:Nat)(r:List Nat):jI:=λj=>if i<=j/\j<=k then (τ j).more r else τ j
theorem Hs (τ:jI){i:Nat}(r:List Nat)(h1:i<=j)(h2:j<=k):push τ i k r j=(τ j).more r:=by simp [push,h1,h2]
theorem wJ (τ:jI){i:Nat}(r:List Nat)(h:j<i∨k<j):push τ i k r j=τ j:=by
 unfold push;rw[if_neg (by omega)]
structure vX (n i k:Nat)(r:List Nat)(τ τ':jI)(j:Nat):Prop where
 low: ∀m,m<j->τ' m=push τ i k r m
 tw:jJ n j τ'
 gens:j<=k->(τ' j).gens=(τ j).gens++ [r]
 same:k<j->τ' j=τ j
theorem vX.start (f:Uo n i τ x k w)(t:jJ n i τ)(_:k<n):vX n i k w τ (push τ i k w) (k+1):=
 ⟨λ_ _=>rfl,(t.mono (by have:=f.ge;omega)).congr λj h1 _=>(wJ τ w (.inr (by omega))).symm,λh=>by omega,λ_=>wJ τ w (.inr (by omega))⟩
theorem vX.ci (f:Uo n i τ x k w)(t:jJ n i τ)(hk:k<n)(a:vX n i k w τ τ' (j+1))(h1:i<=j)(h2:j<=k):CI n j τ':=by
 have hj:j<n:=by omega
 obtain⟨L,C,Fu,D⟩:=t j h1 hj;have e:τ' j=(τ j).more w:=(a.low j (by omega)).trans (Hs τ w h1 h2);have tj:=t.mono h1;have hno:w∉(τ j).gens:=λhw=>f.Yf t hk h1 h2 ((tj.gen hj).2 (dF.of L.gP hw))
 have hup: ∀z,S n τ (j+1) z->S n τ' (j+1) z:=by
  intro z hz
  by_cases hn:j+1<n
  ·have tj1:=t.mono (show i<=j+1 by omega)
   refine (a.tw.gen hn).2 (((tj1.gen hn).1 hz).mono λg hg=>?_)
   by_cases hjk:j+1<=k
   ·rw[a.gens hjk];exact List.mem_append_left _ hg
   ·rw[a.same (by omega)];exact hg
  ·obtain rfl:j+1=n:=by omega
   rw[mD] at hz ⊢;exact hz
 have hold: ∀g,g∈(τ j).gens->g∈(τ j).gens++ [w]:=λg hg=>List.mem_append_left _ hg
 have hgP: ∀g,g∈(τ j).gens++ [w]->aX n g:=λg hg=>by
  rcases List.mem_append.1 hg with hg|hg
  ·exact L.gP g hg
  ·simp at hg;subst hg;exact f.isP
 refine⟨?_,λq y hy m s hm hs=>?_,λhn s hs=>?_,a.tw⟩
 ·rw[e]
  refine⟨L.nd,L.base,L.one,L.iff,L.isP,L.fix,L.maps,λp y h=>(L.gen p y h).mono hold,hgP,λg hg=>?_,?_,λq=>?_,L.zero⟩
  ·rcases List.mem_append.1 hg with hg|hg
   ·exact L.gF g hg
   ·simp at hg;subst hg;exact f.fix.mono h2
  ·show ((τ j).gens++ [w]).Nodup
   rw[List.nodup_append];exact⟨L.gN,by simp,λa ha b hb=>by simp at hb;subst hb;exact λe=>hno (e▸ha)⟩
  ·show (τ j).tr q<=((τ j).gens++ [w]).length
   have:=L.le q;simp;omega
 ·rw[e] at hy hm hs ⊢
  have hm':m<(τ j).tr q:=hm;have hs':((τ j).gens++ [w])[m]? =some s:=hs;rw[List.getElem?_append_left (by have:=L.le q;omega)] at hs';obtain⟨u,g1,g2⟩:=C q y hy m s hm' hs';exact⟨u,g1,hup _ g2⟩
 ·rw[e]
  show dF n (· ∈(τ j).gens++ [w]) s
  by_cases hjk:j+1<=k
  ·rw[a.gens hjk] at hs
   rcases List.mem_append.1 hs with hs|hs
   ·exact (D hn s hs).mono hold
   ·simp at hs;subst hs
    exact dF.of hgP (List.mem_append_right _ (by simp))
  ·rw[a.same (by omega)] at hs
   exact (D hn s hs).mono hold
theorem vX.next {τ'':jI}(a:vX n i k w τ τ' (j+1))(h1:i<=j)(h2:j<=k)(low: ∀m,m<j->τ'' m=τ' m)(g:(τ'' j).gens=(τ' j).gens)(t:jJ n j τ''):vX n i k w τ τ'' j:=
 ⟨λm hm=>(low m hm).trans (a.low m (by omega)),t,λ_=>by rw[g,a.low j (by omega),Hs τ w h1 h2];rfl,λh=>by omega⟩
theorem vX.done (f:Uo n i τ x k w)(t:jJ n i τ)(X:aX n x)(hk:k<n)(a:vX n i k w τ τ' i):tQ n i x τ τ':=by
 have hi:i<n:=by have:=f.ge;omega
 have L:=(t i (Nat.le_refl _) hi).1;have hg:=a.gens f.ge;obtain⟨v,hv,e⟩:=f.rest hi;have V:=hv.isP L.gP;refine⟨λj hj=>(a.low j hj).trans (wJ τ w (.inl hj)),a.tw,λs hs=>?_,λs hs=>?_,?_⟩
 ·rw[hg];exact List.mem_append_left _ hs
 ·have hLP: ∀g,(g∈(τ i).gens∨g=x)->aX n g:=λg hg=>by
   rcases hg with hg|rfl
   ·exact L.gP g hg
   ·exact X
  rw[hg] at hs;rcases List.mem_append.1 hs with hs|hs
  ·exact dF.of hLP (.inl hs)
  ·simp at hs;subst hs
   have ew:s=aQ x (bX v):=by rw[e,aI f.isP V V.inv,dL V,bB f.isP]
   rw[ew];exact (dF.of hLP (.inr rfl)).app hLP ((hv.mono λg hg=>Or.inl hg).inv hLP)
 ·have hLP: ∀g,g∈(τ' i).gens->aX n g:=(a.tw i (Nat.le_refl _) hi).1.gP
  rw[e];exact (dF.of hLP (by rw[hg];exact List.mem_append_right _ (by simp))).app hLP (hv.mono λg hg'=>by rw[hg];exact List.mem_append_left _ hg')
theorem tQ.none (t:jJ n i τ)(hi:i<n)(h:Go.Pm.S n τ i x):tQ n i x τ τ:=by
 have L:=(t i (Nat.le_refl _) hi).1
 have hLP: ∀g,(g∈(τ i).gens∨g=x)->aX n g:=λg hg=>by
  rcases hg with hg|rfl
  ·exact L.gP g hg
  ·exact t.isP (by omega) h
 exact⟨λ_ _=>rfl,t,λ_ hs=>hs,λs hs=>dF.of hLP (.inl hs),(t.gen hi).1 h⟩
theorem Mk.many {l:Lv}(L:Mk n j l):l.gens.length<=n^n:=Br L.gN L.gP
def Lu (n:Nat):jI:=λj=>⟨[], [j],λp=>if p=j then some (aW n) else none,λ_=>0⟩
theorem Oj (n:Nat):jJ n 0 (Lu n):=λj _ hj=>by
 refine⟨⟨by simp [Lu],by simp [Lu],by simp [Lu],λp=>?_,λp y h=>?_,λp y h=>?_,λp y h=>?_,λp y h=>?_,λs hs=>?_,λs hs=>?_,by simp [Lu],λq=>Nat.le_refl _,λ_ _=>rfl⟩,λq y hy k s hk=>?_,λq _=>rfl,λ_ s hs=>?_⟩
 ·show p∈ [j]↔(if p=j then some (aW n) else none).isSome
  by_cases e:p=j<;>simp [e]
 all_goals first
  |(have h':(if p=j then some (aW n) else none)=some y:=h
    split at h'
    ·rename_i e
     cases h'
     first
      |exact aX.one n
      |exact Fix.one n j (by omega)
      |(rw[e];exact dM hj)
      |exact .one
    ·cases h')
  |(cases hs;done)
  |(have hk':k<0:=hk;omega)
end
end
end Go.Pm
namespace Go.Proofs.YtapfcpkecmmagaaGreat
open Go Go.Ay Go.Pm
set_option maxRecDepth 100000
def Slot (W:Nat->Prop)(h:H)(v:V):Option (List Nat)->Prop
 |none=>v= .aB
 |some y=>PV W h v y
def sl2 (F:Nat->V)(s:Nat):V:=F (s/2*194+s%2)
def WT (n L:Nat)(F:Nat->V)(id:Nat):Prop:=id=L∨ ∃s,s<2*n/\ ∃off len c,sl2 F s= .sl id off len c
structure TwR (h:H)(n tid L:Nat)(F:Nat->V)(τ:jI):Prop where
 t:h.get tid=some (.cells false [aC n,.sl L 0 n (.kn n)])
 l:h.get L=some (.cells false (rc (n*194) F))
 tn:tid<h.next
 ln:L<h.next
 tw: ¬WT n L F tid
 to: ∀j p,j<n->p<64->Slot (WT n L F) h (F (j*194+2+p)) ((τ j).to p)
 iv: ∀j p,j<n->p<64->Slot (WT n L F) h (F (j*194+66+p)) (((τ j).to p).map bX)
 tr: ∀j p,j<n->p<64->F (j*194+130+p)= aC ((τ j).tr p:Nat)
 gens: ∀j,j<n-> ∃vs,Own h (F (j*194)) 1 vs 0/\PVs (WT n L F) h vs (τ j).gens
 orb: ∀j,j<n->Own h (F (j*194+1)) 1 (ints (zi (τ j).orb)) 0
 dis: ∀s s',s<2*n->s'<2*n->s≠s'->Yi (sl2 F s) (sl2 F s')
 ap: ∀s,s<2*n->dA (sl2 F s) L
section
variable {h h':H} {n tid L:Nat} {F:Nat->V} {τ:jI}
theorem Slot.fx {W:Nat->Prop}{v:V}{o:Option (List Nat)}(s:Slot W h v o)(f:Fx W h h'):Slot W h' v o:=by
 cases o with
 |none=>exact s
 |some y=>exact PV.fx s f
theorem Slot.weak {W W':Nat->Prop}{v:V}{o:Option (List Nat)}(s:Slot W h v o)(hw: ∀id,id<h.next->W' id->W id):Slot W' h v o:=by
 cases o with
 |none=>exact s
 |some y=>exact PV.weak s hw
theorem sl2_g (F:Nat->V)(j:Nat):sl2 F (2*j)=F (j*194):=by
 unfold sl2;congr 1;omega
theorem sl2_o (F:Nat->V)(j:Nat):sl2 F (2*j+1)=F (j*194+1):=by
 unfold sl2;congr 1;omega
theorem TwR.own (R:TwR h n tid L F τ){s:Nat}(hs:s<2*n): ∃ws,Own h (sl2 F s) 1 ws 0:=by
 rcases Nat.mod_two_eq_zero_or_one s with e|e
 ·obtain⟨vs,h1,_⟩:=R.gens (s/2) (by omega)
  exact⟨vs,by unfold sl2;rw[e];exact h1⟩
 ·exact⟨_,by unfold sl2;rw[e];exact R.orb (s/2) (by omega)⟩
theorem TwR.win (R:TwR h n tid L F τ){id:Nat}(hw:WT n L F id):id<h.next:=by
 rcases hw with rfl|⟨s,hs,off,len,c,e⟩
 ·exact R.ln
 ·obtain⟨ws,o⟩:=R.own hs
  exact (o.in _ _ _ _ e).1
theorem TwR.mono (R:TwR h n tid L F τ)(f:Fr h h'):TwR h' n tid L F τ:=by
 refine⟨by rw[f.get _ R.tn];exact R.t,by rw[f.get _ R.ln];exact R.l,gE R.tn f.next,gE R.ln f.next,R.tw,
  λj p h1 h2=>(R.to j p h1 h2).fx (Fx.of f),λj p h1 h2=>(R.iv j p h1 h2).fx (Fx.of f),R.tr,λj hj=>?_,λj hj=>(R.orb j hj).fr f,R.dis,R.ap⟩
 obtain⟨vs,h1,h2⟩:=R.gens j hj;exact⟨vs,h1.fr f,h2.fx (Fx.of f)⟩
theorem TwR.cell (R:TwR h n tid L F τ){j c:Nat}(hj:j<n)(hc:c<194):h.cell L (j*194+c)=some (F (j*194+c)):=
 pW R.l (by
         have:(j+1)*194<=n*194:=Nat.mul_le_mul_right _ hj
         omega)
theorem TwR.cell2 (R:TwR h n tid L F τ){j c p:Nat}(hj:j<n)(hc:c+p<194):h.cell L (j*194+c+p)=some (F (j*194+c+p)):=by
 rw[Nat.add_assoc];exact R.cell hj hc
end
theorem sft_none {n:Nat}{τ:jI}{d i:Nat}{x:List Nat}(h:(τ i).to (x.getD i 0)=none):Ce n τ (d+1) i x=(i,x):=by
 rw[Ce,h]
theorem sft_some {n:Nat}{τ:jI}{d i:Nat}{x z:List Nat}(h:(τ i).to (x.getD i 0)=some z):Ce n τ (d+1) i x=Ce n τ d (i+1) (if x.getD i 0=i then x else aQ x (bX z)):=by
 rw[Ce,h]
theorem sift_ok (h:H)(n tid L:Nat)(F:Nat->V)(τ:jI)(vx:V)(x:List Nat)(i0:Nat)(hn:n<=64)(h0:0<n)(R:TwR h n tid L F τ)(hx:PV (WT n L F) h vx x)(X:aX n x)(hi0:i0<=n)(t:jJ n i0 τ):
  Ev T 177 [.ptr tid 0,vx,aC i0] h (λv h'=> ∃vr,v= .tup [aC (((Ce n τ (n-i0) i0 x).1:Nat):Int),vr]/\PV (WT n L F) h' vr (Ce n τ (n-i0) i0 x).2/\aX n (Ce n τ (n-i0) i0 x).2/\Fr h h'):=by
 refine bP c_chain_tower_sift rfl rfl ?_
 simp(disch:=omega)only[go_sem,c_chain_tower_sift,aE]
 refine aJ (λk' vars hh=> ∃(i:Nat) (y:List Nat) (vy:V),(∃g:Nat->V,vars= [.ptr tid 0,vy,g 2,g 3,g 4,aC i,g 6,g 7,g 8,g 9])/\i0<=i/\i<=n/\Ce n τ (n-i) i y=Ce n τ (n-i0) i0 x/\
   PV (WT n L F) hh vy y/\aX n y/\Fr h hh/\k'=n-i) (n-i0)
  ⟨i0,x,vx,aA rfl,eP _,hi0,rfl,hx,X,Fr.refl h,rfl⟩ ?_
 rintro k' vars h2 ⟨i,y,vy,⟨g,rfl⟩,hi1,hi2,hs,hy,Y,f,rfl⟩
 have R2:=R.mono f
 have ct:h2.cell tid 0=some (aC n):=by rw[H.aF R2.t];rfl
 have cl:h2.cell tid 1=some (.sl L 0 n (.kn n)):=by rw[H.aF R2.t];rfl
 simp(disch:=omega)only[go_sem,ct,cl]
 by_cases hlt:(i:Int)<(n:Int)
 ·have hin:i<n:=by omega
  rw[decide_eq_true hlt]
  obtain⟨id,off,sh,hid,hc⟩:=hy.si.open
  rw[aU,Y.len] at sh hid hc
  have ci:h2.cell id (off+i)=some (aC (y.getD i 0:Nat)):=by rw[hc i hin];congr 2;simp [zi,Y.len,hin]
  have r:=Y.dU hin
  have lv:=(t i hi1 hin).1
  generalize hk:y.getD i 0=k at ci r
  have cb:=R2.cell2 (c:=66) (p:=k) hin (by omega)
  have hS:=R2.iv i k hin (by omega)
  simp(disch:=omega)only[go_sem,ct,cl,sh.ixa,ci,cb]
  generalize F (i*194+66+k)=vb at hS cb
  have hstep:n-i=(n-(i+1))+1:=by omega
  rw[hstep] at hs
  cases hto:(τ i).to k with
  |none=>
   rw[hto] at hS;rw[sft_none (by rw[hk];exact hto)] at hs;have hS':vb= .aB:=hS;subst hS';simp(disch:=omega)only[go_sem];rw[←hs];exact⟨vy,rfl,hy.fx (Fx.of ((Fr.refl h2).bJ (by omega))),Y,f.bJ (by omega)⟩
  |some z=>
   rw[hto] at hS;rw[sft_some (by rw[hk];exact hto),hk] at hs;have Z:=lv.isP _ _ hto;have hS':PV (WT n L F) h2 vb (bX z):=hS;have sn:=Hz hS' (aX.ne h0 Z.inv) false;have fb:Fr h2 (H.mk h2.tr (h2.next+14)):=(Fr.refl h2).bJ (by omega)
   by_cases hki:k=i
   ·have e0:decide ((k:Int)≠(i:Int))=false:=iG (by omega)
    rw[if_pos hki] at hs;simp(disch:=omega)only[go_sem,sn,sh.ixa,ci,e0];rw[iO i];exact⟨n-(i+1),by omega,i+1,y,vy,aA rfl,by omega,by omega,hs,hy.fx (Fx.of fb),Y,f.trans fb,rfl⟩
   ·have e0:decide ((k:Int)≠(i:Int))=true:=mF (by omega)
    rw[if_neg hki] at hs;simp(disch:=omega)only[go_sem,sn,sh.ixa,ci,e0];have hy':=hy.fx (Fx.of fb);have hS2:=hS'.fx (Fx.of fb);have f':=f.trans fb;generalize H.mk h2.tr (h2.next+14)=h3 at*;refine (mul_gen (rfl:T 181=some c_chain_mul) vy vb y (bX z) h3 (by rw[Y.len];omega) hy'.si hS2.si (λj hj=>by rw[gU,Z.len];exact Y.dU (by rw[←Y.len];exact hj))).mono ?_;rintro v h4 nw;have f4:=f'.trans nw.fr;simp(disch:=omega)only[go_sem];rw[iO i];refine⟨n-(i+1),by omega,i+1,_,v,aA rfl,by omega,by omega,hs,nw.pv (λhw=>?_),Y.mul Z.inv,f4,rfl⟩;have:=R.win hw;have:=f'.next;omega
 ·rw[decide_eq_false hlt]
  obtain rfl:i=n:=by omega
  simp(disch:=omega)only[go_sem,ct,cl]
  rw[Nat.sub_self] at hs
  have hs':Ce i τ (i-i0) i0 x=(i,y):=hs.symm
  rw[hs']
  exact⟨vy,rfl,hy,Y,f⟩
section
variable {h h' h2:H} {n tid L i:Nat} {F F':Nat->V} {τ τ':jI}
theorem WT_congr (hs: ∀s,s<2*n->sl2 F' s=sl2 F s)(id:Nat):WT n L F' id↔WT n L F id:=by
 unfold WT;constructor
 ·rintro (e|⟨s,h1,h2⟩)
  ·exact .inl e
  ·exact .inr ⟨s,h1,by rw[←hs s h1];exact h2⟩
 ·rintro (e|⟨s,h1,h2⟩)
  ·exact .inl e
  ·exact .inr ⟨s,h1,by rw[hs s h1];exact h2⟩
theorem sl2_of {j:Nat}(P: ∀s,s<2*n->sl2 F' s=sl2 F s)(hj:j<n):F' (j*194)=F (j*194)/\F' (j*194+1)=F (j*194+1):=
 ⟨(sl2_g F' j).symm.trans ((P _ (by omega)).trans (sl2_g F j)),(sl2_o F' j).symm.trans ((P _ (by omega)).trans (sl2_o F j))⟩
theorem PV.go {W W':Nat->Prop}{v:V}{l:List Nat}(p:PV W h v l)(f:Fx W h h')(hw: ∀id,id<h.next->W' id->W id):PV W' h' v l:=⟨p.si.fx p.off f,p.off.weak p.si hw⟩
theorem Slot.go {W W':Nat->Prop}{v:V}{o:Option (List Nat)}(s:Slot W h v o)(f:Fx W h h')(hw: ∀id,id<h.next->W' id->W id):Slot W' h' v o:=by
 cases o with
 |none=>exact s
 |some y=>exact PV.go s f hw
theorem PVs.go {W W':Nat->Prop}{vs:List V}{ls:LN}(s:PVs W h vs ls)(f:Fx W h h')(hw: ∀id,id<h.next->W' id->W id):PVs W' h' vs ls:=s.mono λ_ _ x=>PV.go x f hw
theorem TwR.cells (R:TwR h n tid L F τ)(hn:h.next<=h'.next)(ho: ∀id,id≠L->id<h.next->h'.get id=h.get id)(hl:h'.get L=some (.cells false (rc (n*194) F')))
  (hs: ∀s,s<2*n->sl2 F' s=sl2 F s) (hg: ∀j,j<n->(τ' j).gens=(τ j).gens/\(τ' j).orb=(τ j).orb)
  (hto: ∀j p,j<n->p<64->Slot (WT n L F) h' (F' (j*194+2+p)) ((τ' j).to p)) (hiv: ∀j p,j<n->p<64->Slot (WT n L F) h' (F' (j*194+66+p)) (((τ' j).to p).map bX))
  (htr: ∀j p,j<n->p<64->F' (j*194+130+p)= aC ((τ' j).tr p:Nat)):TwR h' n tid L F' τ'/\Fx (WT n L F) h h'/\ ∀id,WT n L F' id↔WT n L F id:=by
 have f:Fx (WT n L F) h h':=⟨hn,λid h1 h2=>ho id (λe=>h2 (.inl e)) h1⟩
 have hw:=WT_congr (L:=L) hs
 have eW:WT n L F'=WT n L F:=funext λid=>propext (hw id)
 have hk: ∀s,s<2*n-> ∀id off len c,sl2 F s= .sl id off len c->id<h.next->h'.get id=h.get id:=λs h1 id off len c e h2=>ho id (λe2=>(R.ap s h1 _ _ _ _ e) e2.symm) h2
 refine⟨⟨?_,hl,gE R.tn hn,gE R.ln hn,by rw[eW];exact R.tw,by rw[eW];exact hto,by rw[eW];exact hiv,htr,λj hj=>?_,λj hj=>?_,λs s' h1 h2 h3=>by rw[hs s h1,hs s' h2];exact R.dis s s' h1 h2 h3,λs h1=>by rw[hs s h1];exact R.ap s h1⟩,f,hw⟩
 ·rw[f.get tid R.tn R.tw];exact R.t
 ·obtain⟨vs,h1,h2⟩:=R.gens j hj
  rw[(sl2_of hs hj).1,eW,(hg j hj).1]
  exact⟨vs,h1.keep hn λid off m c e h3=>hk (2*j) (by omega) id off m c (by rw[sl2_g];exact e) h3,h2.fx f⟩
 ·rw[(sl2_of hs hj).2,(hg j hj).2]
  exact (R.orb j hj).keep hn λid off m c e h3=>hk (2*j+1) (by omega) id off m c (by rw[sl2_o];exact e) h3
structure Grew (h h':H)(n tid L:Nat)(F F':Nat->V)(s0:Nat):Prop where
 fx:Fx (WT n L F) h h'
 wt: ∀id,id<h.next->WT n L F' id->WT n L F id
 dis: ∀s s',s<2*n->s'<2*n->s≠s'->Yi (sl2 F' s) (sl2 F' s')
 ap: ∀s,s<2*n->dA (sl2 F' s) L
 own: ∀s,s<2*n->s≠s0->sl2 F' s=sl2 F s/\ ∀ws,Own h (sl2 F s) 1 ws 0->Own h' (sl2 F s) 1 ws 0
theorem TwR.grew (R:TwR h n tid L F τ){s0 nn m:Nat}(h0:s0<2*n){ws us:List V}(p:Pushd h (sl2 F s0) nn m 1 ws us h2)(hF: ∀s,s<2*n->s≠s0->sl2 F' s=sl2 F s){cp:kL}(hF0:sl2 F' s0= .sl h.next 0 (nn+m) cp)(o:Option Ob):
  Grew h (h2.set L o) n tid L F F' s0:=by
 have hin: ∀s,s<2*n-> ∀id off len c,sl2 F s= .sl id off len c->id<h.next:=λs hs id off len c e=>by
  obtain⟨ws,o⟩:=R.own hs;exact (o.in _ _ _ _ e).1
 have f2:Fx (WT n L F) h h2:=p.fx λid off len c e=> .inr ⟨s0,h0,off,len,c,e⟩
 refine⟨f2.trans (Fx.set h2 (.inl rfl:WT n L F L) o) (λ_ _ h=>h),λid h1 hw=>?_,λs s' h1 h2 h3=>?_,λs h1=>?_,λs h1 h3=>⟨hF s h1 h3,λws ow=>?_⟩⟩
 ·rcases hw with e|⟨s,hs,off,len,c,e⟩
  ·exact .inl e
  ·by_cases e2:s=s0
   ·rw[e2,hF0] at e;cases e;omega
   ·exact .inr ⟨s,hs,off,len,c,by rw[←hF s hs e2];exact e⟩
 ·by_cases e2:s=s0
  ·rw[e2,hF0,hF s' h2 (by omega)]
   intro i o n c e i' o' n' c' e'
   cases e
   have:=hin s' h2 _ _ _ _ e'
   omega
  ·rw[hF s h1 e2]
   by_cases e3:s'=s0
   ·rw[e3,hF0]
    intro i o n c e i' o' n' c' e'
    cases e'
    have:=hin s h1 _ _ _ _ e
    omega
   ·rw[hF s' h2 e3];exact R.dis s s' h1 h2 h3
 ·by_cases e2:s=s0
  ·rw[e2,hF0]
   exact dA.sl (by have:=R.ln;omega)
  ·rw[hF s h1 e2];exact R.ap s h1
 ·refine ow.keep (show h.next<=h2.next by rw[p.next];omega) λid off m c e hid=>?_
  rw[H.aH h2 (λe2:id=L=>(R.ap s h1 _ _ _ _ e) e2.symm)]
  refine p.old id (by omega) λid' off' n' c' e' e2=>?_
  exact R.dis s s0 h1 h0 h3 _ _ _ _ e _ _ _ _ e' e2
def F1 (F:Nat->V)(k:Nat)(v:V):Nat->V:=λc=>if c=k then v else F c
theorem TwR.slot (R:TwR h n tid L F τ){e nn m:Nat}(hi:i<n)(he:e<2){ws us:List V}(p:Pushd h (F (i*194+e)) nn m 1 ws us h2){h3:H}{v:V}{cp:kL}(hcp:cp= .un 1∨cp= .kn (nn+m))(hv:v= .sl h.next 0 (nn+m) cp)(h3e:h3=h2.set L (some (.cells false (rc (n*194) (F1 F (i*194+e) v)))))
  (hsame: ∀j,j<n->(τ' j).to=(τ j).to/\(τ' j).tr=(τ j).tr)
  (hg:Fx (WT n L F) h h3->(∀id,id<h.next->WT n L (F1 F (i*194+e) v) id->WT n L F id)->(∀s,s<2*n->s≠2*i+e-> ∀ws,Own h (sl2 F s) 1 ws 0->Own h3 (sl2 F s) 1 ws 0)->Own h3 v 1 (ws++us) 0->ws.length=nn*1/\us.length=m*1->
   (∀j,j<n-> ∃vs,Own h3 (F1 F (i*194+e) v (j*194)) 1 vs 0/\PVs (WT n L (F1 F (i*194+e) v)) h3 vs (τ' j).gens)/\ ∀j,j<n->Own h3 (F1 F (i*194+e) v (j*194+1)) 1 (ints (zi (τ' j).orb)) 0)
  (hl:ws.length=nn*1/\us.length=m*1):
  TwR h3 n tid L (F1 F (i*194+e) v) τ'/\Fx (WT n L F) h h3/\ ∀id,id<h.next->WT n L (F1 F (i*194+e) v) id->WT n L F id:=by
 have hsl: ∀s,s<2*n->s≠2*i+e->sl2 (F1 F (i*194+e) v) s=sl2 F s:=λs h1 h2=>by
  unfold sl2 F1;rw[if_neg (by omega)]
 have hdiv:(2*i+e)/2*194+(2*i+e)%2=i*194+e:=by omega
 have hs0:sl2 F (2*i+e)=F (i*194+e):=by unfold sl2;rw[hdiv]
 have hs1:sl2 (F1 F (i*194+e) v) (2*i+e)= .sl h.next 0 (nn+m) cp:=by unfold sl2 F1;rw[hdiv,if_pos rfl,hv]
 have G:=R.grew (F':=F1 F (i*194+e) v) (s0:=2*i+e) (by omega) (by rw[hs0];exact p) hsl hs1 (some (.cells false (rc (n*194) (F1 F (i*194+e) v))))
 rw[←h3e] at G
 obtain⟨g1,g2⟩:=hg G.fx G.wt (λs h1 h2=>(G.own s h1 h2).2) (by
  rw[hv,h3e];have ow:Own h2 (.sl h.next 0 (nn+m) cp) 1 (ws++us) 0:= .inr ⟨h.next,nn+m,cp, [],rfl,by rw[jD,hl.1,hl.2];omega,by rcases hcp with e|e;exact .inl e;exact .inr ⟨e,rfl⟩,gK _,by rw[p.next];omega,by rw[List.append_nil];exact p.get⟩;refine ow.keep (eP _) λid off m c e hid=>?_
  cases e
  exact H.aH h2 (by have:=R.ln;omega) _) hl
 have hc: ∀j c,2<=c->c<194->F1 F (i*194+e) v (j*194+c)=F (j*194+c):=λj c h1 h2=>by
  unfold F1;rw[if_neg (by omega)]
 have hc2: ∀j b c,2<=b->b+c<194->F1 F (i*194+e) v (j*194+b+c)=F (j*194+b+c):=λj b c h1 h2=>by
  rw[Nat.add_assoc];exact hc j (b+c) (by omega) h2
 have hnx:=G.fx.next
 refine⟨⟨?_,by rw[h3e,H.aT],gE R.tn hnx,gE R.ln hnx,λhw=>R.tw (G.wt _ R.tn hw),λj p h1 h2=>?_,λj p h1 h2=>?_,λj p h1 h2=>?_,g1,g2,G.dis,G.ap⟩,G.fx,G.wt⟩
 ·rw[G.fx.get tid R.tn R.tw];exact R.t
 ·rw[hc2 j 2 p (by omega) (by omega),(hsame j h1).1];exact (R.to j p h1 h2).go G.fx G.wt
 ·rw[hc2 j 66 p (by omega) (by omega),(hsame j h1).1];exact (R.iv j p h1 h2).go G.fx G.wt
 ·rw[hc2 j 130 p (by omega) (by omega),(hsame j h1).2];exact R.tr j p h1 h2
theorem TwR.more (R:TwR h n tid L F τ)(hi:i<n){vs:List V}{vr:V}{r:List Nat}(pv:PVs (WT n L F) h vs (τ i).gens)(hr:PV (WT n L F) h vr r)(p:Pushd h (F (i*194)) (τ i).gens.length 1 1 vs [vr] h2){h3:H}{v:V}(hv:v= .sl h.next 0 ((τ i).gens.length+1) (.un 1))(h3e:h3=h2.set L (some (.cells false (rc (n*194) (F1 F (i*194) v))))):
  TwR h3 n tid L (F1 F (i*194) v) (mO τ i ((τ i).more r))/\Fx (WT n L F) h h3/\ ∀id,id<h.next->WT n L (F1 F (i*194) v) id->WT n L F id:=by
 refine R.slot (e:=0) hi (by omega) p (.inl rfl) hv h3e (λj hj=>?_) (λf hw hk ho hl=>⟨λj hj=>?_,λj hj=>?_⟩) ⟨by have:=All2.length pv;omega,rfl⟩
 ·by_cases e:j=i
  ·subst e;rw[bT];exact⟨rfl,rfl⟩
  ·rw[dJ _ _ e];exact⟨rfl,rfl⟩
 ·by_cases e:j=i
  ·subst e
   rw[bT]
   refine⟨vs++ [vr],?_,(PVs.go pv f hw).append (PVs.one (PV.go hr f hw))⟩
   unfold F1;rw[if_pos (Nat.add_zero _).symm];exact ho
  ·rw[dJ _ _ e]
   obtain⟨us,h1,h2⟩:=R.gens j hj
   refine⟨us,?_,PVs.go h2 f hw⟩
   have:=hk (2*j) (by omega) (by omega) us (by rw[sl2_g];exact h1)
   rw[sl2_g] at this
   unfold F1;rw[if_neg (by omega)];exact this
 ·have:=hk (2*j+1) (by omega) (by omega) _ (by rw[sl2_o];exact R.orb j hj)
  rw[sl2_o] at this
  unfold F1;rw[if_neg (by omega)]
  by_cases e:j=i
  ·subst e;rw[bT];exact this
  ·rw[dJ _ _ e];exact this
theorem TwR.point (R:TwR h n tid L F τ)(hi:i<n){q:Nat}(p:Pushd h (F (i*194+1)) (τ i).orb.length 1 1 (ints (zi (τ i).orb)) [aC q] h2){h3:H}{v:V}{cp:kL}(hcp:cp= .un 1∨cp= .kn ((τ i).orb.length+1))(hv:v= .sl h.next 0 ((τ i).orb.length+1) cp)(h3e:h3=h2.set L (some (.cells false (rc (n*194) (F1 F (i*194+1) v))))):
  TwR h3 n tid L (F1 F (i*194+1) v) (mO τ i {τ i with orb:=(τ i).orb++ [q]})/\Fx (WT n L F) h h3/\ ∀id,id<h.next->WT n L (F1 F (i*194+1) v) id->WT n L F id:=by
 refine R.slot (e:=1) hi (by omega) p hcp hv h3e (λj hj=>?_) (λf hw hk ho hl=>⟨λj hj=>?_,λj hj=>?_⟩) ⟨by rw[aN,aU,Nat.mul_one],rfl⟩
 ·by_cases e:j=i
  ·subst e;rw[bT];exact⟨rfl,rfl⟩
  ·rw[dJ _ _ e];exact⟨rfl,rfl⟩
 ·obtain⟨us,h1,h2⟩:=R.gens j hj
  have:=hk (2*j) (by omega) (by omega) us (by rw[sl2_g];exact h1)
  rw[sl2_g] at this
  refine⟨us,?_,?_⟩
  ·unfold F1;rw[if_neg (by omega)];exact this
  ·by_cases e:j=i
   ·subst e;rw[bT];exact PVs.go h2 f hw
   ·rw[dJ _ _ e];exact PVs.go h2 f hw
 ·by_cases e:j=i
  ·subst e
   rw[bT]
   have ez:ints (zi ((τ j).orb++ [q]))=ints (zi (τ j).orb)++ [aC q]:=by simp [zi,ints]
   show Own h3 _ 1 (ints (zi ((τ j).orb++ [q]))) 0
   rw[ez]
   unfold F1;rw[if_pos rfl];exact ho
  ·rw[dJ _ _ e]
   have:=hk (2*j+1) (by omega) (by omega) _ (by rw[sl2_o];exact R.orb j hj)
   rw[sl2_o] at this
   unfold F1;rw[if_neg (by omega)];exact this
theorem TwR.tick (R:TwR h n tid L F τ)(hi:i<n){q:Nat}(hq:q<64){z:Int}(hz:z=((τ i).tr q:Nat)+1){h3:H}(h3e:h3=h.set L (some (.cells false (rc (n*194) (F1 F (i*194+130+q) (aC z)))))):
  TwR h3 n tid L (F1 F (i*194+130+q) (aC z)) (mO τ i ((τ i).tick q))/\Fx (WT n L F) h h3/\ ∀id,WT n L (F1 F (i*194+130+q) (aC z)) id↔WT n L F id:=by
 subst h3e
 have f:Fx (WT n L F) h (h.set L (some (.cells false (rc (n*194) (F1 F (i*194+130+q) (aC z)))))):=Fx.set h (.inl rfl) _
 have hto: ∀j,(mO τ i ((τ i).tick q) j).to=(τ j).to/\(mO τ i ((τ i).tick q) j).gens=(τ j).gens/\(mO τ i ((τ i).tick q) j).orb=(τ j).orb:=λj=>by
  by_cases e:j=i
  ·subst e;rw[bT];exact⟨rfl,rfl,rfl⟩
  ·rw[dJ _ _ e];exact⟨rfl,rfl,rfl⟩
 refine R.cells (eP _) (λid h1 _=>H.aH h h1 _) (H.aT ..) (λs hs=>?_) (λj _=>(hto j).2) (λj p h1 h2=>?_) (λj p h1 h2=>?_) (λj p h1 h2=>?_)
 ·unfold sl2 F1;rw[if_neg (by omega)]
 ·rw[(hto j).1]
  have:=(R.to j p h1 h2).fx f
  unfold F1;rw[if_neg (by omega)];exact this
 ·rw[(hto j).1]
  have:=(R.iv j p h1 h2).fx f
  unfold F1;rw[if_neg (by omega)];exact this
 ·have:=R.tr j p h1 h2
  unfold F1
  by_cases e:j=i
  ·subst e
   rw[bT]
   show _=aC (if p=q then (τ j).tr q+1 else (τ j).tr p:Nat)
   by_cases e2:p=q
   ·subst e2;rw[if_pos rfl,if_pos rfl,hz];rfl
   ·rw[if_neg (by omega),if_neg e2];exact this
  ·rw[if_neg (by omega),dJ _ _ e];exact this
theorem TwR.way (R:TwR h n tid L F τ)(hi:i<n){q:Nat}(hq:q<64){vy vu:V}{y:List Nat}(hy:PV (WT n L F) h vy y)(hu:PV (WT n L F) h vu (bX y)){h3:H}(hn:h.next<=h3.next)(ho: ∀id,id≠L->id<h.next->h3.get id=h.get id)
  (hl:h3.get L=some (.cells false (rc (n*194) (F1 (F1 F (i*194+2+q) vy) (i*194+66+q) vu)))):
  TwR h3 n tid L (F1 (F1 F (i*194+2+q) vy) (i*194+66+q) vu) (mO τ i {τ i with to:=λr=>if r=q then some y else (τ i).to r})/\Fx (WT n L F) h h3/\ ∀id,WT n L (F1 (F1 F (i*194+2+q) vy) (i*194+66+q) vu) id↔WT n L F id:=by
 have f:Fx (WT n L F) h h3:=⟨hn,λid h1 h2=>ho id (λe=>h2 (.inl e)) h1⟩
 have hto: ∀j,(mO τ i {τ i with to:=λr=>if r=q then some y else (τ i).to r} j).tr=(τ j).tr/\(mO τ i {τ i with to:=λr=>if r=q then some y else (τ i).to r} j).gens=(τ j).gens/\(mO τ i {τ i with to:=λr=>if r=q then some y else (τ i).to r} j).orb=(τ j).orb:=λj=>by
  by_cases e:j=i
  ·subst e;rw[bT];exact⟨rfl,rfl,rfl⟩
  ·rw[dJ _ _ e];exact⟨rfl,rfl,rfl⟩
 refine R.cells hn ho hl (λs hs=>?_) (λj _=>(hto j).2) (λj p h1 h2=>?_) (λj p h1 h2=>?_) (λj p h1 h2=>?_)
 ·unfold sl2 F1;rw[if_neg (by omega),if_neg (by omega)]
 ·have:=(R.to j p h1 h2).fx f
  unfold F1
  by_cases e:j=i
  ·subst e
   rw[bT]
   show Slot _ _ _ (if p=q then some y else (τ j).to p)
   by_cases e2:p=q
   ·subst e2;rw[if_neg (by omega),if_pos rfl,if_pos rfl];exact PV.fx hy f
   ·rw[if_neg (by omega),if_neg (by omega),if_neg e2];exact this
  ·rw[if_neg (by omega),if_neg (by omega),dJ _ _ e];exact this
 ·have:=(R.iv j p h1 h2).fx f
  unfold F1
  by_cases e:j=i
  ·subst e
   rw[bT]
   show Slot _ _ _ ((if p=q then some y else (τ j).to p).map bX)
   by_cases e2:p=q
   ·subst e2;rw[if_pos rfl,if_pos rfl];exact PV.fx hu f
   ·rw[if_neg (by omega),if_neg (by omega),if_neg e2];exact this
  ·rw[if_neg (by omega),if_neg (by omega),dJ _ _ e];exact this
 ·rw[(hto j).1]
  have:=R.tr j p h1 h2
  unfold F1;rw[if_neg (by omega),if_neg (by omega)];exact this
end
theorem notin_take {l:List Nat}(nd:l.Nodup){k:Nat}(hk:k<l.length):l.getD k 0∉l.take k:=by
 intro h;obtain⟨m,hm,e⟩:=uH.1 h;have hm':m<k:=by simp at hm;omega
 rw[List.getElem_take,cG hk] at e;have e1:=nd.idxOf_getElem m (by omega);have e2:=nd.idxOf_getElem k hk;rw[e] at e1;omega
theorem ticked {n i:Nat}{τ τ2:jI}{y s u z:List Nat}{q k:Nat}(c:CI n i τ)(hn:i+1<n)(hq:(τ i).to q=some y)(hk:(τ i).tr q=k)(hs:(τ i).gens[k]? =some s)(hu:(τ i).to ((aQ y s).getD i 0)=some u)
  (hz:z=aQ (aQ y s) (bX u)) (a:tQ n (i+1) z (mO τ i ((τ i).tick q)) τ2):CI n i τ2/\τ2 i=(τ i).tick q/\ ∀j,j<i->τ2 j=τ j:=by
 have e0:τ2 i=(τ i).tick q:=(a.low i (by omega)).trans (bT ..)
 have elow: ∀j,j<i->τ2 j=τ j:=λj hj=>(a.low j (by omega)).trans (dJ _ _ (by omega))
 have a1:tQ n (i+1) z τ (mO τ2 i (τ i)):=by
  have en: ∀j,i<j->mO τ i ((τ i).tick q) j=τ j:=λj hj=>dJ _ _ (by omega)
  have en2: ∀j,i<j->mO τ2 i (τ i) j=τ2 j:=λj hj=>dJ _ _ (by omega)
  refine⟨λj hj=>?_,a.tw.congr λj h1 _=>(en2 j (by omega)).symm,λs hs=>?_,λs hs=>?_,?_⟩
  ·by_cases e:j=i
   ·subst e;exact bT ..
   ·rw[dJ _ _ e];exact elow j (by omega)
  ·rw[en2 _ (by omega)];exact a.old s (by rw[en _ (by omega)];exact hs)
  ·rw[en2 _ (by omega)] at hs
   have:=a.new s hs;rwa [en _ (by omega)] at this
  ·rw[en2 _ (by omega)];exact a.has
 have hmem:s∈(τ i).gens:=List.mem_of_getElem? hs
 obtain⟨_,_,hgz⟩:=c.vQ (by omega) hq hmem hu
 obtain⟨c1,hz1⟩:=c.added hn a1 (by rw[hz];exact hgz)
 have es:mO τ2 i (τ i) i=τ i:=bT ..
 have c2:=c1.tick (q:=q) (k:=k) (y:=y) (s:=s) (u:=u) (by rw[es];exact hq) (by rw[es];exact hk) (by rw[es];exact hs) (by rw[es];exact hu) (by rw[←hz];exact hz1)
 have e:mO (mO τ2 i (τ i)) i ((mO τ2 i (τ i) i).tick q)=τ2:=by
  funext j
  by_cases h:j=i
  ·subst h;rw[bT,bT,e0]
  ·rw[dJ _ _ h,dJ _ _ h]
 rw[e] at c2
 exact⟨c2,e0,elow⟩
theorem Own.lens {h:H}{v:V}{ws:List V}{b n:Nat}(o:Own h v 1 ws b)(hn:ws.length=n):dB v=some (aC n):=by
 unfold dB;rw[o.sv.len (n:=n) (by omega) (by omega)];rfl
theorem F1_ne {F:Nat->V}{k c:Nat}{v:V}(h:c≠k):F1 F k v c=F c:=if_neg h
theorem put_rc {N k:Nat}{F:Nat->V}(hk:k<N)(hh:H)(L:Nat)(v:V):dV (some (.cells false (rc N F))) hh L k [v]=some (hh.set L (some (.cells false (rc N (F1 F k v))))):=by
 rw[bE (by rw[cV];exact hk),eY];rfl
def AddPost (h:H)(n tid L:Nat)(F:Nat->V)(τ:jI)(i:Nat)(x:List Nat):V->H->Prop:=λ_ h'=> ∃F' τ',TwR h' n tid L F' τ'/\tQ n i x τ τ'/\Fx (WT n L F) h h'/\ ∀id,id<h.next->WT n L F' id->WT n L F id
def ClosePost (h:H)(n tid L:Nat)(F:Nat->V)(τ:jI)(i:Nat):V->H->Prop:=λ_ h'=> ∃F' τ',TwR h' n tid L F' τ'/\jJ n i τ'/\(∀j,j<i->τ' j=τ j)/\(τ' i).gens=(τ i).gens/\Fx (WT n L F) h h'/\ ∀id,id<h.next->WT n L F' id->WT n L F id
def AddC (n i:Nat):Prop:= ∀(h:H) (tid L:Nat) (F:Nat->V) (τ:jI) (vx:V) (x:List Nat),TwR h n tid L F τ->PV (WT n L F) h vx x->aX n x->Fix i x->jJ n i τ->Ev T 156 [.ptr tid 0,vx,aC i] h (AddPost h n tid L F τ i x)
def CloseC (n i:Nat):Prop:= ∀(h:H) (tid L:Nat) (F:Nat->V) (τ:jI),TwR h n tid L F τ->CI n i τ->Ev T 178 [.ptr tid 0,aC i] h (ClosePost h n tid L F τ i)
structure ClS (h:H)(n tid L:Nat)(F:Nat->V)(τ:jI)(i:Nat)(h':H)(F':Nat->V)(τ':jI)(k:Nat):Prop where
 R:TwR h' n tid L F' τ'
 c:CI n i τ'
 hk:k<=(τ' i).orb.length
 done: ∀r∈(τ' i).orb.take k,(τ' i).tr r=(τ' i).gens.length
 low: ∀j,j<i->τ' j=τ j
 gens:(τ' i).gens=(τ i).gens
 fx:Fx (WT n L F) h h'
 wt: ∀id,id<h.next->WT n L F' id->WT n L F id
theorem orbn {n j:Nat}{l:Lv}(V:Mk n j l)(hj:j<n):l.orb.length<=n:=by
 have:=List.Nodup.length_le_of_subset V.nd (l₂:=List.range n) λx hx=>rH.2 (V.lt hj hx)
 simpa using this
theorem close_of_add (n i:Nat)(hn:n<=7)(hi:i<n)(A:i+1<n->AddC n (i+1)):CloseC n i:=by
 intro h tid L F τ R c;refine bP c_chain_tower_close rfl rfl ?_;have cl:h.cell tid 1=some (.sl L 0 n (.kn n)):=by rw[H.aF R.t];rfl
 simp(disch:=omega)only[go_sem,c_chain_tower_close,aE,cl];refine aJ (λm vars hh=> ∃(k:Nat) (F':Nat->V) (τ':jI),(∃g:Nat->V,vars= [.ptr tid 0,aC i,.ptr L (i*194),aC k,g 4,g 5,g 6,g 7,g 8,g 9,g 10,g 11])/\ClS h n tid L F τ i hh F' τ' k/\m=n-k) n
  ⟨0,F,τ,aA rfl,⟨R,c,gK _,λr hr=>by simp at hr,λ_ _=>rfl,rfl,Fx.refl _ h,λ_ _ h=>h⟩,rfl⟩ ?_
 rintro m vars h1 ⟨k,F1',τ1,⟨g,rfl⟩,S,rfl⟩;have co:h1.cell L (i*194+1)=some (F1' (i*194+1)):=S.R.cell hi (by omega);have oo:=S.R.orb i hi;have lo:=Own.lens oo (by rw[aN,aU]);have hon:=orbn S.c.iC hi;simp(disch:=omega)only[go_sem,co,lo]
 by_cases hlt:(k:Int)<((τ1 i).orb.length:Int)
 case neg=>
  rw[decide_eq_false hlt];simp(disch:=omega)only[go_sem];refine⟨F1',τ1,S.R,S.c.full λq hq=>S.done q ?_,S.low,S.gens,S.fx,S.wt⟩;rw[List.take_of_length_le (by omega)];exact hq
 rw[decide_eq_true hlt];have hk':k<(τ1 i).orb.length:=by omega
 obtain⟨id,off,sh,hid,hc⟩:=(show SI h1 (F1' (i*194+1)) (zi (τ1 i).orb) from oo.sv).open;rw[aU] at sh hid hc;obtain⟨q,hq⟩:=AS ((τ1 i).orb.getD k 0);have ck:h1.cell id (off+k)=some (aC q):=by rw[hc k hk'];congr 2;simp [zi,hk',←hq]
 simp(disch:=omega)only[go_sem,co,sh.ixa,ck];have hqm:q∈(τ1 i).orb:=by rw[←hq,cG hk'];exact List.getElem_mem hk'
 have hqn:q<n:=S.c.iC.lt hi hqm;clear sh hid hc ck co lo oo hon hqm
 refine aJ (λm vars hh=> ∃(F':Nat->V) (τ':jI),(∃g:Nat->V,vars= [.ptr tid 0,aC i,.ptr L (i*194),aC k,aC q,g 5,g 6,g 7,g 8,g 9,g 10,g 11])/\ClS h n tid L F τ i hh F' τ' k/\
   k<(τ' i).orb.length/\(τ' i).orb.getD k 0=q/\m=(τ' i).gens.length-(τ' i).tr q) ((τ1 i).gens.length-(τ1 i).tr q)
  ⟨F1',τ1,aA rfl,S,hk',hq,rfl⟩ ?_
 clear hlt hk' hq S τ1 F1';rintro m vars h2 ⟨F2,τ2,⟨g2,rfl⟩,S,hk',hq,rfl⟩;have R2:=S.R;have iC:=S.c.iC;have hqm:q∈(τ2 i).orb:=by rw[←hq,cG hk'];exact List.getElem_mem hk'
 obtain⟨y,hy⟩:=iC.to hqm;have Y:=iC.isP _ _ hy;have ctr:h2.cell L (i*194+130+q)=some (aC ((τ2 i).tr q:Nat)):=by rw[R2.cell2 hi (by omega),R2.tr i q hi (by omega)]
 have cg:h2.cell L (i*194)=some (F2 (i*194)):=by
  have:=R2.cell (c:=0) hi (by omega);rwa [Nat.add_zero] at this
 obtain⟨vs,og,pvs⟩:=R2.gens i hi;have lg:=Own.lens og (All2.length pvs);have hon:=orbn iC hi;simp(disch:=omega)only[go_sem,ctr,cg,lg]
 by_cases hlt:(((τ2 i).tr q:Nat):Int)<((τ2 i).gens.length:Int)
 case neg=>
  rw[decide_eq_false hlt];simp(disch:=omega)only[go_sem];rw[iO k];have fb:Fr h2 (H.mk h2.tr (h2.next+12)):=(Fr.refl h2).bJ (by omega);have hle:=iC.le q;refine⟨n-(k+1),by omega,k+1,F2,τ2,aA rfl,⟨R2.mono fb,S.c,hk',λr hr=>?_,S.low,S.gens,⟨Nat.le_trans S.fx.next fb.next,S.fx.get⟩,S.wt⟩,rfl⟩;rw[List.take_add_one,eQ hk',←cG hk',hq] at hr;rcases xH.1 hr with hr|hr
  ·exact S.done r hr
  ·simp at hr;subst hr;omega
 rw[decide_eq_true hlt];obtain⟨t,ht⟩:=AS ((τ2 i).tr q);rw[ht] at hlt ctr;have hgl:(τ2 i).gens.length<=1000000:=Nat.le_trans iC.many (Nat.le_trans (Nat.pow_le_pow_left hn n) (Nat.le_trans (Nat.pow_le_pow_right (by omega) hn) (by decide)));obtain⟨idg,offg,shg,hidg,hcg⟩:=og.sv.shape (τ2 i).gens.length (by have:=All2.length pvs;omega) (by omega);obtain⟨vS,hvS,pS⟩:=pvs.at (i:=t) (by omega);obtain⟨s,hs⟩:=AS ((τ2 i).gens.getD t []);rw[hs] at pS
 have hsq:(τ2 i).gens[t]? =some s:=by
  rw[←hs,List.getD,eQ (by omega)];rfl
 have Sp:=iC.gP s (List.mem_of_getElem? hsq);have cS:h2.cell idg (offg+t)=some vS:=by rw[hcg t (by have:=All2.length pvs;omega)];exact hvS
 have pT:PV (WT n L F2) h2 (F2 (i*194+2+q)) y:=by
  have:=R2.to i q hi (by omega);rw[hy] at this;exact this
 have hN:i*194+194<=n*194:=by omega
 simp(disch:=omega)only[go_sem,ctr,cg,lg,shg.ixa,cS,R2.l,put_rc,jC,F1_ne];have fb:Fr h2 (H.mk h2.tr (h2.next+12+13+11)):=(Fr.refl h2).bJ (by omega)
 obtain⟨h3,h3e⟩: ∃h3,h3=(H.mk h2.tr (h2.next+12+13+11)).set L (some (.cells false (rc (n*194) (F1 F2 (i*194+130+q) (aC ((t:Int)+1)))))):=⟨_,rfl⟩
 rw[←h3e];obtain⟨R3,f3,w3⟩:=(R2.mono fb).tick hi (q:=q) (by omega) (z:=(t:Int)+1) (by rw[ht]) h3e;have f3':=(Fx.of (W:=WT n L F2) fb).trans f3 (λ_ _ h=>h);have pT3:=PV.go pT f3' (λid _ h=>(w3 id).1 h);have pS3:=PV.go pS f3' (λid _ h=>(w3 id).1 h);generalize F2 (i*194+2+q)=vt at pT pT3;clear h3e pT pS ctr cg lg shg hidg hcg cS hvS pvs og
 obtain⟨F3,hF3⟩: ∃F3,F3=F1 F2 (i*194+130+q) (aC ((t:Int)+1)):=⟨_,rfl⟩
 rw[←hF3] at R3 w3 pT3 pS3
 obtain⟨τ3,hτ3⟩: ∃τ3,τ3=mO τ2 i ((τ2 i).tick q):=⟨_,rfl⟩
 rw[←hτ3] at R3;have e3:τ3 i=(τ2 i).tick q:=by rw[hτ3];exact bT ..
 refine (mul_gen (rfl:T 181=some c_chain_mul) vt vS y s h3 (by rw[Y.len];omega) pT3.si pS3.si (λj hj=>by rw[Sp.len];exact Y.dU (by rw[←Y.len];exact hj))).mono ?_;rintro v h4 nw;have P:=Y.mul Sp;obtain⟨p,hp⟩:=AS ((aQ y s).getD i 0);have hpn:p<n:=by rw[←hp];exact P.dU hi
 have R4:=R3.mono nw.fr;have pv:=nw.pv (W:=WT n L F3) (λhw=>by have:=R3.win hw;omega)
 have cp:h4.cell h3.next i=some (aC p):=by
  rw[H.aF nw.get,qZ (by rw[P.len];exact hi),hp]
 have cto:h4.cell L (i*194+2+p)=some (F3 (i*194+2+p)):=R4.cell2 hi (by omega);have hto:=R4.to i p hi (by omega);have ev:=nw.val;rw[P.len] at ev;have f4:Fx (WT n L F2) h2 h4:=f3'.trans (Fx.of (W:=WT n L F2) nw.fr) (λ_ _ h=>h);simp(disch:=omega)only[go_sem,ev,cp,cto];rw[←ev];have hdone: ∀r∈(τ2 i).orb.take k,r≠q:=λr hr e=>notin_take iC.nd hk' (by rw[hq,←e];exact hr)
 cases hpo:(τ2 i).to p with
 |none=>
  have hto':F3 (i*194+2+p)= .aB:=by
   rw[e3] at hto;have hto:Slot _ _ _ ((τ2 i).to p):=hto;rw[hpo] at hto;exact hto
  simp(disch:=omega)only[go_sem,hto'];refine (inv_gen (rfl:T 188=some c_chain_inv) v n (aQ y s) (H.mk h4.tr (h4.next+15)) (by omega) P (pv.mono ((Fr.refl h4).bJ (by omega))).si).mono ?_;rintro vu h5 nu;have f5:Fr h4 h5:=((Fr.refl h4).bJ (by omega):Fr h4 (H.mk h4.tr (h4.next+15))).trans nu.fr;have R5:=R4.mono f5;have pv5:=pv.mono f5;have pu5:=nu.pv (W:=WT n L F3) (λhw=>by have:=R4.win hw;simp at this;omega);simp(disch:=omega)only[go_sem,R5.l,gH pv5.eN.1 pv5.eN.2,gH pu5.eN.1 pu5.eN.2,put_rc,jC,F1_ne]
  obtain⟨F6,hF6⟩: ∃F6,F6=F1 (F1 F3 (i*194+2+p) v) (i*194+66+p) vu:=⟨_,rfl⟩
  obtain⟨h6,h6e⟩: ∃h6,h6=(h5.set L (some (Ob.cells false (rc (n*194) (F1 F3 (i*194+2+p) v))))).set L (some (Ob.cells false (rc (n*194) (F1 (F1 F3 (i*194+2+p) v) (i*194+66+p) vu)))):=⟨_,rfl⟩
  rw[←h6e];obtain⟨R6,f6,w6⟩:=R5.way hi (q:=p) (by omega) pv5 pu5 (h3:=h6) (by rw[h6e];exact eP _) (λid h1 _=>by rw[h6e,H.aH _ h1,H.aH _ h1]) (by rw[h6e,H.aT]);have eO:F3 (i*194+1)=F6 (i*194+1):=by rw[hF6,F1_ne (by omega),F1_ne (by omega)]
  rw[←hF6] at R6 w6
  obtain⟨τ6,hτ6⟩: ∃τ6,τ6=mO τ3 i {τ3 i with to:=λr=>if r=p then some (aQ y s) else (τ3 i).to r}:=⟨_,rfl⟩
  rw[←hτ6] at R6;have e6:τ6 i={τ3 i with to:=λr=>if r=p then some (aQ y s) else (τ3 i).to r}:=by rw[hτ6];exact bT ..
  have eo6:(τ6 i).orb=(τ2 i).orb:=by rw[e6,e3];rfl
  simp(disch:=omega)only[go_sem,dC h6 (z:= aC 0) (v:= aC p) rfl rfl,eO]
  obtain⟨h7,h7e⟩: ∃h7,h7=h6.new (.cells false [aC p]):=⟨_,rfl⟩
  have f7:Fr h6 h7:=by rw[h7e];exact (Fr.refl h6).new _
  have n7:h7.next=h6.next+1:=by rw[h7e];exact H.aV ..
  have g7:h7.get h6.next=some (.cells false [aC p]):=by rw[h7e];exact H.aM ..
  rw[←h7e];have R7:=R6.mono f7;have o7:=R7.orb i hi;rw[eo6] at o7;obtain⟨h8,a8,p8⟩:=o7.push (bytes:=8) (SV.one (by omega) g7 (.kn 1)) (n:=(τ2 i).orb.length) (m:=1) (by rw[aN,aU,Nat.mul_one]) rfl (by omega) (by omega) (by omega)
  have gL:h8.get L=some (.cells false (rc (n*194) F6)):=by
   rw[p8.old L (by have:=R7.ln;omega) (by have:=R7.ap (2*i+1) (by omega);rw[sl2_o] at this;exact this)];exact R7.l
  simp(disch:=omega)only[go_sem,a8,gL,put_rc]
  obtain⟨h9,h9e⟩: ∃h9,h9=h8.set L (some (.cells false (rc (n*194) (F1 F6 (i*194+1) (.sl h7.next 0 ((τ2 i).orb.length+1) (.un 1)))))):=⟨_,rfl⟩
  rw[←h9e];obtain⟨R9,f9,w9⟩:=R7.point hi (q:=p) (by rw[eo6];exact p8) (.inl rfl) (by rw[eo6]) h9e;rw[eo6] at R9
  have eT:mO τ6 i {τ6 i with orb:=(τ2 i).orb++ [p]}=mO τ2 i (((τ2 i).tick q).reach p (aQ y s)):=by
   funext j
   by_cases e:j=i
   ·subst e
    rw[bT,bT,e6,e3];rfl
   ·rw[dJ _ _ e,dJ _ _ e,hτ6,dJ _ _ e,hτ3,dJ _ _ e]
  rw[eT] at R9;have c9:=S.c.found hi hy ht hsq hp hpo;have ei:mO τ2 i (((τ2 i).tick q).reach p (aQ y s)) i=((τ2 i).tick q).reach p (aQ y s):=bT ..
  have W9: ∀id,id<h2.next->WT n L (F1 F6 (i*194+1) (.sl h7.next 0 ((τ2 i).orb.length+1) (.un 1))) id->WT n L F2 id:=λid h1 hw=>
   (w3 id).1 ((w6 id).1 (w9 id (by have:=f4.next;have:=f5.next;have:=f6.next;have:=f7.next;omega) hw))
  have eW3:WT n L F3=WT n L F2:=funext λid=>propext (w3 id)
  have eW6:WT n L F6=WT n L F2:=(funext λid=>propext (w6 id)).trans eW3;rw[eW3] at f6;rw[eW6] at f9;have f9':Fx (WT n L F2) h2 h9:=f4.trans ((Fx.of f5).trans (f6.trans ((Fx.of f7).trans f9 (λ_ _ h=>h)) (λ_ _ h=>h)) (λ_ _ h=>h)) (λ_ _ h=>h);refine⟨(τ2 i).gens.length-(t+1),by omega,_,_,aA rfl,⟨R9,c9,?_,?_,λj hj=>(dJ _ _ (by omega)).trans (S.low j hj),?_,S.fx.trans f9' λid h1 hw=>S.wt id h1 hw,λid h1 hw=>S.wt id h1 (W9 id (by have:=S.fx.next;omega) hw)⟩,?_,?_,?_⟩
  all_goals rw[ei]
  ·show k<=((τ2 i).orb++ [p]).length
   rw[jD];omega
  ·intro r hr
   have hr:r∈((τ2 i).orb++ [p]).take k:=hr;rw[List.take_append_of_le_length (by omega)] at hr;show (if r=q then (τ2 i).tr q+1 else (τ2 i).tr r)=(τ2 i).gens.length;rw[if_neg (hdone r hr)];exact S.done r hr
  ·exact S.gens
  ·show k<((τ2 i).orb++ [p]).length
   rw[jD];omega
  ·show ((τ2 i).orb++ [p]).getD k 0=q
   rw[←hq,List.getD,List.getD,wY hk']
  ·show _=(τ2 i).gens.length-(if q=q then (τ2 i).tr q+1 else (τ2 i).tr q)
   rw[if_pos rfl,ht]
 |some u=>
  have U:=iC.isP _ _ hpo
  have hto':PV (WT n L F3) h4 (F3 (i*194+2+p)) u:=by
   rw[e3] at hto;have hto:Slot _ _ _ ((τ2 i).to p):=hto;rw[hpo] at hto;exact hto
  have sn:=Hz hto' (aX.ne (by omega) U) false;have ct:h4.cell tid 0=some (aC n):=by rw[H.aF R4.t];rfl
  have cby:h4.cell L (i*194+66+p)=some (F3 (i*194+66+p)):=R4.cell2 hi (by omega)
  have hby:PV (WT n L F3) h4 (F3 (i*194+66+p)) (bX u):=by
   have:=R4.iv i p hi (by omega);rw[e3] at this;have this:Slot _ _ _ (((τ2 i).to p).map bX):=this;rw[hpo] at this;exact this
  simp(disch:=omega)only[go_sem,sn,ct]
  by_cases hlt2:(i:Int)+1<(n:Int)
  ·rw[decide_eq_true hlt2]
   simp(disch:=omega)only[go_sem,cby];refine (mul_gen (rfl:T 181=some c_chain_mul) v _ (aQ y s) (bX u) h4 (by rw[P.len];omega) pv.si hby.si (λj hj=>by rw[gU,U.len];exact P.dU (by rw[←P.len];exact hj))).mono ?_;rintro v2 h5 nu;have R5:=R4.mono nu.fr;have Z:=P.mul U.inv;have pz:=nu.pv (W:=WT n L F3) (λhw=>by have:=R4.win hw;omega);obtain⟨_,hzf,_⟩:=S.c.vQ hi hy (List.mem_of_getElem? hsq) (by rw[hp];exact hpo);simp(disch:=omega)only[go_sem];rw[iO i];refine (A (by omega) h5 tid L F3 τ3 v2 _ R5 pz Z hzf ?_).mono ?_
   ·rw[hτ3];exact S.c.up.Vd (by omega)
   rintro vv h6 ⟨F6,τ6,R6,a6,f6,w6⟩;rw[hτ3] at a6;obtain⟨c6,e6,l6⟩:=ticked S.c (by omega) hy ht hsq (by rw[hp];exact hpo) rfl a6;have eW3:WT n L F3=WT n L F2:=funext λid=>propext (w3 id)
   rw[eW3] at f6 w6;have f6':Fx (WT n L F2) h2 h6:=f4.trans ((Fx.of nu.fr).trans f6 (λ_ _ h=>h)) (λ_ _ h=>h);simp(disch:=omega)only[go_sem];refine⟨(τ2 i).gens.length-(t+1),by omega,_,_,aA rfl,⟨R6,c6,?_,?_,λj hj=>(l6 j hj).trans (S.low j hj),?_,S.fx.trans f6' λid h1 hw=>S.wt id h1 hw,λid h1 hw=>S.wt id h1 (w6 id (by have:=S.fx.next;have:=f4.next;have:=nu.fr.next;omega) hw)⟩,?_,?_,?_⟩
   all_goals rw[e6]
   ·exact Nat.le_of_lt hk'
   ·intro r hr
    have hr:r∈(τ2 i).orb.take k:=hr;show (if r=q then (τ2 i).tr q+1 else (τ2 i).tr r)=(τ2 i).gens.length;rw[if_neg (hdone r hr)];exact S.done r hr
   ·exact S.gens
   ·exact hk'
   ·exact hq
   ·show _=(τ2 i).gens.length-(if q=q then (τ2 i).tr q+1 else (τ2 i).tr q)
    rw[if_pos rfl,ht]
  ·rw[decide_eq_false hlt2]
   obtain⟨hz1,hzf,_⟩:=S.c.vQ hi hy (List.mem_of_getElem? hsq) (by rw[hp];exact hpo);have en:i+1=n:=by omega
   have c6:=S.c.tick hy ht hsq (by rw[hp];exact hpo) (by
    rw[en];rw[en] at hzf
    exact mD.2 (hzf.all hz1))
   simp(disch:=omega)only[go_sem];rw[hτ3] at R4;have e6:mO τ2 i ((τ2 i).tick q) i=(τ2 i).tick q:=bT ..;refine⟨(τ2 i).gens.length-(t+1),by omega,_,_,aA rfl,⟨R4,c6,?_,?_,λj hj=>(dJ _ _ (by omega)).trans (S.low j hj),?_,S.fx.trans f4 λid h1 hw=>S.wt id h1 hw,λid h1 hw=>S.wt id h1 ((w3 id).1 hw)⟩,?_,?_,?_⟩
   all_goals rw[e6]
   ·exact Nat.le_of_lt hk'
   ·intro r hr
    have hr:r∈(τ2 i).orb.take k:=hr;show (if r=q then (τ2 i).tr q+1 else (τ2 i).tr r)=(τ2 i).gens.length;rw[if_neg (hdone r hr)];exact S.done r hr
   ·exact S.gens
   ·exact hk'
   ·exact hq
   ·show _=(τ2 i).gens.length-(if q=q then (τ2 i).tr q+1 else (τ2 i).tr q)
    rw[if_pos rfl,ht]
def pushU (τ:jI)(i m:Nat)(r:List Nat):jI:=λj=>if i<=j/\j<m then (τ j).more r else τ j
theorem pushU_zero (τ:jI)(i:Nat)(r:List Nat):pushU τ i i r=τ:=by
 funext j;unfold pushU;rw[if_neg (by omega)]
theorem pushU_succ (τ:jI){i m:Nat}(r:List Nat)(h:i<=m):mO (pushU τ i m r) m ((pushU τ i m r m).more r)=pushU τ i (m+1) r:=by
 funext j
 by_cases e:j=m
 ·subst e
  rw[bT];unfold pushU;rw[if_neg (by omega),if_pos (by omega)]
 ·rw[dJ _ _ e]
  unfold pushU
  by_cases h1:i<=j/\j<m
  ·rw[if_pos h1,if_pos (by omega)]
  ·rw[if_neg h1,if_neg (by omega)]
theorem pushU_push (τ:jI)(i k:Nat)(r:List Nat):pushU τ i (k+1) r=push τ i k r:=by
 funext j;unfold pushU push
 by_cases h:i<=j/\j<=k
 ·rw[if_pos h,if_pos (by omega)]
 ·rw[if_neg h,if_neg (by omega)]
theorem eqV_sl (a b c:Nat)(d:kL):dI (.sl a b c d) (.sl a b c d)=true:=by simp [dI]
theorem add_of_close (n i0:Nat)(hn:n<=7)(hi:i0<n)(C: ∀j,i0<=j->j<n->CloseC n j):AddC n i0:=by
 intro h tid L F τ vx x R hx X Fi t;refine bP c_chain_tower_add rfl rfl ?_;simp(disch:=omega)only[go_sem,c_chain_tower_add,aE];refine (sift_ok h n tid L F τ vx x i0 (by omega) (by omega) R hx X (by omega) t).mono ?_;have sf:=Mm (n-i0) i0 x (by omega) t X Fi;obtain⟨k,hk⟩:=AS ((Ce n τ (n-i0) i0 x).1);obtain⟨r,hr⟩:=AS ((Ce n τ (n-i0) i0 x).2);rw[hk,hr] at sf ⊢;rintro _ h1 ⟨vr,rfl,pr,Rr,f1⟩;have R1:=R.mono f1;have ct:h1.cell tid 0=some (aC n):=by rw[H.aF R1.t];rfl
 simp(disch:=omega)only[go_sem,ct]
 by_cases hkn:(k:Int)=(n:Int)
 ·rw[decide_eq_true hkn]
  have e:k=n:=by omega
  subst e;simp(disch:=omega)only[go_sem];exact⟨F,τ,R1,tQ.none t hi (sf.in t hi),Fx.of f1,λ_ _ h=>h⟩
 rw[decide_eq_false hkn];have hkn':k<n:=by have:=sf.le;omega
 have hge:=sf.ge;simp(disch:=omega)only[go_sem]
 refine aJ (λm' vars hh=> ∃(m:Nat) (F':Nat->V),(∃g:Nat->V,vars= [.ptr tid 0,g 1,aC i0,aC k,vr,aC m,g 6,g 7,g 8,g 9])/\i0<=m/\m<=k+1/\TwR hh n tid L F' (pushU τ i0 m r)/\PV (WT n L F') hh vr r/\
   Fx (WT n L F) h hh/\(∀id,id<h.next->WT n L F' id->WT n L F id)/\m'=k+1-m) (k+1-i0)
  ⟨i0,F,aA rfl,eP _,by omega,by rw[pushU_zero];exact R1,pr,Fx.of f1,λ_ _ h=>h,rfl⟩ ?_
 clear R1 ct pr f1;rintro m' vars h2 ⟨m,F2,⟨g,rfl⟩,hm1,hm2,R2,pr,f2,w2,rfl⟩;simp(disch:=omega)only[go_sem]
 by_cases hlt:(m:Int)<=(k:Int)
 ·rw[decide_eq_true hlt]
  have hmn:m<n:=by omega
  have cl:h2.cell tid 1=some (.sl L 0 n (.kn n)):=by rw[H.aF R2.t];rfl
  have cg:h2.cell L (m*194)=some (F2 (m*194)):=by
   have:=R2.cell (c:=0) hmn (by omega);rwa [Nat.add_zero] at this
  have em:pushU τ i0 m r m=τ m:=by unfold pushU;rw[if_neg (by omega)]
  have ln:=R2.ln;have tn:=R2.tn;simp(disch:=omega)only[go_sem,cl,cg,dC _ pr.eN.1 pr.eN.2]
  obtain⟨h3,h3e⟩: ∃h3:H,h3=H.mk ((H.mk h2.tr (h2.next+14)).new (Ob.cells false [vr])).tr (h2.next+19):=⟨_,rfl⟩
  rw[←h3e];have g3:h3.get (h2.next+14)=cE [vr]:=by rw[h3e];exact H.aM (H.mk h2.tr (h2.next+14)) _
  have n3:h3.next=h2.next+19:=by rw[h3e]
  have f3:Fr h2 h3:=⟨by omega,λid hid=>by rw[h3e];exact H.bG (H.mk h2.tr (h2.next+14)) (by simp;omega) _⟩
  have R3:=R2.mono f3;have pr3:=pr.mono f3;obtain⟨vs,o3,pvs⟩:=R3.gens m hmn;rw[em] at pvs;have iC:=(t m hm1 hmn).1;have hgl:(τ m).gens.length<=1000000:=Nat.le_trans iC.many (Nat.le_trans (Nat.pow_le_pow_left hn n) (Nat.le_trans (Nat.pow_le_pow_right (by omega) hn) (by decide)));obtain⟨h4,a4,p4⟩:=o3.push (bytes:=24) (SV.one (by omega) g3 (.kn 1)) (n:=(τ m).gens.length) (m:=1) (by have:=All2.length pvs;omega) rfl (by omega) (by omega) (by omega);have gt:h4.get tid=h3.get tid:=p4.old tid (by omega) (λid off nn c e e2=>R3.tw (.inr ⟨2*m,by omega,off,nn,c,by rw[sl2_g,e2];exact e⟩))
  have gL:h4.get L=cE (rc (n*194) F2):=by
   rw[p4.old L (by omega) (by have:=R3.ap (2*m) (by omega);rw[sl2_g] at this;exact this)];exact R3.l
  have cl4:h4.cell tid 1=some (.sl L 0 n (.kn n)):=by unfold H.cell;rw[gt,R3.t];rfl
  have hN:m*194+194<=n*194:=by omega
  simp(disch:=omega)only[go_sem,a4,cl4,eqV_sl,gL,put_rc]
  obtain⟨h5,h5e⟩: ∃h5,h5=h4.set L (cE (rc (n*194) (F1 F2 (m*194) (.sl h3.next 0 ((τ m).gens.length+1) (.un 1))))):=⟨_,rfl⟩
  rw[←h5e];obtain⟨R5,f5,w5⟩:=R3.more hmn (by rw[em];exact pvs) pr3 (by rw[em];exact p4) (by rw[em]) h5e;rw[pushU_succ τ r hm1] at R5;rw[iO m];refine⟨k+1-(m+1),by omega,m+1,_,aA rfl,by omega,by omega,R5,PV.go pr3 f5 w5,f2.trans ((Fx.of (W:=WT n L F2) f3).trans f5 (λ_ _ h=>h)) (λid h1 hw=>w2 id h1 hw),λid h1 hw=>w2 id h1 (w5 id (by have:=f2.next;omega) hw),rfl⟩
 rw[decide_eq_false hlt];have em:m=k+1:=by omega
 subst em;rw[pushU_push] at R2;simp(disch:=omega)only[go_sem];have AI0:=vX.start sf t hkn'
 refine aJ (λm' vars hh=> ∃(m:Nat) (F':Nat->V) (τ':jI),(∃g:Nat->V,vars= [.ptr tid 0,g 1,aC i0,g 3,g 4,g 5,aC ((m:Int)- 1),g 7,g 8,g 9])/\i0<=m/\m<=k+1/\TwR hh n tid L F' τ'/\vX n i0 k r τ τ' m/\
   Fx (WT n L F) h hh/\(∀id,id<h.next->WT n L F' id->WT n L F id)/\m'=m) (k+1)
  ⟨k+1,F2,_,aA (by rw[show ((k+1:Nat):Int)- 1=(k:Int) from by omega];rfl),by omega,by omega,R2,AI0,f2,w2,rfl⟩ ?_
 clear R2 AI0 f2 w2 pr hlt hm1 hm2;rintro m' vars h3 ⟨m,F3,τ3,⟨g3,rfl⟩,hm1,hm2,R3,AI,f3,w3,hm⟩;subst hm;simp(disch:=omega)only[go_sem]
 by_cases hlt:(i0:Int)<=(m':Int)- 1
 ·rw[decide_eq_true hlt]
  obtain⟨j,rfl⟩: ∃j,m'=j+1:=⟨m'- 1,by omega⟩
  have ci:=AI.ci sf t hkn' (by omega) (by omega);simp(disch:=omega)only[go_sem];rw[show ((j+1:Nat):Int)- 1=(j:Int) from by omega];refine (C j (by omega) (by omega) h3 tid L F3 τ3 R3 ci).mono ?_;rintro _ h4 ⟨F4,τ4,R4,t4,l4,g4,f4,w4⟩;simp(disch:=omega)only[go_sem];refine⟨j,by omega,j,F4,τ4,aA rfl,by omega,by omega,R4,AI.next (by omega) (by omega) l4 g4 t4,f3.trans f4 (λid h1 hw=>w3 id h1 hw),λid h1 hw=>w3 id h1 (w4 id (by have:=f3.next;omega) hw),rfl⟩
 rw[decide_eq_false hlt];have em:m'=i0:=by omega
 rw[em] at AI;simp(disch:=omega)only[go_sem];exact⟨F3,τ3,R3,AI.done sf t X hkn',f3,w3⟩
theorem add_all (n:Nat)(hn:n<=7): ∀d i,i+d=n->(i<n->AddC n i)/\(i<n->CloseC n i)
 |0,i,h=>⟨λh2=>by omega,λh2=>by omega⟩
 |d+1,i,h=>by
  have ih:=add_all n hn d (i+1) (by omega)
  have cl: ∀j,i<=j->j<n->CloseC n j:=λj h1 h2=>by
   by_cases e:j=i
   ·subst e;exact close_of_add n j hn h2 λh3=>ih.1 h3
   ·exact (add_all n hn (n-j) j (by omega)).2 h2
  exact⟨λh2=>add_of_close n i hn h2 cl,λh2=>cl i (eP _) h2⟩
termination_by d=>d
theorem add_ok (n:Nat)(hn:n<=7)(h0:0<n):AddC n 0:=(add_all n hn n 0 (by omega)).1 h0
end Go.Proofs.YtapfcpkecmmagaaGreat
namespace Go.Pm
set_option maxRecDepth 100000
section
variable {x y:List Nat} {R:Nv}
def Lt (x y:List Nat):Prop:= ∃k,k<x.length/\(∀j,j<k->x.getD j 0=y.getD j 0)/\x.getD k 0<y.getD k 0
def Le (x y:List Nat):Prop:=x=y∨Lt x y
theorem Lt.asymm (a:Lt x y)(b:Lt y x):False:=by
 obtain⟨k,_,h1,h2⟩:=a;obtain⟨m,_,h3,h4⟩:=b;rcases Nat.lt_trichotomy k m with h|h|h
 ·have:=h3 k h;omega
 ·subst h;omega
 ·have:=h1 m h;omega
theorem Le.antisymm (a:Le x y)(b:Le y x):x=y:=by
 rcases a with a|a
 ·exact a
 ·rcases b with b|b
  ·exact b.symm
  ·exact (a.asymm b).elim
def mW (x:List Nat):Nat->List Nat->Nat
 |b, []=>b
 |b,q::l=>mW x (if x.getD q 0<x.getD b 0 then q else b) l
theorem Hj (x:List Nat): ∀(l:List Nat) (b:Nat),mW x b l∈b::l/\ ∀q∈b::l,x.getD (mW x b l) 0<=x.getD q 0
 | [],b=>⟨by simp [mW],λq hq=>by simp at hq;subst hq;exact Nat.le_refl _⟩
 |q::l,b=>by
  have ih:=Hj x l (if x.getD q 0<x.getD b 0 then q else b);unfold mW;refine⟨?_,λr hr=>?_⟩
  ·rcases List.mem_cons.1 ih.1 with h|h
   ·rw[h];split<;>simp
   ·exact List.mem_cons_of_mem _ (List.mem_cons_of_mem _ h)
  ·have h0:=ih.2 _ (List.mem_cons_self ..)
   rcases List.mem_cons.1 hr with rfl|hr
   ·split at h0<;>(split<;>omega)
   ·rcases List.mem_cons.1 hr with rfl|hr
    ·split at h0<;>(split<;>omega)
    ·exact ih.2 r (List.mem_cons_of_mem _ hr)
def Gg (τ:jI):Nat->Nat->List Nat->List Nat
 |0,_,x=>x
 |d+1,k,x=>Gg τ d (k+1) (if mW x k (τ k).orb=k then x else aQ (((τ k).to (mW x k (τ k).orb)).getD []) x)
section
variable {n:Nat} {τ:jI} {G:List Nat->Prop}
theorem Ng: ∀(d k:Nat) (x:List Nat),k+d=n->jJ n k τ->aX n x-> ∃h,S n τ k h/\Gg τ d k x=aQ h x/\ ∀g,S n τ k g->Le (Gg τ d k x) (aQ g x)
 |0,k,x,h,_,X=>by
  obtain rfl:k=n:=by omega
  refine⟨aW k,mD.2 rfl,(bW X).symm,λg hg=> .inl ?_⟩;rw[mD] at hg;subst hg;exact (bW X).symm
 |d+1,k,x,h,t,X=>by
  have hk:k<n:=by omega
  have L:=(t k (Nat.le_refl _) hk).1;have t1:=t.mono (Nat.le_succ k);obtain⟨b1,b2⟩:=Hj x (τ k).orb k
  have hq:mW x k (τ k).orb∈(τ k).orb:=by
   rcases List.mem_cons.1 b1 with h|h
   ·rw[h];exact L.base
   ·exact h
  obtain⟨y,hy⟩:=L.to hq;have Y:=L.isP _ y hy
  have hx':(if mW x k (τ k).orb=k then x else aQ (((τ k).to (mW x k (τ k).orb)).getD []) x)=aQ y x:=by
   split
   ·rename_i e
    rw[e,L.one] at hy;cases hy;exact (bW X).symm
   ·rw[hy];rfl
  unfold Gg;rw[hx'];obtain⟨g,hg,e,hle⟩:=Ng d (k+1) (aQ y x) (by omega) t1 (Y.mul X);have Gp:=t1.isP hk hg;have hgy:S n τ k (aQ g y):=(jP hk).2 ⟨_,y,g,hy,hg,rfl⟩;refine⟨aQ g y,hgy,by rw[e,aI Gp Y X],λu hu=>?_⟩;have U:=t.isP (by omega) hu;obtain⟨v,hv,hv2⟩:=t.sift hk hu;have hmem:=L.mem hv;have V:=L.isP _ v hv;have r1:(aQ u x).getD k 0=x.getD (u.getD k 0) 0:=cH (by rw[U.len];exact hk)
  have r2:(aQ g (aQ y x)).getD k 0=x.getD (mW x k (τ k).orb) 0:=by
   rw[cH (by rw[Gp.len];exact hk),t1.fix hk hg k (by omega),cH (by rw[Y.len];exact hk),L.maps _ y hy]
  have hb:=b2 _ (List.mem_cons_of_mem _ hmem)
  by_cases hlt:x.getD (mW x k (τ k).orb) 0<x.getD (u.getD k 0) 0
  ·rw[e]
   refine .inr ⟨k,by rw[dP,Gp.len];exact hk,λj hj=>?_,by rw[r1,r2];exact hlt⟩;rw[cH (by rw[Gp.len];omega),t1.fix hk hg j (by omega),cH (by rw[Y.len];omega),L.fix _ y hy j hj,cH (by rw[U.len];omega),t.fix (by omega) hu j hj]
  ·have heq:mW x k (τ k).orb=u.getD k 0:=X.inj (L.lt hk hq) (L.lt hk hmem) (by omega)
   rw[←heq,hy] at hv;cases hv;have:=hle _ hv2;rwa [aI U Y.inv (Y.mul X),←aI Y.inv Y X,cZ Y,bW X] at this
structure tZ (n:Nat)(G:List Nat->Prop)(i p:Nat)(x:List Nat):Prop where
 mem:G x
 fix:Fix i x
 maps:x.getD i 0=p
 least: ∀y,G y->Fix i y->y.getD i 0=p->Le x y
theorem tZ.uniq {i p:Nat}(a:tZ n G i p x)(b:tZ n G i p y):x=y:=
 (a.least y b.mem b.fix b.maps).antisymm (b.least x a.mem a.fix a.maps)
structure dK (n:Nat)(G:List Nat->Prop)(O:oN)(R:Nv):Prop where
 lo:O.length=n
 lr:R.length=n
 asc: ∀i,i<n->(O.getD i []).Pairwise (· < ·)
 mem: ∀i,i<n-> ∀p,p∈O.getD i []↔ ∃x,G x/\Fix i x/\x.getD i 0=p
 rl: ∀i,i<n->(R.getD i []).length=(O.getD i []).length
 rep: ∀i,i<n-> ∀k,k<(O.getD i []).length->tZ n G i ((O.getD i []).getD k 0) ((R.getD i []).getD k [])
theorem Ca: ∀{a b:List Nat},a.Pairwise (· < ·)->b.Pairwise (· < ·)->(∀p,p∈a↔p∈b)->a=b
 | [], [],_,_,_=>rfl
 | [],y::b,_,_,h=>by have:=(h y).2 (by simp);simp at this
 |x::a, [],_,_,h=>by have:=(h x).1 (by simp);simp at this
 |x::a,y::b,ha,hb,h=>by
  obtain⟨a1,a2⟩:=List.pairwise_cons.1 ha;obtain⟨b1,b2⟩:=List.pairwise_cons.1 hb
  have e:x=y:=by
   have h1:=(h x).1 (by simp);have h2:=(h y).2 (by simp);rcases List.mem_cons.1 h1 with h1|h1
   ·exact h1
   ·rcases List.mem_cons.1 h2 with h2|h2
    ·exact h2.symm
    ·have:=b1 x h1;have:=a1 y h2;omega
  subst e;congr 1
  refine Ca a2 b2 λp=>⟨λhp=>?_,λhp=>?_⟩
  ·rcases List.mem_cons.1 ((h p).1 (List.mem_cons_of_mem _ hp)) with e|h3
   ·subst e;have:=a1 p hp;omega
   ·exact h3
  ·rcases List.mem_cons.1 ((h p).2 (List.mem_cons_of_mem _ hp)) with e|h3
   ·subst e;have:=b1 p hp;omega
   ·exact h3
theorem sJ {α:Type}{d:α}{a b:List α}(hl:a.length=b.length)(h: ∀i,i<a.length->a.getD i d=b.getD i d):a=b:=by
 refine List.ext_getElem hl λi h1 h2=>?_
 have:=h i h1;simpa [List.getD,h1,h2] using this
theorem dK.uniq {O O':oN}{R':Nv}(a:dK n G O R)(b:dK n G O' R'):O=O'/\R=R':=by
 have e:O=O':=sJ (d:= []) (by rw[a.lo,b.lo]) λi hi=>by
  rw[a.lo] at hi;exact Ca (a.asc i hi) (b.asc i hi) λp=>(a.mem i hi p).trans (b.mem i hi p).symm
 subst e;refine⟨rfl,sJ (d:= []) (by rw[a.lr,b.lr]) λi hi=>?_⟩;rw[a.lr] at hi;refine sJ (d:= []) (by rw[a.rl i hi,b.rl i hi]) λk hk=>?_
 rw[a.rl i hi] at hk;exact (a.rep i hi k hk).uniq (b.rep i hi k hk)
theorem dK.congr {H:List Nat->Prop}{O:oN}(a:dK n G O R)(h: ∀x,G x↔H x):dK n H O R:=by
 have:G=H:=funext λx=>propext (h x)
 exact this▸a
theorem jJ.chain (t:jJ n 0 τ){O:oN}(lo:O.length=n)(lr:R.length=n)
  (asc: ∀i,i<n->(O.getD i []).Pairwise (· < ·)) (mem: ∀i,i<n-> ∀p,p∈O.getD i []↔p∈(τ i).orb) (rl: ∀i,i<n->(R.getD i []).length=(O.getD i []).length)
  (rep: ∀i,i<n-> ∀k,k<(O.getD i []).length-> ∀y,(τ i).to ((O.getD i []).getD k 0)=some y->(R.getD i []).getD k []=Gg τ (n-(i+1)) (i+1) y):dK n (S n τ 0) O R:=by
 refine⟨lo,lr,asc,λi hi p=>?_,rl,λi hi k hk=>?_⟩
 ·have L:=(t i (Nat.zero_le _) hi).1
  have ti:=t.mono (Nat.zero_le i)
  rw[mem i hi p]
  constructor
  ·intro hp
   obtain⟨y,hy⟩:=L.to hp
   have hS:S n τ i y:=(ti.gen hi).2 (L.gen p y hy)
   have:=(t.Dg (Nat.zero_le i) (by omega)).1 hS
   exact⟨y,this.1,this.2,L.maps p y hy⟩
  ·rintro⟨x,h1,h2,rfl⟩
   obtain⟨y,hy,_⟩:=ti.sift hi ((t.Dg (Nat.zero_le i) (by omega)).2 ⟨h1,h2⟩)
   exact L.mem hy
 ·have L:=(t i (Nat.zero_le _) hi).1
  have ti:=t.mono (Nat.zero_le i)
  have t1:=t.mono (Nat.zero_le (i+1))
  have hp:(O.getD i []).getD k 0∈O.getD i []:=by
   rw[cG hk];exact List.getElem_mem hk
  obtain⟨y,hy⟩:=L.to ((mem i hi _).1 hp)
  rw[rep i hi k hk y hy]
  generalize (O.getD i []).getD k 0=p at hy
  have Y:=L.isP p y hy
  obtain⟨h,hh,e,hle⟩:=Ng (n-(i+1)) (i+1) y (by omega) t1 Y
  have H:=t1.isP hi hh
  have hSi:S n τ i (aQ h y):=(jP hi).2 ⟨p,y,h,hy,hh,rfl⟩
  have hs:=(t.Dg (Nat.zero_le i) (by omega)).1 hSi
  rw[e] at hle ⊢
  refine⟨hs.1,hs.2,?_,λz h1 h2 h3=>?_⟩
  ·rw[cH (by rw[H.len];exact hi),t1.fix hi hh i (by omega),L.maps p y hy]
  ·obtain⟨v,hv,hv2⟩:=ti.sift hi ((t.Dg (Nat.zero_le i) (by omega)).2 ⟨h1,h2⟩)
   rw[h3,hy] at hv
   cases hv
   have Z:=t.isP (Nat.zero_le _) h1
   have:=hle _ hv2
   rwa [aI Z Y.inv Y,cZ Y,bB Z] at this
theorem tQ.group {i:Nat}{τ':jI}(a:tQ n i x τ τ')(t:jJ n i τ)(hi:i<n)(X:aX n x)(z:List Nat):Go.Pm.S n τ' i z↔dF n (λg=>Go.Pm.S n τ i g∨g=x) z:=by
 have L:=(t i (Nat.le_refl _) hi).1
 have hP: ∀g,(Go.Pm.S n τ i g∨g=x)->aX n g:=λg hg=>by
  rcases hg with hg|rfl
  ·exact t.isP (by omega) hg
  ·exact X
 rw[a.tw.gen hi];constructor
 ·intro h
  refine h.le (dF.grp hP) λg hg=>(a.new g hg).mono λu hu=>?_
  rcases hu with hu|hu
  ·exact .inl ((t.gen hi).2 (dF.of L.gP hu))
  ·exact .inr hu
 ·intro h
  refine h.le (dF.grp (a.tw i (Nat.le_refl _) hi).1.gP) λg hg=>?_
  rcases hg with hg|rfl
  ·exact ((t.gen hi).1 hg).mono a.old
  ·exact a.has
end
end
section
variable {j:Nat} {y:List Nat}
abbrev sP:=Nat->Nat->Option (List Nat)
def ins (t:sP):Nat->Nat->List Nat->Option (Nat×List Nat)
 |0,_,_=>none
 |d+1,i,x=>if x.getD i 0=i then ins t d (i+1) x else
  match t i (x.getD i 0) with
  |none=>some (i,x)
  |some y=>ins t d (i+1) (aQ x (bX y))
def dd:oN->oN
 | []=> []
 |a::l=>if a∈dd l then dd l else a::dd l
theorem zJ {a:List Nat}: ∀{l:oN},a∈dd l↔a∈l
 | []=>Iff.rfl
 |b::l=>by
  unfold dd;have ih:=zJ (a:=a) (l:=l);split
  ·rename_i h
   rw[ih];constructor
   ·exact List.mem_cons_of_mem _
   ·intro h2
    rcases List.mem_cons.1 h2 with rfl|h2
    ·exact ih.1 h
    ·exact h2
  ·simp [ih]
theorem uW: ∀l:oN,(dd l).Nodup
 | []=>List.nodup_nil
 |b::l=>by
  unfold dd;split
  ·exact uW l
  ·rename_i h;exact List.nodup_cons.2 ⟨h,uW l⟩
def eZ (n:Nat)(t:sP)(j:Nat):oN:=(List.range n).flatMap λi=>if j<=i then (List.range n).filterMap λp=>t i p else []
theorem eE {n:Nat}{t:sP}:y∈eZ n t j↔ ∃i p,j<=i/\i<n/\p<n/\t i p=some y:=by
 simp only[eZ,List.mem_flatMap,List.mem_range];constructor
 ·rintro⟨i,hi,h⟩
  split at h
  ·rename_i hj
   obtain⟨p,hp,e⟩:=List.mem_filterMap.1 h;exact⟨i,p,hj,hi,List.mem_range.1 hp,e⟩
  ·simp at h
 ·rintro⟨i,p,hj,hi,hp,e⟩
  refine⟨i,hi,?_⟩;rw[if_pos hj];exact List.mem_filterMap.2 ⟨p,List.mem_range.2 hp,e⟩
def oL (n:Nat)(t:sP):jI:=λj=>
 {gens:=dd (eZ n t j)
  orb:=(List.range n).filter λp=>p==j||(t j p).isSome
  to:=λp=>if p=j then some (aW n) else t j p
  tr:=λq=>if q=j∨(t j q).isSome then (dd (eZ n t j)).length else 0}
structure mZ (n:Nat)(t:sP):Prop where
 lt: ∀i p y,t i p=some y->i<n/\p<n/\p≠i
 isP: ∀i p y,t i p=some y->aX n y
 fix: ∀i p y,t i p=some y->Fix i y
 maps: ∀i p y,t i p=some y->y.getD i 0=p
def Ba (n:Nat)(t:sP):Prop:= ∀a b,a∈eZ n t 0->b∈eZ n t 0->ins t n 0 (aQ a b)=none
section
variable {n:Nat} {t:sP}
theorem oG {p:Nat}(T:mZ n t)(hj:j<n)(h:(oL n t j).to p=some y):aX n y/\Fix j y/\y.getD j 0=p/\(p=j/\y=aW n∨t j p=some y):=by
 have h':(if p=j then some (aW n) else t j p)=some y:=h;split at h'
 ·rename_i e
  cases h';exact⟨aX.one n,Fix.one n j (by omega),by rw[e];exact dM hj,.inl ⟨e,rfl⟩⟩
 ·exact⟨T.isP _ _ _ h',T.fix _ _ _ h',T.maps _ _ _ h',.inr h'⟩
theorem Qb (T:mZ n t): ∀(d j:Nat) (x:List Nat),j+d=n->S n (oL n t) j x->aX n x/\Fix j x
 |0,j,x,h,hs=>by
  obtain rfl:j=n:=by omega
  rw[mD] at hs;subst hs;exact⟨aX.one j,Fix.one j j (Nat.le_refl _)⟩
 |d+1,j,x,h,hs=>by
  obtain⟨p,y,g,h1,h2,rfl⟩:=(jP (by omega)).1 hs;obtain⟨G,F⟩:=Qb T d (j+1) g (by omega) h2;obtain⟨Y,F2,_⟩:=oG T (by omega) h1;exact⟨G.mul Y,Fix.mul G (by omega) (F.mono (by omega)) F2⟩
theorem wU (j:Nat)(hj:j<n){x:List Nat}(X:aX n x)(h:S n (oL n t) (j+1) x):S n (oL n t) j x:=
 (jP hj).2 ⟨j,aW n,x,by show (if j=j then some (aW n) else t j j)=_;rw[if_pos rfl],h,(bB X).symm⟩
theorem Bu: ∀(d j:Nat),j+d=n->S n (oL n t) j (aW n)
 |0,j,h=>by
         obtain rfl:j=n:=by omega
         exact mD.2 rfl
 |d+1,j,h=>wU j (by omega) (aX.one n) (Bu d (j+1) (by omega))
theorem wW (T:mZ n t): ∀(d j:Nat) (x:List Nat),j+d=n->aX n x->Fix j x->ins t d j x=none->S n (oL n t) j x
 |0,j,x,h,X,F,_=>by
  obtain rfl:j=n:=by omega
  exact mD.2 (F.all X)
 |d+1,j,x,h,X,F,hi=>by
  unfold ins at hi;split at hi
  ·rename_i e
   exact wU j (by omega) X (wW T d (j+1) x (by omega) X (F.succ e) hi)
  ·rename_i e
   split at hi
   ·cases hi
   ·rename_i y hy
    have Y:=T.isP _ _ _ hy;have F2:=T.fix _ _ _ hy;refine (jP (by omega)).2 ⟨x.getD j 0,y,aQ x (bX y),?_,?_,by rw[aI X Y.inv Y,cZ Y,bB X]⟩
    ·show (if x.getD j 0=j then some (aW n) else t j (x.getD j 0))=_
     rw[if_neg e];exact hy
    ·refine wW T d (j+1) _ (by omega) (X.mul Y.inv) ((Fix.mul X (by omega) F (Fix.inv Y (by omega) F2)).succ ?_) hi
     rw[cH (by rw[X.len];omega)];have:=lE Y (show j<n by omega);rwa [T.maps _ _ _ hy] at this
theorem Dm: ∀(k d j:Nat) (x:List Nat),Fix (j+k) x->ins t (d+k) j x=ins t d (j+k) x
 |0,_,_,_,_=>rfl
 |k+1,d,j,x,F=>by
  have e:ins t (d+k+1) j x=ins t (d+k) (j+1) x:=by
   show (if x.getD j 0=j then ins t (d+k) (j+1) x else _)=_;rw[if_pos (F j (by omega))]
  rw[show d+(k+1)=(d+k)+1 from rfl,e,Dm k d (j+1) x (by rw[show j+1+k=j+(k+1) from by omega];exact F),show j+1+k=j+(k+1) from by omega]
theorem Lo (T:mZ n t)(c:Ba n t){a b:List Nat}(hj:j<=n)(ha:a∈eZ n t 0)(hb:b∈eZ n t 0)(A:aX n a)(B:aX n b)(fa:Fix j a)(fb:Fix j b):S n (oL n t) j (aQ a b):=by
 have F:=Fix.mul A hj fa fb;have h:=c a b ha hb;rw[show n=(n-j)+j from by omega,Dm j (n-j) 0 _ (by rw[Nat.zero_add];exact F),Nat.zero_add] at h;exact wW T (n-j) j _ (by omega) (A.mul B) F h
theorem Yb (T:mZ n t)(h:y∈eZ n t j):S n (oL n t) j y:=by
 obtain⟨i,p,h1,h2,h3,e⟩:=eE.1 h;have Y:=T.isP _ _ _ e
 have base:S n (oL n t) i y:=by
  refine (jP h2).2 ⟨p,y,aW n,?_,Bu (n-(i+1)) (i+1) (by omega),(bW Y).symm⟩;show (if p=i then some (aW n) else t i p)=_;rw[if_neg (T.lt _ _ _ e).2.2];exact e
 have: ∀k,k<=i->S n (oL n t) (i-k) y:=by
  intro k
  induction k with
  |zero=>intro _;exact base
  |succ k ih=>
   intro hk;refine wU (i-(k+1)) (by omega) Y ?_;rw[show i-(k+1)+1=i-k from by omega];exact ih (by omega)
 have:=this (i-j) (by omega);rwa [show i-(i-j)=j from by omega] at this
theorem Rh (T:mZ n t)(c:Ba n t):jJ n 0 (oL n t):=λj _ hj=>by
 have horb: ∀p,p∈(oL n t j).orb↔((oL n t j).to p).isSome:=by
  intro p;show p∈(List.range n).filter (λp=>p==j||(t j p).isSome)↔(if p=j then some (aW n) else t j p).isSome;rw[List.mem_filter,List.mem_range]
  by_cases e:p=j
  ·subst e;simp [hj]
  ·simp only[beq_iff_eq,e,if_neg,Bool.or_eq_true,false_or]
   constructor
   ·exact λh=>h.2
   ·intro h
    obtain⟨y,hy⟩:=Option.isSome_iff_exists.1 h;exact⟨(T.lt _ _ _ hy).2.1,h⟩
 have hmem: ∀s,s∈(oL n t j).gens↔s∈eZ n t j:=λs=>zJ
 have hentP: ∀s,s∈eZ n t j->aX n s/\Fix j s/\s∈eZ n t 0:=λs hs=>by
  obtain⟨i,p,h1,h2,h3,e⟩:=eE.1 hs;exact⟨T.isP _ _ _ e,(T.fix _ _ _ e).mono h1,eE.2 ⟨i,p,Nat.zero_le _,h2,h3,e⟩⟩
 refine⟨⟨List.nodup_range.filter _,(horb j).2 ?_,?_,horb,λp y h=>(oG T hj h).1,λp y h=>(oG T hj h).2.1,λp y h=>(oG T hj h).2.2.1,λp y h=>?_,λs hs=>(hentP s ((hmem s).1 hs)).1,λs hs=>(hentP s ((hmem s).1 hs)).2.1,uW _,λq=>?_,λq hq=>?_⟩,λq y hy k s hk hs=>?_,λq hq=>?_,λh s hs=>?_⟩
 ·show (if j=j then some (aW n) else t j j).isSome
  rw[if_pos rfl];rfl
 ·show (if j=j then some (aW n) else t j j)=_
  rw[if_pos rfl]
 ·rcases (oG T hj h).2.2.2 with ⟨_,rfl⟩|e
  ·exact .one
  ·refine dF.of (λg hg=>(hentP g ((hmem g).1 hg)).1) ((hmem y).2 (eE.2 ⟨j,p,Nat.le_refl _,hj,(T.lt _ _ _ e).2.1,e⟩))
 ·show (if q=j∨(t j q).isSome then (dd (eZ n t j)).length else 0)<=_
  split
  ·exact Nat.le_refl _
  ·exact Nat.zero_le _
 ·show (if q=j∨(t j q).isSome then (dd (eZ n t j)).length else 0)=0
  rw[if_neg];rintro (e|e)
  ·exact hq ((horb q).2 (by show (if q=j then some (aW n) else t j q).isSome;rw[if_pos e];rfl))
  ·refine hq ((horb q).2 ?_)
   show (if q=j then some (aW n) else t j q).isSome;split
   ·rfl
   ·exact e
 ·--closure
  have hse:s∈eZ n t j:=(hmem s).1 (List.mem_of_getElem? hs);obtain⟨Sp,fs,hs0⟩:=hentP s hse;obtain⟨Y,fy,my,hcase⟩:=oG T hj hy
  have hS:S n (oL n t) j (aQ y s):=by
   rcases hcase with ⟨_,rfl⟩|e
   ·rw[bW Sp];exact Yb T hse
   ·exact Lo T c (by omega) (eE.2 ⟨j,q,Nat.zero_le _,hj,(T.lt _ _ _ e).2.1,e⟩) hs0 Y Sp fy fs
  obtain⟨p,u,g,h1,h2,h3⟩:=(jP hj).1 hS;obtain⟨U,fu,mu,_⟩:=oG T hj h1;obtain⟨Gp,fg⟩:=Qb T (n-(j+1)) (j+1) g (by omega) h2
  have ep:(aQ y s).getD j 0=p:=by
   rw[h3,cH (by rw[Gp.len];exact hj),fg j (by omega),mu]
  refine⟨u,by rw[ep];exact h1,?_⟩;rw[h3,aI Gp U U.inv,dL U,bB Gp];exact h2
 ·show (if q=j∨(t j q).isSome then (dd (eZ n t j)).length else 0)=(dd (eZ n t j)).length
  rw[if_pos];have:=(horb q).1 hq;have h':(if q=j then some (aW n) else t j q).isSome:=this;split at h'
  ·rename_i e;exact .inl e
  ·exact .inr h'
 ·have hs':s∈eZ n t (j+1):=zJ.1 hs
  obtain⟨i,p,h1,h2,h3,e⟩:=eE.1 hs';exact dF.of (λg hg=>(hentP g ((hmem g).1 hg)).1) ((hmem s).2 (eE.2 ⟨i,p,by omega,h2,h3,e⟩))
theorem Gm (T:mZ n t)(c:Ba n t)(hn:0<n)(x:List Nat):S n (oL n t) 0 x↔dF n (· ∈eZ n t 0) x:=by
 rw[(Rh T c).gen hn];have:(λg=>g∈(oL n t 0).gens)=λg=>g∈eZ n t 0:=funext λg=>propext zJ
 rw[this]
def put (t:sP)(i p:Nat)(x:List Nat):sP:=λj q=>if j=i/\q=p then some x else t j q
def mQ (t:sP)(n:Nat)(x:List Nat):sP:=match ins t n 0 x with
 |none=>t
 |some (i,r)=>put t i (r.getD i 0) r
theorem oS (T:mZ n t): ∀(d j:Nat) (x:List Nat) (i:Nat) (r:List Nat),j+d=n->aX n x->Fix j x->ins t d j x=some (i,r)->
  j<=i/\i<n/\aX n r/\Fix i r/\r.getD i 0≠i/\t i (r.getD i 0)=none/\ ∃w,dF n (· ∈eZ n t 0) w/\x=aQ r w
 |0,_,_,_,_,_,_,_,h=>by cases h
 |d+1,j,x,i,r,h,X,F,hi=>by
  unfold ins at hi;split at hi
  ·rename_i e
   obtain⟨h1,h2⟩:=oS T d (j+1) x i r (by omega) X (F.succ e) hi;exact⟨by omega,h2⟩
  ·rename_i e
   split at hi
   ·rename_i hn
    cases hi;exact⟨Nat.le_refl _,by omega,X,F,e,hn,aW n,.one,(bB X).symm⟩
   ·rename_i y hy
    have Y:=T.isP _ _ _ hy
    have hE: ∀g,g∈eZ n t 0->aX n g:=λg hg=>by
     obtain⟨_,_,_,_,_,e⟩:=eE.1 hg;exact T.isP _ _ _ e
    obtain⟨h1,h2,h3,h4,h5,h6,w,hw,ew⟩:=oS T d (j+1) _ i r (by omega) (X.mul Y.inv) ((Fix.mul X (by omega) F (Fix.inv Y (by omega) (T.fix _ _ _ hy))).succ (by
     rw[cH (by rw[X.len];omega)];have:=lE Y (show j<n by omega)
     rwa [T.maps _ _ _ hy] at this)) hi
    have hyE:y∈eZ n t 0:=eE.2 ⟨j,_,Nat.zero_le _,by omega,(T.lt _ _ _ hy).2.1,hy⟩;refine⟨by omega,h2,h3,h4,h5,h6,aQ w y,hw.mul hyE,?_⟩;rw[←aI h3 (hw.isP hE) Y,←ew,aI X Y.inv Y,cZ Y,bB X]
theorem oD (T:mZ n t): ∀(d j:Nat) (x:List Nat),j+d=n->aX n x->Fix j x->ins t d j x=none->dF n (· ∈eZ n t 0) x
 |0,j,x,h,X,F,_=>by
  obtain rfl:j=n:=by omega
  rw[F.all X];exact .one
 |d+1,j,x,h,X,F,hi=>by
  unfold ins at hi;split at hi
  ·rename_i e
   exact oD T d (j+1) x (by omega) X (F.succ e) hi
  ·rename_i e
   split at hi
   ·cases hi
   ·rename_i y hy
    have Y:=T.isP _ _ _ hy
    have ih:=oD T d (j+1) _ (by omega) (X.mul Y.inv) ((Fix.mul X (by omega) F (Fix.inv Y (by omega) (T.fix _ _ _ hy))).succ (by
     rw[cH (by rw[X.len];omega)];have:=lE Y (show j<n by omega)
     rwa [T.maps _ _ _ hy] at this)) hi
    have:=ih.mul (eE.2 ⟨j,_,Nat.zero_le _,by omega,(T.lt _ _ _ hy).2.1,hy⟩);rwa [aI X Y.inv Y,cZ Y,bB X] at this
def Sub (t t':sP):Prop:= ∀i p y,t i p=some y->t' i p=some y
theorem Az {t':sP}(s:Sub t t'): ∀(d j:Nat) (x:List Nat),ins t d j x=none->ins t' d j x=none
 |0,_,_,_=>rfl
 |d+1,j,x,h=>by
  unfold ins at h ⊢;split at h
  ·rename_i e;rw[if_pos e];exact Az s d _ _ h
  ·rename_i e
   rw[if_neg e];split at h
   ·cases h
   ·rename_i y hy
    rw[s _ _ _ hy];exact Az s d _ _ h
theorem Hu {i p:Nat}{x:List Nat}(h:t i p=none):Sub t (put t i p x):=λj q y hy=>by
 unfold put;rw[if_neg (λe=>by rw[e.1,e.2,h] at hy;cases hy)];exact hy
theorem Ae (T:mZ n t): ∀(d j:Nat) (x:List Nat) (i:Nat) (r:List Nat),j+d=n->aX n x->Fix j x->ins t d j x=some (i,r)->ins (put t i (r.getD i 0) r) d j x=none
 |0,_,_,_,_,_,_,_,h=>by cases h
 |d+1,j,x,i,r,h,X,F,hi=>by
  obtain⟨a1,a2,a3,a4,a5,a6,_⟩:=oS T (d+1) j x i r h X F hi;have sub:=Hu (t:=t) (x:=r) a6;unfold ins at hi ⊢;split at hi
  ·rename_i e;rw[if_pos e];exact Ae T d (j+1) x i r (by omega) X (F.succ e) hi
  ·rename_i e
   rw[if_neg e];split at hi
   ·cases hi
    have:put t j (x.getD j 0) x j (x.getD j 0)=some x:=by unfold put;rw[if_pos ⟨rfl,rfl⟩]
    rw[this];simp only;rw[dL X]
    have: ∀(d j:Nat),j+d=n-> ∀t':sP,ins t' d j (aW n)=none:=by
     intro d
     induction d with
     |zero=>intro _ _ _;rfl
     |succ d ih=>intro j hj t';unfold ins;rw[if_pos (dM (by omega))];exact ih (j+1) (by omega) t'
    exact this d (j+1) (by omega) _
   ·rename_i y hy
    have Y:=T.isP _ _ _ hy;rw[sub _ _ _ hy]
    exact Ae T d (j+1) _ i r (by omega) (X.mul Y.inv) ((Fix.mul X (by omega) F (Fix.inv Y (by omega) (T.fix _ _ _ hy))).succ (by
     rw[cH (by rw[X.len];omega)];have:=lE Y (show j<n by omega)
     rwa [T.maps _ _ _ hy] at this)) hi
end
end
section
variable {x:List Nat}
section
variable {n:Nat} {t:sP}
theorem mZ.Mu (T:mZ n t){j:Nat}: ∀g,g∈eZ n t j->aX n g:=λg hg=>by
 obtain⟨_,_,_,_,_,e⟩:=eE.1 hg;exact T.isP _ _ _ e
theorem Sub.refl (t:sP):Sub t t:=λ_ _ _ h=>h
theorem Sub.trans {a b c:sP}(x:Sub a b)(y:Sub b c):Sub a c:=λi p z h=>y i p z (x i p z h)
theorem mZ.empty (n:Nat):mZ n (λ_ _=>none):=⟨λ_ _ _ h=>(by cases h),λ_ _ _ h=>(by cases h),λ_ _ _ h=>(by cases h),λ_ _ _ h=>(by cases h)⟩
theorem Tf (T:mZ n t)(X:aX n x):mZ n (mQ t n x)/\Sub t (mQ t n x)/\ins (mQ t n x) n 0 x=none/\ ∀g,g∈eZ n (mQ t n x) 0->dF n (λu=>u∈eZ n t 0∨u=x) g:=by
 unfold mQ
 cases h:ins t n 0 x with
 |none=>exact⟨T,Sub.refl t,h,λg hg=>dF.of (λu hu=>by rcases hu with hu|rfl;exact T.Mu u hu;exact X) (.inl hg)⟩
 |some q=>
  obtain⟨i,r⟩:=q;have F0:Fix 0 x:=λk hk=>by omega
  obtain⟨a1,a2,a3,a4,a5,a6,w,hw,ew⟩:=oS T n 0 x i r (by omega) X F0 h
  have hput: ∀j q y,put t i (r.getD i 0) r j q=some y->(j=i/\q=r.getD i 0/\y=r)∨t j q=some y:=λj q y hy=>by
   unfold put at hy;split at hy
   ·rename_i e;cases hy;exact .inl ⟨e.1,e.2,rfl⟩
   ·exact .inr hy
  refine⟨⟨λj q y hy=>?_,λj q y hy=>?_,λj q y hy=>?_,λj q y hy=>?_⟩,Hu a6,Ae T n 0 x i r (by omega) X F0 h,λg hg=>?_⟩
  ·rcases hput j q y hy with ⟨rfl,rfl,rfl⟩|h
   ·exact⟨a2,a3.dU a2,a5⟩
   ·exact T.lt _ _ _ h
  ·rcases hput j q y hy with ⟨rfl,rfl,rfl⟩|h
   ·exact a3
   ·exact T.isP _ _ _ h
  ·rcases hput j q y hy with ⟨rfl,rfl,rfl⟩|h
   ·exact a4
   ·exact T.fix _ _ _ h
  ·rcases hput j q y hy with ⟨rfl,rfl,rfl⟩|h
   ·rfl
   ·exact T.maps _ _ _ h
  ·have hP: ∀u,(u∈eZ n t 0∨u=x)->aX n u:=λu hu=>by
    rcases hu with hu|rfl
    ·exact T.Mu u hu
    ·exact X
   obtain⟨j,q,h1,h2,h3,e⟩:=eE.1 hg;rcases hput j q g e with ⟨_,_,rfl⟩|h
   ·have W:=hw.isP T.Mu
    have er:g=aQ x (bX w):=by rw[ew,aI a3 W W.inv,dL W,bB a3]
    rw[er];exact (dF.of hP (.inr rfl)).app hP ((hw.mono λu hu=>Or.inl hu).inv hP)
   ·exact dF.of hP (.inl (eE.2 ⟨j,q,h1,h2,h3,h⟩))
structure Ex (n:Nat)(L:List Nat->Prop)(t:sP):Prop where
 tab:mZ n t
 gen: ∀g,g∈eZ n t 0->dF n L g
variable {L:List Nat->Prop}
theorem Ex.ins (a:Ex n L t)(hL: ∀g,L g->aX n g)(hx:dF n L x):Ex n L (mQ t n x)/\Sub t (mQ t n x)/\Go.Pm.ins (mQ t n x) n 0 x=none:=by
 obtain⟨h1,h2,h3,h4⟩:=Tf a.tab (hx.isP hL);refine⟨⟨h1,λg hg=>(h4 g hg).le (dF.grp hL) λu hu=>?_⟩,h2,h3⟩;rcases hu with hu|rfl
 ·exact a.gen u hu
 ·exact hx
theorem Ex.group (a:Ex n L t)(hL: ∀g,L g->aX n g)(hn:0<n)(c:Ba n t)(hi: ∀g,L g->Go.Pm.ins t n 0 g=none)(x:List Nat):S n (oL n t) 0 x↔dF n L x:=by
 rw[Gm a.tab c hn];constructor
 ·exact λh=>h.le (dF.grp hL) a.gen
 ·exact λh=>h.le (dF.grp a.tab.Mu) λg hg=>oD a.tab n 0 g (by omega) (hL g hg) (λk hk=>by omega) (hi g hg)
structure Oq (n:Nat)(L:List Nat->Prop)(τ:jI):Prop where
 tw:jJ n 0 τ
 group: ∀x,S n τ 0 x↔dF n L x
theorem Oq.start (hn:0<n):Oq n (λ_=>False) (Lu n):=by
 refine⟨Oj n,λx=>?_⟩;rw[(Oj n).gen hn];have:(λg=>g∈(Lu n 0).gens)=λ_=>False:=funext λg=>propext ⟨λh=>(by cases h),λh=>h.elim⟩
 rw[this]
theorem Oq.add {τ τ':jI}(a:Oq n L τ)(hn:0<n)(hL: ∀g,L g->aX n g)(X:aX n x)(b:tQ n 0 x τ τ'):Oq n (λg=>L g∨g=x) τ':=by
 refine⟨b.tw,λz=>?_⟩
 have hP: ∀g,(L g∨g=x)->aX n g:=λg hg=>by
  rcases hg with hg|rfl
  ·exact hL g hg
  ·exact X
 rw[b.group a.tw hn X z];constructor
 ·intro h
  refine h.le (dF.grp hP) λg hg=>?_
  rcases hg with hg|rfl
  ·exact ((a.group g).1 hg).mono λu hu=> .inl hu
  ·exact dF.of hP (.inr rfl)
 ·intro h
  refine h.mono λg hg=>?_
  rcases hg with hg|rfl
  ·exact .inl ((a.group g).2 (dF.of hL hg))
  ·exact .inr rfl
theorem Oq.congr {M:List Nat->Prop}{τ:jI}(a:Oq n L τ)(h: ∀g,L g↔M g):Oq n M τ:=by
 have:L=M:=funext λg=>propext (h g)
 exact this▸a
end
def Ea (n:Nat)(R:Nv):List Nat->Prop:=dF n λg=>g∈R.flatten
def Valid (n:Nat)(O:oN)(R:Nv):Prop:=(∀g∈R.flatten,aX n g)/\dK n (Ea n R) O R
theorem Valid.iff {n:Nat}{O O':oN}{R R':Nv}(hP: ∀g∈R.flatten,aX n g)(c:dK n (Ea n R) O' R'):Valid n O R↔O=O'/\R=R':=by
 constructor
 ·rintro⟨_,h⟩;exact h.uniq c
 ·rintro⟨rfl,rfl⟩;exact⟨hP,c⟩
theorem Valid.grp {n:Nat}{O:oN}{R:Nv}(v:Valid n O R):iL n (Ea n R):=dF.grp v.1
end
end Go.Pm
namespace Go.Proofs.YtapfcpkecmmagaaGreat
open Go Go.Ay Go.Pm
set_option maxRecDepth 100000
def zlev (c:Nat):V:=if c<130 then .aB else aC 0
def lv0:Lv:=⟨[], [],λ_=>none,λ_=>0⟩
theorem zlev_rc: [V.aB,V.aB,V.aB,V.aB,V.aB,V.aB,V.aB,V.aB,V.aB,V.aB,V.aB,V.aB,V.aB,V.aB,V.aB,V.aB,V.aB,V.aB,V.aB,V.aB,V.aB,V.aB,V.aB,V.aB,V.aB,V.aB,V.aB,V.aB,V.aB,V.aB,V.aB,V.aB,V.aB,V.aB,V.aB,V.aB,V.aB,V.aB,V.aB,V.aB,V.aB,V.aB,V.aB,V.aB,V.aB,V.aB,V.aB,V.aB,V.aB,V.aB,V.aB,V.aB,V.aB,V.aB,V.aB,V.aB,V.aB,V.aB,V.aB,V.aB,V.aB,V.aB,V.aB,V.aB,V.aB,V.aB,V.aB,V.aB,V.aB,V.aB,V.aB,V.aB,V.aB,V.aB,V.aB,V.aB,V.aB,V.aB,V.aB,V.aB,V.aB,V.aB,V.aB,V.aB,V.aB,V.aB,V.aB,V.aB,V.aB,V.aB,V.aB,V.aB,V.aB,V.aB,V.aB,V.aB,V.aB,V.aB,V.aB,V.aB,V.aB,V.aB,V.aB,V.aB,V.aB,V.aB,V.aB,V.aB,V.aB,V.aB,V.aB,V.aB,V.aB,V.aB,V.aB,V.aB,V.aB,V.aB,V.aB,V.aB,V.aB,V.aB,V.aB,V.aB,V.aB,V.aB,V.aB,V.aB,V.aB,V.aB,(aC 0),(aC 0),(aC 0),(aC 0),(aC 0),(aC 0),(aC 0),(aC 0),(aC 0),(aC 0),(aC 0),(aC 0),(aC 0),(aC 0),(aC 0),(aC 0),(aC 0),(aC 0),(aC 0),(aC 0),(aC 0),(aC 0),(aC 0),(aC 0),(aC 0),(aC 0),(aC 0),(aC 0),(aC 0),(aC 0),(aC 0),(aC 0),(aC 0),(aC 0),(aC 0),(aC 0),(aC 0),(aC 0),(aC 0),(aC 0),(aC 0),(aC 0),(aC 0),(aC 0),(aC 0),(aC 0),(aC 0),(aC 0),(aC 0),(aC 0),(aC 0),(aC 0),(aC 0),(aC 0),(aC 0),(aC 0),(aC 0),(aC 0),(aC 0),(aC 0),(aC 0),(aC 0),(aC 0),(aC 0)]=rc 194 zlev:=rfl
theorem zeros_lev (n:Nat):dG (rc 194 zlev) (n*194)=rc (n*194) λc=>zlev (c%194):=by
 refine List.ext_getElem (by simp [dG,cV]) λi h1 h2=>?_
 simp [dG,rc];rw[List.getElem?_range (Nat.mod_lt _ (by omega))];rfl
def twU (n i:Nat):jI:=λj=>if j<i then Lu n j else lv0
theorem TwR.congr {h:H}{n tid L:Nat}{F:Nat->V}{τ τ':jI}(R:TwR h n tid L F τ)(e: ∀j,j<n->τ j=τ' j):TwR h n tid L F τ':=
 ⟨R.t,R.l,R.tn,R.ln,R.tw,λj p h1 h2=>by rw[←e j h1];exact R.to j p h1 h2,λj p h1 h2=>by rw[←e j h1];exact R.iv j p h1 h2,λj p h1 h2=>by rw[←e j h1];exact R.tr j p h1 h2,
  λj hj=>by rw[←e j hj];exact R.gens j hj,λj hj=>by rw[←e j hj];exact R.orb j hj,R.dis,R.ap⟩
theorem newTower_ok (n:Nat)(h:H)(h0:0<n)(hn:n<=7):
  Ev T 155 [aC n] h (λv h'=> ∃tid L F,v= .ptr tid 0/\TwR h' n tid L F (Lu n)/\Fr h h'/\ ∀id,WT n L F id->h.next<=id):=by
 refine bP c_chain_newTower rfl rfl ?_
 have hm:tF h 194 3632 (rc 194 zlev) (aC n) (aC n)=some (.sl h.next 0 n (.kn n),h.new (.cells false (rc (n*194) λc=>zlev (c%194)))):=by
  rw[lQ (by omega) (Int.le_refl _) (by omega) (by omega),Int.toNat_natCast,zeros_lev]
 obtain⟨F0,hF0⟩: ∃F0:Nat->V,F0=λc=>zlev (c%194):=⟨_,rfl⟩
 obtain⟨L,hL⟩:=AS h.next
 rw[hL,←hF0] at hm
 simp(disch:=omega)only[go_sem,c_chain_newTower,aE,zlev_rc,hm,Pa (z1:= aC 0) (z2:= .aB) (v:= aC n) (u:= .sl L 0 n (.kn n)) rfl rfl rfl rfl,yC _ (v:= aC n) (u:= .sl L 0 n (.kn n)) rfl rfl,hL]
 obtain⟨h2,h2e⟩: ∃h2,h2=(h.new (.cells false (rc (n*194) F0))).new (.cells false [aC n,.sl L 0 n (.kn n)]):=⟨_,rfl⟩
 rw[←h2e]
 have g1:h2.get L=some (.cells false (rc (n*194) F0)):=by rw[h2e,H.bG _ (by rw[H.aV];omega),←hL,H.aM]
 have g2:h2.get (L+1)=some (.cells false [aC n,.sl L 0 n (.kn n)]):=by
  rw[h2e];have:=H.aM (h.new (.cells false (rc (n*194) F0))) (.cells false [aC n,.sl L 0 n (.kn n)]);rwa [H.aV,hL] at this
 have n2:h2.next=L+2:=by rw[h2e,H.aV,H.aV,hL]
 have f2:Fr h h2:=by rw[h2e];exact ((Fr.refl h).new _).new _
 clear h2e hm
 have s0: ∀s,s<2*n->sl2 F0 s= .aB:=λs _=>by
  unfold sl2 zlev at*;rw[hF0];simp only;rw[if_pos (by omega)]
 have w0: ∀id,WT n L F0 id->id=L:=λid hw=>by
  rcases hw with e|⟨s,hs,off,len,c,e⟩
  ·exact e
  ·rw[s0 s hs] at e;cases e
 have z0: ∀j c,c<194->F0 (j*194+c)=zlev c:=λj c hc=>by
  rw[hF0];simp only;rw[Nat.mul_comm,Nat.mul_add_mod,Nat.mod_eq_of_lt hc]
 have z1: ∀j b c,b+c<194->F0 (j*194+b+c)=zlev (b+c):=λj b c hc=>by rw[Nat.add_assoc];exact z0 j (b+c) hc
 have R:TwR h2 n (L+1) L F0 (twU n 0):=by
  refine⟨g2,g1,by omega,by omega,λhw=>by have:=w0 _ hw;omega,λj p h1 h2=>?_,λj p h1 h2=>?_,λj p h1 h2=>?_,λj hj=>⟨[],?_,trivial⟩,λj hj=>?_,λs s' h1 h2 _=>?_,λs h1=>?_⟩
  ·rw[z1 j 2 p (by omega)];unfold zlev;rw[if_pos (by omega)];rfl
  ·rw[z1 j 66 p (by omega)];unfold zlev;rw[if_pos (by omega)];rfl
  ·rw[z1 j 130 p (by omega)];unfold zlev;rw[if_neg (by omega)];rfl
  ·have:=z0 j 0 (by omega)
   rw[Nat.add_zero] at this;rw[this];exact Own.aB ..
  ·rw[z0 j 1 (by omega)];exact Own.aB ..
  ·rw[s0 s h1];intro i o n c e;cases e
  ·rw[s0 s h1];exact dA.aB _
 have cl0:h2.cell (L+1) 1=some (.sl L 0 n (.kn n)):=by rw[H.aF g2];rfl
 simp(disch:=omega)only[go_sem,cl0]
 refine aJ (λk' vars hh=> ∃(i:Nat) (F:Nat->V),(∃g:Nat->V,vars= [aC n,g 1,.ptr (L+1) 0,g 3,g 4,aC n,aC i,g 7])/\i<=n/\TwR hh n (L+1) L F (twU n i)/\Fr h hh/\(∀id,WT n L F id->h.next<=id)/\k'=n-i) n
  ⟨0,F0,aA rfl,gK _,R,f2,λid hw=>by rw[w0 id hw];omega,rfl⟩ ?_
 clear R g1 g2 n2 f2 s0 w0 z0 z1
 rintro k' vars h3 ⟨i,F,⟨g,rfl⟩,hi,R,f,hw,rfl⟩
 simp(disch:=omega)only[go_sem]
 by_cases hlt:(i:Int)<(n:Int)
 ·rw[decide_eq_true hlt]
  have hi':i<n:=by omega
  have cl:h3.cell (L+1) 1=some (.sl L 0 n (.kn n)):=by rw[H.aF R.t];rfl
  have ln:=R.ln
  have hN:i*194+194<=n*194:=by omega
  have e0:twU n i i=lv0:=by unfold twU;rw[if_neg (by omega)]
  simp(disch:=omega)only[go_sem,cl,dC h3 (z:= aC 0) (v:= aC i) rfl rfl,R.l,put_rc]
  obtain⟨h4,h4e⟩: ∃h4,h4=(h3.new (.cells false [aC i])).set L (some (.cells false (rc (n*194) (F1 F (i*194+1) (.sl h3.next 0 1 (.kn 1)))))):=⟨_,rfl⟩
  rw[←h4e]
  have p4:Pushd h3 (F (i*194+1)) 0 1 1 [] [aC i] (h3.new (.cells false [aC i])):=⟨H.aM ..,H.aV ..,λk hk _=>H.bG h3 hk _⟩
  obtain⟨R4,f4,w4⟩:=R.point hi' (q:=i) (v:= .sl h3.next 0 1 (.kn 1)) (by rw[e0];exact p4) (.inr rfl) (by rw[e0];rfl) h4e
  obtain⟨F4,hF4⟩: ∃F4,F4=F1 F (i*194+1) (.sl h3.next 0 1 (.kn 1)):=⟨_,rfl⟩
  rw[←hF4] at R4 w4
  have n4:h4.next=h3.next+1:=by rw[h4e,H.cJ,H.aV]
  have hw4: ∀id,WT n L F4 id->h.next<=id:=λid h1=>by
   by_cases h2:id<h3.next
   ·exact hw id (w4 id h2 h1)
   ·have:=f.next;omega
  have f4':Fr h h4:=⟨Nat.le_trans f.next f4.next,λid h1=>(f4.get id (gE h1 f.next) λh2=>by have:=hw id h2;omega).trans (f.get id h1)⟩
  clear h4e
  generalize hTe:mO (twU n i) i {twU n i i with orb:=(twU n i i).orb++ [i]}=τ4 at R4
  have e4:τ4 i={lv0 with orb:= [i]}:=by rw[←hTe,bT,e0];rfl
  refine (one_gen (rfl:T 176=some c_chain_one) n (H.mk h4.tr (h3.next+1+16)) (by omega)).mono ?_
  rintro va h5 na
  simp(disch:=omega)only[go_sem]
  refine (one_gen (rfl:T 176=some c_chain_one) n h5 (by omega)).mono ?_
  rintro vb h6 nb
  have f5:Fr h4 h5:=((Fr.refl h4).bJ (by omega):Fr h4 (H.mk h4.tr (h3.next+1+16))).trans na.fr
  have R6:=R4.mono (f5.trans nb.fr)
  have pa:=(na.pv (W:=WT n L F4) (λh1=>by have:=R4.win h1;simp at this;omega)).mono nb.fr
  have pb:=nb.pv (W:=WT n L F4) (λh1=>by have:=R4.win h1;have:=f5.next;omega)
  have pb':PV (WT n L F4) h6 vb (bX (aW n)):=by rw[nI];exact pb
  simp(disch:=omega)only[go_sem,R6.l,gH pa.eN.1 pa.eN.2,gH pb.eN.1 pb.eN.2,put_rc]
  obtain⟨R7,f7,w7⟩:=R6.way hi' (q:=i) (by omega) pa pb' (h3:=(h6.set L (some (Ob.cells false (rc (n*194) (F1 F4 (i*194+2+i) va))))).set L (some (Ob.cells false (rc (n*194) (F1 (F1 F4 (i*194+2+i) va) (i*194+66+i) vb))))) (eP _) (λid h1 _=>by rw[H.aH _ h1,H.aH _ h1]) (by rw[H.aT])
  have eT:mO τ4 i {τ4 i with to:=λr=>if r=i then some (aW n) else (τ4 i).to r}=twU n (i+1):=by
   funext j
   by_cases e:j=i
   ·subst e
    rw[bT,e4];unfold twU;rw[if_pos (by omega)]
    rfl
   ·rw[dJ _ _ e,←hTe,dJ _ _ e]
    unfold twU
    by_cases e2:j<i
    ·rw[if_pos e2,if_pos (by omega)]
    ·rw[if_neg e2,if_neg (by omega)]
  rw[eT] at R7
  have f6:=f4'.trans (f5.trans nb.fr)
  rw[iO i]
  refine⟨n-(i+1),by omega,i+1,_,aA rfl,by omega,R7,⟨Nat.le_trans f6.next f7.next,λid h1=>(f7.get id (gE h1 f6.next) λh2=>by have:=hw4 id h2;omega).trans (f6.get id h1)⟩,λid h1=>hw4 id ((w7 id).1 h1),rfl⟩
 rw[decide_eq_false hlt]
 obtain rfl:i=n:=by omega
 simp(disch:=omega)only[go_sem]
 have eT:TwR h3 i (L+1) L F (Lu i):=R.congr λj hj=>by unfold twU;rw[if_pos hj]
 exact⟨L+1,L,F,rfl,eT,f,λid h1=>by have:=hw id h1;omega⟩
abbrev SP (h:H)(v:V)(l:LN):Prop:=SR h v (l.map zi)
theorem sp_at {h:H}{ws:List V}{l:LN}(a:All2 (SI h) ws (l.map zi)){i:Nat}(hi:i<l.length):SI h (ws.getD i .undef) (zi (l.getD i [])):=by
 have:=Fg a (i:=i) (by simpa using hi);rwa [show (l.map zi).getD i []=zi (l.getD i []) by simp [List.getD,hi]] at this
theorem off_old {W:Nat->Prop}{h:H}{b:Nat}{v:V}{l:List Int}(s:SI h v l)(hb:h.next<=b)(hw: ∀id,W id->b<=id):Jg W v:=by
 cases v with
 |sl id off len cap=>exact λh2=>by have:=s.in _ _ _ _ rfl;have:=hw id h2;omega
 |_=>trivial
theorem take_more {l:LN}{i:Nat}(hi:i<l.length)(g:List Nat):g∈l.take (i+1)↔g∈l.take i∨g=l.getD i []:=by
 rw[List.take_add_one,eQ hi,xH];simp [List.getD,hi]
theorem build_ok (n:Nat)(vl:V)(l:LN)(h:H)(h0:0<n)(hn:n<=7)(hl:l.length<1000000)(hv:SP h vl l)(hP: ∀g∈l,aX n g):
  Ev T 116 [aC n,vl] h (λv h'=> ∃tid L F τ,v= .ptr tid 0/\TwR h' n tid L F τ/\Oq n (· ∈l) τ/\Fr h h'/\ ∀id,WT n L F id->h.next<=id):=by
 refine bP c_chain_build rfl rfl ?_
 simp(disch:=omega)only[go_sem,c_chain_build,aE]
 refine (newTower_ok n h h0 hn).mono ?_
 rintro _ h1 ⟨tid,L,F,rfl,R,f,hw⟩
 have lv:=hv.lens
 rw[jS] at lv
 obtain⟨id,off,ws,sh,hid,hwl,hc,hall⟩:=hv.open
 rw[jS] at sh hid hwl hc
 simp(disch:=omega)only[go_sem,lv]
 refine aJ (λk' vars hh=> ∃(i:Nat) (F:Nat->V) (τ:jI),(∃g:Nat->V,vars= [aC n,vl,g 2,.ptr tid 0,g 4,vl,aC (l.length:Int),aC i,g 8])/\i<=l.length/\TwR hh n tid L F τ/\Oq n (· ∈l.take i) τ/\Fr h hh/\(∀id,WT n L F id->h.next<=id)/\k'=l.length-i) l.length
  ⟨0,F,Lu n,aA rfl,gK _,R,(Oq.start h0).congr (by simp),f,hw,rfl⟩ ?_
 clear R f hw F
 rintro k' vars h2 ⟨i,F,τ,⟨g,rfl⟩,hi,R,t,f,hw,rfl⟩
 simp(disch:=omega)only[go_sem]
 by_cases hlt:(i:Int)<(l.length:Int)
 ·rw[decide_eq_true hlt]
  have hi':i<l.length:=by omega
  have ci:h2.cell id (off+i)=some (ws.getD i .undef):=by rw[f.cell (hid (by omega)),hc i hi']
  have s0:=sp_at hall hi'
  have pv:PV (WT n L F) h2 (ws.getD i .undef) (l.getD i []):=⟨s0.mono f,off_old s0 (eP _) hw⟩
  have X:aX n (l.getD i []):=hP _ (by simp [List.getD,hi'])
  simp(disch:=omega)only[go_sem,sh.ixa,ci]
  refine (add_ok n hn h0 h2 tid L F τ _ _ R pv X (λk hk=>by omega) t.tw).mono ?_
  rintro vv h3 ⟨F3,τ3,R3,a3,f3,w3⟩
  have t3:=(t.add h0 (λg hg=>hP g (List.mem_of_mem_take hg)) X a3).congr λg=>(take_more hi' g).symm
  simp(disch:=omega)only[go_sem]
  rw[iO i]
  refine⟨l.length-(i+1),by omega,i+1,F3,τ3,aA rfl,by omega,R3,t3,⟨Nat.le_trans f.next f3.next,λid h1=>(f3.get id (gE h1 f.next) λh4=>by have:=hw id h4;omega).trans (f.get id h1)⟩,λid h1=>?_,rfl⟩
  by_cases h4:id<h2.next
  ·exact hw id (w3 id h4 h1)
  ·have:=f.next;omega
 rw[decide_eq_false hlt]
 obtain rfl:i=l.length:=by omega
 simp(disch:=omega)only[go_sem]
 exact⟨tid,L,F,τ,rfl,R,t.congr λg=>by rw[List.take_length],f,hw⟩
theorem best_drop (x:List Nat)(l:List Nat){i:Nat}(hi:i<l.length)(b:Nat):mW x b (l.drop i)=mW x (if x.getD (l.getD i 0) 0<x.getD b 0 then l.getD i 0 else b) (l.drop (i+1)):=by
 rw[List.drop_eq_getElem_cons hi,cG hi];rfl
theorem least_ok (h:H)(n tid L:Nat)(F:Nat->V)(τ:jI)(vx:V)(x:List Nat)(i0:Nat)(hn:n<=7)(R:TwR h n tid L F τ)(hx:PV (WT n L F) h vx x)(X:aX n x)(hi0:i0<n)(t:jJ n (i0+1) τ):
  Ev T 159 [.ptr tid 0,vx,aC i0] h (λv h'=>PV (WT n L F) h' v (Gg τ (n-(i0+1)) (i0+1) x)/\aX n (Gg τ (n-(i0+1)) (i0+1) x)/\Fr h h'):=by
 refine bP c_chain_tower_least rfl rfl ?_
 simp(disch:=omega)only[go_sem,c_chain_tower_least,aE]
 rw[iO i0]
 refine aJ (λk' vars hh=> ∃(k:Nat) (y:List Nat) (vy:V),(∃g:Nat->V,vars= [.ptr tid 0,vy,g 2,g 3,aC k,g 5,g 6,g 7,g 8,g 9,g 10,g 11,g 12,g 13])/\i0<k/\k<=n/\Gg τ (n-k) k y=Gg τ (n-(i0+1)) (i0+1) x/\
   PV (WT n L F) hh vy y/\aX n y/\Fr h hh/\k'=n-k) (n-(i0+1))
  ⟨i0+1,x,vx,aA rfl,by omega,by omega,rfl,hx,X,Fr.refl h,rfl⟩ ?_
 rintro k' vars h2 ⟨k,y,vy,⟨g,rfl⟩,hi1,hi2,hs,hy,Y,f,rfl⟩
 have R2:=R.mono f
 have ct:h2.cell tid 0=some (aC n):=by rw[H.aF R2.t];rfl
 have cl:h2.cell tid 1=some (.sl L 0 n (.kn n)):=by rw[H.aF R2.t];rfl
 simp(disch:=omega)only[go_sem,ct,cl]
 by_cases hlt:(k:Int)<(n:Int)
 case neg=>
  rw[decide_eq_false hlt];obtain rfl:k=n:=by omega
  rw[Nat.sub_self] at hs;simp(disch:=omega)only[go_sem];rw[←hs];exact⟨hy,Y,f⟩
 have hkn:k<n:=by omega
 rw[decide_eq_true hlt]
 have co:h2.cell L (k*194+1)=some (F (k*194+1)):=R2.cell hkn (by omega)
 have oo:=R2.orb k hkn
 have lo:=Own.lens oo (by rw[aN,aU])
 have iC:=(t k (by omega) hkn).1
 have hon:=orbn iC hkn
 simp(disch:=omega)only[go_sem,cl,co,lo]
 obtain⟨id,off,sh,hid,hc⟩:=(show SI h2 (F (k*194+1)) (zi (τ k).orb) from oo.sv).open
 rw[aU] at sh hid hc
 obtain⟨id2,off2,sh2,hid2,hc2⟩:=hy.si.open
 rw[aU,Y.len] at sh2 hid2 hc2
 refine aJ (λm' vars hh=> ∃(m b:Nat),(∃g:Nat->V,vars= [.ptr tid 0,vy,g 2,g 3,aC k,aC b,g 6,g 7,F (k*194+1),aC ((τ k).orb.length:Int),aC m,g 11,g 12,g 13])/\m<=(τ k).orb.length/\b<n/\b∈k::(τ k).orb/\
   mW y b ((τ k).orb.drop m)=mW y k (τ k).orb/\Fr h2 hh/\m'=(τ k).orb.length-m) (τ k).orb.length
  ⟨0,k,aA rfl,gK _,hkn,List.mem_cons_self ..,rfl,Fr.refl h2,rfl⟩ ?_
 rintro m' vars h3 ⟨m,b,⟨g3,rfl⟩,hm,hb,hbm,hbest,f3,rfl⟩
 simp(disch:=omega)only[go_sem]
 by_cases hlt2:(m:Int)<((τ k).orb.length:Int)
 ·rw[decide_eq_true hlt2]
  have hm':m<(τ k).orb.length:=by omega
  rw[best_drop _ _ hm'] at hbest
  have cq:h3.cell id (off+m)=some (aC ((τ k).orb.getD m 0:Nat)):=by rw[f3.cell (hid (by omega)),hc m hm'];congr 2;simp [zi,hm']
  have hqm:(τ k).orb.getD m 0∈(τ k).orb:=by rw[cG hm'];exact List.getElem_mem hm'
  have hqn:=iC.lt hkn hqm
  generalize (τ k).orb.getD m 0=q at cq hqm hqn hbest
  have c1:h3.cell id2 (off2+q)=some (aC (y.getD q 0:Nat)):=by rw[f3.cell (hid2 (by omega)),hc2 q hqn];congr 2;simp [zi,Y.len,hqn]
  have c2:h3.cell id2 (off2+b)=some (aC (y.getD b 0:Nat)):=by rw[f3.cell (hid2 (by omega)),hc2 b hb];congr 2;simp [zi,Y.len,hb]
  simp(disch:=omega)only[go_sem,sh.ixa,cq,sh2.ixa,c1,c2]
  have fb:Fr h2 (H.mk h3.tr (h3.next+9)):=f3.bJ (by omega)
  by_cases hxx:((y.getD q 0:Nat):Int)<((y.getD b 0:Nat):Int)
  ·rw[decide_eq_true hxx]
   rw[if_pos (by omega)] at hbest
   simp(disch:=omega)only[go_sem]
   rw[iO m]
   exact⟨(τ k).orb.length-(m+1),by omega,m+1,q,aA rfl,by omega,hqn,List.mem_cons_of_mem _ hqm,hbest,fb,rfl⟩
  ·rw[decide_eq_false hxx]
   rw[if_neg (by omega)] at hbest
   simp(disch:=omega)only[go_sem]
   rw[iO m]
   exact⟨(τ k).orb.length-(m+1),by omega,m+1,b,aA rfl,by omega,hb,hbm,hbest,fb,rfl⟩
 rw[decide_eq_false hlt2]
 have em:m=(τ k).orb.length:=by omega
 rw[em,List.drop_length] at hbest
 have hbest:b=mW y k (τ k).orb:=hbest
 have hstep:n-k=(n-(k+1))+1:=by omega
 rw[hstep] at hs
 have hs:Gg τ (n-(k+1)) (k+1) (if mW y k (τ k).orb=k then y else aQ (((τ k).to (mW y k (τ k).orb)).getD []) y)=Gg τ (n-(i0+1)) (i0+1) x:=hs
 rw[←hbest] at hs
 have R3:=R2.mono f3
 have hy3:=hy.mono f3
 simp(disch:=omega)only[go_sem]
 by_cases hbk:b=k
 ·rw[if_pos hbk] at hs
  have e0:decide ((b:Int)≠(k:Int))=false:=iG (by omega)
  simp(disch:=omega)only[go_sem,e0]
  rw[iO k]
  exact⟨n-(k+1),by omega,k+1,y,vy,aA rfl,by omega,by omega,hs,hy3,Y,f.trans f3,rfl⟩
 rw[if_neg hbk] at hs
 have e0:decide ((b:Int)≠(k:Int))=true:=mF (by omega)
 have cl3:h3.cell tid 1=some (.sl L 0 n (.kn n)):=by rw[H.aF R3.t];rfl
 have hbo:b∈(τ k).orb:=by
  rcases List.mem_cons.1 hbm with e|e
  ·exact absurd e hbk
  ·exact e
 obtain⟨u,hu⟩:=iC.to hbo
 have U:=iC.isP _ _ hu
 have cto:h3.cell L (k*194+2+b)=some (F (k*194+2+b)):=R3.cell2 hkn (by omega)
 have pto:PV (WT n L F) h3 (F (k*194+2+b)) u:=by
  have:=R3.to k b hkn (by omega);rw[hu] at this;exact this
 rw[hu] at hs
 simp(disch:=omega)only[go_sem,e0,cl3,cto]
 refine (mul_gen (rfl:T 181=some c_chain_mul) _ vy u y h3 (by rw[U.len];omega) pto.si hy3.si (λj hj=>by rw[Y.len];exact U.dU (by rw[←U.len];exact hj))).mono ?_
 rintro v h4 nw
 simp(disch:=omega)only[go_sem]
 rw[iO k]
 exact⟨n-(k+1),by omega,k+1,_,v,aA rfl,by omega,by omega,hs,nw.pv (λhw=>by have:=R3.win hw;omega),U.mul Y,(f.trans f3).trans nw.fr,rfl⟩
end Go.Proofs.YtapfcpkecmmagaaGreat
namespace Go.Proofs.YtapfcpkecmmagaaGreat
open Go Go.Ay Go.Sort
set_option maxRecDepth 100000
section
variable {h:H} {S N i j a:Nat} {d:Array Int} {lt:Int->Int->Bool}
structure Arr (h:H)(S N:Nat)(d:Array Int):Prop where
 get:h.get S=cE (ints d.toList)
 size:d.size=N
 lt:S<h.next
theorem Arr.rd (A:Arr h S N d)(hi:i<N):h.cell S i=some (aC d[i]!):=by
 have hi':i<d.size:=by rw[A.size];exact hi
 rw[H.aF A.get];simp [ints,hi']
theorem Arr.fr {h':H}(A:Arr h S N d)(f:Fr h h'):Arr h' S N d:=⟨by rw[f.get _ A.lt];exact A.get,A.size,gE A.lt f.next⟩
theorem put_cont (hi:i<d.size)(hh:H)(S:Nat)(x:Int):dV (cE (ints d.toList)) hh S i [aC x]=some (hh.set S (cE (ints (d.setIfInBounds i x).toList))):=by
 rw[xX (by simpa using hi),Array.toList_setIfInBounds]
theorem put_cont' {y:Int}(hi:i<d.size)(hh:H)(S:Nat)(x:Int):dV (cE (ints (d.setIfInBounds j y).toList)) hh S i [aC x]=some (hh.set S (cE (ints ((d.setIfInBounds j y).setIfInBounds i x).toList))):=
 put_cont (by simpa using hi) hh S x
theorem Arr.swap {h2:H}(A:Arr h S N d){nx:Nat}(hnx:h.next<=nx)(e:h2=((H.mk h.tr nx).set S (cE (ints (d.setIfInBounds i d[j]!).toList))).set S (cE (ints ((d.setIfInBounds i d[j]!).setIfInBounds j d[i]!).toList))):Arr h2 S N (swp d i j)/\Fx (· =S) h h2:=by
 subst e;refine⟨⟨?_,?_,gE A.lt hnx⟩,⟨hnx,λid _ hs=>?_⟩⟩
 ·rw[H.aT];rfl
 ·have:=A.size;simp [swp,this]
 ·rw[H.aH _ hs,H.aH _ hs];rfl
theorem isNaN_int (a:Int)(h:H):Ev T 147 [aC a] h (λv h'=>v= .bool false/\h'=h):=by
 refine bP c_cmp_isNaN_int rfl rfl ?_;have e:decide (a≠a)=false:=iG (by omega);simp(disch:=omega)only[go_sem,c_cmp_isNaN_int,aE,e]
theorem less_int (a b:Int)(h:H):Ev T 134 [aC a,aC b] h (λv h'=>v= .bool (ltInt a b)/\Fr h h'):=by
 refine bP c_cmp_Less_int rfl rfl ?_;simp(disch:=omega)only[go_sem,c_cmp_Less_int,aE];refine (isNaN_int a h).mono ?_;rintro _ h1 ⟨rfl,rfl⟩;simp(disch:=omega)only[go_sem];exact⟨rfl,Fr.refl _⟩
theorem fxt {a b c:H}(x:Fx (· =S) a b)(y:Fx (· =S) b c):Fx (· =S) a c:=x.trans y λ_ _ h=>h
theorem insI_t (h1:a<j+1)(h2:lt d[j+1]! d[j]! =true):insInner lt a (j+1) d=insInner lt a j (swp d (j+1) j):=by
 rw[insInner,if_pos (by simp [h1,h2])]
theorem insI_f (h2:lt d[j+1]! d[j]! =false):insInner lt a (j+1) d=d:=by
 rw[insInner,if_neg (by simp [h2])]
theorem insI_s (h:j<=a):insInner lt a j d=d:=by
 cases j with
 |zero=>rfl
 |succ j=>rw[insInner,if_neg (by simp;omega)]
theorem insertion_ok (h:H)(S N a b:Nat)(d:Array Int)(cp:kL)(hN:N<1000000)(A:Arr h S N d)(hb:b<=N)(hab:a<=b):
  Ev T 128 [.sl S 0 N cp,aC a,aC b] h (λ_ h'=>Arr h' S N (insertionSort ltInt d a b)/\Fx (· =S) h h'):=by
 refine bP c_slices_insertionSortOrdered_int rfl rfl ?_
 simp(disch:=omega)only[go_sem,c_slices_insertionSortOrdered_int,aE]
 rw[iO a]
 refine aJ (λk' vars hh=> ∃(i:Nat) (e:Array Int),(∃g:Nat->V,vars= [.sl S 0 N cp,aC a,aC b,aC i,g 4,g 5,g 6])/\a<i/\i<=b+1/\Arr hh S N e/\insOuter ltInt a b i e=insertionSort ltInt d a b/\Fx (· =S) h hh/\k'=b+1-i) (b+1-(a+1))
  ⟨a+1,d,aA rfl,by omega,by omega,A,rfl,Fx.refl _ h,rfl⟩ ?_
 clear A
 rintro k' vars h1 ⟨i,e,⟨g,rfl⟩,hi1,hi2,A,hR,F,rfl⟩
 simp(disch:=omega)only[go_sem]
 by_cases hlt:(i:Int)<(b:Int)
 case neg=>
  rw[decide_eq_false hlt];simp(disch:=omega)only[go_sem];rw[insOuter,if_neg (by omega)] at hR;rw[←hR];exact⟨A,F⟩
 rw[decide_eq_true hlt]
 rw[insOuter,if_pos (by omega)] at hR
 simp(disch:=omega)only[go_sem]
 refine aJ (λk' vars hh=> ∃(j:Nat) (e':Array Int),(∃g:Nat->V,vars= [.sl S 0 N cp,aC a,aC b,aC i,aC j,g 5,g 6])/\a<=j/\j<=i/\Arr hh S N e'/\insInner ltInt a j e'=insInner ltInt a i e/\Fx (· =S) h hh/\k'=j) i
  ⟨i,e,aA rfl,by omega,by omega,A,rfl,F,rfl⟩ ?_
 clear A F
 rintro k' vars h2 ⟨j,e',⟨g2,rfl⟩,hj1,hj2,A,hI,F,hk⟩
 have sz:=A.size
 by_cases haj:(a:Int)<(j:Int)
 ·obtain⟨m,rfl⟩: ∃m,j=m+1:=⟨j- 1,by omega⟩
  have c1:=A.rd (i:=m+1) (by omega)
  have c2:=A.rd (i:=m) (by omega)
  have e1:decide ((a:Int)<((m+1:Nat):Int))=true:=decide_eq_true haj
  have e2:((m+1:Nat):Int)- 1=(m:Int):=by omega
  simp(disch:=omega)only[go_sem,e1,e2,c1,c2]
  refine (less_int _ _ _).mono ?_
  rintro _ h3 ⟨rfl,fh3⟩
  have f3':Fr h2 h3:=Fr.trans ((Fr.refl h2).bJ (by omega)) fh3
  have A3:=A.fr f3'
  have c3:=A3.rd (i:=m+1) (by omega)
  have c4:=A3.rd (i:=m) (by omega)
  cases hl:ltInt e'[m+1]! e'[m]! with
  |false=>
   rw[insI_f hl] at hI;simp(disch:=omega)only[go_sem,hl];rw[iO i];rw[←hI] at hR;exact⟨b+1-(i+1),by omega,i+1,e',aA rfl,by omega,by omega,A3,hR,fxt F (Fx.of f3'),rfl⟩
  |true=>
   rw[insI_t (by omega) hl] at hI;simp(disch:=omega)only[go_sem,hl,e2,c3,c4,A3.get,put_cont,put_cont'];have W:=A3.swap (i:=m+1) (j:=m) (nx:=h3.next+18) (by omega) rfl;exact⟨m,by omega,m,_,aA rfl,by omega,by omega,W.1,hI,fxt (fxt F (Fx.of f3')) W.2,rfl⟩
 ·have e1:decide ((a:Int)<(j:Int))=false:=decide_eq_false haj
  rw[insI_s (by omega)] at hI
  simp(disch:=omega)only[go_sem,e1]
  rw[iO i]
  rw[←hI] at hR
  have f3:Fr h2 (H.mk h2.tr (h2.next+15)):=(Fr.refl h2).bJ (by omega)
  exact⟨b+1-(i+1),by omega,i+1,e',aA rfl,by omega,by omega,A.fr f3,hR,fxt F (Fx.of f3),rfl⟩
end
def chd (lt:Int->Int->Bool)(hi first root:Nat)(d:Array Int):Nat:=if 2*root+1+1<hi/\lt d[first+(2*root+1)]! d[first+(2*root+1)+1]! =true then 2*root+2 else 2*root+1
theorem sift_eq {lt:Int->Int->Bool}(hi first root:Nat)(d:Array Int):siftDown lt hi first root d=if 2*root+1≥hi then d else
  if lt d[first+root]! d[first+chd lt hi first root d]! =true then siftDown lt hi first (chd lt hi first root d) (swp d (first+root) (first+chd lt hi first root d)) else d:=by
 rw[siftDown]
 unfold chd
 by_cases h1:2*root+1≥hi
 ·rw[dif_pos h1,if_pos h1]
 ·rw[dif_neg h1,if_neg h1]
  by_cases h2:2*root+1+1<hi/\lt d[first+(2*root+1)]! d[first+(2*root+1)+1]! =true
  ·rw[if_pos (by simpa using h2),if_pos h2]
   cases h3:lt d[first+root]! d[first+(2*root+2)]!
   ·simp
   ·simp [show 2*root+2<hi by omega]
  ·rw[if_neg (by simpa using h2),if_neg h2]
   cases h3:lt d[first+root]! d[first+(2*root+1)]! <;>simp
theorem siftDown_ok  (h:H)(S N lo hi first:Nat)(d:Array Int)(cp:kL)(hN:N<1000000)(A:Arr h S N d)(hb:first+hi<=N)(hlo:lo<=hi):
  Ev T 168 [.sl S 0 N cp,aC lo,aC hi,aC first] h (λ_ h'=>Arr h' S N (siftDown ltInt hi first lo d)/\Fx (· =S) h h'):=by
 refine bP c_slices_siftDownOrdered_int rfl rfl ?_
 simp(disch:=omega)only[go_sem,c_slices_siftDownOrdered_int,aE]
 refine aJ (λk' vars hh=> ∃(r:Nat) (e:Array Int),(∃g:Nat->V,vars= [.sl S 0 N cp,aC lo,aC hi,aC first,aC r,g 5,g 6,g 7,g 8])/\r<=hi/\Arr hh S N e/\siftDown ltInt hi first r e=siftDown ltInt hi first lo d/\Fx (· =S) h hh/\k'=hi-r) (hi-lo)
  ⟨lo,d,aA rfl,hlo,A,rfl,Fx.refl _ h,rfl⟩ ?_
 clear A
 rintro k' vars h1 ⟨r,e,⟨g,rfl⟩,hr,A,hR,F,rfl⟩
 have e0:2*(r:Int)+1=((2*r+1:Nat):Int):=by omega
 by_cases hge:(hi:Int)<=((2*r+1:Nat):Int)
 ·have eg:decide ((hi:Int)<=((2*r+1:Nat):Int))=true:=decide_eq_true hge
  simp(disch:=omega)only[go_sem,e0,eg]
  rw[sift_eq,if_pos (by omega)] at hR
  rw[←hR]
  exact⟨A,F⟩
 have eg:decide ((hi:Int)<=((2*r+1:Nat):Int))=false:=decide_eq_false hge
 rw[sift_eq,if_neg (by omega)] at hR
 have ec:((2*r+1:Nat):Int)+1=((2*r+2:Nat):Int):=by omega
 have ef0:(first:Int)+(r:Int)=((first+r:Nat):Int):=by omega
 have ef1:(first:Int)+((2*r+1:Nat):Int)=((first+(2*r+1):Nat):Int):=by omega
 have ef2:(first:Int)+((2*r+2:Nat):Int)=((first+(2*r+2):Nat):Int):=by omega
 have ef3:((first+(2*r+1):Nat):Int)+1=((first+(2*r+1)+1:Nat):Int):=by omega
 have sz:=A.size
 by_cases hc2:((2*r+2:Nat):Int)<(hi:Int)
 ·have e2:decide (((2*r+2:Nat):Int)<(hi:Int))=true:=decide_eq_true hc2
  have c1:=A.rd (i:=first+(2*r+1)) (by omega)
  have c2:=A.rd (i:=first+(2*r+1)+1) (by omega)
  simp(disch:=omega)only[go_sem,e0,eg,ec,e2,ef1,ef3,c1,c2]
  refine (less_int _ _ _).mono ?_
  rintro _ h2 ⟨rfl,fh2⟩
  have f2:Fr h1 h2:=Fr.trans ((Fr.refl h1).bJ (by omega)) fh2
  have A2:=A.fr f2
  have c0:=A2.rd (i:=first+r) (by omega)
  have c1:=A2.rd (i:=first+(2*r+1)) (by omega)
  have c2:=A2.rd (i:=first+(2*r+2)) (by omega)
  cases hl:ltInt e[first+(2*r+1)]! e[first+(2*r+1)+1]! with
  |false=>
   have hch:chd ltInt hi first r e=2*r+1:=if_neg (by rw[hl];simp)
   rw[hch] at hR;simp(disch:=omega)only[go_sem,hl,ef0,ef1,c0,c1];refine (less_int _ _ _).mono ?_;rintro _ h3 ⟨rfl,fh3⟩;have f3:Fr h2 h3:=Fr.trans ((Fr.refl h2).bJ (by omega)) fh3;have A3:=A2.fr f3;have c0:=A3.rd (i:=first+r) (by omega);have c1:=A3.rd (i:=first+(2*r+1)) (by omega);have F3:=fxt (fxt F (Fx.of f2)) (Fx.of f3)
   cases hl2:ltInt e[first+r]! e[first+(2*r+1)]! with
   |false=>
    rw[if_neg (by rw[hl2];simp)] at hR;simp(disch:=omega)only[go_sem,hl2];rw[←hR];exact⟨A3,F3⟩
   |true=>
    rw[if_pos hl2] at hR;simp(disch:=omega)only[go_sem,hl2,ef0,ef1,c0,c1,A3.get,put_cont,put_cont'];have W:=A3.swap (i:=first+r) (j:=first+(2*r+1)) (nx:=h3.next+24) (by omega) rfl;exact⟨hi-(2*r+1),by omega,2*r+1,_,aA rfl,by omega,W.1,hR,fxt F3 W.2,rfl⟩
  |true=>
   have hch:chd ltInt hi first r e=2*r+2:=if_pos ⟨by omega,hl⟩
   rw[hch] at hR;simp(disch:=omega)only[go_sem,hl,ec,ef0,ef2,c0,c2];refine (less_int _ _ _).mono ?_;rintro _ h3 ⟨rfl,fh3⟩;have f3:Fr h2 h3:=Fr.trans ((Fr.refl h2).bJ (by omega)) fh3;have A3:=A2.fr f3;have c0:=A3.rd (i:=first+r) (by omega);have c2:=A3.rd (i:=first+(2*r+2)) (by omega);have F3:=fxt (fxt F (Fx.of f2)) (Fx.of f3)
   cases hl2:ltInt e[first+r]! e[first+(2*r+2)]! with
   |false=>
    rw[if_neg (by rw[hl2];simp)] at hR;simp(disch:=omega)only[go_sem,hl2];rw[←hR];exact⟨A3,F3⟩
   |true=>
    rw[if_pos hl2] at hR;simp(disch:=omega)only[go_sem,hl2,ef0,ef2,c0,c2,A3.get,put_cont,put_cont'];have W:=A3.swap (i:=first+r) (j:=first+(2*r+2)) (nx:=h3.next+24) (by omega) rfl;exact⟨hi-(2*r+2),by omega,2*r+2,_,aA rfl,by omega,W.1,hR,fxt F3 W.2,rfl⟩
 ·have e2:decide (((2*r+2:Nat):Int)<(hi:Int))=false:=decide_eq_false hc2
  have hch:chd ltInt hi first r e=2*r+1:=if_neg (by omega)
  rw[hch] at hR
  have f2:Fr h1 (H.mk h1.tr (h1.next+20)):=(Fr.refl h1).bJ (by omega)
  have A2:=A.fr f2
  have c0:=A.rd (i:=first+r) (by omega)
  have c1:=A.rd (i:=first+(2*r+1)) (by omega)
  simp(disch:=omega)only[go_sem,e0,eg,ec,e2,ef0,ef1,c0,c1]
  refine (less_int _ _ _).mono ?_
  rintro _ h3 ⟨rfl,fh3⟩
  have f3:Fr h1 h3:=Fr.trans ((Fr.refl h1).bJ (by omega)) fh3
  have A3:=A.fr f3
  have c0:=A3.rd (i:=first+r) (by omega)
  have c1:=A3.rd (i:=first+(2*r+1)) (by omega)
  have F3:=fxt F (Fx.of f3)
  cases hl2:ltInt e[first+r]! e[first+(2*r+1)]! with
  |false=>
   rw[if_neg (by rw[hl2];simp)] at hR;simp(disch:=omega)only[go_sem,hl2];rw[←hR];exact⟨A3,F3⟩
  |true=>
   rw[if_pos hl2] at hR;simp(disch:=omega)only[go_sem,hl2,ef0,ef1,c0,c1,A3.get,put_cont,put_cont'];have W:=A3.swap (i:=first+r) (j:=first+(2*r+1)) (nx:=h3.next+24) (by omega) rfl;exact⟨hi-(2*r+1),by omega,2*r+1,_,aA rfl,by omega,W.1,hR,fxt F3 W.2,rfl⟩
theorem heapSort_ok  (h:H)(S N a b:Nat)(d:Array Int)(cp:kL)(hN:N<1000000)(A:Arr h S N d)(hb:b<=N)(hab:a<=b):
  Ev T 129 [.sl S 0 N cp,aC a,aC b] h (λ_ h'=>Arr h' S N (heapSort ltInt d a b)/\Fx (· =S) h h'):=by
 refine bP c_slices_heapSortOrdered_int rfl rfl ?_
 obtain⟨n,hn⟩:=AS (b-a)
 have en:(b:Int)-(a:Int)=(n:Int):=by omega
 have ed:((n:Int)- 1).tdiv 2=(((n- 1)/2+1:Nat):Int)- 1:=by
  by_cases h0:n=0
  ·subst h0;decide
  ·rw[Int.tdiv_eq_ediv_of_nonneg (by omega)];omega
 simp(disch:=omega)only[go_sem,c_slices_heapSortOrdered_int,aE,en,ed]
 refine aJ (λk' vars hh=> ∃(k:Nat) (e:Array Int),(∃g:Nat->V,vars= [.sl S 0 N cp,aC a,aC b,aC a,aC 0,aC n,aC ((k:Int)- 1),g 7,g 8,g 9])/\k<=n+1/\(k=1∨k<=n)/\Arr hh S N e/\heapBuild ltInt n a k e=heapBuild ltInt n a ((n- 1)/2+1) d/\Fx (· =S) h hh/\k'=k) ((n- 1)/2+1)
  ⟨(n- 1)/2+1,d,aA rfl,by omega,by omega,A,rfl,Fx.refl _ h,rfl⟩ ?_
 clear A
 rintro k' vars h1 ⟨k,e,⟨g,rfl⟩,hk1,hk2,A,hR,F,hk⟩
 subst hk
 by_cases hlt:(0:Int)<=(k':Int)- 1
 ·have e1:=mF hlt
  obtain⟨m,rfl⟩: ∃m,k'=m+1:=⟨k'- 1,by omega⟩
  have e2:((m+1:Nat):Int)- 1=(m:Int):=by omega
  rw[e2] at e1
  rw[e2]
  simp(disch:=omega)only[go_sem,e1]
  refine (siftDown_ok h1 S N m n a e cp hN A (by omega) (by omega)).mono ?_
  rintro _ h2 ⟨A2,F2⟩
  simp(disch:=omega)only[go_sem]
  exact⟨m,by omega,m,_,aA rfl,by omega,by omega,A2,hR,fxt F F2,rfl⟩
 have e1:=iG hlt
 obtain rfl:k'=0:=by omega
 have hR:e=heapBuild ltInt n a ((n- 1)/2+1) d:=hR
 simp(disch:=omega)only[go_sem,e1]
 refine aJ (λk' vars hh=> ∃(k:Nat) (e':Array Int),(∃g:Nat->V,vars= [.sl S 0 N cp,aC a,aC b,aC a,aC 0,aC n,g 6,aC ((k:Int)- 1),g 8,g 9])/\k<=n/\Arr hh S N e'/\heapPop ltInt a k e'=heapPop ltInt a n e/\Fx (· =S) h hh/\k'=k) n
  ⟨n,e,aA rfl,by omega,A,rfl,F,rfl⟩ ?_
 clear A F hlt e1 hk1 hk2
 rintro k' vars h2 ⟨k,e',⟨g,rfl⟩,hk1,A,hP,F,hk⟩
 subst hk
 have sz:=A.size
 by_cases hlt:(0:Int)<=(k':Int)- 1
 ·have e1:=mF hlt
  obtain⟨m,rfl⟩: ∃m,k'=m+1:=⟨k'- 1,by omega⟩
  have e2:((m+1:Nat):Int)- 1=(m:Int):=by omega
  rw[e2] at e1
  rw[e2]
  have e3:(a:Int)+(m:Int)=((a+m:Nat):Int):=by omega
  have c1:=A.rd (i:=a+m) (by omega)
  have c2:=A.rd (i:=a) (by omega)
  simp(disch:=omega)only[go_sem,e1,e3,c1,c2,A.get,put_cont,put_cont']
  have W:=A.swap (i:=a) (j:=a+m) (nx:=h2.next+20) (by omega) rfl
  have s0:=siftDown_ok _ S N 0 m a _ cp hN W.1 (by omega) (by omega)
  refine s0.mono ?_
  rintro _ h3 ⟨A3,F3⟩
  simp(disch:=omega)only[go_sem]
  exact⟨m,by omega,m,_,aA rfl,by omega,A3,hP,fxt (fxt F W.2) F3,rfl⟩
 have e1:=iG hlt
 obtain rfl:k'=0:=by omega
 simp(disch:=omega)only[go_sem,e1]
 have hP:e'=heapPop ltInt a n e:=hP
 have:heapSort ltInt d a b=e':=by unfold heapSort;rw[hn,hP,hR]
 rw[this]
 exact⟨A,F⟩
def shfV (op:BinOp)(k:IntKind)(x y:V):Option V:=match x,y with
 | .int j a,.int _ b=>if j=k then sT op k a b else none
 |_,_=>none
theorem evI_shf (ρ:X->V)(h:H)(op:BinOp)(k:IntKind)(x y:X):cI ρ h (.shf op k x y)=(shfV op k (ρ x) (ρ y)).map (·,h):=by
 simp only[cI,shfV];cases ρ x<;>cases ρ y<;>try rfl
 simp only;split<;>rfl
theorem shfV_int (op:BinOp)(k j:IntKind)(a b:Int):shfV op k (.int k a) (.int j b)=sT op k a b:=by simp [shfV]
theorem wrap_u64 (n:Int):0<=IntKind.u64.wrap n/\IntKind.u64.wrap n<18446744073709551616:=by
 unfold IntKind.wrap;simp only[IntKind.bits,IntKind.signed];have:=Int.emod_nonneg n (show (18446744073709551616:Int)≠0 by omega);have:=Int.emod_lt_of_pos n (show (0:Int)<18446744073709551616 by omega);simp;omega
theorem wrap_u64_in {n:Int}(h1:0<=n)(h2:n<18446744073709551616):IntKind.u64.wrap n=n:=by
 unfold IntKind.wrap;simp only[IntKind.bits,IntKind.signed];have:n%18446744073709551616=n:=Int.emod_eq_of_lt h1 h2;simp;exact this
theorem wrap_u8_in {n:Int}(h1:0<=n)(h2:n<256):IntKind.u8.wrap n=n:=by
 unfold IntKind.wrap;simp only[IntKind.bits,IntKind.signed];have:n%256=n:=Int.emod_eq_of_lt h1 h2;simp;exact this
theorem shl_u64 (a b:Int)(hb:0<=b): ∃y,sT .shl .u64 a b=some (.int .u64 y)/\0<=y/\y<18446744073709551616:=by
 unfold sT;rw[if_neg (by omega)];exact⟨_,rfl,wrap_u64 _⟩
theorem shr_u64 (a b:Int)(hb:0<=b): ∃y,sT .shr .u64 a b=some (.int .u64 y):=by
 unfold sT;rw[if_neg (by omega)];exact⟨_,rfl⟩
theorem shr_eight {x:Nat}:sT .shr .u64 (x:Int) 8=some (.int .u64 ((x/256:Nat):Int)):=by
 unfold sT;rw[if_neg (by omega)];simp only;congr 2;show Int.fdiv (x:Int) 256=_;rw[Int.fdiv_eq_ediv_of_nonneg _ (by omega)];rfl
theorem xor_u64 (a b:Int): ∃y,arith .xor .u64 a b=some (.int .u64 y)/\0<=y/\y<18446744073709551616:=⟨_,rfl,wrap_u64 _⟩
theorem and_u64 (a:Int)(b:Nat)(hb:b<18446744073709551616): ∃y:Nat,arith .and .u64 a (b:Int)=some (.int .u64 (y:Int))/\y<=b:=by
 refine⟨(BitVec.ofInt 64 a&&&BitVec.ofInt 64 (b:Int)).toNat,?_,?_⟩
 ·rw[Kj]
  congr 2;show IntKind.u64.wrap (((BitVec.ofInt 64 a&&&BitVec.ofInt 64 (b:Int)).toNat:Nat):Int)=_;have:=(BitVec.ofInt 64 a&&&BitVec.ofInt 64 (b:Int)).isLt;generalize (BitVec.ofInt 64 a&&&BitVec.ofInt 64 (b:Int)).toNat=w at*;exact wrap_u64_in (by omega) (by omega)
 ·rw[BitVec.toNat_and]
  have:(BitVec.ofInt 64 (b:Int)).toNat=b:=by
   simp [BitVec.toNat_ofInt];omega
  rw[this];exact Nat.and_le_right
theorem bits_tab: ∀z,z<256->([0,1,2,2,3,3,3,3,4,4,4,4,4,4,4,4,5,5,5,5,5,5,5,5,5,5,5,5,5,5,5,5,6,6,6,6,6,6,6,6,6,6,6,6,6,6,6,6,6,6,6,6,6,6,6,6,6,6,6,6,6,6,6,6,7,7,7,7,7,7,7,7,7,7,7,7,7,7,7,7,7,7,7,7,7,7,7,7,7,7,7,7,7,7,7,7,7,7,7,7,7,7,7,7,7,7,7,7,7,7,7,7,7,7,7,7,7,7,7,7,7,7,7,7,7,7,7,7,8,8,8,8,8,8,8,8,8,8,8,8,8,8,8,8,8,8,8,8,8,8,8,8,8,8,8,8,8,8,8,8,8,8,8,8,8,8,8,8,8,8,8,8,8,8,8,8,8,8,8,8,8,8,8,8,8,8,8,8,8,8,8,8,8,8,8,8,8,8,8,8,8,8,8,8,8,8,8,8,8,8,8,8,8,8,8,8,8,8,8,8,8,8,8,8,8,8,8,8,8,8,8,8,8,8,8,8,8,8,8,8,8,8,8,8,8,8,8,8,8,8,8,8,8,8,8,8][z]? :Option Nat)=some (bitsLen z):=by decide+kernel
theorem six_tab {z:Nat}(hz:z<256):Su (.str [0,1,2,2,3,3,3,3,4,4,4,4,4,4,4,4,5,5,5,5,5,5,5,5,5,5,5,5,5,5,5,5,6,6,6,6,6,6,6,6,6,6,6,6,6,6,6,6,6,6,6,6,6,6,6,6,6,6,6,6,6,6,6,6,7,7,7,7,7,7,7,7,7,7,7,7,7,7,7,7,7,7,7,7,7,7,7,7,7,7,7,7,7,7,7,7,7,7,7,7,7,7,7,7,7,7,7,7,7,7,7,7,7,7,7,7,7,7,7,7,7,7,7,7,7,7,7,7,8,8,8,8,8,8,8,8,8,8,8,8,8,8,8,8,8,8,8,8,8,8,8,8,8,8,8,8,8,8,8,8,8,8,8,8,8,8,8,8,8,8,8,8,8,8,8,8,8,8,8,8,8,8,8,8,8,8,8,8,8,8,8,8,8,8,8,8,8,8,8,8,8,8,8,8,8,8,8,8,8,8,8,8,8,8,8,8,8,8,8,8,8,8,8,8,8,8,8,8,8,8,8,8,8,8,8,8,8,8,8,8,8,8,8,8,8,8,8,8,8,8,8,8,8,8,8,8]) (.int .u8 (z:Int))=some (.int .u8 ((bitsLen z:Nat):Int)):=by
 have hl:bitsLen z<=8:=(bitsLen_le_iff z 8).2 (by omega);have hb:=bits_tab z hz;generalize ([0,1,2,2,3,3,3,3,4,4,4,4,4,4,4,4,5,5,5,5,5,5,5,5,5,5,5,5,5,5,5,5,6,6,6,6,6,6,6,6,6,6,6,6,6,6,6,6,6,6,6,6,6,6,6,6,6,6,6,6,6,6,6,6,7,7,7,7,7,7,7,7,7,7,7,7,7,7,7,7,7,7,7,7,7,7,7,7,7,7,7,7,7,7,7,7,7,7,7,7,7,7,7,7,7,7,7,7,7,7,7,7,7,7,7,7,7,7,7,7,7,7,7,7,7,7,7,7,8,8,8,8,8,8,8,8,8,8,8,8,8,8,8,8,8,8,8,8,8,8,8,8,8,8,8,8,8,8,8,8,8,8,8,8,8,8,8,8,8,8,8,8,8,8,8,8,8,8,8,8,8,8,8,8,8,8,8,8,8,8,8,8,8,8,8,8,8,8,8,8,8,8,8,8,8,8,8,8,8,8,8,8,8,8,8,8,8,8,8,8,8,8,8,8,8,8,8,8,8,8,8,8,8,8,8,8,8,8,8,8,8,8,8,8,8,8,8,8,8,8,8,8,8,8,8,8]:List Nat)=l at*;unfold Su;simp only;rw[if_pos (by omega),Int.toNat_natCast,hb];simp only[Option.map_some];rw[Nat.mod_eq_of_lt (by omega)]
theorem bits_256 {x:Nat}(h:256<=x):bitsLen x=8+bitsLen (x/256):=by
 apply Nat.le_antisymm
 ·rw[bitsLen_le_iff,Nat.pow_add]
  have:=lt_two_pow_bitsLen (x/256);omega
 ·have h1:=lt_two_pow_bitsLen x
  have h2: ¬bitsLen x<=8:=λh3=>by rw[bitsLen_le_iff] at h3;omega
  obtain⟨k,hk⟩: ∃k,bitsLen x=8+k:=⟨bitsLen x- 8,by omega⟩
  rw[hk,Nat.pow_add] at h1;have:bitsLen (x/256)<=k:=(bitsLen_le_iff _ _).2 (by omega);omega
theorem len64_ok (x:Nat)(h:H)(hx:x<65536):Ev T 138 [.int .u64 (x:Int)] h (λv h'=>v= aC (bitsLen x:Nat)/\h'=h):=by
 refine bP c_math_bits_Len64 rfl rfl ?_;have e1:decide ((4294967296:Int)<=(x:Int))=false:=iG (by omega);have e2:decide ((65536:Int)<=(x:Int))=false:=iG (by omega)
 by_cases h3:256<=x
 ·have e3:decide ((256:Int)<=(x:Int))=true:=mF (by omega)
  have hb:=bits_256 h3;have hl:bitsLen (x/256)<=8:=(bitsLen_le_iff _ 8).2 (by omega);simp(disch:=omega)only[go_sem,c_math_bits_Len64,aE,e1,e2,e3,evI_shf,shfV_int,shr_eight,Ht,six_tab,wrap_u8_in];exact⟨by congr 1;omega,trivial⟩
 ·have e3:decide ((256:Int)<=(x:Int))=false:=iG (by omega)
  have hl:bitsLen x<=8:=(bitsLen_le_iff _ 8).2 (by omega);simp(disch:=omega)only[go_sem,c_math_bits_Len64,aE,e1,e2,e3,Ht,six_tab,wrap_u8_in];exact⟨by congr 1;omega,trivial⟩
theorem len_ok (x:Nat)(h:H)(hx:x<65536):Ev T 112 [.int .u64 (x:Int)] h (λv h'=>v= aC (bitsLen x:Nat)/\h'=h):=by
 refine bP c_math_bits_Len rfl rfl ?_;simp(disch:=omega)only[go_sem,c_math_bits_Len,aE];refine (len64_ok x h hx).mono ?_;rintro _ _ ⟨rfl,rfl⟩;simp(disch:=omega)only[go_sem]
theorem pow2_ok (n:Nat)(h:H)(hx:n<65536):Ev T 169 [aC n] h (λv h'=>v= .int .u64 ((2^bitsLen n:Nat):Int)/\h'=h):=by
 refine bP c_slices_nextPowerOfTwo rfl rfl ?_;have hl:bitsLen n<=16:=(bitsLen_le_iff _ 16).2 (by omega);have hp:2^bitsLen n<=2^16:=Nat.pow_le_pow_right (by omega) hl;obtain⟨m,hm⟩:=AS (2^bitsLen n);rw[hm] at hp ⊢
 have hs:sT .shl .u64 1 ((bitsLen n:Nat):Int)=some (.int .u64 (m:Int)):=by
  unfold sT;rw[if_neg (by omega)];simp only[Int.toNat_natCast,IntKind.bits];rw[Nat.min_eq_left (by omega)];have e:(1:Int)*2^bitsLen n=(m:Int):=by rw[Int.one_mul,←hm];push_cast;rfl
  rw[e,wrap_u64_in (by omega) (by omega)]
 simp(disch:=omega)only[go_sem,c_slices_nextPowerOfTwo,aE,wrap_u64_in (n:=(n:Int)) (by omega) (by omega)];refine (len_ok n h hx).mono ?_;rintro _ _ ⟨rfl,rfl⟩;simp(disch:=omega)only[go_sem,evI_shf,shfV_int,hs]
theorem next_ok (R:Nat)(x:Int)(h:H)(hx:h.get R=some (.cells false [.int .u64 x]))(hR:R<h.next):
  Ev T 170 [.ptr R 0] h (λv h'=> ∃y,v= .int .u64 y/\h'.get R=some (.cells false [.int .u64 y])/\Fx (· =R) h h'):=by
 refine bP c_slices_xorshift_Next rfl rfl ?_
 have cx:h.cell R 0=some (.int .u64 x):=by rw[H.aF hx];rfl
 obtain⟨a1,ha1,_⟩:=shl_u64 x 13 (by omega)
 obtain⟨x1,hx1,_⟩:=xor_u64 x a1
 obtain⟨a2,ha2⟩:=shr_u64 x1 7 (by omega)
 obtain⟨x2,hx2,_⟩:=xor_u64 x1 a2
 obtain⟨a3,ha3,_⟩:=shl_u64 x2 17 (by omega)
 obtain⟨x3,hx3,_⟩:=xor_u64 x2 a3
 have pt: ∀(u w:Int) (hh:H),dV (some (.cells false [.int .u64 u])) hh R 0 [.int .u64 w]=some (hh.set R (some (.cells false [.int .u64 w]))):=λu w hh=>bE (by simp) hh R _
 simp(disch:=omega)only[go_sem,c_slices_xorshift_Next,aE,cx,evI_shf,shfV_int,ha1,hx1,ha2,hx2,ha3,hx3,hx,pt]
 exact⟨x3,rfl,rfl,⟨by simp only[H.cJ];omega,λid _ h2=>by
  rw[H.aH _ h2,H.jM,H.aH _ h2,H.jM,H.aH _ h2,H.jM]⟩⟩
theorem Arr.fxo  {h h':H}{S N R:Nat}{d:Array Int}(A:Arr h S N d)(f:Fx (· =R) h h')(hR:R≠S):Arr h' S N d:=⟨by rw[f.get S A.lt (λe=>hR e.symm)];exact A.get,A.size,gE A.lt f.next⟩
theorem reverse_ok  (h:H)(S N a b:Nat)(d:Array Int)(cp:kL)(hN:N<1000000)(A:Arr h S N d)(hb:b<=N)(hab:a<b):
  Ev T 132 [.sl S 0 N cp,aC a,aC b] h (λ_ h'=>Arr h' S N (reverseRange d a b)/\Fx (· =S) h h'):=by
 refine bP c_slices_reverseRangeOrdered_int rfl rfl ?_
 have eb:(b:Int)- 1=((b- 1:Nat):Int):=by omega
 simp(disch:=omega)only[go_sem,c_slices_reverseRangeOrdered_int,aE,eb]
 refine aJ (λk' vars hh=> ∃(i j:Nat) (e:Array Int),(∃g:Nat->V,vars= [.sl S 0 N cp,aC a,aC b,aC i,aC j,g 5])/\j<b/\i<=b/\Arr hh S N e/\reverseLoop i j e=reverseLoop a (b- 1) d/\Fx (· =S) h hh/\k'=j) (b- 1)
  ⟨a,b- 1,d,aA rfl,by omega,by omega,A,rfl,Fx.refl _ h,rfl⟩ ?_
 clear A
 rintro k' vars h1 ⟨i,j,e,⟨g,rfl⟩,hj,hi,A,hR,F,hk⟩
 subst hk
 have sz:=A.size
 rw[reverseLoop] at hR
 by_cases hlt:(i:Int)<(k':Int)
 ·have e1:=mF hlt
  rw[if_pos (by omega)] at hR
  have c1:=A.rd (i:=i) (by omega)
  have c2:=A.rd (i:=k') (by omega)
  simp(disch:=omega)only[go_sem,e1,c1,c2,A.get,put_cont,put_cont']
  have W:=A.swap (i:=i) (j:=k') (nx:=h1.next+16) (by omega) rfl
  rw[show (i:Int)+1=((i+1:Nat):Int) from by omega,show (k':Int)- 1=((k'- 1:Nat):Int) from by omega]
  exact⟨k'- 1,by omega,i+1,k'- 1,_,aA rfl,by omega,by omega,W.1,hR,fxt F W.2,rfl⟩
 have e1:=iG hlt
 rw[if_neg (by omega)] at hR
 simp(disch:=omega)only[go_sem,e1]
 unfold reverseRange
 rw[←hR]
 exact⟨A,F⟩
theorem tdivN (n:Nat){k:Int}{m:Nat}(hk:k=(m:Int)):(n:Int).tdiv k=((n/m:Nat):Int):=by
 rw[hk,Int.tdiv_eq_ediv_of_nonneg (by omega)];rfl
theorem break_ok  (h:H)(S N a b:Nat)(d:Array Int)(cp:kL)(hN:N<60000)(A:Arr h S N d)(hb:b<=N)(hab:a<=b):
  Ev T 130 [.sl S 0 N cp,aC a,aC b] h (λ_ h'=> ∃e,Arr h' S N e/\PermIn a b d e/\Fx (· =S) h h'):=by
 refine bP c_slices_breakPatternsOrdered_int rfl rfl ?_
 obtain⟨n,hn⟩:=AS (b-a)
 have en:(b:Int)-(a:Int)=(n:Int):=by omega
 by_cases h8:(8:Int)<=(n:Int)
 case neg=>
  have e8:decide ((8:Int)<=(n:Int))=false:=decide_eq_false h8;simp(disch:=omega)only[go_sem,c_slices_breakPatternsOrdered_int,aE,en,e8];exact⟨d,A,permIn_refl d a b,Fx.refl _ h⟩
 have e8:decide ((8:Int)<=(n:Int))=true:=decide_eq_true h8
 have e4:=tdivN n (k:=4) (m:=4) rfl
 obtain⟨q,hq⟩:=AS (n/4)
 rw[hq] at e4
 have ei:(a:Int)+(q:Int)*2- 1=((a+q*2- 1:Nat):Int):=by omega
 have ej:(a:Int)+(q:Int)*2+1=((a+q*2+1:Nat):Int):=by omega
 have hp:=two_pow_bitsLen_le (show 0<n by omega)
 have hp1:=lt_two_pow_bitsLen n
 obtain⟨m,hm⟩:=AS (2^bitsLen n)
 rw[hm] at hp hp1
 obtain⟨R,hR⟩:=AS h.next
 have hRS:R≠S:=by have:=A.lt;omega
 have pt0: ∀hh:H,dV (cE [.int .u64 0]) hh R 0 [.int .u64 (n:Int)]=some (hh.set R (cE [.int .u64 (n:Int)])):=λhh=>bE (by simp) hh R _
 have gnew:(h.new (.cells false [.int .u64 0])).get R=cE [.int .u64 0]:=by rw[←hR,H.aM]
 simp(disch:=omega)only[go_sem,c_slices_breakPatternsOrdered_int,aE,en,e8,hR,wrap_u64_in (n:=(n:Int)) (by omega) (by omega),gnew,pt0]
 obtain⟨h1,h1e⟩: ∃h1,h1=(h.new (.cells false [.int .u64 0])).set R (cE [.int .u64 (n:Int)]):=⟨_,rfl⟩
 rw[←h1e]
 have g1:h1.get R=cE [.int .u64 (n:Int)]:=by rw[h1e,H.aT]
 have n1:h1.next=R+1:=by rw[h1e,H.cJ,H.aV,hR]
 have f1:Fr h h1:=by rw[h1e];exact ((Fr.refl h).new _).set (by omega) _
 clear h1e
 refine (pow2_ok n h1 (by omega)).mono ?_
 rintro _ h1' ⟨rfl,hh⟩
 rw[hh,hm]
 simp(disch:=omega)only[go_sem,e4,ei]
 refine aJ (λk' vars hh=> ∃(i:Nat) (e:Array Int) (x:Int),(∃g:Nat->V,vars= [.sl S 0 N cp,aC a,aC b,aC n,.ptr R 0,.int .u64 (m:Int),aC i,g 7,g 8,g 9,g 10])/\a<=i/\i<=a+q*2+2/\Arr hh S N e/\PermIn a b d e/\hh.get R=cE [.int .u64 x]/\R<hh.next/\Fx (· =S) h hh/\k'=a+q*2+2-i) (a+q*2+2-(a+q*2- 1))
  ⟨a+q*2- 1,d,_,aA rfl,by omega,by omega,A.fr f1,permIn_refl d a b,g1,by omega,Fx.of f1,rfl⟩ ?_
 clear A g1 n1 f1 hh h1
 rintro k' vars h1 ⟨i,e,x,⟨g,rfl⟩,hi1,hi2,A,hP,gR,nR,F,rfl⟩
 by_cases hlt:(i:Int)<=((a+q*2+1:Nat):Int)
 case neg=>
  have e1:decide ((i:Int)<=((a+q*2+1:Nat):Int))=false:=decide_eq_false hlt;simp(disch:=omega)only[go_sem,e4,ej,e1];exact⟨e,A,hP,F⟩
 have e1:decide ((i:Int)<=((a+q*2+1:Nat):Int))=true:=decide_eq_true hlt
 simp(disch:=omega)only[go_sem,e4,ej,e1]
 refine (next_ok R x h1 gR nR).mono ?_
 rintro _ h2 ⟨y,rfl,gR2,F2⟩
 have A2:=A.fxo F2 hRS
 obtain⟨w,hw,hwm⟩:=and_u64 y (m- 1) (by omega)
 have em:(m:Int)- 1=((m- 1:Nat):Int):=by omega
 have sz:=A2.size
 have F2':Fx (· =S) h h2:=⟨Nat.le_trans F.next F2.next,λid h3 h4=>(F2.get id (gE h3 F.next) (λe=>by have:id=R:=e;omega)).trans (F.get id h3 h4)⟩
 have nR2:R<h2.next:=gE nR F2.next
 by_cases hge:(n:Int)<=(w:Int)
 ·have e2:decide ((n:Int)<=(w:Int))=true:=decide_eq_true hge
  have e3:(w:Int)-(n:Int)=((w-n:Nat):Int):=by omega
  have e5:(a:Int)+((w-n:Nat):Int)=((a+(w-n):Nat):Int):=by omega
  have c1:=A2.rd (i:=i) (by omega)
  have c2:=A2.rd (i:=a+(w-n)) (by omega)
  simp(disch:=omega)only[go_sem,em,wrap_u64_in (n:=((m- 1:Nat):Int)) (by omega) (by omega),hw,e2,e3,e5,c1,c2,A2.get,put_cont,put_cont']
  have W:=A2.swap (i:=i) (j:=a+(w-n)) (nx:=h2.next+20) (by omega) rfl
  rw[iO i]
  refine⟨a+q*2+2-(i+1),by omega,i+1,_,y,aA rfl,by omega,by omega,W.1,permIn_trans _ _ _ a b hP (swp_permIn e a b i (a+(w-n)) hi1 (by omega) (by omega) (by omega) (by omega)),?_,gE nR2 W.2.next,fxt F2' W.2,rfl⟩
  exact gR2
 ·have e2:decide ((n:Int)<=(w:Int))=false:=decide_eq_false hge
  have e5:(a:Int)+(w:Int)=((a+w:Nat):Int):=by omega
  have c1:=A2.rd (i:=i) (by omega)
  have c2:=A2.rd (i:=a+w) (by omega)
  simp(disch:=omega)only[go_sem,em,wrap_u64_in (n:=((m- 1:Nat):Int)) (by omega) (by omega),hw,e2,e5,c1,c2,A2.get,put_cont,put_cont']
  have W:=A2.swap (i:=i) (j:=a+w) (nx:=h2.next+20) (by omega) rfl
  rw[iO i]
  refine⟨a+q*2+2-(i+1),by omega,i+1,_,y,aA rfl,by omega,by omega,W.1,permIn_trans _ _ _ a b hP (swp_permIn e a b i (a+w) hi1 (by omega) (by omega) (by omega) (by omega)),?_,gE nR2 W.2.next,fxt F2' W.2,rfl⟩
  exact gR2
structure Chs (h h':H)(R:Nat):Prop where
 get: ∃s,h'.get R=cE [aC s]
 fx:Fx (· =R) h h'
theorem Chs.trans {a b c:H}{R:Nat}(x:Chs a b R)(y:Chs b c R):Chs a c R:=⟨y.get,x.fx.trans y.fx λ_ _ h=>h⟩
theorem order2_ok  (h:H)(S N a b R:Nat)(d:Array Int)(cp:kL)(hN:N<1000000)(A:Arr h S N d)(ha:a<N)(hb:b<N)(hR:R≠S)(hRn:R<h.next)(s:Int)(gR:h.get R=cE [aC s]):
  Ev T 186 [.sl S 0 N cp,aC a,aC b,.ptr R 0] h (λv h'=>(v= .tup [aC a,aC b]∨v= .tup [aC b,aC a])/\Chs h h' R):=by
 refine bP c_slices_order2Ordered_int rfl rfl ?_
 have c1:=A.rd (i:=a) (by omega)
 have c2:=A.rd (i:=b) (by omega)
 simp(disch:=omega)only[go_sem,c_slices_order2Ordered_int,aE,c1,c2]
 refine (less_int _ _ _).mono ?_
 rintro _ h2 ⟨rfl,fh2⟩
 have f2:Fr h h2:=Fr.trans ((Fr.refl h).bJ (by omega)) fh2
 have gR2:h2.get R=cE [aC s]:=by rw[f2.get R hRn];exact gR
 cases hl:ltInt d[b]! d[a]! with
 |false=>
  simp(disch:=omega)only[go_sem,hl];exact⟨.inl trivial,⟨s,gR2⟩,Fx.of f2⟩
 |true=>
  have cR:h2.cell R 0=some (aC s):=by rw[H.aF gR2];rfl
  have pt: ∀(w:Int) (hh:H),dV (cE [aC s]) hh R 0 [aC w]=some (hh.set R (cE [aC w])):=λw hh=>bE (by simp) hh R _
  simp(disch:=omega)only[go_sem,hl,cR,gR2,pt];exact⟨.inr trivial,⟨_,by rw[H.aT]⟩,(Fx.of (W:=(· =R)) f2).trans (Fx.set h2 (W:=(· =R)) rfl _) (λ_ _ h=>h)⟩
theorem median_ok  (h:H)(S N a b c R:Nat)(d:Array Int)(cp:kL)(hN:N<1000000)(A:Arr h S N d)(ha:a<N)(hb:b<N)(hc:c<N)(hR:R≠S)(hRn:R<h.next)(s:Int)(gR:h.get R=cE [aC s]):
  Ev T 172 [.sl S 0 N cp,aC a,aC b,aC c,.ptr R 0] h (λv h'=>(∃m,v= aC (m:Nat)/\(m=a∨m=b∨m=c))/\Chs h h' R):=by
 refine bP c_slices_medianOrdered_int rfl rfl ?_
 simp(disch:=omega)only[go_sem,c_slices_medianOrdered_int,aE]
 refine (order2_ok h S N a b R d cp hN A ha hb hR hRn s gR).mono ?_
 rintro v1 h1 ⟨hv1,C1⟩
 obtain⟨x1,y1,rfl,hx1,hy1,hxy1⟩: ∃x y,v1= .tup [aC (x:Nat),aC (y:Nat)]/\x<N/\y<N/\((x=a∨x=b)/\(y=a∨y=b)):=by
  rcases hv1 with rfl|rfl
  ·exact⟨a,b,rfl,ha,hb,.inl rfl,.inr rfl⟩
  ·exact⟨b,a,rfl,hb,ha,.inr rfl,.inl rfl⟩
 have A1:=A.fxo C1.fx hR
 obtain⟨s1,g1⟩:=C1.get
 have n1:=gE hRn C1.fx.next
 simp(disch:=omega)only[go_sem]
 refine (order2_ok h1 S N y1 c R d cp hN A1 hy1 hc hR n1 s1 g1).mono ?_
 rintro v2 h2 ⟨hv2,C2⟩
 obtain⟨x2,y2,rfl,hx2,hxy2⟩: ∃x y,v2= .tup [aC (x:Nat),aC (y:Nat)]/\x<N/\(x=y1∨x=c):=by
  rcases hv2 with rfl|rfl
  ·exact⟨y1,c,rfl,hy1,.inl rfl⟩
  ·exact⟨c,y1,rfl,hc,.inr rfl⟩
 have A2:=A1.fxo C2.fx hR
 obtain⟨s2,g2⟩:=C2.get
 have n2:=gE n1 C2.fx.next
 simp(disch:=omega)only[go_sem]
 refine (order2_ok h2 S N x1 x2 R d cp hN A2 hx1 hx2 hR n2 s2 g2).mono ?_
 rintro v3 h3 ⟨hv3,C3⟩
 have C:=(C1.trans C2).trans C3
 rcases hv3 with rfl|rfl
 ·simp(disch:=omega)only[go_sem]
  exact⟨⟨x2,rfl,by omega⟩,C⟩
 ·simp(disch:=omega)only[go_sem]
  exact⟨⟨x1,rfl,by omega⟩,C⟩
theorem medianA_ok  (h:H)(S N a R:Nat)(d:Array Int)(cp:kL)(hN:N<1000000)(A:Arr h S N d)(h0:0<a)(ha:a+1<N)(hR:R≠S)(hRn:R<h.next)(s:Int)(gR:h.get R=cE [aC s]):
  Ev T 171 [.sl S 0 N cp,aC a,.ptr R 0] h (λv h'=>(∃m,v= aC (m:Nat)/\(m=a- 1∨m=a∨m=a+1))/\Chs h h' R):=by
 refine bP c_slices_medianAdjacentOrdered_int rfl rfl ?_
 have e1:(a:Int)- 1=((a- 1:Nat):Int):=by omega
 have e2:(a:Int)+1=((a+1:Nat):Int):=by omega
 simp(disch:=omega)only[go_sem,c_slices_medianAdjacentOrdered_int,aE,e1,e2]
 refine (median_ok h S N (a- 1) a (a+1) R d cp hN A (by omega) (by omega) (by omega) hR hRn s gR).mono ?_
 rintro _ h2 ⟨⟨m,rfl,hm⟩,C⟩
 simp(disch:=omega)only[go_sem]
 exact⟨⟨m,rfl,hm⟩,C⟩
theorem pivot_ok  (h:H)(S N a b:Nat)(d:Array Int)(cp:kL)(hN:N<1000000)(A:Arr h S N d)(hb:b<=N)(hab:a<b):
  Ev T 131 [.sl S 0 N cp,aC a,aC b] h (λv h'=> ∃(p:Nat) (t:Int),v= .tup [aC p,aC t]/\a<=p/\p<b/\Fr h h'):=by
 refine bP c_slices_choosePivotOrdered_int rfl rfl ?_
 obtain⟨n,hn⟩:=AS (b-a)
 have en:(b:Int)-(a:Int)=(n:Int):=by omega
 have e4:=tdivN n (k:=4) (m:=4) rfl
 obtain⟨q,hq⟩:=AS (n/4)
 rw[hq] at e4
 have ei:(a:Int)+(q:Int)*1=((a+q:Nat):Int):=by omega
 have ej:(a:Int)+(q:Int)*2=((a+q*2:Nat):Int):=by omega
 have ek:(a:Int)+(q:Int)*3=((a+q*3:Nat):Int):=by omega
 obtain⟨R,hR⟩:=AS h.next
 have hRS:R≠S:=by have:=A.lt;omega
 obtain⟨h1,h1e⟩: ∃h1,h1=h.new (.cells false [aC 0]):=⟨_,rfl⟩
 have g1:h1.get R=cE [aC 0]:=by rw[h1e,←hR,H.aM]
 have n1:h1.next=R+1:=by rw[h1e,H.aV,hR]
 have f1:Fr h h1:=by rw[h1e];exact (Fr.refl h).new _
 have A1:=A.fr f1
 have fin: ∀(p:Nat) (h2:H),a<=p->p<b->Fx (· =R) h1 h2->a<=p/\p<b/\Fr h h2:=λp h2 x1 x2 x3=>⟨x1,x2,Nat.le_trans f1.next x3.next,λid hid=>(x3.get id (by omega) (λe=>by have:id=R:=e;omega)).trans (f1.get id hid)⟩
 by_cases h8:(8:Int)<=(n:Int)
 case neg=>
  have e8:decide ((8:Int)<=(n:Int))=false:=decide_eq_false h8;simp(disch:=omega)only[go_sem,c_slices_choosePivotOrdered_int,aE,en,e4,ei,ej,ek,e8];rw[←h1e];have cR:h1.cell R 0=some (aC 0):=by rw[H.aF g1];rfl
  simp(disch:=omega)only[go_sem,hR,cR];refine bD (λ_=>?_) (λhc=>(hc (by trivial)).elim);simp(disch:=omega)only[go_sem];exact⟨a+q*2,1,rfl,fin _ _ (by omega) (by omega) (Fx.refl _ _)⟩
 have e8:decide ((8:Int)<=(n:Int))=true:=decide_eq_true h8
 have last: ∀(i j k:Nat) (h2:H) (s2:Int),a<=i->i<b->a<=j->j<b->a<=k->k<b->Arr h2 S N d->h2.get R=cE [aC s2]->R<h2.next->Fx (· =R) h1 h2->
   Ev T 172 [.sl S 0 N cp,aC i,aC j,aC k,.ptr R 0] h2 (λv h'=> ∃p s3,v= aC (p:Nat)/\a<=p/\p<b/\h'.get R=cE [aC s3]/\Fr h h'):=by
  intro i j k h2 s2 i1 i2 j1 j2 k1 k2 A2 g2 n2 F2
  refine (median_ok h2 S N i j k R d cp hN A2 (by omega) (by omega) (by omega) hRS n2 s2 g2).mono ?_
  rintro _ h3 ⟨⟨p,rfl,hp⟩,⟨s3,g3⟩,F3⟩
  exact⟨p,s3,rfl,by omega,by omega,g3,(fin p h3 (by omega) (by omega) (F2.trans F3 λ_ _ h=>h)).2.2⟩
 by_cases h50:(50:Int)<=(n:Int)
 case neg=>
  have e50:decide ((50:Int)<=(n:Int))=false:=decide_eq_false h50;simp(disch:=omega)only[go_sem,c_slices_choosePivotOrdered_int,aE,en,e4,ei,ej,ek,e8,e50];rw[←h1e];simp(disch:=omega)only[go_sem,hR];refine (last (a+q) (a+q*2) (a+q*3) h1 0 (by omega) (by omega) (by omega) (by omega) (by omega) (by omega) A1 g1 (by omega) (Fx.refl _ _)).mono ?_;rintro _ h3 ⟨p,s3,rfl,p1,p2,g3,f3⟩;have cR:h3.cell R 0=some (aC s3):=by rw[H.aF g3];rfl
  simp(disch:=omega)only[go_sem,cR];refine bD (λ_=>?_) (λ_=>?_)
  ·simp(disch:=omega)only[go_sem]
   exact⟨p,1,rfl,p1,p2,f3⟩
  ·simp(disch:=omega)only[go_sem]
   refine bD (λ_=>?_) (λ_=>?_)
   ·simp(disch:=omega)only[go_sem]
    exact⟨p,2,rfl,p1,p2,f3⟩
   ·simp(disch:=omega)only[go_sem]
    exact⟨p,0,rfl,p1,p2,f3⟩
 have e50:decide ((50:Int)<=(n:Int))=true:=decide_eq_true h50
 simp(disch:=omega)only[go_sem,c_slices_choosePivotOrdered_int,aE,en,e4,ei,ej,ek,e8,e50]
 rw[←h1e]
 simp(disch:=omega)only[go_sem,hR]
 refine (medianA_ok h1 S N (a+q) R d cp hN A1 (by omega) (by omega) hRS (by omega) 0 g1).mono ?_
 rintro _ h2 ⟨⟨i,rfl,hi⟩,⟨s2,g2⟩,F2⟩
 have A2:=A1.fxo F2 hRS
 have n2:=F2.next
 simp(disch:=omega)only[go_sem]
 refine (medianA_ok h2 S N (a+q*2) R d cp hN A2 (by omega) (by omega) hRS (by omega) s2 g2).mono ?_
 rintro _ h3 ⟨⟨j,rfl,hj⟩,⟨s3,g3⟩,F3⟩
 have A3:=A2.fxo F3 hRS
 have n3:=F3.next
 simp(disch:=omega)only[go_sem]
 refine (medianA_ok h3 S N (a+q*3) R d cp hN A3 (by omega) (by omega) hRS (by omega) s3 g3).mono ?_
 rintro _ h4 ⟨⟨k,rfl,hk⟩,⟨s4,g4⟩,F4⟩
 have A4:=A3.fxo F4 hRS
 have n4:=F4.next
 simp(disch:=omega)only[go_sem]
 refine (last i j k h4 s4 (by omega) (by omega) (by omega) (by omega) (by omega) (by omega) A4 g4 (by omega) ((F2.trans F3 λ_ _ h=>h).trans F4 λ_ _ h=>h)).mono ?_
 rintro _ h3 ⟨p,s3,rfl,p1,p2,g3,f3⟩
 have cR:h3.cell R 0=some (aC s3):=by rw[H.aF g3];rfl
 simp(disch:=omega)only[go_sem,cR]
 refine bD (λ_=>?_) (λ_=>?_)
 ·simp(disch:=omega)only[go_sem]
  exact⟨p,1,rfl,p1,p2,f3⟩
 ·simp(disch:=omega)only[go_sem]
  refine bD (λ_=>?_) (λ_=>?_)
  ·simp(disch:=omega)only[go_sem]
   exact⟨p,2,rfl,p1,p2,f3⟩
  ·simp(disch:=omega)only[go_sem]
   exact⟨p,0,rfl,p1,p2,f3⟩
section
variable {lt:Int->Int->Bool} {j b:Nat} {d:Array Int}
theorem shD_t (h:lt d[j+1]! d[j]! =true):shiftDown lt (j+1) d=shiftDown lt j (swp d (j+1) j):=by rw[shiftDown,if_neg (by simp [h])]
theorem shD_f (h:lt d[j+1]! d[j]! =false):shiftDown lt (j+1) d=d:=by rw[shiftDown,if_pos (by simp [h])]
theorem shU_t (hj:j<b)(h:lt d[j]! d[j- 1]! =true):shiftUp lt b j d=shiftUp lt b (j+1) (swp d j (j- 1)):=by rw[shiftUp,if_pos hj,if_neg (by simp [h])]
theorem shU_f (hj:j<b)(h:lt d[j]! d[j- 1]! =false):shiftUp lt b j d=d:=by rw[shiftUp,if_pos hj,if_pos (by simp [h])]
theorem scS_t {i:Nat}(hi:i<b)(h:lt d[i]! d[i- 1]! =false):scanSorted lt d b i=scanSorted lt d b (i+1):=by rw[scanSorted,if_pos (by simp [h,hi])]
theorem scS_f {i:Nat}(h: ¬(i<b/\lt d[i]! d[i- 1]! =false)):scanSorted lt d b i=i:=by rw[scanSorted,if_neg (by simpa using h)]
theorem pIns_eq (lt:Int->Int->Bool)(a b s i:Nat)(d:Array Int):partialIns lt a b (s+1) i d=if scanSorted lt d b i=b then (d,true) else if b-a<50 then (d,false) else
  partialIns lt a b s (scanSorted lt d b i) (if b-scanSorted lt d b i≥2 then shiftUp lt b (scanSorted lt d b i+1) (if scanSorted lt d b i-a≥2 then shiftDown lt (scanSorted lt d b i- 1) (swp d (scanSorted lt d b i) (scanSorted lt d b i- 1)) else swp d (scanSorted lt d b i) (scanSorted lt d b i- 1)) else
   (if scanSorted lt d b i-a≥2 then shiftDown lt (scanSorted lt d b i- 1) (swp d (scanSorted lt d b i) (scanSorted lt d b i- 1)) else swp d (scanSorted lt d b i) (scanSorted lt d b i- 1))):=by rw[partialIns]
theorem partial_ok (h:H)(S N a b:Nat)(d:Array Int)(cp:kL)(hN:N<1000000)(A:Arr h S N d)(hb:b<=N)(hab:a<b):
  Ev T 133 [.sl S 0 N cp,aC a,aC b] h (λv h'=>v= .bool (partialInsertionSort ltInt d a b).2/\Arr h' S N (partialInsertionSort ltInt d a b).1/\Fx (· =S) h h'):=by
 refine bP c_slices_partialInsertionSortOrdered_int rfl rfl ?_
 simp(disch:=omega)only[go_sem,c_slices_partialInsertionSortOrdered_int,aE]
 rw[iO a]
 refine aJ (λk' vars hh=> ∃(s i:Nat) (e:Array Int),(∃g:Nat->V,vars= [.sl S 0 N cp,aC a,aC b,g 3,aC i,aC (5-(s:Int)),g 6,g 7,g 8,g 9,g 10,g 11,g 12,g 13,g 14,g 15,g 16,g 17])/\s<=5/\a<i/\i<=b/\Arr hh S N e/\partialIns ltInt a b s i e=partialInsertionSort ltInt d a b/\Fx (· =S) h hh/\k'=s) 5
  ⟨5,a+1,d,aA rfl,by omega,by omega,by omega,A,rfl,Fx.refl _ h,rfl⟩ ?_
 clear A
 rintro k' vars h1 ⟨s,i,e,⟨g,rfl⟩,hs,hi1,hi2,A,hR,F,hk⟩
 subst hk
 by_cases hlt:(5:Int)-(k':Int)<5
 case neg=>
  have e1:=iG hlt;obtain rfl:k'=0:=by omega
  simp(disch:=omega)only[go_sem,e1];have hR:(e,false)=partialInsertionSort ltInt d a b:=hR;rw[←hR];exact⟨rfl,A,F⟩
 have e1:=mF hlt
 obtain⟨s,rfl⟩: ∃s,k'=s+1:=⟨k'- 1,by omega⟩
 simp(disch:=omega)only[go_sem,e1]
 rw[pIns_eq] at hR
 refine aJ (λk' vars hh=> ∃(m:Nat),(∃g:Nat->V,vars= [.sl S 0 N cp,aC a,aC b,g 3,aC m,aC (5-((s+1:Nat):Int)),g 6,g 7,g 8,g 9,g 10,g 11,g 12,g 13,g 14,g 15,g 16,g 17])/\a<m/\m<=b/\Arr hh S N e/\scanSorted ltInt e b m=scanSorted ltInt e b i/\Fx (· =S) h hh/\k'=b-m) (b-i)
  ⟨i,aA rfl,hi1,hi2,A,rfl,F,rfl⟩ ?_
 clear A F hlt e1
 rintro k' vars h2 ⟨m,⟨g,rfl⟩,hm1,hm2,A,hS,F,rfl⟩
 have sz:=A.size
 have em1:(m:Int)- 1=((m- 1:Nat):Int):=by omega
 have eM1:(m:Int)+1=((m+1:Nat):Int):=by omega
 by_cases hmb:(m:Int)<(b:Int)
 case neg=>
  have e1:decide ((m:Int)<(b:Int))=false:=decide_eq_false hmb;have em:m=b:=by omega
  rw[scS_f (by omega)] at hS;rw[←hS,if_pos em] at hR;have e2:decide ((m:Int)=(b:Int))=true:=mF (by omega);simp(disch:=omega)only[go_sem,e1,e2];rw[←hR];exact⟨rfl,A.fr ((Fr.refl h2).bJ (by omega)),fxt F (Fx.of ((Fr.refl h2).bJ (by omega)))⟩
 have e1:decide ((m:Int)<(b:Int))=true:=decide_eq_true hmb
 have c1:=A.rd (i:=m) (by omega)
 have c2:=A.rd (i:=m- 1) (by omega)
 simp(disch:=omega)only[go_sem,e1,em1,c1,c2]
 refine (less_int _ _ _).mono ?_
 rintro _ h3 ⟨rfl,fh3⟩
 have f3':Fr h2 h3:=Fr.trans ((Fr.refl h2).bJ (by omega)) fh3
 have A3:=A.fr f3'
 have F3:=fxt F (Fx.of f3')
 cases hl:ltInt e[m]! e[m- 1]! with
 |false=>
  rw[scS_t (by omega) hl] at hS;simp(disch:=omega)only[go_sem,hl,eM1];exact⟨b-(m+1),by omega,m+1,aA rfl,by omega,by omega,A3,hS,F3,rfl⟩
 |true=>
  rw[scS_f (by rw[hl];simp)] at hS;rw[←hS,if_neg (by omega)] at hR;have e2:decide ((m:Int)=(b:Int))=false:=iG (by omega)
  by_cases h50:(b:Int)-(a:Int)<50
  ·have e50:decide ((b:Int)-(a:Int)<50)=true:=decide_eq_true h50
   rw[if_pos (by omega)] at hR;simp(disch:=omega)only[go_sem,hl,e2,e50];rw[←hR];exact⟨rfl,A3,F3⟩
  have e50:decide ((b:Int)-(a:Int)<50)=false:=decide_eq_false h50;rw[if_neg (by omega)] at hR;have c1:=A3.rd (i:=m) (by omega);have c2:=A3.rd (i:=m- 1) (by omega);simp(disch:=omega)only[go_sem,hl,e2,e50,em1,c1,c2,A3.get,put_cont,put_cont'];have W:=A3.swap (i:=m) (j:=m- 1) (nx:=h3.next+18) (by omega) rfl
  obtain⟨h4,h4e⟩: ∃h4,h4=((H.mk h3.tr (h3.next+18)).set S (cE (ints (e.setIfInBounds m e[m- 1]!).toList))).set S (cE (ints ((e.setIfInBounds m e[m- 1]!).setIfInBounds (m- 1) e[m]!).toList)):=⟨_,rfl⟩
  rw[←h4e] at W ⊢;obtain⟨A4,F4⟩:=W;have F4':=fxt F3 F4;clear h4e F4 A3 F3 f3' fh3 c1 c2;obtain⟨e4,he4⟩:=AS (swp e m (m- 1));rw[he4] at A4 hR;refine jQ (λvs h5=> ∃e5,(∃g:Nat->V,vs= [.sl S 0 N cp,aC a,aC b,g 3,aC m,aC (5-((s+1:Nat):Int)),g 6,g 7,g 8,g 9,g 10,g 11,g 12,g 13,g 14,g 15,g 16,g 17])/\Arr h5 S N e5/\e5=(if m-a≥2 then shiftDown ltInt (m- 1) e4 else e4)/\Fx (· =S) h h5) ?_ ?_
  ·refine bD (λh2=>?_) (λh2=>?_)
   ·simp(disch:=omega)only[go_sem,em1]
    refine aJ (λk' vars hh=> ∃(j:Nat) (x:Array Int),(∃g:Nat->V,vars= [.sl S 0 N cp,aC a,aC b,g 3,aC m,aC (5-((s+1:Nat):Int)),aC j,g 7,g 8,g 9,g 10,g 11,g 12,g 13,g 14,g 15,g 16,g 17])/\j<b/\Arr hh S N x/\shiftDown ltInt j x=shiftDown ltInt (m- 1) e4/\Fx (· =S) h hh/\k'=j) (m- 1)
     ⟨m- 1,e4,aA rfl,by omega,A4,rfl,F4',rfl⟩ ?_
    rintro k' vars h5 ⟨j,x,⟨g,rfl⟩,hj,A5,hD,F5,hk⟩;subst hk;have sz5:=A5.size
    by_cases h1:(1:Int)<=(k':Int)
    ·have e1:decide ((1:Int)<=(k':Int))=true:=decide_eq_true h1
     obtain⟨q,rfl⟩: ∃q,k'=q+1:=⟨k'- 1,by omega⟩
     have eq1:((q+1:Nat):Int)- 1=(q:Int):=by omega
     have c1:=A5.rd (i:=q+1) (by omega);have c2:=A5.rd (i:=q) (by omega);simp(disch:=omega)only[go_sem,e1,eq1,c1,c2];refine (less_int _ _ _).mono ?_;rintro _ h6 ⟨rfl,fh6⟩;have f6:Fr h5 h6:=Fr.trans ((Fr.refl h5).bJ (by omega)) fh6;have A6:=A5.fr f6;have F6:=fxt F5 (Fx.of f6)
     cases hl:ltInt x[q+1]! x[q]! with
     |false=>
      rw[shD_f hl] at hD;simp(disch:=omega)only[go_sem,hl];exact .inl ⟨x,aA rfl,A6,by rw[if_pos (by omega),←hD],F6⟩
     |true=>
      rw[shD_t hl] at hD;have c1:=A6.rd (i:=q+1) (by omega);have c2:=A6.rd (i:=q) (by omega);simp(disch:=omega)only[go_sem,hl,eq1,c1,c2,A6.get,put_cont,put_cont'];have W:=A6.swap (i:=q+1) (j:=q) (nx:=h6.next+18) (by omega) rfl;exact⟨q,by omega,q,_,aA rfl,by omega,W.1,hD,fxt F6 W.2,rfl⟩
    ·have e1:decide ((1:Int)<=(k':Int))=false:=decide_eq_false h1
     obtain rfl:k'=0:=by omega
     simp(disch:=omega)only[go_sem,e1];have hD:x=shiftDown ltInt (m- 1) e4:=hD;exact .inl ⟨x,aA rfl,A5,by rw[if_pos (by omega),←hD],F5⟩
   ·simp(disch:=omega)only[go_sem]
    exact .inl ⟨e4,aA rfl,A4,by rw[if_neg (by omega)],F4'⟩
  ·rintro vars h5 ⟨e5,⟨g,rfl⟩,A5,he5,F5⟩
   rw[←he5] at hR;clear A4 F4' he5 he4;simp(disch:=omega)only[go_sem];have e55:(5:Int)-((s+1:Nat):Int)+1=5-(s:Int):=by omega
   refine bD (λh2=>?_) (λh2=>?_)
   ·rw[if_pos (by omega)] at hR
    simp(disch:=omega)only[go_sem,eM1];refine aJ (λk' vars hh=> ∃(j:Nat) (x:Array Int),(∃g:Nat->V,vars= [.sl S 0 N cp,aC a,aC b,g 3,aC m,aC (5-((s+1:Nat):Int)),g 6,aC j,g 8,g 9,g 10,g 11,g 12,g 13,g 14,g 15,g 16,g 17])/\0<j/\j<=b/\Arr hh S N x/\shiftUp ltInt b j x=shiftUp ltInt b (m+1) e5/\Fx (· =S) h hh/\k'=b-j) (b-(m+1))
     ⟨m+1,e5,aA rfl,by omega,by omega,A5,rfl,F5,rfl⟩ ?_
    rintro k' vars h6 ⟨j,x,⟨g,rfl⟩,hj0,hj,A6,hU,F6,rfl⟩;have sz6:=A6.size
    by_cases h1:(j:Int)<(b:Int)
    ·have e1:decide ((j:Int)<(b:Int))=true:=decide_eq_true h1
     have ej1:(j:Int)- 1=((j- 1:Nat):Int):=by omega
     have eJ1:(j:Int)+1=((j+1:Nat):Int):=by omega
     have c1:=A6.rd (i:=j) (by omega);have c2:=A6.rd (i:=j- 1) (by omega);simp(disch:=omega)only[go_sem,e1,ej1,c1,c2];refine (less_int _ _ _).mono ?_;rintro _ h7 ⟨rfl,fh7⟩;have f7:Fr h6 h7:=Fr.trans ((Fr.refl h6).bJ (by omega)) fh7;have A7:=A6.fr f7;have F7:=fxt F6 (Fx.of f7)
     cases hl:ltInt x[j]! x[j- 1]! with
     |false=>
      rw[shU_f (by omega) hl] at hU;rw[←hU] at hR;simp(disch:=omega)only[go_sem,hl,e55];exact⟨s,by omega,s,m,x,aA rfl,by omega,by omega,by omega,A7,hR,F7,rfl⟩
     |true=>
      rw[shU_t (by omega) hl] at hU;have c1:=A7.rd (i:=j) (by omega);have c2:=A7.rd (i:=j- 1) (by omega);simp(disch:=omega)only[go_sem,hl,ej1,eJ1,c1,c2,A7.get,put_cont,put_cont'];have W:=A7.swap (i:=j) (j:=j- 1) (nx:=h7.next+18) (by omega) rfl;exact⟨b-(j+1),by omega,j+1,_,aA rfl,by omega,by omega,W.1,hU,fxt F7 W.2,rfl⟩
    ·have e1:decide ((j:Int)<(b:Int))=false:=decide_eq_false h1
     rw[shiftUp,if_neg (by omega)] at hU;rw[←hU] at hR;simp(disch:=omega)only[go_sem,e1,e55];exact⟨s,by omega,s,m,x,aA rfl,by omega,by omega,by omega,A6,hR,F6,rfl⟩
   ·rw[if_neg (by omega)] at hR
    simp(disch:=omega)only[go_sem,e55];exact⟨s,by omega,s,m,e5,aA rfl,by omega,by omega,by omega,A5,hR,F5,rfl⟩
end
section
variable {p:Int->Bool} {d:Array Int} {j i:Nat}
theorem scU_t (h1:i<=j)(h2:p d[i]! =true):scanUp p d j i=scanUp p d j (i+1):=by rw[scanUp,if_pos (by simp [h1,h2])]
theorem scU_f (h: ¬(i<=j/\p d[i]! =true)):scanUp p d j i=i:=by rw[scanUp,if_neg (by simpa using h)]
theorem scD_t (h1:i<=j+1)(h2:p d[j+1]! =true):scanDown p d i (j+1)=scanDown p d i j:=by rw[scanDown,if_pos (by simp [h1,h2])]
theorem scD_f (h: ¬(i<=j/\p d[j]! =true)):scanDown p d i j=j:=by
 cases j with
 |zero=>rfl
 |succ j=>rw[scanDown,if_neg (by simpa using h)]
theorem scanUp_hi (p:Int->Bool)(d:Array Int)(j i:Nat):scanUp p d j i<=max i (j+1):=by
 obtain⟨n,hn⟩:=AS (j+1-i)
 induction n generalizing i with
 |zero=>rw[scU_f (λh=>by have:=h.1;omega)];omega
 |succ n ih=>
  by_cases h:i<=j/\p d[i]! =true
  ·rw[scU_t h.1 h.2]
   have:=ih (i+1) (by omega);omega
  ·rw[scU_f h];omega
theorem partition_ok (h:H)(S N a b pv:Nat)(d:Array Int)(cp:kL)(hN:N<1000000)(A:Arr h S N d)(hb:b<=N)(hap:a<=pv)(hpb:pv<b):
  Ev T 136 [.sl S 0 N cp,aC a,aC b,aC pv] h (λv h'=>v= .tup [aC ((partition ltInt d a b pv).1:Nat),.bool (partition ltInt d a b pv).2.1]/\Arr h' S N (partition ltInt d a b pv).2.2/\Fx (· =S) h h'):=by
 refine bP c_slices_partitionOrdered_int rfl rfl ?_
 have sz:=A.size
 have c1:=A.rd (i:=a) (by omega)
 have c2:=A.rd (i:=pv) (by omega)
 simp(disch:=omega)only[go_sem,c_slices_partitionOrdered_int,aE,c1,c2,A.get,put_cont,put_cont']
 have W:=A.swap (i:=a) (j:=pv) (nx:=h.next+16) (by omega) rfl
 obtain⟨h1,h1e⟩: ∃h1,h1=((H.mk h.tr (h.next+16)).set S (cE (ints (d.setIfInBounds a d[pv]!).toList))).set S (cE (ints ((d.setIfInBounds a d[pv]!).setIfInBounds pv d[a]!).toList)):=⟨_,rfl⟩
 rw[←h1e] at W ⊢
 obtain⟨A1,F1⟩:=W
 obtain⟨e,he⟩:=AS (swp d a pv)
 rw[he] at A1
 clear h1e c1 c2 A
 have eb:(b:Int)- 1=((b- 1:Nat):Int):=by omega
 have ea:(a:Int)+1=((a+1:Nat):Int):=by omega
 have hP:partition ltInt d a b pv=if scanUp (λx=>ltInt x e[a]!) e (b- 1) (a+1)>scanDown (λx=>!ltInt x e[a]!) e (scanUp (λx=>ltInt x e[a]!) e (b- 1) (a+1)) (b- 1) then
   (scanDown (λx=>!ltInt x e[a]!) e (scanUp (λx=>ltInt x e[a]!) e (b- 1) (a+1)) (b- 1),true,swp e (scanDown (λx=>!ltInt x e[a]!) e (scanUp (λx=>ltInt x e[a]!) e (b- 1) (a+1)) (b- 1)) a) else
   ((partLoop ltInt a (scanUp (λx=>ltInt x e[a]!) e (b- 1) (a+1)+1) (scanDown (λx=>!ltInt x e[a]!) e (scanUp (λx=>ltInt x e[a]!) e (b- 1) (a+1)) (b- 1)- 1) (swp e (scanUp (λx=>ltInt x e[a]!) e (b- 1) (a+1)) (scanDown (λx=>!ltInt x e[a]!) e (scanUp (λx=>ltInt x e[a]!) e (b- 1) (a+1)) (b- 1)))).1,false,
    swp (partLoop ltInt a (scanUp (λx=>ltInt x e[a]!) e (b- 1) (a+1)+1) (scanDown (λx=>!ltInt x e[a]!) e (scanUp (λx=>ltInt x e[a]!) e (b- 1) (a+1)) (b- 1)- 1) (swp e (scanUp (λx=>ltInt x e[a]!) e (b- 1) (a+1)) (scanDown (λx=>!ltInt x e[a]!) e (scanUp (λx=>ltInt x e[a]!) e (b- 1) (a+1)) (b- 1)))).2 (partLoop ltInt a (scanUp (λx=>ltInt x e[a]!) e (b- 1) (a+1)+1) (scanDown (λx=>!ltInt x e[a]!) e (scanUp (λx=>ltInt x e[a]!) e (b- 1) (a+1)) (b- 1)- 1) (swp e (scanUp (λx=>ltInt x e[a]!) e (b- 1) (a+1)) (scanDown (λx=>!ltInt x e[a]!) e (scanUp (λx=>ltInt x e[a]!) e (b- 1) (a+1)) (b- 1)))).1 a):=by
  rw[←he];rfl
 obtain⟨R,hRe⟩:=AS (partition ltInt d a b pv)
 rw[hRe] at hP
 rw[hRe]
 simp(disch:=omega)only[go_sem,ea,eb]
 refine cF (λvs hh=>(∃g:Nat->V,vs= [.sl S 0 N cp,aC a,aC b,aC pv,g 4,g 5,aC (scanUp (λx=>ltInt x e[a]!) e (b- 1) (a+1):Nat),aC ((b- 1):Nat),g 8,g 9,g 10,g 11,g 12,g 13])/\Arr hh S N e/\Fx (· =S) h hh) ?_ ?_
 ·refine aJ (λk' vs hh=> ∃(k:Nat),(∃g:Nat->V,vs= [.sl S 0 N cp,aC a,aC b,aC pv,g 4,g 5,aC (k:Nat),aC ((b- 1):Nat),g 8,g 9,g 10,g 11,g 12,g 13])/\(a+1)<=k/\k<=N+2/\Arr hh S N e/\scanUp (λx=>ltInt x e[a]!) e (b- 1) k=scanUp (λx=>ltInt x e[a]!) e (b- 1) (a+1)/\Fx (· =S) h hh/\k'=(b- 1)+1-k) ((b- 1)+1-(a+1))
   ⟨(a+1),aA rfl,by omega,by omega,A1,rfl,F1,rfl⟩ ?_
  rintro k' vars hs ⟨k,⟨g,rfl⟩,hk1,hk2,As,hS,Fs,rfl⟩
  by_cases hij:(k:Int)<=(((b- 1):Nat):Int)
  ·have e1:decide ((k:Int)<=(((b- 1):Nat):Int))=true:=decide_eq_true hij
   have eK:(k:Int)+1=((k+1:Nat):Int):=by omega
   have szs:=As.size
   have c1:=As.rd (i:=k) (by omega)
   have c2:=As.rd (i:=a) (by omega)
   simp(disch:=omega)only[go_sem,e1,c1,c2]
   refine (less_int _ _ _).mono ?_
   rintro _ hs2 ⟨rfl,fhs2⟩
   have fs2:Fr hs hs2:=Fr.trans ((Fr.refl hs).bJ (by omega)) fhs2
   have As2:=As.fr fs2
   have Fs2:=fxt Fs (Fx.of fs2)
   cases hl:ltInt e[k]! e[a]! with
   |false=>
    rw[scU_f (λhh=>by have:=hh.2;simp [hl] at this)] at hS;simp(disch:=omega)only[go_sem,hl];exact⟨by rw[←hS];exact aA rfl,As2,Fs2⟩
   |true=>
    rw[scU_t (by omega) (by simp [hl])] at hS;simp(disch:=omega)only[go_sem,hl,eK];exact⟨(b- 1)+1-(k+1),by omega,k+1,aA rfl,by omega,by omega,As2,hS,Fs2,rfl⟩
  ·have e1:decide ((k:Int)<=(((b- 1):Nat):Int))=false:=decide_eq_false hij
   rw[scU_f (λhh=>hij (by have:=hh.1;omega))] at hS
   simp(disch:=omega)only[go_sem,e1]
   exact⟨by rw[←hS];exact aA rfl,As.fr ((Fr.refl hs).bJ (by omega)),fxt Fs (Fx.of ((Fr.refl hs).bJ (by omega)))⟩
 ·rintro vars h9 ⟨⟨g,rfl⟩,A9,F9⟩
  have hge:=scanUp_ge (λx=>ltInt x e[a]!) e (b- 1) (a+1)
  have hhi:=scanUp_hi (λx=>ltInt x e[a]!) e (b- 1) (a+1)
  obtain⟨i2,hi2⟩: ∃x,scanUp (λx=>ltInt x e[a]!) e (b- 1) (a+1)=x:=⟨_,rfl⟩
  rw[hi2] at hge hhi
  rw[hi2]
  simp(disch:=omega)only[go_sem]
  refine cF (λvs hh=>(∃g:Nat->V,vs= [.sl S 0 N cp,aC a,aC b,aC pv,g 4,g 5,aC (i2:Nat),aC (scanDown (λx=>!ltInt x e[a]!) e i2 (b- 1):Nat),g 8,g 9,g 10,g 11,g 12,g 13])/\Arr hh S N e/\Fx (· =S) h hh) ?_ ?_
  ·refine aJ (λk' vs hh=> ∃(k:Nat),(∃g:Nat->V,vs= [.sl S 0 N cp,aC a,aC b,aC pv,g 4,g 5,aC (i2:Nat),aC (k:Nat),g 8,g 9,g 10,g 11,g 12,g 13])/\k<=(b- 1)/\Arr hh S N e/\scanDown (λx=>!ltInt x e[a]!) e i2 k=scanDown (λx=>!ltInt x e[a]!) e i2 (b- 1)/\Fx (· =S) h hh/\k'=k) (b- 1)
    ⟨(b- 1),aA rfl,by omega,A9,rfl,F9,rfl⟩ ?_
   rintro k' vars hs ⟨k,⟨g,rfl⟩,hk1,As,hS,Fs,hkk⟩
   subst hkk
   by_cases hij:((i2:Nat):Int)<=(k':Int)
   ·have e1:decide (((i2:Nat):Int)<=(k':Int))=true:=decide_eq_true hij
    obtain⟨k,rfl⟩: ∃k,k'=k+1:=⟨k'- 1,by omega⟩
    have eK:((k+1:Nat):Int)- 1=(k:Int):=by omega
    have szs:=As.size
    have c1:=As.rd (i:=k+1) (by omega)
    have c2:=As.rd (i:=a) (by omega)
    simp(disch:=omega)only[go_sem,e1,c1,c2]
    refine (less_int _ _ _).mono ?_
    rintro _ hs2 ⟨rfl,fhs2⟩
    have fs2:Fr hs hs2:=Fr.trans ((Fr.refl hs).bJ (by omega)) fhs2
    have As2:=As.fr fs2
    have Fs2:=fxt Fs (Fx.of fs2)
    cases hl:ltInt e[k+1]! e[a]! with
    |true=>
     rw[scD_f (λhh=>by have:=hh.2;simp [hl] at this)] at hS;simp(disch:=omega)only[go_sem,hl];exact⟨by rw[←hS];exact aA rfl,As2,Fs2⟩
    |false=>
     rw[scD_t (by omega) (by simp [hl])] at hS;simp(disch:=omega)only[go_sem,hl,eK];exact⟨k,by omega,k,aA rfl,by omega,As2,hS,Fs2,rfl⟩
   ·have e1:decide (((i2:Nat):Int)<=(k':Int))=false:=decide_eq_false hij
    rw[scD_f (λhh=>hij (by have:=hh.1;omega))] at hS
    simp(disch:=omega)only[go_sem,e1]
    exact⟨by rw[←hS];exact aA rfl,As.fr ((Fr.refl hs).bJ (by omega)),fxt Fs (Fx.of ((Fr.refl hs).bJ (by omega)))⟩
  ·rintro vars h2 ⟨⟨g,rfl⟩,A2,F2⟩
   have hle:=scanDown_le (λx=>!ltInt x e[a]!) e i2 (b- 1)
   obtain⟨j2,hj2⟩: ∃x,scanDown (λx=>!ltInt x e[a]!) e i2 (b- 1)=x:=⟨_,rfl⟩
   rw[hj2] at hle
   rw[hj2]
   rw[hi2,hj2] at hP
   have sz2:=A2.size
   by_cases hgt:(j2:Int)<(i2:Int)
   ·have e1:decide ((j2:Int)<(i2:Int))=true:=decide_eq_true hgt
    rw[if_pos (by omega)] at hP
    have c1:=A2.rd (i:=j2) (by omega)
    have c2:=A2.rd (i:=a) (by omega)
    simp(disch:=omega)only[go_sem,e1,c1,c2,A2.get,put_cont,put_cont']
    have W:=A2.swap (i:=j2) (j:=a) (nx:=h2.next+16) (by omega) rfl
    rw[hP]
    exact⟨rfl,W.1,fxt F2 W.2⟩
   have e1:decide ((j2:Int)<(i2:Int))=false:=decide_eq_false hgt
   rw[if_neg (by omega)] at hP
   have c1:=A2.rd (i:=i2) (by omega)
   have c2:=A2.rd (i:=j2) (by omega)
   simp(disch:=omega)only[go_sem,e1,c1,c2,A2.get,put_cont,put_cont']
   have W:=A2.swap (i:=i2) (j:=j2) (nx:=h2.next+16) (by omega) rfl
   obtain⟨h3,h3e⟩: ∃h3,h3=((H.mk h2.tr (h2.next+16)).set S (cE (ints (e.setIfInBounds i2 e[j2]!).toList))).set S (cE (ints ((e.setIfInBounds i2 e[j2]!).setIfInBounds j2 e[i2]!).toList)):=⟨_,rfl⟩
   rw[←h3e] at W ⊢
   obtain⟨A3,F30⟩:=W
   have F3:=fxt F2 F30
   have hij2:i2<=j2:=by omega
   obtain⟨e0,he0⟩:=AS (swp e i2 j2)
   rw[he0] at A3 hP
   clear h3e c1 c2 A2 A9 F9 A1 F1 he hgt e1
   have ei:(i2:Int)+1=((i2+1:Nat):Int):=by omega
   have ej:(j2:Int)- 1=((j2- 1:Nat):Int):=by omega
   simp(disch:=omega)only[go_sem,ei,ej]
   refine cF (λvs hh=>(∃g:Nat->V,vs= [.sl S 0 N cp,aC a,aC b,aC pv,g 4,g 5,g 6,aC (((partLoop ltInt a (i2+1) (j2- 1) e0).1:Nat):Int),g 8,g 9,g 10,g 11,g 12,g 13])/\Arr hh S N (partLoop ltInt a (i2+1) (j2- 1) e0).2/\(partLoop ltInt a (i2+1) (j2- 1) e0).1<b/\Fx (· =S) h hh) ?_ ?_
   ·refine aJ (λk' vs hh=> ∃(i j:Nat) (e:Array Int),(∃g:Nat->V,vs= [.sl S 0 N cp,aC a,aC b,aC pv,g 4,g 5,aC i,aC j,g 8,g 9,g 10,g 11,g 12,g 13])/\a<i/\i<=b+1/\j<b/\Arr hh S N e/\partLoop ltInt a i j e=partLoop ltInt a (i2+1) (j2- 1) e0/\Fx (· =S) h hh/\k'=j) (j2- 1)
     ⟨i2+1,j2- 1,e0,aA rfl,by omega,by omega,by omega,A3,rfl,F3,rfl⟩ ?_
    obtain⟨R2,hR2⟩:=AS (partLoop ltInt a (i2+1) (j2- 1) e0)
    rw[hR2]
    clear hP hR2 hi2 hj2 he0 ei ej hle hge hhi F3 F30 A3 sz2 h3 hij2
    clear i2 j2
    rintro k' vars h3 ⟨i,j,e,⟨g,rfl⟩,hi1,hi2,hj,A3,hL,F3,hkk⟩
    rw[partLoop_eq] at hL
    simp(disch:=omega)only[go_sem]
    refine cF (λvs hh=>(∃g:Nat->V,vs= [.sl S 0 N cp,aC a,aC b,aC pv,g 4,g 5,aC (scanUp (λx=>ltInt x e[a]!) e j i:Nat),aC (j:Nat),g 8,g 9,g 10,g 11,g 12,g 13])/\Arr hh S N e/\Fx (· =S) h hh) ?_ ?_
    ·refine aJ (λk' vs hh=> ∃(k:Nat),(∃g:Nat->V,vs= [.sl S 0 N cp,aC a,aC b,aC pv,g 4,g 5,aC (k:Nat),aC (j:Nat),g 8,g 9,g 10,g 11,g 12,g 13])/\i<=k/\k<=N+2/\Arr hh S N e/\scanUp (λx=>ltInt x e[a]!) e j k=scanUp (λx=>ltInt x e[a]!) e j i/\Fx (· =S) h hh/\k'=j+1-k) (j+1-i)
      ⟨i,aA rfl,by omega,by omega,A3,rfl,F3,rfl⟩ ?_
     rintro k' vars hs ⟨k,⟨g,rfl⟩,hk1,hk2,As,hS,Fs,rfl⟩
     by_cases hij:(k:Int)<=((j:Nat):Int)
     ·have e1:decide ((k:Int)<=((j:Nat):Int))=true:=decide_eq_true hij
      have eK:(k:Int)+1=((k+1:Nat):Int):=by omega
      have szs:=As.size
      have c1:=As.rd (i:=k) (by omega)
      have c2:=As.rd (i:=a) (by omega)
      simp(disch:=omega)only[go_sem,e1,c1,c2]
      refine (less_int _ _ _).mono ?_
      rintro _ hs2 ⟨rfl,fhs2⟩
      have fs2:Fr hs hs2:=Fr.trans ((Fr.refl hs).bJ (by omega)) fhs2
      have As2:=As.fr fs2
      have Fs2:=fxt Fs (Fx.of fs2)
      cases hl:ltInt e[k]! e[a]! with
      |false=>
       rw[scU_f (λhh=>by have:=hh.2;simp [hl] at this)] at hS;simp(disch:=omega)only[go_sem,hl];exact⟨by rw[←hS];exact aA rfl,As2,Fs2⟩
      |true=>
       rw[scU_t (by omega) (by simp [hl])] at hS;simp(disch:=omega)only[go_sem,hl,eK];exact⟨j+1-(k+1),by omega,k+1,aA rfl,by omega,by omega,As2,hS,Fs2,rfl⟩
     ·have e1:decide ((k:Int)<=((j:Nat):Int))=false:=decide_eq_false hij
      rw[scU_f (λhh=>hij (by have:=hh.1;omega))] at hS
      simp(disch:=omega)only[go_sem,e1]
      exact⟨by rw[←hS];exact aA rfl,As.fr ((Fr.refl hs).bJ (by omega)),fxt Fs (Fx.of ((Fr.refl hs).bJ (by omega)))⟩
    ·rintro vars h9 ⟨⟨g,rfl⟩,A9,F9⟩
     have hge:=scanUp_ge (λx=>ltInt x e[a]!) e j i
     have hhi:=scanUp_hi (λx=>ltInt x e[a]!) e j i
     obtain⟨u,hu⟩: ∃x,scanUp (λx=>ltInt x e[a]!) e j i=x:=⟨_,rfl⟩
     rw[hu] at hge hhi
     rw[hu]
     simp(disch:=omega)only[go_sem]
     refine cF (λvs hh=>(∃g:Nat->V,vs= [.sl S 0 N cp,aC a,aC b,aC pv,g 4,g 5,aC (u:Nat),aC (scanDown (λx=>!ltInt x e[a]!) e u j:Nat),g 8,g 9,g 10,g 11,g 12,g 13])/\Arr hh S N e/\Fx (· =S) h hh) ?_ ?_
     ·refine aJ (λk' vs hh=> ∃(k:Nat),(∃g:Nat->V,vs= [.sl S 0 N cp,aC a,aC b,aC pv,g 4,g 5,aC (u:Nat),aC (k:Nat),g 8,g 9,g 10,g 11,g 12,g 13])/\k<=j/\Arr hh S N e/\scanDown (λx=>!ltInt x e[a]!) e u k=scanDown (λx=>!ltInt x e[a]!) e u j/\Fx (· =S) h hh/\k'=k) j
       ⟨j,aA rfl,by omega,A9,rfl,F9,rfl⟩ ?_
      rintro k' vars hs ⟨k,⟨g,rfl⟩,hk1,As,hS,Fs,hkk⟩
      subst hkk
      by_cases hij:((u:Nat):Int)<=(k':Int)
      ·have e1:decide (((u:Nat):Int)<=(k':Int))=true:=decide_eq_true hij
       obtain⟨k,rfl⟩: ∃k,k'=k+1:=⟨k'- 1,by omega⟩
       have eK:((k+1:Nat):Int)- 1=(k:Int):=by omega
       have szs:=As.size
       have c1:=As.rd (i:=k+1) (by omega)
       have c2:=As.rd (i:=a) (by omega)
       simp(disch:=omega)only[go_sem,e1,c1,c2]
       refine (less_int _ _ _).mono ?_
       rintro _ hs2 ⟨rfl,fhs2⟩
       have fs2:Fr hs hs2:=Fr.trans ((Fr.refl hs).bJ (by omega)) fhs2
       have As2:=As.fr fs2
       have Fs2:=fxt Fs (Fx.of fs2)
       cases hl:ltInt e[k+1]! e[a]! with
       |true=>
        rw[scD_f (λhh=>by have:=hh.2;simp [hl] at this)] at hS;simp(disch:=omega)only[go_sem,hl];exact⟨by rw[←hS];exact aA rfl,As2,Fs2⟩
       |false=>
        rw[scD_t (by omega) (by simp [hl])] at hS;simp(disch:=omega)only[go_sem,hl,eK];exact⟨k,by omega,k,aA rfl,by omega,As2,hS,Fs2,rfl⟩
      ·have e1:decide (((u:Nat):Int)<=(k':Int))=false:=decide_eq_false hij
       rw[scD_f (λhh=>hij (by have:=hh.1;omega))] at hS
       simp(disch:=omega)only[go_sem,e1]
       exact⟨by rw[←hS];exact aA rfl,As.fr ((Fr.refl hs).bJ (by omega)),fxt Fs (Fx.of ((Fr.refl hs).bJ (by omega)))⟩
     ·rintro vars h4 ⟨⟨g,rfl⟩,A4,F4⟩
      have hle:=scanDown_le (λx=>!ltInt x e[a]!) e u j
      obtain⟨w,hw⟩: ∃x,scanDown (λx=>!ltInt x e[a]!) e u j=x:=⟨_,rfl⟩
      rw[hw] at hle
      rw[hw]
      rw[hu,hw] at hL
      have sz4:=A4.size
      by_cases hgt:(w:Int)<(u:Int)
      ·have e1:decide ((w:Int)<(u:Int))=true:=decide_eq_true hgt
       rw[if_pos (by omega)] at hL
       simp(disch:=omega)only[go_sem,e1]
       rw[←hL]
       exact⟨aA rfl,A4,by omega,F4⟩
      have e1:decide ((w:Int)<(u:Int))=false:=decide_eq_false hgt
      rw[if_neg (by omega)] at hL
      have c1:=A4.rd (i:=u) (by omega)
      have c2:=A4.rd (i:=w) (by omega)
      have ei:(u:Int)+1=((u+1:Nat):Int):=by omega
      have ej:(w:Int)- 1=((w- 1:Nat):Int):=by omega
      simp(disch:=omega)only[go_sem,e1,c1,c2,A4.get,put_cont,put_cont',ei,ej]
      have W:=A4.swap (i:=u) (j:=w) (nx:=h4.next+16) (by omega) rfl
      exact⟨w- 1,by omega,u+1,w- 1,_,aA rfl,by omega,by omega,by omega,W.1,hL,fxt F4 W.2,rfl⟩
   ·rintro vars h5 ⟨⟨g,rfl⟩,A5,hlt5,F5⟩
    generalize partLoop ltInt a (i2+1) (j2- 1) e0=r at hP A5 hlt5
    obtain⟨m,e5⟩:=r
    have hlt5:m<b:=hlt5
    have A5:Arr h5 S N e5:=A5
    have sz5:=A5.size
    have c1:=A5.rd (i:=m) (by omega)
    have c2:=A5.rd (i:=a) (by omega)
    simp(disch:=omega)only[go_sem,c1,c2,A5.get,put_cont,put_cont']
    have W:=A5.swap (i:=m) (j:=a) (nx:=h5.next+16) (by omega) rfl
    rw[hP]
    exact⟨rfl,W.1,fxt F5 W.2⟩
theorem partEq_ok (h:H)(S N a b pv:Nat)(d:Array Int)(cp:kL)(hN:N<1000000)(A:Arr h S N d)(hb:b<=N)(hap:a<=pv)(hpb:pv<b):
  Ev T 135 [.sl S 0 N cp,aC a,aC b,aC pv] h (λv h'=>v= aC ((partitionEqual ltInt d a b pv).1:Nat)/\Arr h' S N (partitionEqual ltInt d a b pv).2/\Fx (· =S) h h'):=by
 refine bP c_slices_partitionEqualOrdered_int rfl rfl ?_
 have sz:=A.size
 have c1:=A.rd (i:=a) (by omega)
 have c2:=A.rd (i:=pv) (by omega)
 simp(disch:=omega)only[go_sem,c_slices_partitionEqualOrdered_int,aE,c1,c2,A.get,put_cont,put_cont']
 have W:=A.swap (i:=a) (j:=pv) (nx:=h.next+16) (by omega) rfl
 obtain⟨h1,h1e⟩: ∃h1,h1=((H.mk h.tr (h.next+16)).set S (cE (ints (d.setIfInBounds a d[pv]!).toList))).set S (cE (ints ((d.setIfInBounds a d[pv]!).setIfInBounds pv d[a]!).toList)):=⟨_,rfl⟩
 rw[←h1e] at W ⊢
 obtain⟨A1,F1⟩:=W
 have eb:(b:Int)- 1=((b- 1:Nat):Int):=by omega
 have ea:(a:Int)+1=((a+1:Nat):Int):=by omega
 unfold partitionEqual
 obtain⟨e0,he⟩: ∃e,swp d a pv=e:=⟨_,rfl⟩
 rw[he] at A1 ⊢
 clear h1e c1 c2 A
 simp(disch:=omega)only[go_sem,ea,eb]
 refine cF (λvs hh=>(∃g:Nat->V,vs= [.sl S 0 N cp,aC a,aC b,aC pv,g 4,aC (((partEqLoop ltInt a (a+1) (b- 1) e0).1:Nat):Int),g 6,g 7,g 8,g 9])/\Arr hh S N (partEqLoop ltInt a (a+1) (b- 1) e0).2/\Fx (· =S) h hh) ?_ ?_
 ·refine aJ (λk' vs hh=> ∃(i j:Nat) (e:Array Int),(∃g:Nat->V,vs= [.sl S 0 N cp,aC a,aC b,aC pv,g 4,aC i,aC j,g 7,g 8,g 9])/\a<i/\i<=b+1/\j<b/\Arr hh S N e/\partEqLoop ltInt a i j e=partEqLoop ltInt a (a+1) (b- 1) e0/\Fx (· =S) h hh/\k'=j) (b- 1)
   ⟨a+1,b- 1,e0,aA rfl,by omega,by omega,by omega,A1,rfl,F1,rfl⟩ ?_
  obtain⟨R2,hR2⟩:=AS (partEqLoop ltInt a (a+1) (b- 1) e0)
  rw[hR2]
  clear hR2 F1 A1 h1 he e0
  rintro k' vars h3 ⟨i,j,e,⟨g,rfl⟩,hi1,hi2,hj,A3,hL,F3,hkk⟩
  rw[partEqLoop_eq] at hL
  simp(disch:=omega)only[go_sem]
  refine cF (λvs hh=>(∃g:Nat->V,vs= [.sl S 0 N cp,aC a,aC b,aC pv,g 4,aC (scanUp (λx=>!ltInt e[a]! x) e j i:Nat),aC (j:Nat),g 7,g 8,g 9])/\Arr hh S N e/\Fx (· =S) h hh) ?_ ?_
  ·refine aJ (λk' vs hh=> ∃(k:Nat),(∃g:Nat->V,vs= [.sl S 0 N cp,aC a,aC b,aC pv,g 4,aC (k:Nat),aC (j:Nat),g 7,g 8,g 9])/\i<=k/\k<=N+2/\Arr hh S N e/\scanUp (λx=>!ltInt e[a]! x) e j k=scanUp (λx=>!ltInt e[a]! x) e j i/\Fx (· =S) h hh/\k'=j+1-k) (j+1-i)
    ⟨i,aA rfl,by omega,by omega,A3,rfl,F3,rfl⟩ ?_
   rintro k' vars hs ⟨k,⟨g,rfl⟩,hk1,hk2,As,hS,Fs,rfl⟩
   by_cases hij:(k:Int)<=((j:Nat):Int)
   ·have e1:decide ((k:Int)<=((j:Nat):Int))=true:=decide_eq_true hij
    have eK:(k:Int)+1=((k+1:Nat):Int):=by omega
    have szs:=As.size
    have c1:=As.rd (i:=k) (by omega)
    have c2:=As.rd (i:=a) (by omega)
    simp(disch:=omega)only[go_sem,e1,c1,c2]
    refine (less_int _ _ _).mono ?_
    rintro _ hs2 ⟨rfl,fhs2⟩
    have fs2:Fr hs hs2:=Fr.trans ((Fr.refl hs).bJ (by omega)) fhs2
    have As2:=As.fr fs2
    have Fs2:=fxt Fs (Fx.of fs2)
    cases hl:ltInt e[a]! e[k]! with
    |true=>
     rw[scU_f (λhh=>by have:=hh.2;simp [hl] at this)] at hS;simp(disch:=omega)only[go_sem,hl];exact⟨by rw[←hS];exact aA rfl,As2,Fs2⟩
    |false=>
     rw[scU_t (by omega) (by simp [hl])] at hS;simp(disch:=omega)only[go_sem,hl,eK];exact⟨j+1-(k+1),by omega,k+1,aA rfl,by omega,by omega,As2,hS,Fs2,rfl⟩
   ·have e1:decide ((k:Int)<=((j:Nat):Int))=false:=decide_eq_false hij
    rw[scU_f (λhh=>hij (by have:=hh.1;omega))] at hS
    simp(disch:=omega)only[go_sem,e1]
    exact⟨by rw[←hS];exact aA rfl,As.fr ((Fr.refl hs).bJ (by omega)),fxt Fs (Fx.of ((Fr.refl hs).bJ (by omega)))⟩
  ·rintro vars h9 ⟨⟨g,rfl⟩,A9,F9⟩
   have hge:=scanUp_ge (λx=>!ltInt e[a]! x) e j i
   have hhi:=scanUp_hi (λx=>!ltInt e[a]! x) e j i
   obtain⟨u,hu⟩: ∃x,scanUp (λx=>!ltInt e[a]! x) e j i=x:=⟨_,rfl⟩
   rw[hu] at hge hhi
   rw[hu]
   simp(disch:=omega)only[go_sem]
   refine cF (λvs hh=>(∃g:Nat->V,vs= [.sl S 0 N cp,aC a,aC b,aC pv,g 4,aC (u:Nat),aC (scanDown (λx=>ltInt e[a]! x) e u j:Nat),g 7,g 8,g 9])/\Arr hh S N e/\Fx (· =S) h hh) ?_ ?_
   ·refine aJ (λk' vs hh=> ∃(k:Nat),(∃g:Nat->V,vs= [.sl S 0 N cp,aC a,aC b,aC pv,g 4,aC (u:Nat),aC (k:Nat),g 7,g 8,g 9])/\k<=j/\Arr hh S N e/\scanDown (λx=>ltInt e[a]! x) e u k=scanDown (λx=>ltInt e[a]! x) e u j/\Fx (· =S) h hh/\k'=k) j
     ⟨j,aA rfl,by omega,A9,rfl,F9,rfl⟩ ?_
    rintro k' vars hs ⟨k,⟨g,rfl⟩,hk1,As,hS,Fs,hkk⟩
    subst hkk
    by_cases hij:((u:Nat):Int)<=(k':Int)
    ·have e1:decide (((u:Nat):Int)<=(k':Int))=true:=decide_eq_true hij
     obtain⟨k,rfl⟩: ∃k,k'=k+1:=⟨k'- 1,by omega⟩
     have eK:((k+1:Nat):Int)- 1=(k:Int):=by omega
     have szs:=As.size
     have c1:=As.rd (i:=k+1) (by omega)
     have c2:=As.rd (i:=a) (by omega)
     simp(disch:=omega)only[go_sem,e1,c1,c2]
     refine (less_int _ _ _).mono ?_
     rintro _ hs2 ⟨rfl,fhs2⟩
     have fs2:Fr hs hs2:=Fr.trans ((Fr.refl hs).bJ (by omega)) fhs2
     have As2:=As.fr fs2
     have Fs2:=fxt Fs (Fx.of fs2)
     cases hl:ltInt e[a]! e[k+1]! with
     |false=>
      rw[scD_f (λhh=>by have:=hh.2;simp [hl] at this)] at hS;simp(disch:=omega)only[go_sem,hl];exact⟨by rw[←hS];exact aA rfl,As2,Fs2⟩
     |true=>
      rw[scD_t (by omega) (by simp [hl])] at hS;simp(disch:=omega)only[go_sem,hl,eK];exact⟨k,by omega,k,aA rfl,by omega,As2,hS,Fs2,rfl⟩
    ·have e1:decide (((u:Nat):Int)<=(k':Int))=false:=decide_eq_false hij
     rw[scD_f (λhh=>hij (by have:=hh.1;omega))] at hS
     simp(disch:=omega)only[go_sem,e1]
     exact⟨by rw[←hS];exact aA rfl,As.fr ((Fr.refl hs).bJ (by omega)),fxt Fs (Fx.of ((Fr.refl hs).bJ (by omega)))⟩
   ·rintro vars h4 ⟨⟨g,rfl⟩,A4,F4⟩
    have hle:=scanDown_le (λx=>ltInt e[a]! x) e u j
    obtain⟨w,hw⟩: ∃x,scanDown (λx=>ltInt e[a]! x) e u j=x:=⟨_,rfl⟩
    rw[hw] at hle
    rw[hw]
    rw[hu,hw] at hL
    have sz4:=A4.size
    by_cases hgt:(w:Int)<(u:Int)
    ·have e1:decide ((w:Int)<(u:Int))=true:=decide_eq_true hgt
     rw[if_pos (by omega)] at hL
     simp(disch:=omega)only[go_sem,e1]
     rw[←hL]
     exact⟨aA rfl,A4,F4⟩
    have e1:decide ((w:Int)<(u:Int))=false:=decide_eq_false hgt
    rw[if_neg (by omega)] at hL
    have c1:=A4.rd (i:=u) (by omega)
    have c2:=A4.rd (i:=w) (by omega)
    have ei:(u:Int)+1=((u+1:Nat):Int):=by omega
    have ej:(w:Int)- 1=((w- 1:Nat):Int):=by omega
    simp(disch:=omega)only[go_sem,e1,c1,c2,A4.get,put_cont,put_cont',ei,ej]
    have W:=A4.swap (i:=u) (j:=w) (nx:=h4.next+16) (by omega) rfl
    exact⟨w- 1,by omega,u+1,w- 1,_,aA rfl,by omega,by omega,by omega,W.1,hL,fxt F4 W.2,rfl⟩
 ·rintro vars h5 ⟨⟨g,rfl⟩,A5,F5⟩
  simp(disch:=omega)only[go_sem]
  exact⟨A5,F5⟩
end
def PdqC  (n:Nat):Prop:= ∀(h:H) (S N a b:Nat) (lim:Int) (d:Array Int) (cp:kL),N<60000->Arr h S N d->a<=b->b<=N->b-a<=n->0<=lim->lim<1000000->Below ltInt a b d->
 Ev T 111 [.sl S 0 N cp,aC a,aC b,aC lim] h (λ_ h'=> ∃e,Arr h' S N e/\PermIn a b d e/\SortedIn ltInt a b e/\Fx (· =S) h h')
theorem pdq_ok  (n:Nat)(ih: ∀m,m<n->PdqC m):PdqC n:=by
 intro h S N a b lim d cp hN A hab hbN hn hl0 hl1 hB;refine bP c_slices_pdqsortOrdered_int rfl rfl ?_;simp(disch:=omega)only[go_sem,c_slices_pdqsortOrdered_int,aE]
 refine aJ (λk' vars hh=> ∃(a' b':Nat) (l':Int) (wb wp:Bool) (e:Array Int),(∃g:Nat->V,vars= [.sl S 0 N cp,aC (a':Int),aC (b':Int),aC l',.bool wb,.bool wp,g 6,g 7,g 8,g 9,g 10,g 11,g 12,g 13,g 14,g 15,g 16,g 17,g 18,g 19,g 20,g 21,g 22])/\a'<=b'/\b'<=N/\a<=a'/\b'<=b/\0<=l'/\l'<1000000/\Below ltInt a' b' e/\Arr hh S N e/\Fx (· =S) h hh/\
   (∀R,PermIn a' b' e R->SortedIn ltInt a' b' R->PermIn a b d R/\SortedIn ltInt a b R)/\k'=b'-a') (b-a)
  ⟨a,b,lim,true,true,d,aA rfl,hab,hbN,eP _,eP _,hl0,hl1,hB,A,Fx.refl _ h,λR h1 h2=>⟨h1,h2⟩,rfl⟩ ?_
 clear A hB hl0 hl1;rintro k' vars h1 ⟨a',b',l',wb,wp,e,⟨g,rfl⟩,hab',hbN',haa,hbb,hl0,hl1,hB,A,F,K,rfl⟩;obtain⟨m,hm⟩:=AS (b'-a');have em:(b':Int)-(a':Int)=(m:Int):=by omega
 have ez: ∀{x:Array Int} {hx:H},Arr hx S N x->b'<=x.size:=λA=>by rw[A.size];exact hbN'
 by_cases h12:(m:Int)<=12
 ·have e1:decide ((m:Int)<=12)=true:=decide_eq_true h12
  simp(disch:=omega)only[go_sem,em,e1];refine (insertion_ok h1 S N a' b' e cp (by omega) A hbN' hab').mono ?_;rintro _ h2 ⟨A2,F2⟩;obtain⟨p1,p2⟩:=insertionSort_holds swo_ltInt e a' b' hab' (ez A);obtain⟨q1,q2⟩:=K _ p1 p2;simp(disch:=omega)only[go_sem];exact⟨_,A2,q1,q2,fxt F F2⟩
 have e1:decide ((m:Int)<=12)=false:=decide_eq_false h12
 by_cases hl:l'=0
 ·have e2:decide (l'=0)=true:=decide_eq_true hl
  simp(disch:=omega)only[go_sem,em,e1,e2];refine (heapSort_ok h1 S N a' b' e cp (by omega) A hbN' hab').mono ?_;rintro _ h2 ⟨A2,F2⟩;obtain⟨p1,p2⟩:=heapSort_holds swo_ltInt e a' b' hab' (ez A);obtain⟨q1,q2⟩:=K _ p1 p2;simp(disch:=omega)only[go_sem];exact⟨_,A2,q1,q2,fxt F F2⟩
 have e2:decide (l'=0)=false:=decide_eq_false hl;simp(disch:=omega)only[go_sem,em,e1,e2];refine jQ (λvs hh=> ∃(e2:Array Int) (l2:Int) (g:Nat->V),vs= [.sl S 0 N cp,aC (a':Int),aC (b':Int),aC l2,.bool wb,.bool wp,aC m,g 7,g 8,g 9,g 10,g 11,g 12,g 13,g 14,g 15,g 16,g 17,g 18,g 19,g 20,g 21,g 22]/\0<=l2/\l2<1000000/\Arr hh S N e2/\PermIn a' b' e e2/\Fx (· =S) h hh) ?_ ?_
 ·cases wb with
  |true=>
   simp(disch:=omega)only[go_sem];exact .inl ⟨e,l',_,(aA rfl: ∃g:Nat->V,_= [.sl S 0 N cp,aC (a':Int),aC (b':Int),aC l',.bool true,.bool wp,aC m,g 7,g 8,g 9,g 10,g 11,g 12,g 13,g 14,g 15,g 16,g 17,g 18,g 19,g 20,g 21,g 22]).choose_spec,hl0,hl1,A,permIn_refl e a' b',F⟩
  |false=>
   simp(disch:=omega)only[go_sem];refine (break_ok h1 S N a' b' e cp hN A hbN' hab').mono ?_;rintro _ h2 ⟨e2,A2,p2,F2⟩;simp(disch:=omega)only[go_sem];exact .inl ⟨e2,l'- 1,_,(aA rfl: ∃g:Nat->V,_= [.sl S 0 N cp,aC (a':Int),aC (b':Int),aC (l'- 1),.bool false,.bool wp,aC m,g 7,g 8,g 9,g 10,g 11,g 12,g 13,g 14,g 15,g 16,g 17,g 18,g 19,g 20,g 21,g 22]).choose_spec,by omega,by omega,A2,p2,fxt F F2⟩
 clear A F hl0 hl1 hl e2 g;rintro vars h2 ⟨e2,l2,g,rfl,hl0,hl1,A,P2,F⟩;have B2:=hB.perm (by rw[←P2.1];exact ez A) P2;simp(disch:=omega)only[go_sem];refine (pivot_ok h2 S N a' b' e2 cp (by omega) A hbN' (by omega)).mono ?_;rintro _ h3 ⟨p,t,rfl,hp1,hp2,f3⟩;have A3:=A.fr f3;have F3:=fxt F (Fx.of f3);clear A F;simp(disch:=omega)only[go_sem];refine jQ (λvs hh=> ∃(e3:Array Int) (p2:Nat) (t2:Int) (g:Nat->V),vs= [.sl S 0 N cp,aC (a':Int),aC (b':Int),aC l2,.bool wb,.bool wp,aC m,aC p2,aC t2,g 9,g 10,g 11,g 12,g 13,g 14,g 15,g 16,g 17,g 18,g 19,g 20,g 21,g 22]/\a'<=p2/\p2<b'/\Arr hh S N e3/\PermIn a' b' e2 e3/\Fx (· =S) h hh) ?_ ?_
 ·refine bD (λht=>?_) (λht=>?_)
  ·simp(disch:=omega)only[go_sem]
   refine (reverse_ok h3 S N a' b' e2 cp (by omega) A3 hbN' (by omega)).mono ?_;rintro _ h4 ⟨A4,F4⟩;have e5:(b':Int)- 1-((p:Int)-(a':Int))=(((b'- 1)-(p-a'):Nat):Int):=by omega
   simp(disch:=omega)only[go_sem,e5];exact .inl ⟨_,(b'- 1)-(p-a'),1,_,(aA rfl: ∃g:Nat->V,_= [.sl S 0 N cp,aC (a':Int),aC (b':Int),aC l2,.bool wb,.bool wp,aC m,aC ((b'- 1)-(p-a'):Nat),aC 1,g 9,g 10,g 11,g 12,g 13,g 14,g 15,g 16,g 17,g 18,g 19,g 20,g 21,g 22]).choose_spec,by omega,by omega,A4,reverseRange_holds e2 a' b' hab' (ez A3),fxt F3 F4⟩
  ·simp(disch:=omega)only[go_sem]
   exact .inl ⟨e2,p,t,_,(aA rfl: ∃g:Nat->V,_= [.sl S 0 N cp,aC (a':Int),aC (b':Int),aC l2,.bool wb,.bool wp,aC m,aC p,aC t,g 9,g 10,g 11,g 12,g 13,g 14,g 15,g 16,g 17,g 18,g 19,g 20,g 21,g 22]).choose_spec,hp1,hp2,A3,permIn_refl e2 a' b',F3⟩
 have ez2:=ez A3;clear A3 F3 hp1 hp2 f3 p t g;rintro vars h4 ⟨e3,p,t,g,rfl,hp1,hp2,A,P3,F⟩;have B3:=B2.perm ez2 P3;have P23:=permIn_trans _ _ _ a' b' P2 P3;have ez3:b'<=e2.size:=ez2;clear ez2 B2 hB;refine uO (λvs hh=> ∃(e4:Array Int) (g:Nat->V),vs= [.sl S 0 N cp,aC (a':Int),aC (b':Int),aC l2,.bool wb,.bool wp,aC m,aC p,g 8,g 9,g 10,g 11,g 12,g 13,g 14,g 15,g 16,g 17,g 18,g 19,g 20,g 21,g 22]/\Arr hh S N e4/\PermIn a' b' e e4/\Below ltInt a' b' e4/\Fx (· =S) h hh) ?_ ?_
 ·have skip: ∀(vs:List V),(∃g:Nat->V,vs= [.sl S 0 N cp,aC (a':Int),aC (b':Int),aC l2,.bool wb,.bool wp,aC m,aC p,g 8,g 9,g 10,g 11,g 12,g 13,g 14,g 15,g 16,g 17,g 18,g 19,g 20,g 21,g 22])-> ∃(e4:Array Int) (g:Nat->V),vs= [.sl S 0 N cp,aC (a':Int),aC (b':Int),aC l2,.bool wb,.bool wp,aC m,aC p,g 8,g 9,g 10,g 11,g 12,g 13,g 14,g 15,g 16,g 17,g 18,g 19,g 20,g 21,g 22]/\Arr h4 S N e4/\PermIn a' b' e e4/\Below ltInt a' b' e4/\Fx (· =S) h h4:=λvs ⟨g,hv⟩=>⟨e3,g,hv,A,P23,B3,F⟩
  have run: ∀g:Nat->V,Ev T 133 [.sl S 0 N cp,aC (a':Int),aC (b':Int)] h4 (λv h'=> ∃r:Array Int×Bool,v= .bool r.2/\Arr h' S N r.1/\Fx (· =S) h4 h'/\PermIn a' b' e3 r.1/\(r.2=true->SortedIn ltInt a' b' r.1)):=λ_=>by
   refine (partial_ok h4 S N a' b' e3 cp (by omega) A hbN' (by omega)).mono ?_;rintro v h5 ⟨hv,A5,F5⟩;obtain⟨q1,q2⟩:=partialInsertionSort_holds swo_ltInt e3 a' b' (by omega) (ez A) B3;exact⟨_,hv,A5,F5,q1,q2⟩
  cases wb with
  |false=>
   simp(disch:=omega)only[go_sem];exact .inl (skip _ (aA rfl))
  |true=>cases wp with
   |false=>
    simp(disch:=omega)only[go_sem]
    exact .inl (skip _ (aA rfl))
   |true=>
    simp(disch:=omega)only[go_sem]
    refine bD (λht=>?_) (λht=>?_)
    ·simp(disch:=omega)only[go_sem]
     refine (run g).mono ?_
     rintro v h5 ⟨⟨e5,r5⟩,rfl,A5,F5,q1,q2⟩
     have A5:Arr h5 S N e5:=A5
     have q1:PermIn a' b' e3 e5:=q1
     have P5:=permIn_trans _ _ _ a' b' P23 q1
     cases r5 with
     |false=>
      simp(disch:=omega)only[go_sem];exact .inl ⟨e5,_,(aA rfl: ∃g:Nat->V,_= [.sl S 0 N cp,aC (a':Int),aC (b':Int),aC l2,.bool true,.bool true,aC m,aC p,g 8,g 9,g 10,g 11,g 12,g 13,g 14,g 15,g 16,g 17,g 18,g 19,g 20,g 21,g 22]).choose_spec,A5,P5,B3.perm (ez A) q1,fxt F F5⟩
     |true=>
      obtain⟨w1,w2⟩:=K _ P5 (q2 rfl);simp(disch:=omega)only[go_sem];exact .inr ⟨by simp,e5,A5,w1,w2,fxt F F5⟩
    ·simp(disch:=omega)only[go_sem]
     exact .inl (skip _ (aA rfl))
 clear A P3 P23 B3 F P2 ez3 e3 e2;rintro vars h5 ⟨e4,g,rfl,A,P4,B4,F⟩;have ez4:=ez A;refine uO (λvs hh=> ∃(g:Nat->V),vs= [.sl S 0 N cp,aC (a':Int),aC (b':Int),aC l2,.bool wb,.bool wp,aC m,aC p,g 8,g 9,g 10,g 11,g 12,g 13,g 14,g 15,g 16,g 17,g 18,g 19,g 20,g 21,g 22]/\Arr hh S N e4/\Fx (· =S) h hh) ?_ ?_
 ·by_cases h0:(0:Int)<(a':Int)
  case neg=>
   have e1:decide ((0:Int)<(a':Int))=false:=decide_eq_false h0;simp(disch:=omega)only[go_sem,e1];exact .inl ⟨_,(aA rfl: ∃g:Nat->V,_= [.sl S 0 N cp,aC (a':Int),aC (b':Int),aC l2,.bool wb,.bool wp,aC m,aC p,g 8,g 9,g 10,g 11,g 12,g 13,g 14,g 15,g 16,g 17,g 18,g 19,g 20,g 21,g 22]).choose_spec,A.fr ((Fr.refl h5).bJ (by omega)),fxt F (Fx.of ((Fr.refl h5).bJ (by omega)))⟩
  have e1:decide ((0:Int)<(a':Int))=true:=decide_eq_true h0;have ea:(a':Int)- 1=((a'- 1:Nat):Int):=by omega
  have c1:=A.rd (i:=a'- 1) (by omega);have c2:=A.rd (i:=p) (by omega);simp(disch:=omega)only[go_sem,e1,ea,c1,c2];refine (less_int _ _ _).mono ?_;rintro _ h6 ⟨rfl,fh6⟩;have f6:Fr h5 h6:=Fr.trans ((Fr.refl h5).bJ (by omega)) fh6;have A6:=A.fr f6;have F6:=fxt F (Fx.of f6)
  cases hl:ltInt e4[a'- 1]! e4[p]! with
  |true=>
   simp(disch:=omega)only[go_sem,hl];exact .inl ⟨_,(aA rfl: ∃g:Nat->V,_= [.sl S 0 N cp,aC (a':Int),aC (b':Int),aC l2,.bool wb,.bool wp,aC m,aC p,g 8,g 9,g 10,g 11,g 12,g 13,g 14,g 15,g 16,g 17,g 18,g 19,g 20,g 21,g 22]).choose_spec,A6,F6⟩
  |false=>
   obtain⟨w1,w2,w3,w4,w5⟩:=round_eq swo_ltInt (partitionEqual_holds ltInt) (by omega) hp1 hp2 ez4 B4 hl (Prod.eta (partitionEqual ltInt e4 a' b' p)).symm;simp(disch:=omega)only[go_sem,hl];refine (partEq_ok h6 S N a' b' p e4 cp (by omega) A6 hbN' hp1 hp2).mono ?_;rintro _ h7 ⟨rfl,A7,F7⟩;simp(disch:=omega)only[go_sem];refine .inr ⟨by simp,b'-(partitionEqual ltInt e4 a' b' p).1,by omega,(partitionEqual ltInt e4 a' b' p).1,b',l2,wb,wp,_,aA rfl,w2,hbN',by omega,hbb,hl0,hl1,w4,A7,fxt F6 F7,λR r1 r2=>?_,rfl⟩;obtain⟨t1,t2⟩:=w5 R r1 r2;exact K R (permIn_trans _ _ _ a' b' P4 t1) t2
 clear A F;rintro vars h6 ⟨g,rfl,A,F⟩;have e8:=tdivN m (k:=8) (m:=8) rfl;simp(disch:=omega)only[go_sem];refine (partition_ok h6 S N a' b' p e4 cp (by omega) A hbN' hp1 hp2).mono ?_;obtain⟨r,hr⟩:=AS (partition ltInt e4 a' b' p);rw[hr];obtain⟨mid,ap,e5⟩:=r;obtain⟨w1,w2,w3,w4,w5,w6,w7⟩:=round_part swo_ltInt (partition_holds ltInt) hp1 hp2 ez4 B4 hr;rintro _ h7 ⟨rfl,A7,F7⟩;have A7:Arr h7 S N e5:=A7;have F7:=fxt F F7;have el:(mid:Int)-(a':Int)=((mid-a':Nat):Int):=by omega
 have er:(b':Int)-(mid:Int)=((b'-mid:Nat):Int):=by omega
 have e1:(mid:Int)+1=((mid+1:Nat):Int):=by omega
 simp(disch:=omega)only[go_sem,el,er,e8];refine bD (λht=>?_) (λht=>?_)
 ·simp(disch:=omega)only[go_sem]
  refine (ih (mid-a') (by omega) h7 S N a' mid l2 e5 cp hN A7 w1 (by omega) (eP _) hl0 hl1 w4).mono ?_;rintro _ h8 ⟨L,A8,p8,s8,F8⟩;obtain⟨u1,u2⟩:=w6 L p8 s8;simp(disch:=omega)only[go_sem,e1];refine⟨b'-(mid+1),by omega,mid+1,b',l2,_,ap,L,aA rfl,by omega,hbN',by omega,hbb,hl0,hl1,u1,A8,fxt F7 F8,λR r1 r2=>?_,rfl⟩;obtain⟨t1,t2⟩:=u2 R r1 r2;exact K R (permIn_trans _ _ _ a' b' P4 t1) t2
 ·simp(disch:=omega)only[go_sem,e1]
  refine (ih (b'-(mid+1)) (by omega) h7 S N (mid+1) b' l2 e5 cp hN A7 (by omega) hbN' (eP _) hl0 hl1 w5).mono ?_;rintro _ h8 ⟨L,A8,p8,s8,F8⟩;obtain⟨u1,u2⟩:=w7 L p8 s8;simp(disch:=omega)only[go_sem];refine⟨mid-a',by omega,a',mid,l2,_,ap,L,aA rfl,by omega,by omega,haa,by omega,hl0,hl1,u1,A8,fxt F7 F8,λR r1 r2=>?_,rfl⟩;obtain⟨t1,t2⟩:=u2 R r1 r2;exact K R (permIn_trans _ _ _ a' b' P4 t1) t2
theorem pdq_all  (n:Nat):PdqC n:=by
 induction n using Nat.strongRecOn with
 |_ n ih=>exact pdq_ok n  ih
theorem sortArr_ok (h:H)(S N:Nat)(d:Array Int)(cp:kL)(hN:N<60000)(A:Arr h S N d):
  Ev T 87 [.sl S 0 N cp] h (λ_ h'=> ∃e,Arr h' S N e/\PermIn 0 N d e/\SortedIn ltInt 0 N e/\Fx (· =S) h h'):=by
 refine bP c_slices_Sort_int_int rfl rfl ?_
 have hb:bitsLen N<=16:=(bitsLen_le_iff _ 16).2 (by omega)
 simp(disch:=omega)only[go_sem,c_slices_Sort_int_int,aE,wrap_u64_in (n:=(N:Int)) (by omega) (by omega)]
 refine (len_ok N h (by omega)).mono ?_
 rintro _ h1 ⟨rfl,hh⟩
 subst hh
 simp(disch:=omega)only[go_sem]
 refine (pdq_all N h1 S N 0 N _ d cp hN A (by omega) (by omega) (by omega) (by omega) (by omega) (.inl rfl)).mono ?_
 rintro _ h2 ⟨e,A2,p,s,F⟩
 simp(disch:=omega)only[go_sem]
 exact⟨e,A2,p,s,F⟩
theorem arr_list {l:List Int}{N:Nat}(hl:l.length=N){e:Array Int}(hp:PermIn 0 N l.toArray e)(hs:SortedIn ltInt 0 N e):e.toList.Perm l/\e.toList.Pairwise (· <= ·):=by
 obtain⟨p1,p2,p3⟩:=hp;have hsz:e.size=N:=by rw[p1];simpa using hl
 refine⟨?_,?_⟩
 ·have a1:(e.extract 0 N).toList=e.toList:=by rw[←hsz];simp
  have a2:(l.toArray.extract 0 N).toList=l:=by rw[←hl];simp
  rwa [a1,a2] at p3
 ·rw[List.pairwise_iff_getElem]
  intro i j hi hj hij;have hj':j<N:=by simpa [hsz] using hj
  have:=hs i j (gK _) hij hj';unfold ltInt at this;have e1:e[i]! =e.toList[i]:=by simp at hi;simp [hi]
  have e2:e[j]! =e.toList[j]:=by simp at hj;simp [hj]
  rw[e1,e2] at this;simpa using this
theorem sort_ok (h:H)(S:Nat)(l:List Int)(cp:kL)(hN:l.length<60000)(hg:h.get S=cE (ints l))(hS:S<h.next):
  Ev T 87 [.sl S 0 l.length cp] h (λ_ h'=> ∃l',h'.get S=cE (ints l')/\l'.Perm l/\l'.Pairwise (· <= ·)/\Fx (· =S) h h'):=by
 refine (sortArr_ok h S l.length l.toArray cp hN ⟨hg,by simp,hS⟩).mono ?_
 rintro _ h' ⟨e,A,p,s,F⟩
 obtain⟨q1,q2⟩:=arr_list rfl p s
 exact⟨e.toList,A.get,q1,q2,F⟩
theorem asc_perm {a b:List Int}(h:a.Perm b)(ha:a.Pairwise (· <= ·))(hb:b.Pairwise (· <= ·)):a=b:=
 h.eq_of_pairwise (λ_ _ _ _ h1 h2=>Int.le_antisymm h1 h2) ha hb
end Go.Proofs.YtapfcpkecmmagaaGreat
namespace Go.Proofs.YtapfcpkecmmagaaGreat
open Go Go.Ay Go.Pm
set_option maxRecDepth 100000
theorem values1_ok (id b:Nat)(vl:V)(l:List Int)(h:H)(hn:l.length<1000000)(J:Nat->H->Prop)(D:H->Prop)(h0:J 0 h)
  (hk: ∀i hh,J i hh->hh.get b=cE [vl]/\SI hh vl l)
  (hy: ∀i hh,i<l.length->J i hh->Ey T id [aC (l.getD i 0)] hh (λv h'=>v= .bool true/\J (i+1) h'∨v= .bool false/\D h')):
  Ev T 180 [.yl id,.ptr b 0] h (λ_ h'=>J l.length h'∨D h'):=by
 refine bP c_slices_Values_int_int_1 rfl rfl ?_
 obtain⟨g0,s0⟩:=hk 0 h h0
 have cb:h.cell b 0=some vl:=by rw[H.aF g0];rfl
 have lv:=s0.lens
 simp(disch:=omega)only[go_sem,c_slices_Values_int_int_1,aE,cb,lv]
 refine aJ (λk' vars hh=> ∃(i:Nat),(∃g:Nat->V,vars= [.yl id,.ptr b 0,g 2,vl,aC (l.length:Int),aC i,g 6,g 7])/\i<=l.length/\J i hh/\k'=l.length-i) l.length
  ⟨0,aA rfl,gK _,h0,rfl⟩ ?_
 rintro k' vars h2 ⟨i,⟨g,rfl⟩,hi,hJ,rfl⟩
 by_cases hlt:(i:Int)<(l.length:Int)
 ·have e1:=mF hlt
  obtain⟨g2,s2⟩:=hk i h2 hJ
  obtain⟨id2,off,sh,hid,hc⟩:=s2.open
  have ci:=hc i (by omega)
  simp(disch:=omega)only[go_sem,e1,sh.ixa,ci]
  refine (hy i h2 (by omega) hJ).mono ?_
  rintro v h3 (⟨rfl,h4⟩|⟨rfl,h4⟩)
  ·simp(disch:=omega)only[go_sem]
   rw[iO i]
   exact⟨l.length-(i+1),by omega,i+1,aA rfl,by omega,h4,rfl⟩
  ·simp(disch:=omega)only[go_sem]
   exact .inr h4
 have e1:=iG hlt
 obtain rfl:i=l.length:=by omega
 simp(disch:=omega)only[go_sem,e1]
 exact .inl hJ
theorem collect_ok (b:Nat)(vl:V)(l:List Int)(h:H)(hn:l.length<100000)(hb:h.get b=cE [vl])(hbn:b<h.next)(hv:SI h vl l):
  Ev T 179 [.fn 180 [] [.ptr b 0]] h (λv h'=>Own h' v 1 (ints l) h.next/\(v= .aB∨ ∃id cap,v= .sl id 0 l.length cap/\h.next<=id/\id<h'.next/\h'.get id=cE (ints l))/\Fr h h'):=by
 refine bP c_slices_Collect_int rfl rfl ?_
 simp(disch:=omega)only[go_sem,c_slices_Collect_int,aE]
 refine Ev.mono (Q:=λv h'=>Own h' v 1 (ints l) h.next/\(v= .aB∨ ∃id cap,v= .sl id 0 l.length cap/\h.next<=id/\id<h'.next/\h'.get id=cE (ints l))/\Fr h h') ?_ (λv h' hv=>by simp(disch:=omega)only[go_sem];exact hv)
 refine bP c_slices_AppendSeq_int_int rfl rfl ?_
 simp(disch:=omega)only[go_sem,c_slices_AppendSeq_int_int,aE,iW (x:= .aB) rfl rfl]
 obtain⟨B,hB⟩:=AS h.next
 obtain⟨h1,h1e⟩: ∃h1,h1=h.new (.cells false [.aB]):=⟨_,rfl⟩
 have g1:h1.get B=cE [.aB]:=by rw[h1e,←hB,H.aM]
 have n1:h1.next=B+1:=by rw[h1e,H.aV,hB]
 have f1:Fr h h1:=by rw[h1e];exact (Fr.refl h).new _
 rw[←h1e,hB]
 refine⟨rfl,?_⟩
 refine pY λr hr=>?_
 refine (values1_ok (B+1) b vl l _ (by omega) (λi hh=>hh.get (B+1)=some (.loop r)/\B+1<hh.next/\Fr h hh/\ ∃va,hh.get B=cE [va]/\Own hh va 1 (ints (l.take i)) (B+2)/\(va= .aB∨ ∃id cap,va= .sl id 0 i cap/\B+2<=id/\id<hh.next/\hh.get id=cE (ints (l.take i)))) (λ_=>False) ?_ ?_ ?_).mono ?_
 ·have e:=H.aM h1 (.loop r)
  rw[n1] at e
  refine⟨e,by rw[H.aV];omega,f1.new _,.aB,by rw[H.bG h1 (by omega)];exact g1,Own.aB _ _ _,.inl rfl⟩
 ·rintro i hh ⟨_,_,f,_⟩
  exact⟨by rw[f.get b hbn];exact hb,hv.mono f⟩
 ·rintro i hh hi ⟨gr,nr,f,va,gB,ow,sh⟩
  have fG:r.st= .ready:=by rw[hr]
  have hpd:r.pend=none:=by rw[hr]
  refine mV gr (by rw[hr];rfl) fG λh2 g2 n2 o2=>?_
  rw[congrArg eH.assign hr,congrArg eH.vars hr,congrArg eH.pars hr]
  simp(disch:=omega)only[go_sem,List.zip_cons_cons,List.zip_nil_left]
  rw[congrArg eH.body hr]
  have cB:h2.cell B 0=some va:=by unfold H.cell;rw[o2 B (by omega),gB];rfl
  simp(disch:=omega)only[go_sem,cB,dC h2 (z:= aC 0) (v:= aC (l.getD i 0)) rfl rfl,n2]
  obtain⟨h3,h3e⟩: ∃h3,h3=h2.new (.cells false [aC (l.getD i 0)]):=⟨_,rfl⟩
  have g3:h3.get hh.next=cE [aC (l.getD i 0)]:=by rw[h3e,←n2,H.aM]
  have n3:h3.next=hh.next+1:=by rw[h3e,H.aV,n2]
  have o3: ∀k,k<hh.next->k≠B+1->h3.get k=hh.get k:=λk h4 h5=>by rw[h3e,H.bG h2 (by omega),o2 k h5]
  have r3:h3.get (B+1)=some (.loop (lZ r)):=by rw[h3e,H.bG h2 (by omega),g2]
  rw[←h3e]
  have ow3:Own h3 va 1 (ints (l.take i)) (B+2):=ow.mono (by omega) λid off n c e h4 h5=>o3 id h5 (by omega)
  have hli:(l.take i).length=i:=by rw[xL];omega
  obtain⟨h4,a4,p4⟩:=ow3.push (bytes:=8) (SV.one (by omega) g3 (.kn 1)) (n:=i) (m:=1) (by rw[aN,hli,Nat.mul_one]) rfl (by omega) (by omega) (by omega)
  have ap: ∀k,k<B+2->dA va k:=λk hk id off n c e e2=>by
   have:=(ow.in _ _ _ _ e).2.1;omega
  have g4:h4.get B=cE [va]:=by rw[p4.old B (by omega) (ap B (by omega)),o3 B (by omega) (by omega)];exact gB
  have r4:h4.get (B+1)=some (.loop (lZ r)):=by rw[p4.old (B+1) (by omega) (ap (B+1) (by omega))];exact r3
  have pt:dV (cE [va]) h4 B 0 [.sl h3.next 0 (i+1) (.un 1)]=some (h4.set B (cE [.sl h3.next 0 (i+1) (.un 1)])):=bE (by simp) h4 B _
  simp(disch:=omega)only[go_sem,a4,g4,pt]
  refine mU fG hpd (by rw[H.aH h4 (by omega)];exact r4) (.inl ⟨rfl,?_⟩)
  have et:ints (l.take (i+1))=ints (l.take i)++ [aC (l.getD i 0)]:=by
   rw[←List.take_append_getElem hi,kB];simp [ints,List.getD,hi]
  have n4:=p4.next
  have g5:((h4.set B (cE [.sl h3.next 0 (i+1) (.un 1)])).set (B+1) (some (.loop r))).get h3.next=cE (ints (l.take (i+1))):=by
   rw[H.aH _ (by omega),H.aH _ (by omega),p4.get,et]
  refine⟨by rw[H.aT],by simp only[H.cJ];omega,⟨by simp only[H.cJ];have:=f.next;omega,λid hid=>?_⟩,_,by rw[H.aH _ (by omega),H.aT],?_,.inr ⟨h3.next,_,rfl,by omega,by simp only[H.cJ];omega,g5⟩⟩
  ·rw[H.aH _ (by omega),H.aH _ (by omega),p4.old id (by have:=f.next;omega) (ap id (by omega)),o3 id (by have:=f.next;omega) (by omega)]
   exact f.get id hid
  ·exact .inr ⟨h3.next,i+1,_, [],rfl,by rw[aN,xL];omega,.inl rfl,by omega,by simp only[H.cJ];omega,by rw[List.append_nil];exact g5⟩
 ·rintro _ h2 (⟨gr,nr,f,va,gB,ow,sh⟩|h)
  case inr=>exact h.elim
  refine⟨r,gr,by rw[hr];simp,?_⟩
  have cB:(h2.set (B+1) (some (.loop {r with st:= .out}))).cell B 0=some va:=by unfold H.cell;rw[H.aH _ (by omega),gB];rfl
  have en:r.pend.getD .norm= .norm:=by rw[hr];rfl
  rw[en]
  simp(disch:=omega)only[go_sem,cB]
  rw[List.take_length] at ow sh
  refine⟨?_,?_,⟨by simp only[H.cJ];have:=f.next;omega,λid hid=>by rw[H.aH _ (by omega)];exact f.get id hid⟩⟩
  ·refine (ow.mono (by simp only[H.cJ];omega) λid off n c e h4 h5=>H.aH _ (by omega) _).le (by omega)
  ·rcases sh with rfl|⟨id,cap,rfl,h3,h4,h5⟩
   ·exact .inl rfl
   ·exact .inr ⟨id,cap,rfl,by omega,h4,by rw[H.aH _ (by omega)];exact h5⟩
theorem sorted_ok (b:Nat)(vl:V)(l:List Int)(h:H)(h0:0<l.length)(hn:l.length<50000)(hb:h.get b=cE [vl])(hbn:b<h.next)(hv:SI h vl l):
  Ev T 157 [.fn 180 [] [.ptr b 0]] h (λv h'=> ∃id cap l',v= .sl id 0 l.length cap/\h.next<=id/\id<h'.next/\h'.get id=cE (ints l')/\l'.Perm l/\l'.Pairwise (· <= ·)/\Fr h h'):=by
 refine bP c_slices_Sorted_int rfl rfl ?_
 simp(disch:=omega)only[go_sem,c_slices_Sorted_int,aE]
 refine (collect_ok b vl l h (by omega) hb hbn hv).mono ?_
 rintro v h1 ⟨ow,sh,f1⟩
 rcases sh with rfl|⟨id,cap,rfl,h2,h3,h4⟩
 ·exfalso
  rcases ow with ⟨_,e⟩|⟨_,_,_,_,e,_⟩
  ·have:=congrArg List.length e
   rw[aN,List.length_nil] at this
   omega
  ·cases e
 simp(disch:=omega)only[go_sem]
 refine (sort_ok h1 id l cap (by omega) h4 h3).mono ?_
 rintro _ h5 ⟨l',g5,p5,s5,f5⟩
 simp(disch:=omega)only[go_sem]
 exact⟨id,cap,l',rfl,h2,gE h3 f5.next,g5,p5,s5,Nat.le_trans f1.next f5.next,λk hk=>(f5.get k (gE hk f1.next) (λe=>by have:k=id:=e;omega)).trans (f1.get k hk)⟩
section
variable {v vO vR:V} {b C D n:Nat} {r O:LN} {wsO wsR:List V}
structure Frsh (h h':H)(v:V)(l:List Int):Prop where
 ex: ∃id cap,v= .sl id 0 l.length cap/\h.next<=id/\id<h'.next/\h'.get id=cE (ints l)/\(cap= .un 1∨cap= .kn l.length)
 fr:Fr h h'
theorem Frsh.pv {h h':H}{l:List Nat}(f:Frsh h h' v (zi l)){W:Nat->Prop}(hw: ∀id,W id->id<h.next):PV W h' v l:=by
 obtain⟨id,cap,rfl,h1,h2,h3,_⟩:=f.ex;exact⟨SV.all (by rw[aN,Nat.mul_one]) h2 h3 _,λhx=>by have:=hw id hx;omega⟩
theorem Frsh.si {h h':H}{l:List Int}(f:Frsh h h' v l):SI h' v l:=by
 obtain⟨id,cap,rfl,h1,h2,h3,_⟩:=f.ex;exact SV.all (by rw[aN,Nat.mul_one]) h2 h3 _
theorem Frsh.own {h h':H}{l:List Int}(f:Frsh h h' v l):Own h' v 1 (ints l) h.next:=by
 obtain⟨id,cap,rfl,h1,h2,h3,h4⟩:=f.ex;exact .inr ⟨id,l.length,cap, [],rfl,by rw[aN,Nat.mul_one],by rcases h4 with e|e;exact .inl e;exact .inr ⟨e,rfl⟩,h1,h2,by rw[List.append_nil];exact h3⟩
theorem clone_ok (u:V)(l:List Int)(h:H)(h0:0<l.length)(hn:l.length<1000000)(hu:SI h u l):
  Ev T 100 [u] h (λv h'=>Frsh h h' v l):=by
 refine bP c_slices_Clone_api_Perm_int rfl rfl ?_
 have sn:wQ false u=some (.bool false):=by
  rcases hu with ⟨_,e⟩|⟨id,off,len,cap,ro,vs,rfl,_⟩
  ·have:=congrArg List.length e
   rw[aN,List.length_nil] at this;omega
  ·rfl
 simp(disch:=omega)only[go_sem,c_slices_Clone_api_Perm_int,aE,sn]
 have f1:Fr h (h.new (.cells false [])):=(Fr.refl h).new _
 have o1:Own (h.new (.cells false [])) (.sl h.next 0 0 (.kn 0)) 1 [] 0:=Own.new h 1 0 0 [] rfl (gK _)
 obtain⟨h2,a2,p2⟩:=o1.push (bytes:=8) (hu.mono f1) (n:=0) (m:=l.length) rfl (by rw[aN,Nat.mul_one]) (by omega) h0 (by omega)
 have n1:(h.new (.cells false [])).next=h.next+1:=H.aV ..
 rw[n1] at a2
 have n2:=p2.next
 have g2:=p2.get
 rw[n1] at n2 g2
 simp(disch:=omega)only[go_sem,a2]
 refine⟨⟨h.next+1,_,rfl,by omega,by omega,g2,.inl rfl⟩,by omega,λid hid=>?_⟩
 rw[p2.old id (by omega) (λid' off n c e e2=>by cases e;omega)]
 exact f1.get id hid
def CapOk (v:V):Prop:= ∀id off len cap,v= .sl id off len cap->cap= .un 1∨ ∃c,cap= .kn c/\len<=c
theorem Own.capOk {h:H}{ws:List V}(o:Own h v 1 ws b):CapOk v:=by
 rintro id off len cap rfl;rcases o with ⟨e,_⟩|⟨_,_,_,_,e,_,h2,_⟩
 ·cases e
 ·cases e
  rcases h2 with e|⟨e,_⟩
  ·exact .inl e
  ·exact .inr ⟨_,e,eP _⟩
def SRR (h:H)(v:V)(R:List (List (List Int))):Prop:= ∃ws,SV h v 1 ws/\All2 (SR h) ws R/\ ∀w∈ws,CapOk w
theorem SRR.mono {h h':H}{R:List (List (List Int))}(s:SRR h v R)(f:Fr h h'):SRR h' v R:=by
 obtain⟨ws,s,a,k⟩:=s;exact⟨ws,s.mono f,a.mono λ_ _ x=>x.mono f,k⟩
def ChI (h:H)(v:V)(d:Int)(O:List (List Int))(R:List (List (List Int))):Prop:= ∃vO vR,v= .agg [aC d,vO,vR]/\SR h vO O/\SRR h vR R
theorem ChI.mono {h h':H}{d:Int}{O:List (List Int)}{R:List (List (List Int))}(s:ChI h v d O R)(f:Fr h h'):ChI h' v d O R:=by
 obtain⟨vO,vR,e,s1,s2⟩:=s;exact⟨vO,vR,e,s1.mono f,s2.mono f⟩
def PL (W:Nat->Prop)(h:H)(v:V)(r:LN):Prop:= ∃ws,SV h v 1 ws/\Jg W v/\PVs W h ws r/\CapOk v
section
variable {W W':Nat->Prop} {h h' hh:H}
theorem PL.go (p:PL W h v r)(f:Fx W h h')(hw: ∀id,id<h.next->W' id->W id):PL W' h' v r:=by
 obtain⟨ws,s,o,a,k⟩:=p;exact⟨ws,s.fx o f,o.weak s hw,PVs.go a f hw,k⟩
theorem PL.sp (p:PL W h v r):SP h v r:=by
 obtain⟨ws,s,o,a,_⟩:=p;refine⟨ws,s,?_⟩;have hl:=All2.length a
 exact All2.iS (by simpa using hl) λi hi hj=>by
  have:=(All2.get a i hi (by omega)).si;simpa using this
def BlkIn (W:Nat->Prop)(v:V):Prop:= ∀id off n c,v= .sl id off n c->W id
structure CAcc (h hh:H)(C D:Nat)(W:Nat->Prop)(n:Nat)(O:LN)(R:lU)(vO vR:V)(wsO wsR:List V):Prop where
 get:hh.get C=cE [aC n,vO,vR]
 oO:Own hh vO 1 wsO h.next
 oR:Own hh vR 1 wsR h.next
 aO:PVs W hh wsO O
 aR:All2 (PL W hh) wsR R
 bO:BlkIn W vO
 bR:BlkIn W vR
 pO:dA vO C
 pR:dA vR C
 qO:dA vO D
 qR:dA vR D
 d:W D
 cd:C≠D
 dis:Yi vO vR
 wb: ∀id,W id->id<hh.next
 low: ∀id,id<h.next->W id
 hC:h.next<=C
 hD:h.next<=D
 c:W C
 fr:Fr h hh
theorem CAcc.start (hC:h.next<=C)(hC2:C<hh.next)(hD:h.next<=D)(hD2:D<hh.next)(hCD:C≠D)(f:Fr h hh)(hg:hh.get C=cE [aC n,.aB,.aB]):CAcc h hh C D (λid=>id=C∨id=D∨id<h.next) n [] [] .aB .aB [] []:=
 ⟨hg,Own.aB _ _ _,Own.aB _ _ _,trivial,trivial,λ_ _ _ _ e=>(by cases e),λ_ _ _ _ e=>(by cases e),dA.aB _,dA.aB _,dA.aB _,dA.aB _,.inr (.inl rfl),hCD,λ_ _ _ _ e=>(by cases e),λid e=>by rcases e with rfl|rfl|e;exact hC2;exact hD2;exact gE e f.next,λid e=> .inr (.inr e),hC,hD,.inl rfl,f⟩
theorem CAcc.mono {R:lU}(A:CAcc h hh C D W n O R vO vR wsO wsR){h2:H}(f:Fr hh h2):CAcc h h2 C D W n O R vO vR wsO wsR:=
 ⟨by rw[f.get C (A.wb C A.c)];exact A.get,A.oO.fr f,A.oR.fr f,PVs.go A.aO (Fx.of f) (λ_ _ h=>h),A.aR.mono λ_ _ x=>x.go (Fx.of f) (λ_ _ h=>h),A.bO,A.bR,A.pO,A.pR,A.qO,A.qR,A.d,A.cd,A.dis,λid h=>gE (A.wb id h) f.next,A.low,A.hC,A.hD,A.c,A.fr.trans f⟩
theorem CAcc.step {R:lU}(A:CAcc h hh C D W n O R vO vR wsO wsR){v4 v5:V}{o:List Nat}(h4:PV W hh v4 o)(h5:PL W hh v5 r)
  {h6:H} {a k1 k2:Nat} (ha:hh.next<=a) (hb:hh.next<=b) (hab:a≠b) (ha2:a<h6.next) (hb2:b<h6.next) (hl1:wsO.length+1=k1) (hl2:wsR.length+1=k2)
  (gC:h6.get C=cE [aC n,.sl a 0 k1 (.un 1),.sl b 0 k2 (.un 1)]) (ga:h6.get a=cE (wsO++ [v4])) (gb:h6.get b=cE (wsR++ [v5]))
  (old: ∀k,k<hh.next->k≠C->dA vO k->dA vR k->h6.get k=hh.get k):
  CAcc h h6 C D (λid=>W id∨id=a∨id=b) n (O++ [o]) (R++ [r]) (.sl a 0 k1 (.un 1)) (.sl b 0 k2 (.un 1)) (wsO++ [v4]) (wsR++ [v5]):=by
 have hf:Fx W hh h6:=⟨by omega,λid h1 h2=>old id h1 (λe=>h2 (e▸A.c)) (λid' off n c e e2=>h2 (e2▸A.bO _ _ _ _ e)) (λid' off n c e e2=>h2 (e2▸A.bR _ _ _ _ e))⟩
 have hw: ∀id,id<hh.next->(W id∨id=a∨id=b)->W id:=λid h1 h2=>by
  rcases h2 with h2|h2|h2
  ·exact h2
  ·omega
  ·omega
 have cn:=A.wb C A.c
 have dn:=A.wb D A.d
 have fn:=A.fr.next
 refine⟨gC,.inr ⟨a,k1,_, [],rfl,by rw[jD];simp;omega,.inl rfl,by omega,ha2,by rw[List.append_nil];exact ga⟩,.inr ⟨b,k2,_, [],rfl,by rw[jD];simp;omega,.inl rfl,by omega,hb2,by rw[List.append_nil];exact gb⟩,
  (PVs.go A.aO hf hw).append (PVs.one (PV.go h4 hf hw)),(A.aR.mono λ_ _ x=>x.go hf hw).append ⟨h5.go hf hw,trivial⟩,λid off n c e=>by cases e;exact .inr (.inl rfl),λid off n c e=>by cases e;exact .inr (.inr rfl),
  dA.sl (by omega),dA.sl (by omega),dA.sl (by omega),dA.sl (by omega),.inl A.d,A.cd,λi o n c e i' o' n' c' e'=>by cases e;cases e';exact hab,λid h1=>?_,λid h1=> .inl (A.low id h1),A.hC,A.hD,.inl A.c,⟨by omega,λid hid=>?_⟩⟩
 ·rcases h1 with h1|h1|h1
  ·have:=A.wb id h1;omega
  ·omega
  ·omega
 ·have hC:=A.hC
  rw[old id (by omega) (by omega) (λid' off n c e e2=>by have:=(A.oO.in _ _ _ _ e).2.1;omega) (λid' off n c e e2=>by have:=(A.oR.in _ _ _ _ e).2.1;omega)]
  exact A.fr.get id hid
theorem CAcc.box {R:lU}(A:CAcc h hh C D W n O R vO vR wsO wsR){h3:H}{o:Option Ob}(e:h3=hh.set D o):CAcc h h3 C D W n O R vO vR wsO wsR:=by
 subst e;have f:Fx W hh (hh.set D o):=Fx.set hh A.d o;have hD:=A.wb D A.d
 refine⟨by rw[H.aH hh A.cd];exact A.get,A.oO.mono (eP _) λid off m c e _ _=>H.aH hh (λe2=>A.qO _ _ _ _ e e2.symm) o,A.oR.mono (eP _) λid off m c e _ _=>H.aH hh (λe2=>A.qR _ _ _ _ e e2.symm) o,
  PVs.go A.aO f (λ_ _ h=>h),A.aR.mono λ_ _ x=>x.go f (λ_ _ h=>h),A.bO,A.bR,A.pO,A.pR,A.qO,A.qR,A.d,A.cd,A.dis,A.wb,A.low,A.hC,A.hD,A.c,?_⟩
 exact A.fr.set A.hD o
end
def ChW (W:Nat->Prop)(h:H)(v:V)(n:Nat)(O:LN)(R:lU):Prop:= ∃vO vR wsO wsR,v= .agg [aC n,vO,vR]/\SV h vO 1 wsO/\Jg W vO/\PVs W h wsO O/\SV h vR 1 wsR/\Jg W vR/\All2 (PL W h) wsR R
section
variable {W W':Nat->Prop} {h h' hh:H}
theorem ChW.go {R:lU}(c:ChW W h v n O R)(f:Fx W h h')(hw: ∀id,id<h.next->W' id->W id):ChW W' h' v n O R:=by
 obtain⟨vO,vR,wsO,wsR,e,s1,o1,a1,s2,o2,a2⟩:=c;exact⟨vO,vR,wsO,wsR,e,s1.fx o1 f,o1.weak s1 hw,PVs.go a1 f hw,s2.fx o2 f,o2.weak s2 hw,a2.mono λ_ _ x=>x.go f hw⟩
theorem ChW.mono {R:lU}(c:ChW W h v n O R)(f:Fr h h'):ChW W h' v n O R:=c.go (Fx.of f) λ_ _ h=>h
theorem ChW.ch {R:lU}(c:ChW W h v n O R):ChI h v (n:Int) (O.map zi) (R.map (List.map zi)):=by
 obtain⟨vO,vR,wsO,wsR,e,s1,o1,a1,s2,o2,a2⟩:=c;refine⟨vO,vR,e,⟨wsO,s1,?_⟩,⟨wsR,s2,?_,λw hw=>?_⟩⟩
 ·have hl:=All2.length a1
  exact All2.iS (by simpa using hl) λi hi hj=>by
   have:=(All2.get a1 i hi (by omega)).si;simpa using this
 ·have hl:=All2.length a2
  exact All2.iS (by simpa using hl) λi hi hj=>by
   have:=(All2.get a2 i hi (by omega)).sp;simpa using this
 ·obtain⟨i,hi,rfl⟩:=uH.1 hw
  have hl:=All2.length a2;obtain⟨_,_,_,_,k⟩:=All2.get a2 i hi (by omega);exact k
theorem off_of {sz:Nat}{ws:List V}(o:Own h v sz ws b):Jg (λid=>id<b) v:=by
 cases v with
 |sl id off m c=>exact λe=>by have:=(o.in _ _ _ _ rfl).2.1;omega
 |_=>trivial
theorem CAcc.chw {R:lU}(A:CAcc h hh C D W n O R vO vR wsO wsR):ChW (λid=>id<h.next) hh (.agg [aC n,vO,vR]) n O R:=
 ⟨vO,vR,wsO,wsR,rfl,A.oO.sv,off_of A.oO,PVs.weak A.aO λid _ h=>A.low id h,A.oR.sv,off_of A.oR,A.aR.mono λ_ _ x=>x.go (Fx.refl _ _) λid _ h=>A.low id h⟩
end
theorem Xo {h:H}{O:List (List Int)}(s:SR h v O):v.one=true:=by
 obtain⟨_,t,_⟩:=s;exact t.cW.2.1
theorem Xy {h:H}{O:List (List (List Int))}(s:SRR h v O):v.one=true:=by
 obtain⟨_,t,_⟩:=s;exact t.cW.2.1
end
def ChL (τ:jI)(n j:Nat)(o:List Nat)(r:LN):Prop:=o.Pairwise (· < ·)/\(∀p,p∈o↔p∈(τ j).orb)/\r.length=o.length/\ ∀k,k<o.length-> ∀y,(τ j).to (o.getD k 0)=some y->r.getD k []=Gg τ (n-(j+1)) (j+1) y
theorem perm_zi {l:List Int}{a:List Nat}(h:l.Perm (zi a)): ∃q,l=zi q/\q.Perm a:=by
 refine⟨l.map Int.toNat,?_,?_⟩
 ·unfold zi
  rw[List.map_map];refine (List.map_id l).symm.trans (List.map_congr_left λx hx=>?_);have:=h.mem_iff.1 hx;obtain⟨k,_,rfl⟩:=jH.1 this;simp
 ·have:=h.map Int.toNat
  have e:(zi a).map Int.toNat=a:=by
   unfold zi;rw[List.map_map];exact (List.map_congr_left λx _=>by simp).trans (List.map_id a)
  rwa [e] at this
theorem zi_asc {q:List Nat}(h:(zi q).Pairwise (· <= ·))(nd:q.Nodup):q.Pairwise (· < ·):=by
 unfold zi at h;rw[List.pairwise_map] at h;rw[List.nodup_iff_pairwise_ne] at nd;exact (h.and nd).imp λ⟨h1,h2⟩=>by omega
theorem values_ok (u:V)(hu1:u.cells= [u])(hu2:u.one=true)(h:H):Ev T 158 [u] h (λv h'=>v= .fn 180 [] [.ptr h.next 0]/\h'.get h.next=cE [u]/\h'.next=h.next+1/\Fr h h'):=by
 refine bP c_slices_Values_int_int rfl rfl ?_;simp(disch:=omega)only[go_sem,c_slices_Values_int_int,aE,iW hu1 hu2];exact (Fr.refl h).new _
theorem getD_app_old {α:Type}{a:List α}{x:α}{j:Nat}{d:α}(h:j<a.length):(a++ [x]).getD j d=a.getD j d:=by
 rw[List.getD,List.getD,wY h]
theorem getD_app_new {α:Type}{a:List α}{x d:α}:(a++ [x]).getD a.length d=x:=by
 rw[List.getD,List.getElem?_append_right (eP _),Nat.sub_self];rfl
theorem tchain_ok (h:H)(n tid L:Nat)(F:Nat->V)(τ:jI)(hn:n<=7)(R:TwR h n tid L F τ)(t:jJ n 0 τ):
  Ev T 117 [.ptr tid 0] h (λv h'=> ∃O R',ChW (λid=>id<h.next) h' v n O R'/\dK n (S n τ 0) O R'/\Fr h h'):=by
 refine bP c_chain_tower_chain rfl rfl ?_
 obtain⟨B,hB⟩:=AS h.next
 have tn:=R.tn
 have ln:=R.ln
 have ct:h.cell tid 0=some (aC n):=by rw[H.aF R.t];rfl
 have bl:mM [aC 0,.aB,.aB] [(0,1,aC n)]=some (.agg [aC n,.aB,.aB]):=by
  have e1:putAt [aC 0,.aB,.aB] 0 [aC n]=some [aC n,.aB,.aB]:=by simp [putAt]
  simp [mM,fU,e1,V.cells,V.one]
 obtain⟨h1,h1e⟩: ∃h1,h1=(h.new (.cells false [aC 0,.aB,.aB])).new (.cells false [aC 0,.aB,.aB]):=⟨_,rfl⟩
 have n1:h1.next=B+2:=by rw[h1e,H.aV,H.aV,hB]
 have g1:h1.get (B+1)=cE [aC 0,.aB,.aB]:=by
  rw[h1e];have:=H.aM (h.new (.cells false [aC 0,.aB,.aB])) (.cells false [aC 0,.aB,.aB]);rwa [H.aV,hB] at this
 have g0:h1.get B=cE [aC 0,.aB,.aB]:=by rw[h1e,H.bG _ (by rw[H.aV,hB];omega),←hB,H.aM]
 have f1:Fr h h1:=by rw[h1e];exact ((Fr.refl h).new _).new _
 have ct1:h1.cell tid 0=some (aC n):=by rw[f1.cell tn];exact ct
 simp(disch:=omega)only[go_sem,c_chain_tower_chain,aE,hB,ct,bl]
 rw[←h1e]
 simp(disch:=omega)only[go_sem,iM h1 (B+1) 0 (v:= aC n) (u:= .aB) (w:= .aB) rfl rfl rfl,g1,fH]
 obtain⟨h2,h2e⟩: ∃h2,h2=h1.set (B+1) (cE [aC n,.aB,.aB]):=⟨_,rfl⟩
 have n2:h2.next=B+2:=by rw[h2e];exact n1
 have f2:Fr h h2:=by rw[h2e];exact f1.set (by omega) _
 have g2:h2.get (B+1)=cE [aC n,.aB,.aB]:=by rw[h2e,H.aT]
 have g20:h2.get B=cE [aC 0,.aB,.aB]:=by rw[h2e,H.aH _ (by omega)];exact g0
 have cl1:h1.cell tid 1=some (.sl L 0 n (.kn n)):=by rw[H.aF (R.mono f1).t];rfl
 rw[←h2e]
 simp(disch:=omega)only[go_sem,cl1]
 clear h1e h2e f1 g0 g1 ct1 cl1 n1 h1
 refine aJ (λk' vars hh=> ∃(i:Nat) (W:Nat->Prop) (O:LN) (R':lU) (vO vR:V) (wsO wsR:List V),(∃g:Nat->V,vars= [.ptr tid 0,.ptr B 0,.ptr (B+1) 0,g 3,g 4,g 5,g 6,aC n,aC i,g 9,g 10,g 11,g 12,g 13])/\i<=n/\CAcc h hh (B+1) B W n O R' vO vR wsO wsR/\
   hh.get B=cE [aC 0,.aB,.aB]/\O.length=i/\R'.length=i/\(∀j,j<i->ChL τ n j (O.getD j []) (R'.getD j []))/\k'=n-i) n
  ⟨0,_, [], [],_,_,_,_,aA rfl,gK _,CAcc.start (by omega) (by omega) (by omega) (by omega) (by omega) f2 g2,g20,rfl,rfl,λj hj=>by omega,rfl⟩ ?_
 clear f2 g2 g20 n2 h2
 rintro k' vars h2 ⟨i,W,O,R',vO,vR,wsO,wsR,⟨g,rfl⟩,hi,A,gB,lO,lR,hC,rfl⟩
 by_cases hlt:(i:Int)<(n:Int)
 case neg=>
  have e1:=iG hlt;obtain rfl:i=n:=by omega
  have hr:=bU A.get;have nB:=A.fr.next;simp(disch:=omega)only[go_sem,e1,hr,iM h2 B 0 (v:= aC i) (u:=vO) (w:=vR) rfl (SV.cW A.oO.sv).2.1 (SV.cW A.oR.sv).2.1,gB,fH];have hr2:=bU (h:=h2.set B (cE [aC i,vO,vR])) (H.aT ..);have fB:Fx (· =B) h2 (h2.set B (cE [aC i,vO,vR])):=Fx.set h2 (W:=(· =B)) rfl _;simp(disch:=omega)only[go_sem,hr2]
  obtain⟨h3,h3e⟩: ∃h3,h3=h2.set B (cE [aC i,vO,vR]):=⟨_,rfl⟩
  rw[←h3e] at fB ⊢;have A3:=A.box h3e;refine⟨O,R',by rw[←hB];exact A3.chw,?_,A3.fr⟩;have X:=t.chain (O:=O) (R:=R') lO lR (λj hj=>(hC j hj).1) (λj hj=>(hC j hj).2.1) (λj hj=>(hC j hj).2.2.1) (λj hj=>(hC j hj).2.2.2);exact X
 have e1:=mF hlt
 have hin:i<n:=by omega
 have R2:=R.mono A.fr
 have cl:h2.cell tid 1=some (.sl L 0 n (.kn n)):=by rw[H.aF R2.t];rfl
 have co:h2.cell L (i*194+1)=some (F (i*194+1)):=R2.cell hin (by omega)
 have oo:=R2.orb i hin
 obtain⟨iC,_⟩:=t i (gK _) hin
 have hon:=orbn iC hin
 have hpos:0<(τ i).orb.length:=List.length_pos_of_mem iC.base
 simp(disch:=omega)only[go_sem,e1,cl,co]
 refine (values_ok (F (i*194+1)) (SV.cW oo.sv).1 (SV.cW oo.sv).2.1 h2).mono ?_
 rintro _ h3 ⟨rfl,g3,n3,f3⟩
 simp(disch:=omega)only[go_sem]
 have oo3:SI h3 (F (i*194+1)) (zi (τ i).orb):=(show SI h2 _ _ from oo.sv).mono f3
 refine (sorted_ok h2.next _ (zi (τ i).orb) h3 (by rw[aU];exact hpos) (by rw[aU];omega) g3 (by omega) oo3).mono ?_
 rintro _ h4 ⟨P,cp,l',rfl,hP1,hP2,gP,pm,asc,f4⟩
 obtain⟨q,rfl,pmq⟩:=perm_zi pm
 have ascq:=zi_asc asc (pmq.nodup_iff.2 iC.nd)
 have lq:q.length=(τ i).orb.length:=pmq.length_eq
 have memq: ∀p,p∈q↔p∈(τ i).orb:=λp=>pmq.mem_iff
 rw[aU,←lq]
 have A4:=A.mono (f3.trans f4)
 have pq:PV W h4 (.sl P 0 q.length cp) q:=⟨SV.all (by rw[aN,aU,Nat.mul_one]) hP2 gP _,λhw=>by have:=A.wb P hw;omega⟩
 have gB4:h4.get B=cE [aC 0,.aB,.aB]:=by rw[(f3.trans f4).get B (A.wb B A.d)];exact gB
 clear A gB g3 oo3 oo co cl R2 pm asc
 simp(disch:=omega)only[go_sem]
 refine cF (λvs hh=> ∃(vr:V) (r:LN),(∃g:Nat->V,vs= [.ptr tid 0,.ptr B 0,.ptr (B+1) 0,aC i,.sl P 0 q.length cp,vr,g 6,aC n,aC i,g 9,g 10,g 11,g 12,g 13])/\PL W hh vr r/\ChL τ n i q r/\Fr h4 hh) ?_ ?_
 ·refine aJ (λk' vs hh=> ∃(k:Nat) (vr:V) (ws:List V) (r:LN) (W':Nat->Prop),(∃g:Nat->V,vs= [.ptr tid 0,.ptr B 0,.ptr (B+1) 0,aC i,.sl P 0 q.length cp,vr,g 6,aC n,aC i,g 9,.sl P 0 q.length cp,aC (q.length:Int),aC k,g 13])/\k<=q.length/\Own hh vr 1 ws h4.next/\PVs W' hh ws r/\BlkIn W' vr/\(∀id,W id->W' id)/\(∀id,W' id->id<hh.next/\(W id∨h4.next<=id))/\r.length=k/\
    (∀j,j<k-> ∀y,(τ i).to (q.getD j 0)=some y->r.getD j []=Gg τ (n-(i+1)) (i+1) y)/\Fr h4 hh/\k'=q.length-k) q.length
   ⟨0,.aB, [], [],W,aA rfl,gK _,Own.aB _ _ _,trivial,λ_ _ _ _ e=>(by cases e),λ_ h=>h,λid h=>⟨A4.wb id h,.inl h⟩,rfl,λj hj=>by omega,Fr.refl _,rfl⟩ ?_
  rintro k' vars h5 ⟨k,vr,ws,r,W',⟨g,rfl⟩,hk,ow,pvs,bl',hW1,hW2,lr,hr,f5,rfl⟩
  by_cases hlt2:(k:Int)<(q.length:Int)
  case neg=>
   have e2:=iG hlt2;obtain rfl:k=q.length:=by omega
   simp(disch:=omega)only[go_sem,e2];refine⟨vr,r,aA rfl,⟨ws,ow.sv,?_,pvs.weak (λid _ h=>hW1 id h),Own.capOk ow⟩,⟨ascq,memq,lr,hr⟩,f5⟩
   cases vr with
   |sl id off m c=>exact λh=>by have:=(ow.in _ _ _ _ rfl).2.1;have:=A4.wb id h;omega
   |_=>trivial
  have e2:=mF hlt2
  have hk':k<q.length:=by omega
  obtain⟨p,hp⟩:=AS (q.getD k 0)
  have pq5:=pq.mono f5
  have ck:h5.cell P k=some (aC p):=by
   rw[H.aF (by rw[f5.get P hP2];exact gP),qZ hk',hp]
  have hpm:p∈(τ i).orb:=(memq p).1 (by rw[←hp,cG hk'];exact List.getElem_mem hk')
  have hpn:=iC.lt hin hpm
  obtain⟨y,hy⟩:=iC.to hpm
  have Y:=iC.isP _ _ hy
  have R5:=R.mono (A4.fr.trans f5)
  have cl:h5.cell tid 1=some (.sl L 0 n (.kn n)):=by rw[H.aF R5.t];rfl
  have cto:h5.cell L (i*194+2+p)=some (F (i*194+2+p)):=R5.cell2 hin (by omega)
  have pto:PV (WT n L F) h5 (F (i*194+2+p)) y:=by
   have:=R5.to i p hin (by omega);rw[hy] at this;exact this
  simp(disch:=omega)only[go_sem,e2,ck,cl,cto]
  refine (least_ok h5 n tid L F τ _ y i hn R5 pto Y hin (t.mono (by omega))).mono ?_
  rintro v6 h6 ⟨p6,Q6,f6⟩
  simp(disch:=omega)only[go_sem]
  refine (clone_ok v6 _ h6 (by rw[aU,Q6.len];omega) (by rw[aU,Q6.len];omega) p6.si).mono ?_
  rintro v7 h7 fr7
  have f7:=fr7.fr
  have p7:PV W' h7 v7 (Gg τ (n-(i+1)) (i+1) y):=fr7.pv λid h=>gE (hW2 id h).1 f6.next
  simp(disch:=omega)only[go_sem,dC h7 (z:= .aB) p7.eN.1 p7.eN.2]
  obtain⟨h8,h8e⟩: ∃h8,h8=h7.new (.cells false [v7]):=⟨_,rfl⟩
  have g8:h8.get h7.next=cE [v7]:=by rw[h8e,H.aM]
  have n8:h8.next=h7.next+1:=by rw[h8e,H.aV]
  have f8:Fr h7 h8:=by rw[h8e];exact (Fr.refl h7).new _
  rw[←h8e]
  have f58:=(f6.trans f7).trans f8
  have ow8:=ow.fr f58
  have hws:=All2.length pvs
  obtain⟨h9,a9,p9⟩:=ow8.push (bytes:=24) (SV.one (by omega) g8 (.kn 1)) (n:=k) (m:=1) (by omega) rfl (by omega) (by omega) (by omega)
  simp(disch:=omega)only[go_sem,a9]
  rw[iO k]
  have n9:=p9.next
  have f9:Fx W' h8 h9:=p9.fx bl'
  have hnext:=f58.next
  have hw9: ∀id,id<h8.next->(W' id∨id=h8.next)->W' id:=λid h1 h2=>by
   rcases h2 with h2|h2
   ·exact h2
   ·omega
  refine⟨q.length-(k+1),by omega,k+1,_,_,r++ [Gg τ (n-(i+1)) (i+1) y],λid=>W' id∨id=h8.next,aA rfl,by omega,p9.own (by omega) rfl (by have:=f5.next;omega),?_,λid off m c e=>by cases e;exact .inr rfl,λid h=> .inl (hW1 id h),λid h=>?_,by rw[jD,lr];rfl,λj hj z hz=>?_,?_,rfl⟩
  ·exact (PVs.go (PVs.go pvs (Fx.of f58) (λ_ _ h=>h)) f9 hw9).append (PVs.one (PV.go (p7.mono f8) f9 hw9))
  ·rcases h with h|h
   ·have:=hW2 id h;exact⟨by omega,this.2⟩
   ·have:=f5.next;exact⟨by omega,.inr (by omega)⟩
  ·by_cases e:j=k
   ·subst e
    rw[hp,hy] at hz
    cases hz
    rw[←lr,getD_app_new]
   ·rw[getD_app_old (by omega)]
    exact hr j (by omega) z hz
  ·refine⟨by have:=f5.next;omega,λid hid=>?_⟩
   rw[p9.old id (by have:=f5.next;omega) (λid' off m c e e2=>by have:=(ow.in _ _ _ _ e).2.1;omega),f58.get id (by have:=f5.next;omega)]
   exact f5.get id hid
 rintro vars h5 ⟨vr,r,⟨g,rfl⟩,pl,hcl,f5⟩
 have A5:=A4.mono f5
 have pq5:=pq.mono f5
 have gB5:h5.get B=cE [aC 0,.aB,.aB]:=by rw[f5.get B (A4.wb B A4.d)];exact gB4
 have cO:h5.cell (B+1) 1=some vO:=by rw[H.aF A5.get];rfl
 have cR:h5.cell (B+1) 2=some vR:=by rw[H.aF A5.get];rfl
 obtain⟨ws,pl1,pl2,pl3,pl4⟩:=pl
 have pl:PL W h5 vr r:=⟨ws,pl1,pl2,pl3,pl4⟩
 have fn5:=A5.fr.next
 have cn5:=A5.wb _ A5.c
 simp(disch:=omega)only[go_sem,cO,cR,dC _ (z:= .aB) (v:= .sl P 0 q.length cp) rfl rfl]
 obtain⟨h6,h6e⟩: ∃h6:H,h6=H.mk ((H.mk h5.tr (h5.next+3)).new (Ob.cells false [.sl P 0 q.length cp])).tr (h5.next+14):=⟨_,rfl⟩
 rw[←h6e]
 have g6:h6.get (h5.next+3)=cE [.sl P 0 q.length cp]:=by rw[h6e];exact H.aM (H.mk h5.tr (h5.next+3)) _
 have n6:h6.next=h5.next+14:=by rw[h6e]
 have o6: ∀k,k≠h5.next+3->h6.get k=h5.get k:=λk hk=>by rw[h6e];exact H.bG (H.mk h5.tr (h5.next+3)) (by simpa using hk) _
 have f6:Fr h5 h6:=⟨by omega,λid hid=>o6 id (by omega)⟩
 have hwO:=All2.length A5.aO
 have hwR:=All2.length A5.aR
 obtain⟨h7,a7,p7⟩:=(A5.oO.fr f6).push (bytes:=24) (SV.one (by omega) g6 (.kn 1)) (n:=i) (m:=1) (by omega) rfl (by omega) (by omega) (by omega)
 have n7:=p7.next
 have oldO: ∀k,k<h5.next->dA vO k->h7.get k=h5.get k:=λk h1 h2=>by rw[p7.old k (by omega) h2,o6 k (by omega)]
 have cR7:h7.cell (B+1) 2=some vR:=by unfold H.cell;rw[oldO (B+1) cn5 A5.pO,A5.get];rfl
 have eR:dI vR vR=true:=A5.oR.sv.dI
 have svr:vr.cells= [vr]/\vr.one=true:=⟨(SV.cW pl1).1,(SV.cW pl1).2.1⟩
 simp(disch:=omega)only[go_sem,a7,cR7,eR,dC _ (z:= .aB) svr.1 svr.2]
 obtain⟨h8,h8e⟩: ∃h8:H,h8=H.mk ((H.mk h7.tr (h5.next+8)).new (Ob.cells false [vr])).tr h7.next:=⟨_,rfl⟩
 rw[←h8e]
 have g8:h8.get (h5.next+8)=cE [vr]:=by rw[h8e];exact H.aM (H.mk h7.tr (h5.next+8)) _
 have n8:h8.next=h7.next:=by rw[h8e]
 have o8: ∀k,k≠h5.next+8->h8.get k=h7.get k:=λk hk=>by rw[h8e];exact H.bG (H.mk h7.tr (h5.next+8)) (by simpa using hk) _
 have oR8:Own h8 vR 1 wsR h.next:=A5.oR.mono (by omega) λid off m c e _ hid=>by
  rw[o8 id (by omega),oldO id hid (λid' off' n' c' e' e2=>A5.dis _ _ _ _ e' _ _ _ _ e e2.symm)]
 obtain⟨h9,a9,p9⟩:=oR8.push (bytes:=24) (SV.one (by omega) g8 (.kn 1)) (n:=i) (m:=1) (by omega) rfl (by omega) (by omega) (by omega)
 have n9:=p9.next
 have apR: ∀k,h5.next<=k->dA vR k:=λk hk id off m c e e2=>by have:=(A5.oR.in _ _ _ _ e).1;omega
 have old9: ∀k,k<h5.next->dA vO k->dA vR k->h9.get k=h5.get k:=λk h1 h2 h3=>by rw[p9.old k (by omega) h3,o8 k (by omega),oldO k h1 h2]
 have gC9:h9.get (B+1)=cE [aC n,vO,vR]:=by rw[old9 _ cn5 A5.pO A5.pR];exact A5.get
 have pt1: ∀(hh:H) (x:V),dV (cE [aC n,vO,vR]) hh (B+1) 1 [x]=some (hh.set (B+1) (cE [aC n,x,vR])):=λhh x=>bE (by simp) hh _ x
 have pt2: ∀(hh:H) (x y:V),dV (cE [aC n,x,vR]) hh (B+1) 2 [y]=some (hh.set (B+1) (cE [aC n,x,y])):=λhh x y=>bE (by simp) hh _ y
 simp(disch:=omega)only[go_sem,a9,gC9,pt1,pt2]
 rw[iO i]
 obtain⟨ha,hb⟩:h6.next=h5.next+14/\h8.next=h5.next+15:=⟨n6,by omega⟩
 rw[ha,hb]
 obtain⟨h10,h10e⟩: ∃h10,h10=(h9.set (B+1) (cE [aC n,.sl (h5.next+14) 0 (i+1) (.un 1),vR])).set (B+1) (cE [aC n,.sl (h5.next+14) 0 (i+1) (.un 1),.sl (h5.next+15) 0 (i+1) (.un 1)]):=⟨_,rfl⟩
 rw[←h10e]
 have o10: ∀k,k≠B+1->h10.get k=h9.get k:=λk hk=>by rw[h10e,H.aH _ hk,H.aH _ hk]
 have n10:h10.next=h5.next+16:=by rw[h10e];show h9.next=_;omega
 have A10:=A5.step (v4:= .sl P 0 q.length cp) (v5:=vr) (o:=q) (r:=r) (h6:=h10) (a:=h5.next+14) (b:=h5.next+15) (k1:=i+1) (k2:=i+1) pq5 pl (by omega) (by omega) (by omega) (by omega) (by omega) (by omega) (by omega) (by rw[h10e,H.aT])
  (by rw[o10 _ (by omega),p9.old _ (by omega) (apR _ (by omega)),o8 _ (by omega),←ha];exact p7.get) (by rw[o10 _ (by omega),←hb];exact p9.get) (λk h1 h2 h3 h4=>by rw[o10 k h2];exact old9 k h1 h3 h4)
 refine⟨n-(i+1),by omega,i+1,_,_,_,_,_,_,_,aA rfl,by omega,A10,?_,by rw[jD,lO];rfl,by rw[jD,lR];rfl,λj hj=>?_,rfl⟩
 ·rw[old9 B (A5.wb B A5.d) A5.qO A5.qR];exact gB5
 ·by_cases e:j=i
  ·subst e
   have e1:(O++ [q]).getD j []=q:=by rw[←lO];exact getD_app_new
   have e2:(R'++ [r]).getD j []=r:=by rw[←lR];exact getD_app_new
   rw[e1,e2]
   exact hcl
  ·rw[getD_app_old (by omega),getD_app_old (by omega)]
   exact hC j (by omega)
end Go.Proofs.YtapfcpkecmmagaaGreat
namespace Go.Ay
set_option maxRecDepth 100000
def sm:Nat->(Nat->Int)->Int
 |0,_=>0
 |n+1,f=>sm n f+f n
theorem jW (f:Nat->Int):sm 0 f=0:=rfl
theorem dS (n:Nat)(f:Nat->Int):sm (n+1) f=sm n f+f n:=rfl
theorem eI {n:Nat}{f g:Nat->Int}(h: ∀k,k<n->f k=g k):sm n f=sm n g:=by
 induction n with
 |zero=>rfl
 |succ n ih=>rw[dS,dS,ih λk hk=>h k (by omega),h n (by omega)]
theorem Gi (n:Nat):sm n (λ_=>0)=0:=by
 induction n with
 |zero=>rfl
 |succ n ih=>rw[dS,ih];rfl
theorem Ci {n:Nat}{f:Nat->Int}(h: ∀k,k<n->f k=0):sm n f=0:=by
 rw[eI h,Gi]
theorem Gj (n:Nat)(f g:Nat->Int):sm n (λk=>f k+g k)=sm n f+sm n g:=by
 induction n with
 |zero=>rfl
 |succ n ih=>rw[dS,dS,dS,ih];omega
theorem Mv (n:Nat)(a:Int)(f:Nat->Int):sm n (λk=>a*f k)=a*sm n f:=by
 induction n with
 |zero=>rw[jW,jW,Int.mul_zero]
 |succ n ih=>rw[dS,dS,ih,Int.mul_add]
theorem Ta (n:Nat)(a:Int)(f:Nat->Int):sm n (λk=>f k*a)=sm n f*a:=by
 induction n with
 |zero=>rw[jW,jW,Int.zero_mul]
 |succ n ih=>rw[dS,dS,ih,Int.add_mul]
theorem Uh (n m:Nat)(f:Nat->Nat->Int):sm n (λi=>sm m (λj=>f i j))=sm m (λj=>sm n (λi=>f i j)):=by
 induction n with
 |zero=>rw[jW];exact (Gi m).symm
 |succ n ih=>
  rw[dS,ih,←Gj];exact eI λj _=>by rw[dS]
theorem Wq (n m:Nat)(f:Nat->Int):sm (n+m) f=sm n f+sm m (λk=>f (n+k)):=by
 induction m with
 |zero=>rw[jW,Int.add_zero];rfl
 |succ m ih=>rw[←Nat.add_assoc,dS,dS,ih,Int.add_assoc]
theorem Nc (n:Nat)(f:Nat->Int):sm (n+1) f=f 0+sm n (λk=>f (k+1)):=by
 rw[show n+1=1+n by omega,Wq,dS,jW,Int.zero_add];congr 1;exact eI λk _=>by rw[Nat.add_comm]
theorem Vn {n t:Nat}(ht:t<n){f:Nat->Int}(h: ∀k,k<n->k≠t->f k=0):sm n f=f t:=by
 induction n with
 |zero=>omega
 |succ n ih=>
  rw[dS]
  by_cases hn:n=t
  ·subst hn
   rw[Ci λk hk=>h k (by omega) (by omega),Int.zero_add]
  ·rw[ih (by omega) λk hk hne=>h k (by omega) hne,h n (by omega) hn,Int.add_zero]
def ab (x:Int):Int:=if x<0 then -x else x
end Go.Ay
