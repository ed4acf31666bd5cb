/- Texts of the claim. -/
import Derived.Test.YtapfcpkecmmagaaGreatDp1
import Derived.Test.YtapfcpkecmmagaaGreatP5a
import Derived.Test.YtapfcpkecmmagaaGreatAy39
import Derived.Test.YtapfcpkecmmagaaGreatC27code
import Derived.Sort.AssemblyPlain
import Derived.Test.YtapfcpkecmmagaaGreatAy26
set_option maxHeartbeats 32000000
namespace Go.Pm
set_option maxRecDepth 100000
section
variable {j p:Nat}
structure Lv where
 gens:rC
 orb:List Nat
 to:Nat->Option (List Nat)
 tr:Nat->Nat
abbrev lB:=Nat->Lv
def Fix (i:Nat)(x:List Nat):Prop:= ∀k,k<i->x.getD k 0=k
def HE (n:Nat)(τ:lB):Nat->Nat->List Nat->Prop
 |_,0,x=>x=cH n
 |i,d+1,x=> ∃p y h,(τ i).to p=some y/\HE n τ (i+1) d h/\x=bE h y
def S (n:Nat)(τ:lB)(i:Nat)(x:List Nat):Prop:=HE n τ i (n-i) x
section
variable {n:Nat} {τ τ':lB} {x y z:List Nat} {i:Nat}
theorem oJ:S n τ n x↔x=cH n:=by unfold S;rw[Nat.sub_self];exact Iff.rfl
theorem lG (hi:i<n):S n τ i x↔ ∃p y h,(τ i).to p=some y/\S n τ (i+1) h/\x=bE h y:=by
 unfold S;rw[show n-i=(n-(i+1))+1 from oq];exact Iff.rfl
theorem Em: ∀(d i:Nat) (x:List Nat),(∀j,i<=j->j<i+d->τ j=τ' j)->(HE n τ i d x↔HE n τ' i d x)
 |0,_,_,_=>Iff.rfl
 |d+1,i,x,h=>by
  simp only[HE];rw[h i (Nat.le_refl _) oq];have a:=λg=>Em d (i+1) g (λj c b=>h j oq oq)
  simp only[a]
theorem Pe (h: ∀j,i<=j->j<n->τ j=τ' j):S n τ i x↔S n τ' i x:=
 Em _ _ _ λj a b=>h j a oq
structure Xw (n j:Nat)(l:Lv):Prop where
 nd:l.orb.Nodup
 base:j∈l.orb
 one:l.to j=some (cH n)
 iff: ∀p,p∈l.orb↔(l.to p).isSome
 isP: ∀p y,l.to p=some y->bV n y
 fix: ∀p y,l.to p=some y->Fix j y
 maps: ∀p y,l.to p=some y->y.getD j 0=p
 gen: ∀p y,l.to p=some y->fE n (· ∈l.gens) y
 gP: ∀s∈l.gens,bV n s
 gF: ∀s∈l.gens,Fix j s
 gN:l.gens.Nodup
 le: ∀q,l.tr q<=l.gens.length
 zero: ∀q,q∉l.orb->l.tr q=0
theorem Xw.lt {l:Lv}(L:Xw n j l)(b:j<n)(c:p∈l.orb):p<n:=by
 obtain⟨y,a⟩:=Option.isSome_iff_exists.1 ((L.iff p).1 c);rw[←L.maps p y a];exact (L.isP p y a).dZ b
theorem Xw.to {l:Lv}(L:Xw n j l)(a:p∈l.orb): ∃y,l.to p=some y:=Option.isSome_iff_exists.1 ((L.iff p).1 a)
theorem Xw.mem {l:Lv}(L:Xw n j l){y:List Nat}(h:l.to p=some y):p∈l.orb:=(L.iff p).2 (by rw[h];rfl)
def Cl (n j:Nat)(τ:lB):Prop:= ∀q y,(τ j).to q=some y-> ∀k s,k<(τ j).tr q->(τ j).gens[k]? =some s->
 ∃u,(τ j).to ((bE y s).getD j 0)=some u/\S n τ (j+1) (bE (bE y s) (dM u))
def Full (l:Lv):Prop:= ∀q∈l.orb,l.tr q=l.gens.length
def Dn (n j:Nat)(τ:lB):Prop:=j+1<n-> ∀s∈(τ (j+1)).gens,fE n (· ∈(τ j).gens) s
def kW (n i:Nat)(τ:lB):Prop:= ∀j,i<=j->j<n->Xw n j (τ j)/\Cl n j τ/\Full (τ j)/\Dn n j τ
theorem kW.mono (t:kW n i τ){k:Nat}(h:i<=k):kW n k τ:=λj a a=>t j oq a
theorem kW.congr (t:kW n i τ)(h: ∀j,i<=j->j<n->τ j=τ' j):kW n i τ':=λj f g=>by
 obtain⟨a,b,c,d⟩:=t j f g;have e:=h j f g;refine⟨e▸a,λq y f k s g a=>?_,e▸c,λc s a=>?_⟩
 ·rw[←e] at f g a ⊢
  obtain⟨u,m,l⟩:=b q y f k s g a;exact⟨u,m,(Pe λk b b=>h k oq b).1 l⟩
 ·rw[←h (j+1) oq c] at a
  rw[←e];exact d c s a
theorem Fix.one (n i:Nat)(hi:i<=n):Fix i (cH n):=λk a=>eX oq
theorem Fix.mul (X:bV n x)(hi:i<=n)(a:Fix i x)(b:Fix i y):Fix i (bE x y):=λk c=>by
 rw[dB (by rw[X.len];omega),a k c,b k c]
theorem Fix.inv (X:bV n x)(hi:i<=n)(a:Fix i x):Fix i (dM x):=λk b=>by
 have:=mX X (show k<n by omega);rwa [a k b] at this
theorem Fix.mono (a:Fix j x)(h:i<=j):Fix i x:=λk b=>a k oq
theorem Fix.succ (a:Fix i x)(h:x.getD i 0=i):Fix (i+1) x:=λk b=>by
 by_cases e:k=i
 ·rw[e];exact h
 ·exact a k oq
theorem Fix.all (X:bV n x)(a:Fix n x):x=cH n:=by
 refine oU (by rw[X.len,gY]) λk b=>?_
 rw[X.len] at b;rw[a k b,eX b]
theorem fE.fix {L:List Nat->Prop}(b: ∀g,L g->bV n g)(hi:i<=n)(a: ∀g,L g->Fix i g)(h:fE n L x):Fix i x:=by
 induction h with
 |one=>exact Fix.one n i hi
 |mul hx hg ih=>exact Fix.mul (hx.isP b) hi ih (a _ hg)
theorem kW.Qa: ∀(d i:Nat),i+d=n->kW n i τ-> ∀x,(S n τ i x->bV n x/\Fix i x)/\(i<n->(S n τ i x↔fE n (· ∈(τ i).gens) x))
 |0,i,h,_,x=>by
  obtain rfl:i=n:=oq
  refine⟨λa=>?_,λh=>oq⟩;rw[oJ] at a;subst a;exact⟨bV.one i,Fix.one i i (Nat.le_refl _)⟩
 |d+1,i,h,t,x=>by
  have hi:i<n:=oq
  have m:=kW.Qa d (i+1) oq (t.mono oq);obtain⟨L,C,F,D⟩:=t i (Nat.le_refl _) hi;have r: ∀g,g∈(τ i).gens->bV n g:=L.gP
  have O: ∀z,S n τ (i+1) z->fE n (· ∈(τ i).gens) z:=by
   intro z f
   by_cases c:i+1<n
   ·exact ((m z).2 c|>.1 f).le (fE.grp r) (D c)
   ·obtain rfl:i+1=n:=oq
    rw[oJ] at f;subst f;exact .one
  have o: ∀u z,S n τ (i+1) u->S n τ (i+1) z->S n τ (i+1) (bE u z):=by
   intro u z l f
   by_cases c:i+1<n
   ·obtain⟨P,_⟩:=t (i+1) oq c
    exact ((m _).2 c).2 ((((m u).2 c).1 l).app P.gP (((m z).2 c).1 f))
   ·obtain rfl:i+1=n:=oq
    rw[oJ] at l f ⊢;subst l f;exact dD (bV.one _)
  have w:S n τ (i+1) (cH n):=by
   by_cases c:i+1<n
   ·exact ((m _).2 c).2 .one
   ·obtain rfl:i+1=n:=oq
    exact oJ.2 rfl
  have b:S n τ i x->fE n (· ∈(τ i).gens) x:=by
   intro a;obtain⟨p,y,g,v,B,rfl⟩:=(lG hi).1 a;exact (O g B).app r (L.gen p y v)
  refine⟨λa=>⟨(b a).isP r,(b a).fix r oq L.gF⟩,λ_=>⟨b,λN=>?_⟩⟩;clear b
  induction N with
  |one=>exact (lG hi).2 ⟨i,cH n,cH n,L.one,w,(dD (bV.one n)).symm⟩
  |mul hx a hind=>
   rename_i R s;obtain⟨q,y,g,v,B,e⟩:=(lG hi).1 hind;obtain⟨k,K,J⟩:=List.mem_iff_getElem.1 a;obtain⟨u,l,Q⟩:=C q y v k s (by rw[F q (L.mem v)];exact K) (by rw[List.getElem?_eq_getElem K,J]);refine (lG hi).2 ⟨_,u,bE g (bE (bE y s) (dM u)),l,o _ _ B Q,?_⟩;have G:=((m g).1 B).1;have Y:=L.isP q y v;have U:=L.isP _ u l;have A:=r s a;rw[e,bP G Y A,bP G ((Y.mul A).mul U.inv) U,bP (Y.mul A) U.inv U,iK U,dD (Y.mul A)]
theorem kW.gen (t:kW n i τ)(hi:i<n):S n τ i x↔fE n (· ∈(τ i).gens) x:=(kW.Qa (n-i) i oq t x).2 hi
theorem kW.isP (t:kW n i τ)(hi:i<=n)(h:S n τ i x):bV n x:=((kW.Qa (n-i) i oq t x).1 h).1
theorem kW.fix (t:kW n i τ)(hi:i<=n)(h:S n τ i x):Fix i x:=((kW.Qa (n-i) i oq t x).1 h).2
theorem kW.grp (t:kW n i τ)(hi:i<=n):mH n (S n τ i):=by
 by_cases h:i<n
 ·have g:=fE.grp (n:=n) (L:=(· ∈(τ i).gens)) (t i (Nat.le_refl _) h).1.gP
  exact⟨λa=>t.isP hi a,(t.gen h).2 g.one,λa b=>(t.gen h).2 (g.mul ((t.gen h).1 a) ((t.gen h).1 b)),λa=>(t.gen h).2 (g.inv ((t.gen h).1 a))⟩
 ·obtain rfl:i=n:=oq
  refine⟨λa=>t.isP hi a,oJ.2 rfl,λa b=>?_,λa=>?_⟩
  ·rw[oJ] at a b ⊢;subst a b;exact dD (bV.one _)
  ·rw[oJ] at a ⊢;subst a;exact rU _
theorem kW.sift (t:kW n i τ)(hi:i<n)(h:S n τ i x): ∃y,(τ i).to (x.getD i 0)=some y/\S n τ (i+1) (bE x (dM y)):=by
 obtain⟨p,y,g,a,b,rfl⟩:=(lG hi).1 h;have L:=(t i (Nat.le_refl _) hi).1;have c:=t.mono (Nat.le_succ i);have G:=c.isP hi b;have Y:=L.isP p y a
 have e:(bE g y).getD i 0=p:=by
  rw[dB (by rw[G.len];exact hi),c.fix hi b i oq,L.maps p y a]
 refine⟨y,by rw[e];exact a,?_⟩;rw[bP G Y Y.inv,iL Y,dD G];exact b
theorem kW.back (t:kW n i τ)(hi:i<n){y:List Nat}(b:bV n x)(a:(τ i).to (x.getD i 0)=some y)(h2:S n τ (i+1) (bE x (dM y))):S n τ i x:=by
 have Y:=(t i (Nat.le_refl _) hi).1.isP _ y a;refine (lG hi).2 ⟨_,y,_,a,h2,?_⟩;rw[bP b Y.inv Y,iK Y,dD b]
theorem kW.HY (t:kW n i τ)(hi:i<n):S n τ (i+1) x↔S n τ i x/\x.getD i 0=i:=by
 have L:=(t i (Nat.le_refl _) hi).1;have b:=t.mono (Nat.le_succ i);constructor
 ·intro h
  have e:=b.fix hi h i oq;have X:=b.isP hi h;refine⟨t.back hi X (y:=cH n) (by rw[e];exact L.one) ?_,e⟩;rw[rU,dD X];exact h
 ·rintro⟨h,e⟩
  obtain⟨y,a,c⟩:=t.sift hi h;rw[e,L.one] at a;cases a;rwa [rU,dD (t.isP oq h)] at c
theorem kW.Jw (t:kW n i τ): ∀{k:Nat},i<=k->k<=n->(S n τ k x↔S n τ i x/\Fix k x):=by
 intro k
 induction k with
 |zero=>
  intro h _;obtain rfl:i=0:=oq
  exact⟨λh=>⟨h,λ_ h=>oq⟩,λh=>h.1⟩
 |succ k ih=>
  intro g f
  by_cases e:i=k+1
  ·subst e
   exact⟨λh=>⟨h,t.fix f h⟩,λh=>h.1⟩
  ·have a:=ih oq oq
   rw[(t.mono oq).HY (i:=k) f,a];constructor
   ·rintro⟨⟨b,c⟩,d⟩;exact⟨b,c.succ d⟩
   ·rintro⟨b,c⟩;exact⟨⟨b,c.mono oq⟩,c k oq⟩
end
end
section
variable {j k q:Nat}
def oV (τ:lB)(i:Nat)(l:Lv):lB:=λj=>if j=i then l else τ j
theorem cG (τ:lB)(i:Nat)(l:Lv):oV τ i l i=l:=by simp [oV]
theorem eD (τ:lB){i:Nat}(l:Lv)(h:j≠i):oV τ i l j=τ j:=by simp [oV,h]
def Lv.tick (l:Lv)(q:Nat):Lv:={l with tr:=λr=>if r=q then l.tr q+1 else l.tr r}
def Lv.reach (l:Lv)(p:Nat)(y:List Nat):Lv:={l with orb:=l.orb++ [p],to:=λr=>if r=p then some y else l.to r}
def Lv.more (l:Lv)(r:List Nat):Lv:={l with gens:=l.gens++ [r]}
structure CI (n i:Nat)(τ:lB):Prop where
 iO:Xw n i (τ i)
 cl:Cl n i τ
 dn:Dn n i τ
 up:kW n (i+1) τ
section
variable {n:Nat} {τ τ':lB} {x y z s u w:List Nat} {i:Nat}
theorem CI.full (c:CI n i τ)(a:Full (τ i)):kW n i τ:=λj d b=>by
 by_cases e:j=i
 ·subst e;exact⟨c.iO,c.cl,a,c.dn⟩
 ·exact c.up j oq b
theorem CX {l:Lv}(h:i<k):S n (oV τ i l) k x↔S n τ k x:=Pe λj a _=>eD τ l oq
theorem kW.EG {l:Lv}(h:i<k)(t:kW n k τ):kW n k (oV τ i l):=t.congr λj a _=>(eD τ l oq).symm
theorem CI.Bt (c:CI n i τ)(hi:i<n)(f:(τ i).to q=some y)(d:s∈(τ i).gens)(a:(τ i).to ((bE y s).getD i 0)=some u):
  bV n (bE (bE y s) (dM u))/\Fix (i+1) (bE (bE y s) (dM u))/\fE n (· ∈(τ i).gens) (bE (bE y s) (dM u)):=by
 have L:=c.iO
 have Y:=L.isP q y f
 have U:=L.isP _ u a
 have b:=L.gP s d
 have e:=Y.mul b
 have b:fE n (· ∈(τ i).gens) (bE (bE y s) (dM u)):=((L.gen q y f).mul d).app L.gP ((L.gen _ u a).inv L.gP)
 refine⟨e.mul U.inv,Fix.succ (b.fix L.gP oq L.gF) ?_,b⟩
 rw[dB (by rw[e.len];exact hi)]
 have:=mX U hi
 rwa [L.maps _ u a] at this
theorem CI.tick (c:CI n i τ)(m:(τ i).to q=some y)(J:(τ i).tr q=k)(A:(τ i).gens[k]? =some s)(K:(τ i).to ((bE y s).getD i 0)=some u)
  (G:S n τ (i+1) (bE (bE y s) (dM u))):CI n i (oV τ i ((τ i).tick q)):=by
 have L:=c.iO
 have h:k<(τ i).gens.length:=(List.getElem?_eq_some_iff.1 A).1
 refine⟨?_,?_,?_,c.up.EG oq⟩
 ·rw[cG]
  refine⟨L.nd,L.base,L.one,L.iff,L.isP,L.fix,L.maps,L.gen,L.gP,L.gF,L.gN,λr=>?_,λr o=>?_⟩
  ·show (if r=q then (τ i).tr q+1 else (τ i).tr r)<=_
   split
   ·rw[J];exact h
   ·exact L.le r
  ·show (if r=q then (τ i).tr q+1 else (τ i).tr r)=0
   have:r≠q:=λe=>o (by rw[e];exact L.mem m)
   rw[if_neg this];exact L.zero r o
 ·intro r v l j t B f
  rw[cG] at l B f ⊢
  simp only[CX (Nat.lt_succ_self i)]
  have b:j<(if r=q then (τ i).tr q+1 else (τ i).tr r):=B
  by_cases e:r=q/\j=k
  ·obtain⟨rfl,rfl⟩:=e
   have a:(τ i).to r=some v:=l
   have d:(τ i).gens[j]? =some t:=f
   rw[m] at a;cases a
   rw[A] at d;cases d
   exact⟨u,K,G⟩
  ·refine c.cl r v l j t ?_ f
   split at b
   ·rename_i N;subst N
    have:j≠k:=λF=>e ⟨rfl,F⟩
    omega
   ·exact b
 ·intro O g p
  rw[eD τ _ oq] at p
  rw[cG]
  exact c.dn O g p
theorem CI.reach (c:CI n i τ)(hi:i<n){p:Nat}(G:(τ i).to p=none)(Y:bV n y)(F:Fix i y)(Q:y.getD i 0=p)(R:fE n (· ∈(τ i).gens) y):CI n i (oV τ i ((τ i).reach p y)):=by
 have L:=c.iO;have l:p∉(τ i).orb:=λh=>by have:=(L.iff p).1 h;rw[G] at this;cases this
 have f: ∀r v,((τ i).reach p y).to r=some v->(r=p/\v=y)∨(r≠p/\(τ i).to r=some v):=by
  intro r v h;have o:(if r=p then some y else (τ i).to r)=some v:=h;split at o
  ·rename_i e;cases o;exact .inl ⟨e,rfl⟩
  ·rename_i e;exact .inr ⟨e,o⟩
 have d: ∀r v,(τ i).to r=some v->((τ i).reach p y).to r=some v:=by
  intro r v h;have:r≠p:=λe=>by rw[e,G] at h;cases h
  show (if r=p then some y else (τ i).to r)=some v;rw[if_neg this];exact h
 refine⟨?_,?_,?_,c.up.EG oq⟩
 ·rw[cG]
  refine⟨?_,List.mem_append_left _ L.base,d _ _ L.one,λr=>?_,λr v h=>?_,λr v h=>?_,λr v h=>?_,λr v h=>?_,L.gP,L.gF,L.gN,L.le,λr P=>?_⟩
  ·show ((τ i).orb++ [p]).Nodup
   rw[List.nodup_append];exact⟨L.nd,by simp,λa O b J=>by simp at J;subst J;exact λe=>l (e▸O)⟩
  ·show r∈(τ i).orb++ [p]↔(if r=p then some y else (τ i).to r).isSome
   by_cases e:r=p
   ·subst e;simp
   ·rw[if_neg e,←L.iff r];simp [e]
  ·rcases f r v h with ⟨_,rfl⟩|⟨_,h⟩
   ·exact Y
   ·exact L.isP r v h
  ·rcases f r v h with ⟨_,rfl⟩|⟨_,h⟩
   ·exact F
   ·exact L.fix r v h
  ·rcases f r v h with ⟨rfl,rfl⟩|⟨_,h⟩
   ·exact Q
   ·exact L.maps r v h
  ·rcases f r v h with ⟨_,rfl⟩|⟨_,h⟩
   ·exact R
   ·exact L.gen r v h
  ·exact L.zero r λh=>P (List.mem_append_left _ h)
 ·intro r v K j t A B
  rw[cG] at K A B ⊢;simp only[CX (Nat.lt_succ_self i)];rcases f r v K with ⟨rfl,rfl⟩|⟨_,h⟩
  ·have hz:(τ i).tr r=0:=L.zero r l
   have N:j<(τ i).tr r:=A;omega
  ·obtain⟨a,U,Z⟩:=c.cl r v h j t A B
   exact⟨a,d _ _ U,Z⟩
 ·intro W g m
  rw[eD τ _ oq] at m;rw[cG];exact c.dn W g m
theorem CI.found (c:CI n i τ)(hi:i<n){p:Nat}(b:(τ i).to q=some y)(v:(τ i).tr q=k)(m:(τ i).gens[k]? =some s)(l:(bE y s).getD i 0=p)(r:(τ i).to p=none):
  CI n i (oV τ i (((τ i).tick q).reach p (bE y s))):=by
 have L:=c.iO
 have a:s∈(τ i).gens:=List.mem_of_getElem? m
 have Y:=L.isP q y b
 have o:=L.gP s a
 have g:=c.reach hi r (Y.mul o) (Fix.mul Y oq (L.fix q y b) (L.gF s a)) l ((L.gen q y b).mul a)
 have d:q≠p:=λe=>by rw[e,r] at b;cases b
 have f:(oV τ i ((τ i).reach p (bE y s)) i).to p=some (bE y s):=by
  rw[cG];show (if p=p then some (bE y s) else (τ i).to p)=_;rw[if_pos rfl]
 have a:S n (oV τ i ((τ i).reach p (bE y s))) (i+1) (bE (bE y s) (dM (bE y s))):=by
  rw[iL (Y.mul o)];exact (g.up.grp oq).one
 have t:=g.tick (q:=q) (k:=k) (y:=y) (s:=s) (u:=bE y s) (by
  rw[cG];show (if q=p then some (bE y s) else (τ i).to q)=_
  rw[if_neg d];exact b) (by rw[cG];exact v) (by rw[cG];exact m) (by rw[l];exact f) a
 have e:oV (oV τ i ((τ i).reach p (bE y s))) i ((oV τ i ((τ i).reach p (bE y s)) i).tick q)=oV τ i (((τ i).tick q).reach p (bE y s)):=by
  funext j
  by_cases h:j=i
  ·subst h;rw[cG,cG,cG];rfl
  ·rw[eD _ _ h,eD _ _ h,eD _ _ h]
 rwa [e] at t
structure wT (n i:Nat)(x:List Nat)(τ τ':lB):Prop where
 low: ∀j,j<i->τ' j=τ j
 tw:kW n i τ'
 old: ∀s∈(τ i).gens,s∈(τ' i).gens
 new: ∀s∈(τ' i).gens,fE n (λg=>g∈(τ i).gens∨g=x) s
 has:fE n (· ∈(τ' i).gens) x
theorem wT.S (a:wT n i x τ τ')(t:kW n i τ)(hi:i<n)(h:Go.Pm.S n τ i z):Go.Pm.S n τ' i z:=
 (a.tw.gen hi).2 (((t.gen hi).1 h).mono a.old)
theorem CI.added (c:CI n i τ)(d:i+1<n)(a:wT n (i+1) z τ τ')(o:fE n (· ∈(τ i).gens) z):CI n i τ'/\Go.Pm.S n τ' (i+1) z:=by
 have e:=a.low i oq;refine⟨⟨e▸c.iO,λq y f k s m l=>?_,λh g b=>?_,a.tw⟩,(a.tw.gen d).2 a.has⟩
 ·rw[e] at f m l ⊢
  obtain⟨u,h,p⟩:=c.cl q y f k s m l;exact⟨u,h,a.S c.up d p⟩
 ·rw[e]
  refine (a.new g b).le (fE.grp c.iO.gP) λg b=>?_
  rcases b with b|rfl
  ·exact c.dn d g b
  ·exact o
def Jn (n:Nat)(τ:lB):Nat->Nat->List Nat->Nat×List Nat
 |0,i,x=>(i,x)
 |d+1,i,x=>match (τ i).to (x.getD i 0) with
  |none=>(i,x)
  |some y=>Jn n τ d (i+1) (if x.getD i 0=i then x else bE x (dM y))
structure CW (n i:Nat)(τ:lB)(x:List Nat)(k:Nat)(r:List Nat):Prop where
 ge:i<=k
 le:k<=n
 isP:bV n r
 fix:Fix k r
 out:k<n->(τ k).to (r.getD k 0)=none
 rest:i<n-> ∃w,fE n (· ∈(τ i).gens) w/\x=bE r w
theorem Vw: ∀(d i:Nat) (x:List Nat),i+d=n->kW n i τ->bV n x->Fix i x->CW n i τ x (Jn n τ d i x).1 (Jn n τ d i x).2
 |0,i,x,h,_,X,F=>⟨Nat.le_refl _,by show i<=n;omega,X,F,λa=>by have:i<n:=a;omega,λa=>oq⟩
 |d+1,i,x,h,t,X,F=>by
  have hi:i<n:=oq
  obtain⟨L,C,A,D⟩:=t i (Nat.le_refl _) hi;unfold Jn
  cases e:(τ i).to (x.getD i 0) with
  |none=>exact⟨Nat.le_refl _,by show i<=n;omega,X,F,λ_=>e,λ_=>⟨cH n,.one,(dD X).symm⟩⟩
  |some y=>
   simp only;have Y:=L.isP _ y e
   have l: ∀c,c=(if x.getD i 0=i then x else bE x (dM y))->bV n c/\Fix (i+1) c/\x=bE c y:=by
    intro c a
    by_cases g:x.getD i 0=i
    ·rw[if_pos g] at a
     subst a;rw[g,L.one] at e;cases e;exact⟨X,F.succ g,(dD X).symm⟩
    ·rw[if_neg g] at a
     subst a;refine⟨X.mul Y.inv,(Fix.mul X oq F (Fix.inv Y oq (L.fix _ y e))).succ ?_,by rw[bP X Y.inv Y,iK Y,dD X]⟩;rw[dB (by rw[X.len];exact hi)];have:=mX Y hi;rwa [L.maps _ y e] at this
   obtain⟨r,F2,ex⟩:=l _ rfl;have b:=Vw d (i+1) _ oq (t.mono oq) r F2;refine⟨by have:=b.ge;omega,b.le,b.isP,b.fix,b.out,λ_=>?_⟩
   by_cases m:i+1<n
   ·obtain⟨w,v,p⟩:=b.rest m
    have f:fE n (· ∈(τ i).gens) w:=v.le (fE.grp L.gP) (D m);refine⟨bE w y,f.app L.gP (L.gen _ y e),?_⟩;rw[←bP b.isP (f.isP L.gP) Y,←p];exact ex
   ·have o:d=0:=oq
    subst o;exact⟨y,L.gen _ y e,ex⟩
theorem CW.in (f:CW n i τ x n w)(t:kW n i τ)(hi:i<n):S n τ i x:=by
 obtain⟨v,a,e⟩:=f.rest hi;have:=f.fix.all f.isP;rw[this,fO (a.isP (t i (Nat.le_refl _) hi).1.gP)] at e;subst e;exact (t.gen hi).2 a
theorem CW.HD (f:CW n i τ x k w)(t:kW n i τ)(a:k<n)(c:i<=j)(h2:j<=k): ¬S n τ j w:=by
 intro h;have d:=t.mono c;have e:=(d.Jw h2 oq).2 ⟨h,f.fix⟩;obtain⟨y,b,_⟩:=(t.mono f.ge).sift a e;rw[f.out a] at b;cases b
def push (τ:lB)(i k:Nat)(r:List Nat):lB:=λj=>if i<=j/\j<=k then (τ j).more r else τ j
theorem Ph (τ:lB){i:Nat}(r:List Nat)(a:i<=j)(h2:j<=k):push τ i k r j=(τ j).more r:=by simp [push,a,h2]
theorem Af (τ:lB){i:Nat}(r:List Nat)(h:j<i∨k<j):push τ i k r j=τ j:=by
 unfold push;rw[if_neg oq]
structure Ci (n i k:Nat)(r:List Nat)(τ τ':lB)(j:Nat):Prop where
 low: ∀m,m<j->τ' m=push τ i k r m
 tw:kW n j τ'
 gens:j<=k->(τ' j).gens=(τ j).gens++ [r]
 same:k<j->τ' j=τ j
theorem Ci.start (f:CW n i τ x k w)(t:kW n i τ)(_:k<n):Ci n i k w τ (push τ i k w) (k+1):=
 ⟨λ_ _=>rfl,(t.mono (by have:=f.ge;omega)).congr λj a _=>(Af τ w (.inr oq)).symm,λh=>oq,λ_=>Af τ w (.inr oq)⟩
theorem Ci.ci (f:CW n i τ x k w)(t:kW n i τ)(N:k<n)(a:Ci n i k w τ τ' (j+1))(v:i<=j)(h2:j<=k):CI n j τ':=by
 have h:j<n:=oq
 obtain⟨L,C,O,D⟩:=t j v h;have e:τ' j=(τ j).more w:=(a.low j oq).trans (Ph τ w v h2);have O:=t.mono v;have B:w∉(τ j).gens:=λP=>f.HD t N v h2 ((O.gen h).2 (fE.of L.gP P))
 have A: ∀z,S n τ (j+1) z->S n τ' (j+1) z:=by
  intro z p
  by_cases r:j+1<n
  ·have h:=t.mono (show i<=j+1 by omega)
   refine (a.tw.gen r).2 (((h.gen r).1 p).mono λg b=>?_)
   by_cases l:j+1<=k
   ·rw[a.gens l];exact List.mem_append_left _ b
   ·rw[a.same oq];exact b
  ·obtain rfl:j+1=n:=oq
   rw[oJ] at p ⊢;exact p
 have d: ∀g,g∈(τ j).gens->g∈(τ j).gens++ [w]:=λg b=>List.mem_append_left _ b
 have o: ∀g,g∈(τ j).gens++ [w]->bV n g:=λg b=>by
  rcases List.mem_append.1 b with b|b
  ·exact L.gP g b
  ·simp at b;subst b;exact f.isP
 refine⟨?_,λq y F m s G c=>?_,λr s c=>?_,a.tw⟩
 ·rw[e]
  refine⟨L.nd,L.base,L.one,L.iff,L.isP,L.fix,L.maps,λp y h=>(L.gen p y h).mono d,o,λg b=>?_,?_,λq=>?_,L.zero⟩
  ·rcases List.mem_append.1 b with b|b
   ·exact L.gF g b
   ·simp at b;subst b;exact f.fix.mono h2
  ·show ((τ j).gens++ [w]).Nodup
   rw[List.nodup_append];exact⟨L.gN,by simp,λa K b J=>by simp at J;subst J;exact λe=>B (e▸K)⟩
  ·show (τ j).tr q<=((τ j).gens++ [w]).length
   have:=L.le q;simp;omega
 ·rw[e] at F G c ⊢
  have g:m<(τ j).tr q:=G;have b:((τ j).gens++ [w])[m]? =some s:=c;rw[List.getElem?_append_left (by have:=L.le q;omega)] at b;obtain⟨u,p,h⟩:=C q y F m s g b;exact⟨u,p,A _ h⟩
 ·rw[e]
  show fE n (· ∈(τ j).gens++ [w]) s
  by_cases l:j+1<=k
  ·rw[a.gens l] at c
   rcases List.mem_append.1 c with c|c
   ·exact (D r s c).mono d
   ·simp at c;subst c
    exact fE.of o (List.mem_append_right _ (by simp))
  ·rw[a.same oq] at c
   exact (D r s c).mono d
theorem Ci.next {b:lB}(a:Ci n i k w τ τ' (j+1))(c:i<=j)(h2:j<=k)(low: ∀m,m<j->b m=τ' m)(g:(b j).gens=(τ' j).gens)(t:kW n j b):Ci n i k w τ b j:=
 ⟨λm d=>(low m d).trans (a.low m oq),t,λ_=>by rw[g,a.low j oq,Ph τ w c h2];rfl,λh=>oq⟩
theorem Ci.done (f:CW n i τ x k w)(t:kW n i τ)(X:bV n x)(m:k<n)(a:Ci n i k w τ τ' i):wT n i x τ τ':=by
 have hi:i<n:=by have:=f.ge;omega
 have L:=(t i (Nat.le_refl _) hi).1;have c:=a.gens f.ge;obtain⟨v,h,e⟩:=f.rest hi;have V:=h.isP L.gP;refine⟨λj l=>(a.low j l).trans (Af τ w (.inl l)),a.tw,λs d=>?_,λs d=>?_,?_⟩
 ·rw[c];exact List.mem_append_left _ d
 ·have b: ∀g,(g∈(τ i).gens∨g=x)->bV n g:=λg c=>by
   rcases c with c|rfl
   ·exact L.gP g c
   ·exact X
  rw[c] at d;rcases List.mem_append.1 d with d|d
  ·exact fE.of b (.inl d)
  ·simp at d;subst d
   have d:s=bE x (dM v):=by rw[e,bP f.isP V V.inv,iL V,dD f.isP]
   rw[d];exact (fE.of b (.inr rfl)).app b ((h.mono λg c=>Or.inl c).inv b)
 ·have b: ∀g,g∈(τ' i).gens->bV n g:=(a.tw i (Nat.le_refl _) hi).1.gP
  rw[e];exact (fE.of b (by rw[c];exact List.mem_append_right _ (by simp))).app b (h.mono λg b=>by rw[c];exact List.mem_append_left _ b)
theorem wT.none (t:kW n i τ)(hi:i<n)(h:Go.Pm.S n τ i x):wT n i x τ τ:=by
 have L:=(t i (Nat.le_refl _) hi).1
 have b: ∀g,(g∈(τ i).gens∨g=x)->bV n g:=λg a=>by
  rcases a with a|rfl
  ·exact L.gP g a
  ·exact t.isP oq h
 exact⟨λ_ _=>rfl,t,λ_ a=>a,λs a=>fE.of b (.inl a),(t.gen hi).1 h⟩
theorem Xw.many {l:Lv}(L:Xw n j l):l.gens.length<=n^n:=Bz L.gN L.gP
def Uo (n:Nat):lB:=λj=>⟨[], [j],λp=>if p=j then some (cH n) else none,λ_=>0⟩
theorem Tx (n:Nat):kW n 0 (Uo n):=λj _ f=>by
 refine⟨⟨by simp [Uo],by simp [Uo],by simp [Uo],λp=>?_,λp y h=>?_,λp y h=>?_,λp y h=>?_,λp y h=>?_,λs a=>?_,λs a=>?_,by simp [Uo],λq=>Nat.le_refl _,λ_ _=>rfl⟩,λq y g k s d=>?_,λq _=>rfl,λ_ s a=>?_⟩
 ·show p∈ [j]↔(if p=j then some (cH n) else none).isSome
  by_cases e:p=j<;>simp [e]
 all_goals first
  |(have b:(if p=j then some (cH n) else none)=some y:=h
    split at b
    ·rename_i e
     cases b
     first
      |exact bV.one n
      |exact Fix.one n j oq
      |(rw[e];exact eX f)
      |exact .one
    ·cases b)
  |(cases a;done)
  |(have c:k<0:=d;omega)
end
end
end Go.Pm
namespace Go.Proofs.YtapfcpkecmmagaaGreat
open Go Go.Ay Go.Pm
set_option maxRecDepth 100000
def Slot (W:Nat->Prop)(h:H)(v:V):Option (List Nat)->Prop
 |none=>v= .aD
 |some y=>PV W h v y
def sl2 (F:Nat->V)(s:Nat):V:=F (s/2*194+s%2)
def WT (n L:Nat)(F:Nat->V)(id:Nat):Prop:=id=L∨ ∃s,s<2*n/\ ∃off len c,sl2 F s= .sl id off len c
structure TwR (h:H)(n tid L:Nat)(F:Nat->V)(τ:lB):Prop where
 t:h.get tid=some (.cells false [aB n,.sl L 0 n (.kn n)])
 l:h.get L=some (.cells false (rc (n*194) F))
 tn:tid<h.next
 ln:L<h.next
 tw: ¬WT n L F tid
 to: ∀j p,j<n->p<64->Slot (WT n L F) h (F (j*194+2+p)) ((τ j).to p)
 iv: ∀j p,j<n->p<64->Slot (WT n L F) h (F (j*194+66+p)) (((τ j).to p).map dM)
 tr: ∀j p,j<n->p<64->F (j*194+130+p)= aB ((τ j).tr p:Nat)
 gens: ∀j,j<n-> ∃vs,Own h (F (j*194)) 1 vs 0/\PVs (WT n L F) h vs (τ j).gens
 orb: ∀j,j<n->Own h (F (j*194+1)) 1 (ints (zi (τ j).orb)) 0
 dis: ∀s s',s<2*n->s'<2*n->s≠s'->HX (sl2 F s) (sl2 F s')
 ap: ∀s,s<2*n->dH (sl2 F s) L
section
variable {h h':H} {n tid L:Nat} {F:Nat->V} {τ:lB}
theorem Slot.fx {W:Nat->Prop}{v:V}{o:Option (List Nat)}(s:Slot W h v o)(f:Fx W h h'):Slot W h' v o:=by
 cases o with
 |none=>exact s
 |some y=>exact PV.fx s f
theorem Slot.weak {W a:Nat->Prop}{v:V}{o:Option (List Nat)}(s:Slot W h v o)(b: ∀id,id<h.next->a id->W id):Slot a h v o:=by
 cases o with
 |none=>exact s
 |some y=>exact PV.weak s b
theorem sl2_g (F:Nat->V)(j:Nat):sl2 F (2*j)=F (j*194):=by
 unfold sl2;congr 1;omega
theorem sl2_o (F:Nat->V)(j:Nat):sl2 F (2*j+1)=F (j*194+1):=by
 unfold sl2;congr 1;omega
theorem TwR.own (R:TwR h n tid L F τ){s:Nat}(c:s<2*n): ∃ws,Own h (sl2 F s) 1 ws 0:=by
 rcases Nat.mod_two_eq_zero_or_one s with e|e
 ·obtain⟨a,b,_⟩:=R.gens (s/2) om
  exact⟨a,by unfold sl2;rw[e];exact b⟩
 ·exact⟨_,by unfold sl2;rw[e];exact R.orb (s/2) om⟩
theorem TwR.win (R:TwR h n tid L F τ){id:Nat}(d:WT n L F id):id<h.next:=by
 rcases d with rfl|⟨s,a,b,len,c,e⟩
 ·exact R.ln
 ·obtain⟨b,o⟩:=R.own a
  exact (o.in _ _ _ _ e).1
theorem TwR.mono (R:TwR h n tid L F τ)(f:Fr h h'):TwR h' n tid L F τ:=by
 refine⟨by rw[f.get _ R.tn];exact R.t,by rw[f.get _ R.ln];exact R.l,iP R.tn f.next,iP R.ln f.next,R.tw,
  λj p b a=>(R.to j p b a).fx (Fx.of f),λj p b a=>(R.iv j p b a).fx (Fx.of f),R.tr,λj c=>?_,λj c=>(R.orb j c).fr f,R.dis,R.ap⟩
 obtain⟨d,b,a⟩:=R.gens j c;exact⟨d,b.fr f,a.fx (Fx.of f)⟩
theorem TwR.cell (R:TwR h n tid L F τ){j c:Nat}(a:j<n)(b:c<194):h.cell L (j*194+c)=some (F (j*194+c)):=
 gU R.l (by
         have:(j+1)*194<=n*194:=Nat.mul_le_mul_right _ a
         omega)
theorem TwR.cell2 (R:TwR h n tid L F τ){j c p:Nat}(b:j<n)(a:c+p<194):h.cell L (j*194+c+p)=some (F (j*194+c+p)):=by
 rw[Nat.add_assoc];exact R.cell b a
end
theorem sft_none {n:Nat}{τ:lB}{d i:Nat}{x:List Nat}(h:(τ i).to (x.getD i 0)=none):Jn n τ (d+1) i x=(i,x):=by
 rw[Jn,h]
theorem sft_some {n:Nat}{τ:lB}{d i:Nat}{x z:List Nat}(h:(τ i).to (x.getD i 0)=some z):Jn n τ (d+1) i x=Jn n τ d (i+1) (if x.getD i 0=i then x else bE x (dM z)):=by
 rw[Jn,h]
theorem sift_ok (h:H)(n tid L:Nat)(F:Nat->V)(τ:lB)(Q:V)(x:List Nat)(a:Nat)(hn:n<=64)(h0:0<n)(R:TwR h n tid L F τ)(hx:PV (WT n L F) h Q x)(X:bV n x)(a0:a<=n)(t:kW n a τ):
  Ev T 177 [.ptr tid 0,Q,aB a] h (λv h'=> ∃vr,v= .tup [aB (((Jn n τ (n-a) a x).1:Nat):Int),vr]/\PV (WT n L F) h' vr (Jn n τ (n-a) a x).2/\bV n (Jn n τ (n-a) a x).2/\Fr h h'):=by
 refine bH c_chain_tower_sift rfl rfl ?_
 simp(disch:=omega)only[go_sem,c_chain_tower_sift,aF]
 refine aH (λk' m hh=> ∃(i:Nat) (y:List Nat) (o:V),(∃g:Nat->V,m= [.ptr tid 0,o,g 2,g 3,g 4,aB i,g 6,g 7,g 8,g 9])/\a<=i/\i<=n/\Jn n τ (n-i) i y=Jn n τ (n-a) a x/\
   PV (WT n L F) hh o y/\bV n y/\Fr h hh/\k'=n-i) (n-a)
  ⟨a,x,Q,aA rfl,eS _,a0,rfl,hx,X,Fr.refl h,rfl⟩ ?_
 rintro k' m d ⟨i,y,o,⟨g,rfl⟩,a1,a5,e,s,Y,f,rfl⟩
 have J:=R.mono f
 have O:d.cell tid 0=some (aB n):=by rw[H.aG J.t];rfl
 have cl:d.cell tid 1=some (.sl L 0 n (.kn n)):=by rw[H.aG J.t];rfl
 simp(disch:=omega)only[go_sem,O,cl]
 by_cases B:(i:Int)<(n:Int)
 ·have b:i<n:=om
  rw[bM B]
  obtain⟨id,K,G,N,hc⟩:=s.si.open
  rw[aQ,Y.len] at G N hc
  have ci:d.cell id (K+i)=some (aB (y.getD i 0:Nat)):=by rw[hc i b];congr 2;simp [zi,Y.len,b]
  have r:=Y.dZ b
  have lv:=(t i a1 b).1
  generalize P:y.getD i 0=k at ci r
  have cb:=J.cell2 (c:=66) (p:=k) b om
  have w:=J.iv i k b om
  simp(disch:=omega)only[go_sem,O,cl,G.ixa,ci,cb]
  generalize F (i*194+66+k)=W at w cb
  have q:n-i=(n-(i+1))+1:=om
  rw[q] at e
  cases hto:(τ i).to k with
  |none=>
   rw[hto] at w;rw[sft_none (by rw[P];exact hto)] at e;have l:W= .aD:=w;subst l;simp(disch:=omega)only[go_sem];rw[←e];exact⟨o,rfl,s.fx (Fx.of ((Fr.refl d).bN om)),Y,f.bN om⟩
  |some z=>
   rw[hto] at w;rw[sft_some (by rw[P];exact hto),P] at e;have Z:=lv.isP _ _ hto;have l:PV (WT n L F) d W (dM z):=w;have sn:=vX l (bV.ne h0 Z.inv) false;have u:Fr d (H.mk d.tr (d.next+14)):=(Fr.refl d).bN om
   by_cases A:k=i
   ·have U:decide ((k:Int)≠(i:Int))=false:=bJ om
    rw[aV A] at e;simp(disch:=omega)only[go_sem,sn,G.ixa,ci,U];rw[dY i];exact⟨n-(i+1),om,i+1,y,o,aA rfl,om,om,e,s.fx (Fx.of u),Y,f.trans u,rfl⟩
   ·have U:decide ((k:Int)≠(i:Int))=true:=bM om
    rw[aZ A] at e;simp(disch:=omega)only[go_sem,sn,G.ixa,ci,U];have a4:=s.fx (Fx.of u);have a3:=l.fx (Fx.of u);have f':=f.trans u;generalize H.mk d.tr (d.next+14)=h3 at*;refine (mul_gen (rfl:T 181=some c_chain_mul) o W y (dM z) h3 (by rw[Y.len];omega) a4.si a3.si (λj hj=>by rw[gG,Z.len];exact Y.dZ (by rw[←Y.len];exact hj))).mono ?_;rintro v h4 nw;have f4:=f'.trans nw.fr;simp(disch:=omega)only[go_sem];rw[dY i];refine⟨n-(i+1),om,i+1,_,v,aA rfl,om,om,e,nw.pv (λhw=>?_),Y.mul Z.inv,f4,rfl⟩;have:=R.win hw;have:=f'.next;omega
 ·rw[bJ B]
  obtain rfl:i=n:=om
  simp(disch:=omega)only[go_sem,O,cl]
  rw[Nat.sub_self] at e
  have a2:Jn i τ (i-a) a x=(i,y):=e.symm
  rw[a2]
  exact⟨o,rfl,s,Y,f⟩
section
variable {h h' h2:H} {n tid L i:Nat} {F F':Nat->V} {τ τ':lB}
theorem WT_congr (b: ∀s,s<2*n->sl2 F' s=sl2 F s)(id:Nat):WT n L F' id↔WT n L F id:=by
 unfold WT;constructor
 ·rintro (e|⟨s,a,h2⟩)
  ·exact .inl e
  ·exact .inr ⟨s,a,by rw[←b s a];exact h2⟩
 ·rintro (e|⟨s,a,h2⟩)
  ·exact .inl e
  ·exact .inr ⟨s,a,by rw[b s a];exact h2⟩
theorem sl2_of {j:Nat}(P: ∀s,s<2*n->sl2 F' s=sl2 F s)(a:j<n):F' (j*194)=F (j*194)/\F' (j*194+1)=F (j*194+1):=
 ⟨(sl2_g F' j).symm.trans ((P _ om).trans (sl2_g F j)),(sl2_o F' j).symm.trans ((P _ om).trans (sl2_o F j))⟩
theorem PV.go {W a:Nat->Prop}{v:V}{l:List Nat}(p:PV W h v l)(f:Fx W h h')(b: ∀id,id<h.next->a id->W id):PV a h' v l:=⟨p.si.fx p.off f,p.off.weak p.si b⟩
theorem Slot.go {W a:Nat->Prop}{v:V}{o:Option (List Nat)}(s:Slot W h v o)(f:Fx W h h')(b: ∀id,id<h.next->a id->W id):Slot a h' v o:=by
 cases o with
 |none=>exact s
 |some y=>exact PV.go s f b
theorem PVs.go {W a:Nat->Prop}{vs:List V}{b:LN}(s:PVs W h vs b)(f:Fx W h h')(c: ∀id,id<h.next->a id->W id):PVs a h' vs b:=s.mono λ_ _ x=>PV.go x f c
theorem TwR.cells (R:TwR h n tid L F τ)(l:h.next<=h'.next)(u: ∀id,id≠L->id<h.next->h'.get id=h.get id)(z:h'.get L=some (.cells false (rc (n*194) F')))
  (g: ∀s,s<2*n->sl2 F' s=sl2 F s) (x: ∀j,j<n->(τ' j).gens=(τ j).gens/\(τ' j).orb=(τ j).orb)
  (q: ∀j p,j<n->p<64->Slot (WT n L F) h' (F' (j*194+2+p)) ((τ' j).to p)) (r: ∀j p,j<n->p<64->Slot (WT n L F) h' (F' (j*194+66+p)) (((τ' j).to p).map dM))
  (o: ∀j p,j<n->p<64->F' (j*194+130+p)= aB ((τ' j).tr p:Nat)):TwR h' n tid L F' τ'/\Fx (WT n L F) h h'/\ ∀id,WT n L F' id↔WT n L F id:=by
 have f:Fx (WT n L F) h h':=⟨l,λid b h2=>u id (λe=>h2 (.inl e)) b⟩
 have y:=WT_congr (L:=L) g
 have m:WT n L F'=WT n L F:=funext λid=>propext (y id)
 have v: ∀s,s<2*n-> ∀id a len c,sl2 F s= .sl id a len c->id<h.next->h'.get id=h.get id:=λs b id a len c e h2=>u id (λd=>(R.ap s b _ _ _ _ e) d.symm) h2
 refine⟨⟨?_,z,iP R.tn l,iP R.ln l,by rw[m];exact R.tw,by rw[m];exact q,by rw[m];exact r,o,λj d=>?_,λj d=>?_,λs w b h2 k=>by rw[g s b,g w h2];exact R.dis s w b h2 k,λs b=>by rw[g s b];exact R.ap s b⟩,f,y⟩
 ·rw[f.get tid R.tn R.tw];exact R.t
 ·obtain⟨w,b,h2⟩:=R.gens j d
  rw[(sl2_of g d).1,m,(x j d).1]
  exact⟨w,b.keep l λid a m c e k=>v (2*j) om id a m c (by rw[sl2_g];exact e) k,h2.fx f⟩
 ·rw[(sl2_of g d).2,(x j d).2]
  exact (R.orb j d).keep l λid a m c e k=>v (2*j+1) om id a m c (by rw[sl2_o];exact e) k
structure Grew (h h':H)(n tid L:Nat)(F F':Nat->V)(s0:Nat):Prop where
 fx:Fx (WT n L F) h h'
 wt: ∀id,id<h.next->WT n L F' id->WT n L F id
 dis: ∀s s',s<2*n->s'<2*n->s≠s'->HX (sl2 F' s) (sl2 F' s')
 ap: ∀s,s<2*n->dH (sl2 F' s) L
 own: ∀s,s<2*n->s≠s0->sl2 F' s=sl2 F s/\ ∀ws,Own h (sl2 F s) 1 ws 0->Own h' (sl2 F s) 1 ws 0
theorem TwR.grew (R:TwR h n tid L F τ){s0 w m:Nat}(u:s0<2*n){ws us:List V}(p:Pushd h (sl2 F s0) w m 1 ws us h2)(g: ∀s,s<2*n->s≠s0->sl2 F' s=sl2 F s){G:mF}(f:sl2 F' s0= .sl h.next 0 (w+m) G)(o:Option Ob):
  Grew h (h2.set L o) n tid L F F' s0:=by
 have l: ∀s,s<2*n-> ∀id a len c,sl2 F s= .sl id a len c->id<h.next:=λs r id a len c e=>by
  obtain⟨ws,o⟩:=R.own r;exact (o.in _ _ _ _ e).1
 have y:Fx (WT n L F) h h2:=p.fx λid a len c e=> .inr ⟨s0,u,a,len,c,e⟩
 refine⟨y.trans (Fx.set h2 (.inl rfl:WT n L F L) o) (λ_ _ h=>h),λid d y=>?_,λs k d h2 q=>?_,λs d=>?_,λs d q=>⟨g s d q,λws B=>?_⟩⟩
 ·rcases y with e|⟨s,r,a,len,c,e⟩
  ·exact .inl e
  ·by_cases b:s=s0
   ·rw[b,f] at e;cases e;omega
   ·exact .inr ⟨s,r,a,len,c,by rw[←g s r b];exact e⟩
 ·by_cases b:s=s0
  ·rw[b,f,g k h2 om]
   intro i o n c e A z v x j
   cases e
   have:=l k h2 _ _ _ _ j
   omega
  ·rw[g s d b]
   by_cases t:k=s0
   ·rw[t,f]
    intro i o n c e A z v x j
    cases j
    have:=l s d _ _ _ _ e
    omega
   ·rw[g k h2 t];exact R.dis s k d h2 q
 ·by_cases b:s=s0
  ·rw[b,f]
   exact dH.sl (by have:=R.ln;omega)
  ·rw[g s d b];exact R.ap s d
 ·refine B.keep (show h.next<=h2.next by rw[p.next];omega) λid a m c e a=>?_
  rw[H.aI h2 (λb:id=L=>(R.ap s d _ _ _ _ e) b.symm)]
  refine p.old id om λa a v x j b=>?_
  exact R.dis s s0 d u q _ _ _ _ e _ _ _ _ j b
def F1 (F:Nat->V)(k:Nat)(v:V):Nat->V:=λc=>if c=k then v else F c
theorem TwR.slot (R:TwR h n tid L F τ){e f m:Nat}(hi:i<n)(B:e<2){ws us:List V}(p:Pushd h (F (i*194+e)) f m 1 ws us h2){h3:H}{v:V}{l:mF}(q:l= .un 1∨l= .kn (f+m))(w:v= .sl h.next 0 (f+m) l)(g:h3=h2.set L (some (.cells false (rc (n*194) (F1 F (i*194+e) v)))))
  (a: ∀j,j<n->(τ' j).to=(τ j).to/\(τ' j).tr=(τ j).tr)
  (z:Fx (WT n L F) h h3->(∀id,id<h.next->WT n L (F1 F (i*194+e) v) id->WT n L F id)->(∀s,s<2*n->s≠2*i+e-> ∀ws,Own h (sl2 F s) 1 ws 0->Own h3 (sl2 F s) 1 ws 0)->Own h3 v 1 (ws++us) 0->ws.length=f*1/\us.length=m*1->
   (∀j,j<n-> ∃vs,Own h3 (F1 F (i*194+e) v (j*194)) 1 vs 0/\PVs (WT n L (F1 F (i*194+e) v)) h3 vs (τ' j).gens)/\ ∀j,j<n->Own h3 (F1 F (i*194+e) v (j*194+1)) 1 (ints (zi (τ' j).orb)) 0)
  (o:ws.length=f*1/\us.length=m*1):
  TwR h3 n tid L (F1 F (i*194+e) v) τ'/\Fx (WT n L F) h h3/\ ∀id,id<h.next->WT n L (F1 F (i*194+e) v) id->WT n L F id:=by
 have r: ∀s,s<2*n->s≠2*i+e->sl2 (F1 F (i*194+e) v) s=sl2 F s:=λs d h2=>by
  unfold sl2 F1;rw[aZ om]
 have b:(2*i+e)/2*194+(2*i+e)%2=i*194+e:=om
 have u:sl2 F (2*i+e)=F (i*194+e):=by unfold sl2;rw[b]
 have k:sl2 (F1 F (i*194+e) v) (2*i+e)= .sl h.next 0 (f+m) l:=by unfold sl2 F1;rw[b,aV rfl,w]
 have G:=R.grew (F':=F1 F (i*194+e) v) (s0:=2*i+e) om (by rw[u];exact p) r k (some (.cells false (rc (n*194) (F1 F (i*194+e) v))))
 rw[←g] at G
 obtain⟨x,y⟩:=z G.fx G.wt (λs d h2=>(G.own s d h2).2) (by
  rw[w,g];have A:Own h2 (.sl h.next 0 (f+m) l) 1 (ws++us) 0:= .inr ⟨h.next,f+m,l, [],rfl,by rw[iZ,o.1,o.2];omega,by rcases q with e|e;exact .inl e;exact .inr ⟨e,rfl⟩,fF _,by rw[p.next];omega,by rw[qA];exact p.get⟩;refine A.keep (eS _) λid b m c e b=>?_
  cases e
  exact H.aI h2 (by have:=R.ln;omega) _) o
 have r: ∀j c,2<=c->c<194->F1 F (i*194+e) v (j*194+c)=F (j*194+c):=λj c d h2=>by
  unfold F1;rw[aZ om]
 have k: ∀j b c,2<=b->b+c<194->F1 F (i*194+e) v (j*194+b+c)=F (j*194+b+c):=λj b c d h2=>by
  rw[Nat.add_assoc];exact r j (b+c) om h2
 have b:=G.fx.next
 refine⟨⟨?_,by rw[g,H.aT],iP R.tn b,iP R.ln b,λb=>R.tw (G.wt _ R.tn b),λj p d h2=>?_,λj p d h2=>?_,λj p d h2=>?_,x,y,G.dis,G.ap⟩,G.fx,G.wt⟩
 ·rw[G.fx.get tid R.tn R.tw];exact R.t
 ·rw[k j 2 p om om,(a j d).1];exact (R.to j p d h2).go G.fx G.wt
 ·rw[k j 66 p om om,(a j d).1];exact (R.iv j p d h2).go G.fx G.wt
 ·rw[k j 130 p om om,(a j d).2];exact R.tr j p d h2
theorem TwR.more (R:TwR h n tid L F τ)(hi:i<n){vs:List V}{b:V}{r:List Nat}(pv:PVs (WT n L F) h vs (τ i).gens)(o:PV (WT n L F) h b r)(p:Pushd h (F (i*194)) (τ i).gens.length 1 1 vs [b] h2){h3:H}{v:V}(m:v= .sl h.next 0 ((τ i).gens.length+1) (.un 1))(d:h3=h2.set L (some (.cells false (rc (n*194) (F1 F (i*194) v))))):
  TwR h3 n tid L (F1 F (i*194) v) (oV τ i ((τ i).more r))/\Fx (WT n L F) h h3/\ ∀id,id<h.next->WT n L (F1 F (i*194) v) id->WT n L F id:=by
 refine R.slot (e:=0) hi om p (.inl rfl) m d (λj a=>?_) (λf c g k l=>⟨λj a=>?_,λj a=>?_⟩) ⟨by have:=All2.length pv;omega,rfl⟩
 ·by_cases e:j=i
  ·subst e;rw[cG];exact⟨rfl,rfl⟩
  ·rw[eD _ _ e];exact⟨rfl,rfl⟩
 ·by_cases e:j=i
  ·subst e
   rw[cG]
   refine⟨vs++ [b],?_,(PVs.go pv f c).append (PVs.one (PV.go o f c))⟩
   unfold F1;rw[aV (Nat.add_zero _).symm];exact k
  ·rw[eD _ _ e]
   obtain⟨k,l,h2⟩:=R.gens j a
   refine⟨k,?_,PVs.go h2 f c⟩
   have:=g (2*j) om om k (by rw[sl2_g];exact l)
   rw[sl2_g] at this
   unfold F1;rw[aZ om];exact this
 ·have:=g (2*j+1) om om _ (by rw[sl2_o];exact R.orb j a)
  rw[sl2_o] at this
  unfold F1;rw[aZ om]
  by_cases e:j=i
  ·subst e;rw[cG];exact this
  ·rw[eD _ _ e];exact this
theorem TwR.point (R:TwR h n tid L F τ)(hi:i<n){q:Nat}(p:Pushd h (F (i*194+1)) (τ i).orb.length 1 1 (ints (zi (τ i).orb)) [aB q] h2){h3:H}{v:V}{b:mF}(c:b= .un 1∨b= .kn ((τ i).orb.length+1))(r:v= .sl h.next 0 ((τ i).orb.length+1) b)(d:h3=h2.set L (some (.cells false (rc (n*194) (F1 F (i*194+1) v))))):
  TwR h3 n tid L (F1 F (i*194+1) v) (oV τ i {τ i with orb:=(τ i).orb++ [q]})/\Fx (WT n L F) h h3/\ ∀id,id<h.next->WT n L (F1 F (i*194+1) v) id->WT n L F id:=by
 refine R.slot (e:=1) hi om p c r d (λj a=>?_) (λf k g o l=>⟨λj a=>?_,λj a=>?_⟩) ⟨by rw[aL,aQ,kF],rfl⟩
 ·by_cases e:j=i
  ·subst e;rw[cG];exact⟨rfl,rfl⟩
  ·rw[eD _ _ e];exact⟨rfl,rfl⟩
 ·obtain⟨l,m,h2⟩:=R.gens j a
  have:=g (2*j) om om l (by rw[sl2_g];exact m)
  rw[sl2_g] at this
  refine⟨l,?_,?_⟩
  ·unfold F1;rw[aZ om];exact this
  ·by_cases e:j=i
   ·subst e;rw[cG];exact PVs.go h2 f k
   ·rw[eD _ _ e];exact PVs.go h2 f k
 ·by_cases e:j=i
  ·subst e
   rw[cG]
   have f:ints (zi ((τ j).orb++ [q]))=ints (zi (τ j).orb)++ [aB q]:=by simp [zi,ints]
   show Own h3 _ 1 (ints (zi ((τ j).orb++ [q]))) 0
   rw[f]
   unfold F1;rw[aV rfl];exact o
  ·rw[eD _ _ e]
   have:=g (2*j+1) om om _ (by rw[sl2_o];exact R.orb j a)
   rw[sl2_o] at this
   unfold F1;rw[aZ om];exact this
theorem TwR.tick (R:TwR h n tid L F τ)(hi:i<n){q:Nat}(l:q<64){z:Int}(g:z=((τ i).tr q:Nat)+1){h3:H}(c:h3=h.set L (some (.cells false (rc (n*194) (F1 F (i*194+130+q) (aB z)))))):
  TwR h3 n tid L (F1 F (i*194+130+q) (aB z)) (oV τ i ((τ i).tick q))/\Fx (WT n L F) h h3/\ ∀id,WT n L (F1 F (i*194+130+q) (aB z)) id↔WT n L F id:=by
 subst c
 have f:Fx (WT n L F) h (h.set L (some (.cells false (rc (n*194) (F1 F (i*194+130+q) (aB z)))))):=Fx.set h (.inl rfl) _
 have b: ∀j,(oV τ i ((τ i).tick q) j).to=(τ j).to/\(oV τ i ((τ i).tick q) j).gens=(τ j).gens/\(oV τ i ((τ i).tick q) j).orb=(τ j).orb:=λj=>by
  by_cases e:j=i
  ·subst e;rw[cG];exact⟨rfl,rfl,rfl⟩
  ·rw[eD _ _ e];exact⟨rfl,rfl,rfl⟩
 refine R.cells (eS _) (λid a _=>H.aI h a _) (H.aT ..) (λs k=>?_) (λj _=>(b j).2) (λj p a h2=>?_) (λj p a h2=>?_) (λj p a h2=>?_)
 ·unfold sl2 F1;rw[aZ om]
 ·rw[(b j).1]
  have:=(R.to j p a h2).fx f
  unfold F1;rw[aZ om];exact this
 ·rw[(b j).1]
  have:=(R.iv j p a h2).fx f
  unfold F1;rw[aZ om];exact this
 ·have:=R.tr j p a h2
  unfold F1
  by_cases e:j=i
  ·subst e
   rw[cG]
   show _=aB (if p=q then (τ j).tr q+1 else (τ j).tr p:Nat)
   by_cases d:p=q
   ·subst d;rw[aV rfl,aV rfl,g];rfl
   ·rw[aZ om,aZ d];exact this
  ·rw[aZ om,eD _ _ e];exact this
theorem TwR.way (R:TwR h n tid L F τ)(hi:i<n){q:Nat}(u:q<64){g d:V}{y:List Nat}(m:PV (WT n L F) h g y)(o:PV (WT n L F) h d (dM y)){h3:H}(l:h.next<=h3.next)(k: ∀id,id≠L->id<h.next->h3.get id=h.get id)
  (t:h3.get L=some (.cells false (rc (n*194) (F1 (F1 F (i*194+2+q) g) (i*194+66+q) d)))):
  TwR h3 n tid L (F1 (F1 F (i*194+2+q) g) (i*194+66+q) d) (oV τ i {τ i with to:=λr=>if r=q then some y else (τ i).to r})/\Fx (WT n L F) h h3/\ ∀id,WT n L (F1 (F1 F (i*194+2+q) g) (i*194+66+q) d) id↔WT n L F id:=by
 have f:Fx (WT n L F) h h3:=⟨l,λid a h2=>k id (λe=>h2 (.inl e)) a⟩
 have b: ∀j,(oV τ i {τ i with to:=λr=>if r=q then some y else (τ i).to r} j).tr=(τ j).tr/\(oV τ i {τ i with to:=λr=>if r=q then some y else (τ i).to r} j).gens=(τ j).gens/\(oV τ i {τ i with to:=λr=>if r=q then some y else (τ i).to r} j).orb=(τ j).orb:=λj=>by
  by_cases e:j=i
  ·subst e;rw[cG];exact⟨rfl,rfl,rfl⟩
  ·rw[eD _ _ e];exact⟨rfl,rfl,rfl⟩
 refine R.cells l k t (λs s=>?_) (λj _=>(b j).2) (λj p a h2=>?_) (λj p a h2=>?_) (λj p a h2=>?_)
 ·unfold sl2 F1;rw[aZ om,aZ om]
 ·have:=(R.to j p a h2).fx f
  unfold F1
  by_cases e:j=i
  ·subst e
   rw[cG]
   show Slot _ _ _ (if p=q then some y else (τ j).to p)
   by_cases c:p=q
   ·subst c;rw[aZ om,aV rfl,aV rfl];exact PV.fx m f
   ·rw[aZ om,aZ om,aZ c];exact this
  ·rw[aZ om,aZ om,eD _ _ e];exact this
 ·have:=(R.iv j p a h2).fx f
  unfold F1
  by_cases e:j=i
  ·subst e
   rw[cG]
   show Slot _ _ _ ((if p=q then some y else (τ j).to p).map dM)
   by_cases c:p=q
   ·subst c;rw[aV rfl,aV rfl];exact PV.fx o f
   ·rw[aZ om,aZ om,aZ c];exact this
  ·rw[aZ om,aZ om,eD _ _ e];exact this
 ·rw[(b j).1]
  have:=R.tr j p a h2
  unfold F1;rw[aZ om,aZ om];exact this
end
theorem notin_take {l:List Nat}(nd:l.Nodup){k:Nat}(a:k<l.length):l.getD k 0∉l.take k:=by
 intro h;obtain⟨m,b,e⟩:=uK.1 h;have c:m<k:=by simp at b;omega
 rw[List.getElem_take,bT a] at e;have b:=nd.idxOf_getElem m om;have c:=nd.idxOf_getElem k a;rw[e] at b;omega
theorem ticked {n i:Nat}{τ b:lB}{y s u z:List Nat}{q k:Nat}(c:CI n i τ)(B:i+1<n)(r:(τ i).to q=some y)(x:(τ i).tr q=k)(g:(τ i).gens[k]? =some s)(t:(τ i).to ((bE y s).getD i 0)=some u)
  (p:z=bE (bE y s) (dM u)) (a:wT n (i+1) z (oV τ i ((τ i).tick q)) b):CI n i b/\b i=(τ i).tick q/\ ∀j,j<i->b j=τ j:=by
 have v:b i=(τ i).tick q:=(a.low i om).trans (cG ..)
 have f: ∀j,j<i->b j=τ j:=λj l=>(a.low j om).trans (eD _ _ om)
 have w:wT n (i+1) z τ (oV b i (τ i)):=by
  have m: ∀j,i<j->oV τ i ((τ i).tick q) j=τ j:=λj l=>eD _ _ om
  have d: ∀j,i<j->oV b i (τ i) j=b j:=λj l=>eD _ _ om
  refine⟨λj l=>?_,a.tw.congr λj l _=>(d j om).symm,λs g=>?_,λs g=>?_,?_⟩
  ·by_cases e:j=i
   ·subst e;exact cG ..
   ·rw[eD _ _ e];exact f j om
  ·rw[d _ om];exact a.old s (by rw[m _ om];exact g)
  ·rw[d _ om] at g
   have:=a.new s g;rwa [m _ om] at this
  ·rw[d _ om];exact a.has
 have d:s∈(τ i).gens:=Sg g
 obtain⟨_,_,l⟩:=c.Bt om r d t
 obtain⟨A,m⟩:=c.added B w (by rw[p];exact l)
 have d:oV b i (τ i) i=τ i:=cG ..
 have o:=A.tick (q:=q) (k:=k) (y:=y) (s:=s) (u:=u) (by rw[d];exact r) (by rw[d];exact x) (by rw[d];exact g) (by rw[d];exact t) (by rw[←p];exact m)
 have e:oV (oV b i (τ i)) i ((oV b i (τ i) i).tick q)=b:=by
  funext j
  by_cases h:j=i
  ·subst h;rw[cG,cG,v]
  ·rw[eD _ _ h,eD _ _ h]
 rw[e] at o
 exact⟨o,v,f⟩
theorem Own.lens {h:H}{v:V}{ws:List V}{b n:Nat}(o:Own h v 1 ws b)(a:ws.length=n):dA v=some (aB n):=by
 unfold dA;rw[o.sv.len (n:=n) om om];rfl
theorem F1_ne {F:Nat->V}{k c:Nat}{v:V}(h:c≠k):F1 F k v c=F c:=aZ h
theorem put_rc {N k:Nat}{F:Nat->V}(a:k<N)(hh:H)(L:Nat)(v:V):dQ (some (.cells false (rc N F))) hh L k [v]=some (hh.set L (some (.cells false (rc N (F1 F k v))))):=by
 rw[bF (by rw[cK];exact a),eJ];rfl
def AddPost (h:H)(n tid L:Nat)(F:Nat->V)(τ:lB)(i:Nat)(x:List Nat):V->H->Prop:=λ_ h'=> ∃F' τ',TwR h' n tid L F' τ'/\wT n i x τ τ'/\Fx (WT n L F) h h'/\ ∀id,id<h.next->WT n L F' id->WT n L F id
def ClosePost (h:H)(n tid L:Nat)(F:Nat->V)(τ:lB)(i:Nat):V->H->Prop:=λ_ h'=> ∃F' τ',TwR h' n tid L F' τ'/\kW n i τ'/\(∀j,j<i->τ' j=τ j)/\(τ' i).gens=(τ i).gens/\Fx (WT n L F) h h'/\ ∀id,id<h.next->WT n L F' id->WT n L F id
def AddC (n i:Nat):Prop:= ∀(h:H) (tid L:Nat) (F:Nat->V) (τ:lB) (vx:V) (x:List Nat),TwR h n tid L F τ->PV (WT n L F) h vx x->bV n x->Fix i x->kW n i τ->Ev T 156 [.ptr tid 0,vx,aB i] h (AddPost h n tid L F τ i x)
def CloseC (n i:Nat):Prop:= ∀(h:H) (tid L:Nat) (F:Nat->V) (τ:lB),TwR h n tid L F τ->CI n i τ->Ev T 178 [.ptr tid 0,aB i] h (ClosePost h n tid L F τ i)
structure ClS (h:H)(n tid L:Nat)(F:Nat->V)(τ:lB)(i:Nat)(h':H)(F':Nat->V)(τ':lB)(k:Nat):Prop where
 R:TwR h' n tid L F' τ'
 c:CI n i τ'
 hk:k<=(τ' i).orb.length
 done: ∀r∈(τ' i).orb.take k,(τ' i).tr r=(τ' i).gens.length
 low: ∀j,j<i->τ' j=τ j
 gens:(τ' i).gens=(τ i).gens
 fx:Fx (WT n L F) h h'
 wt: ∀id,id<h.next->WT n L F' id->WT n L F id
theorem orbn {n j:Nat}{l:Lv}(V:Xw n j l)(b:j<n):l.orb.length<=n:=by
 have:=List.Nodup.length_le_of_subset V.nd (l₂:=List.range n) λx a=>Db.2 (V.lt b a)
 simpa using this
theorem close_of_add (n i:Nat)(hn:n<=7)(hi:i<n)(A:i+1<n->AddC n (i+1)):CloseC n i:=by
 intro h a2 L F τ R c;refine bH c_chain_tower_close rfl rfl ?_;have cl:h.cell a2 1=some (.sl L 0 n (.kn n)):=by rw[H.aG R.t];rfl
 simp(disch:=omega)only[go_sem,c_chain_tower_close,aF,cl];refine aH (λm N hh=> ∃(k:Nat) (F':Nat->V) (Z:lB),(∃g:Nat->V,N= [.ptr a2 0,aB i,.ptr L (i*194),aB k,g 4,g 5,g 6,g 7,g 8,g 9,g 10,g 11])/\ClS h n a2 L F τ i hh F' Z k/\m=n-k) n
  ⟨0,F,τ,aA rfl,⟨R,c,fF _,λr d=>by simp at d,λ_ _=>rfl,rfl,Fx.refl _ h,λ_ _ h=>h⟩,rfl⟩ ?_
 rintro m N B ⟨k,a9,f,⟨g,rfl⟩,S,rfl⟩;have co:B.cell L (i*194+1)=some (a9 (i*194+1)):=S.R.cell hi om;have oo:=S.R.orb i hi;have lo:=Own.lens oo (by rw[aL,aQ]);have d4:=orbn S.c.iO hi;simp(disch:=omega)only[go_sem,co,lo]
 by_cases a0:(k:Int)<((f i).orb.length:Int)
 case neg=>
  rw[bJ a0];simp(disch:=omega)only[go_sem];refine⟨a9,f,S.R,S.c.full λq hq=>S.done q ?_,S.low,S.gens,S.fx,S.wt⟩;rw[yW om];exact hq
 rw[bM a0];have b:k<(f i).orb.length:=om
 obtain⟨id,d5,sh,c3,hc⟩:=(show SI B (a9 (i*194+1)) (zi (f i).orb) from oo.sv).open;rw[aQ] at sh c3 hc;obtain⟨q,hq⟩:=JR ((f i).orb.getD k 0);have ck:B.cell id (d5+k)=some (aB q):=by rw[hc k b];congr 2;simp [zi,b,←hq]
 simp(disch:=omega)only[go_sem,co,sh.ixa,ck];have b1:q∈(f i).orb:=by rw[←hq,bT b];exact xR b
 have d5:q<n:=S.c.iO.lt hi b1;clear sh c3 hc ck co lo oo d4 b1
 refine aH (λm N hh=> ∃(F':Nat->V) (Z:lB),(∃g:Nat->V,N= [.ptr a2 0,aB i,.ptr L (i*194),aB k,aB q,g 5,g 6,g 7,g 8,g 9,g 10,g 11])/\ClS h n a2 L F τ i hh F' Z k/\
   k<(Z i).orb.length/\(Z i).orb.getD k 0=q/\m=(Z i).gens.length-(Z i).tr q) ((f i).gens.length-(f i).tr q)
  ⟨a9,f,aA rfl,S,b,hq,rfl⟩ ?_
 clear a0 b hq S f a9;rintro m N K ⟨F2,a,⟨f,rfl⟩,S,b,hq,rfl⟩;have R2:=S.R;have iO:=S.c.iO;have b1:q∈(a i).orb:=by rw[←hq,bT b];exact xR b
 obtain⟨y,hy⟩:=iO.to b1;have Y:=iO.isP _ _ hy;have b3:K.cell L (i*194+130+q)=some (aB ((a i).tr q:Nat)):=by rw[R2.cell2 hi om,R2.tr i q hi om]
 have cg:K.cell L (i*194)=some (F2 (i*194)):=by
  have:=R2.cell (c:=0) hi om;rwa [Nat.add_zero] at this
 obtain⟨f,og,a4⟩:=R2.gens i hi;have lg:=Own.lens og (All2.length a4);have d4:=orbn iO hi;simp(disch:=omega)only[go_sem,b3,cg,lg]
 by_cases a0:(((a i).tr q:Nat):Int)<((a i).gens.length:Int)
 case neg=>
  rw[bJ a0];simp(disch:=omega)only[go_sem];rw[dY k];have fb:Fr K (H.mk K.tr (K.next+12)):=(Fr.refl K).bN om;have f:=iO.le q;refine⟨n-(k+1),om,k+1,F2,a,aA rfl,⟨R2.mono fb,S.c,b,λr d=>?_,S.low,S.gens,⟨jK S.fx.next fb.next,S.fx.get⟩,S.wt⟩,rfl⟩;rw[List.take_add_one,eV b,←bT b,hq] at d;rcases sZ.1 d with d|d
  ·exact S.done r d
  ·simp at d;subst d;omega
 rw[bM a0];obtain⟨t,ht⟩:=JR ((a i).tr q);rw[ht] at a0 b3;have f:(a i).gens.length<=1000000:=jK iO.many (jK (Nat.pow_le_pow_left hn n) (jK (Nat.pow_le_pow_right om hn) (by decide)));obtain⟨e0,d0,c4,c7,d3⟩:=og.sv.shape (a i).gens.length (by have:=All2.length a4;omega) om;obtain⟨vS,c8,pS⟩:=a4.at (i:=t) om;obtain⟨s,f⟩:=JR ((a i).gens.getD t []);rw[f] at pS
 have a3:(a i).gens[t]? =some s:=by
  rw[←f,List.getD,eV om];rfl
 have Sp:=iO.gP s (Sg a3);have cS:K.cell e0 (d0+t)=some vS:=by rw[d3 t (by have:=All2.length a4;omega)];exact c8
 have pT:PV (WT n L F2) K (F2 (i*194+2+q)) y:=by
  have:=R2.to i q hi om;rw[hy] at this;exact this
 have f:i*194+194<=n*194:=om
 simp(disch:=omega)only[go_sem,b3,cg,lg,c4.ixa,cS,R2.l,put_rc,kA,F1_ne];have fb:Fr K (H.mk K.tr (K.next+12+13+11)):=(Fr.refl K).bN om
 obtain⟨h3,c0⟩: ∃h3,h3=(H.mk K.tr (K.next+12+13+11)).set L (some (.cells false (rc (n*194) (F1 F2 (i*194+130+q) (aB ((t:Int)+1)))))):=⟨_,rfl⟩
 rw[←c0];obtain⟨R3,f,w3⟩:=(R2.mono fb).tick hi (q:=q) om (z:=(t:Int)+1) (by rw[ht]) c0;have c2:=(Fx.of (W:=WT n L F2) fb).trans f (λ_ _ h=>h);have c1:=PV.go pT c2 (λid _ h=>(w3 id).1 h);have d2:=PV.go pS c2 (λid _ h=>(w3 id).1 h);generalize F2 (i*194+2+q)=vt at pT c1;clear c0 pT pS b3 cg lg c4 c7 d3 cS c8 a4 og
 obtain⟨G,d6⟩: ∃G,G=F1 F2 (i*194+130+q) (aB ((t:Int)+1)):=⟨_,rfl⟩
 rw[←d6] at R3 w3 c1 d2
 obtain⟨x,w⟩: ∃x,x=oV a i ((a i).tick q):=⟨_,rfl⟩
 rw[←w] at R3;have e3:x i=(a i).tick q:=by rw[w];exact cG ..
 refine (mul_gen (rfl:T 181=some c_chain_mul) vt vS y s h3 (by rw[Y.len];omega) c1.si d2.si (λj hj=>by rw[Sp.len];exact Y.dZ (by rw[←Y.len];exact hj))).mono ?_;rintro v O f;have P:=Y.mul Sp;obtain⟨p,hp⟩:=JR ((bE y s).getD i 0);have g:p<n:=by rw[←hp];exact P.dZ hi
 have R4:=R3.mono f.fr;have pv:=f.pv (W:=WT n L G) (λJ=>by have:=R3.win J;omega)
 have N:O.cell h3.next i=some (aB p):=by
  rw[H.aG f.get,tT (by rw[P.len];exact hi),hp]
 have F:O.cell L (i*194+2+p)=some (G (i*194+2+p)):=R4.cell2 hi om;have o:=R4.to i p hi om;have g:=f.val;rw[P.len] at g;have f4:Fx (WT n L F2) K O:=c2.trans (Fx.of (W:=WT n L F2) f.fr) (λ_ _ h=>h);simp(disch:=omega)only[go_sem,g,N,F];rw[←g];have a1: ∀r∈(a i).orb.take k,r≠q:=λr d e=>notin_take iO.nd b (by rw[hq,←e];exact d)
 cases hpo:(a i).to p with
 |none=>
  have a5:G (i*194+2+p)= .aD:=by
   rw[e3] at o;have o:Slot _ _ _ ((a i).to p):=o;rw[hpo] at o;exact o
  simp(disch:=omega)only[go_sem,a5];refine (inv_gen (rfl:T 188=some c_chain_inv) v n (bE y s) (H.mk O.tr (O.next+15)) om P (pv.mono ((Fr.refl O).bN om)).si).mono ?_;rintro vu h5 nu;have f5:Fr O h5:=((Fr.refl O).bN om:Fr O (H.mk O.tr (O.next+15))).trans nu.fr;have R5:=R4.mono f5;have b8:=pv.mono f5;have b9:=nu.pv (W:=WT n L G) (λJ=>by have:=R4.win J;simp at this;omega);simp(disch:=omega)only[go_sem,R5.l,fU b8.dR.1 b8.dR.2,fU b9.dR.1 b9.dR.2,put_rc,kA,F1_ne]
  obtain⟨F6,d1⟩: ∃F6,F6=F1 (F1 G (i*194+2+p) v) (i*194+66+p) vu:=⟨_,rfl⟩
  obtain⟨h6,b6⟩: ∃h6,h6=(h5.set L (some (Ob.cells false (rc (n*194) (F1 G (i*194+2+p) v))))).set L (some (Ob.cells false (rc (n*194) (F1 (F1 G (i*194+2+p) v) (i*194+66+p) vu)))):=⟨_,rfl⟩
  rw[←b6];obtain⟨R6,f6,w6⟩:=R5.way hi (q:=p) om b8 b9 (h3:=h6) (by rw[b6];exact eS _) (λid B _=>by rw[b6,H.aI _ B,H.aI _ B]) (by rw[b6,H.aT]);have eO:G (i*194+1)=F6 (i*194+1):=by rw[d1,F1_ne om,F1_ne om]
  rw[←d1] at R6 w6
  obtain⟨Q,a7⟩: ∃Q,Q=oV x i {x i with to:=λr=>if r=p then some (bE y s) else (x i).to r}:=⟨_,rfl⟩
  rw[←a7] at R6;have e6:Q i={x i with to:=λr=>if r=p then some (bE y s) else (x i).to r}:=by rw[a7];exact cG ..
  have b0:(Q i).orb=(a i).orb:=by rw[e6,e3];rfl
  simp(disch:=omega)only[go_sem,cJ h6 (z:= aB 0) (v:= aB p) rfl rfl,eO]
  obtain⟨h7,b5⟩: ∃h7,h7=h6.new (.cells false [aB p]):=⟨_,rfl⟩
  have f7:Fr h6 h7:=by rw[b5];exact (Fr.refl h6).new _
  have f:h7.next=h6.next+1:=by rw[b5];exact H.aX ..
  have g:h7.get h6.next=some (.cells false [aB p]):=by rw[b5];exact H.aN ..
  rw[←b5];have R7:=R6.mono f7;have f:=R7.orb i hi;rw[b0] at f;obtain⟨h8,a8,p8⟩:=f.push (bytes:=8) (SV.one om g (.kn 1)) (n:=(a i).orb.length) (m:=1) (by rw[aL,aQ,kF]) rfl om om om
  have f:h8.get L=some (.cells false (rc (n*194) F6)):=by
   rw[p8.old L (by have:=R7.ln;omega) (by have:=R7.ap (2*i+1) om;rw[sl2_o] at this;exact this)];exact R7.l
  simp(disch:=omega)only[go_sem,a8,f,put_rc]
  obtain⟨h9,c5⟩: ∃h9,h9=h8.set L (some (.cells false (rc (n*194) (F1 F6 (i*194+1) (.sl h7.next 0 ((a i).orb.length+1) (.un 1)))))):=⟨_,rfl⟩
  rw[←c5];obtain⟨R9,f9,w9⟩:=R7.point hi (q:=p) (by rw[b0];exact p8) (.inl rfl) (by rw[b0]) c5;rw[b0] at R9
  have eT:oV Q i {Q i with orb:=(a i).orb++ [p]}=oV a i (((a i).tick q).reach p (bE y s)):=by
   funext j
   by_cases e:j=i
   ·subst e
    rw[cG,cG,e6,e3];rfl
   ·rw[eD _ _ e,eD _ _ e,a7,eD _ _ e,w,eD _ _ e]
  rw[eT] at R9;have c9:=S.c.found hi hy ht a3 hp hpo;have ei:oV a i (((a i).tick q).reach p (bE y s)) i=((a i).tick q).reach p (bE y s):=cG ..
  have W9: ∀id,id<K.next->WT n L (F1 F6 (i*194+1) (.sl h7.next 0 ((a i).orb.length+1) (.un 1))) id->WT n L F2 id:=λid B J=>
   (w3 id).1 ((w6 id).1 (w9 id (by have:=f4.next;have:=f5.next;have:=f6.next;have:=f7.next;omega) J))
  have b4:WT n L G=WT n L F2:=funext λid=>propext (w3 id)
  have e:WT n L F6=WT n L F2:=(funext λid=>propext (w6 id)).trans b4;rw[b4] at f6;rw[e] at f9;have d7:Fx (WT n L F2) K h9:=f4.trans ((Fx.of f5).trans (f6.trans ((Fx.of f7).trans f9 (λ_ _ h=>h)) (λ_ _ h=>h)) (λ_ _ h=>h)) (λ_ _ h=>h);refine⟨(a i).gens.length-(t+1),om,_,_,aA rfl,⟨R9,c9,?_,?_,λj hj=>(eD _ _ om).trans (S.low j hj),?_,S.fx.trans d7 λid B J=>S.wt id B J,λid B J=>S.wt id B (W9 id (by have:=S.fx.next;omega) J)⟩,?_,?_,?_⟩
  all_goals rw[ei]
  ·show k<=((a i).orb++ [p]).length
   rw[iZ];omega
  ·intro r d
   have d:r∈((a i).orb++ [p]).take k:=d;rw[List.take_append_of_le_length om] at d;show (if r=q then (a i).tr q+1 else (a i).tr r)=(a i).gens.length;rw[aZ (a1 r d)];exact S.done r d
  ·exact S.gens
  ·show k<((a i).orb++ [p]).length
   rw[iZ];omega
  ·show ((a i).orb++ [p]).getD k 0=q
   rw[←hq,List.getD,List.getD,wE b]
  ·show _=(a i).gens.length-(if q=q then (a i).tr q+1 else (a i).tr q)
   rw[aV rfl,ht]
 |some u=>
  have U:=iO.isP _ _ hpo
  have a5:PV (WT n L G) O (G (i*194+2+p)) u:=by
   rw[e3] at o;have o:Slot _ _ _ ((a i).to p):=o;rw[hpo] at o;exact o
  have sn:=vX a5 (bV.ne om U) false;have ct:O.cell a2 0=some (aB n):=by rw[H.aG R4.t];rfl
  have e:O.cell L (i*194+66+p)=some (G (i*194+66+p)):=R4.cell2 hi om
  have d8:PV (WT n L G) O (G (i*194+66+p)) (dM u):=by
   have:=R4.iv i p hi om;rw[e3] at this;have this:Slot _ _ _ (((a i).to p).map dM):=this;rw[hpo] at this;exact this
  simp(disch:=omega)only[go_sem,sn,ct]
  by_cases b7:(i:Int)+1<(n:Int)
  ·rw[bM b7]
   simp(disch:=omega)only[go_sem,e];refine (mul_gen (rfl:T 181=some c_chain_mul) v _ (bE y s) (dM u) O (by rw[P.len];omega) pv.si d8.si (λj hj=>by rw[gG,U.len];exact P.dZ (by rw[←P.len];exact hj))).mono ?_;rintro f h5 nu;have R5:=R4.mono nu.fr;have Z:=P.mul U.inv;have e:=nu.pv (W:=WT n L G) (λJ=>by have:=R4.win J;omega);obtain⟨_,b2,_⟩:=S.c.Bt hi hy (Sg a3) (by rw[hp];exact hpo);simp(disch:=omega)only[go_sem];rw[dY i];refine (A om h5 a2 L G x f _ R5 e Z b2 ?_).mono ?_
   ·rw[w];exact S.c.up.EG om
   rintro e h6 ⟨F6,Q,R6,a6,f6,w6⟩;rw[w] at a6;obtain⟨c6,e6,l6⟩:=ticked S.c om hy ht a3 (by rw[hp];exact hpo) rfl a6;have b4:WT n L G=WT n L F2:=funext λid=>propext (w3 id)
   rw[b4] at f6 w6;have d9:Fx (WT n L F2) K h6:=f4.trans ((Fx.of nu.fr).trans f6 (λ_ _ h=>h)) (λ_ _ h=>h);simp(disch:=omega)only[go_sem];refine⟨(a i).gens.length-(t+1),om,_,_,aA rfl,⟨R6,c6,?_,?_,λj hj=>(l6 j hj).trans (S.low j hj),?_,S.fx.trans d9 λid B J=>S.wt id B J,λid B J=>S.wt id B (w6 id (by have:=S.fx.next;have:=f4.next;have:=nu.fr.next;omega) J)⟩,?_,?_,?_⟩
   all_goals rw[e6]
   ·exact Nat.le_of_lt b
   ·intro r d
    have d:r∈(a i).orb.take k:=d;show (if r=q then (a i).tr q+1 else (a i).tr r)=(a i).gens.length;rw[aZ (a1 r d)];exact S.done r d
   ·exact S.gens
   ·exact b
   ·exact hq
   ·show _=(a i).gens.length-(if q=q then (a i).tr q+1 else (a i).tr q)
    rw[aV rfl,ht]
  ·rw[bJ b7]
   obtain⟨e,b2,_⟩:=S.c.Bt hi hy (Sg a3) (by rw[hp];exact hpo);have f:i+1=n:=om
   have c6:=S.c.tick hy ht a3 (by rw[hp];exact hpo) (by
    rw[f];rw[f] at b2
    exact oJ.2 (b2.all e))
   simp(disch:=omega)only[go_sem];rw[w] at R4;have e6:oV a i ((a i).tick q) i=(a i).tick q:=cG ..;refine⟨(a i).gens.length-(t+1),om,_,_,aA rfl,⟨R4,c6,?_,?_,λj hj=>(eD _ _ om).trans (S.low j hj),?_,S.fx.trans f4 λid B J=>S.wt id B J,λid B J=>S.wt id B ((w3 id).1 J)⟩,?_,?_,?_⟩
   all_goals rw[e6]
   ·exact Nat.le_of_lt b
   ·intro r d
    have d:r∈(a i).orb.take k:=d;show (if r=q then (a i).tr q+1 else (a i).tr r)=(a i).gens.length;rw[aZ (a1 r d)];exact S.done r d
   ·exact S.gens
   ·exact b
   ·exact hq
   ·show _=(a i).gens.length-(if q=q then (a i).tr q+1 else (a i).tr q)
    rw[aV rfl,ht]
def pushU (τ:lB)(i m:Nat)(r:List Nat):lB:=λj=>if i<=j/\j<m then (τ j).more r else τ j
theorem pushU_zero (τ:lB)(i:Nat)(r:List Nat):pushU τ i i r=τ:=by
 funext j;unfold pushU;rw[aZ om]
theorem pushU_succ (τ:lB){i m:Nat}(r:List Nat)(h:i<=m):oV (pushU τ i m r) m ((pushU τ i m r m).more r)=pushU τ i (m+1) r:=by
 funext j
 by_cases e:j=m
 ·subst e
  rw[cG];unfold pushU;rw[aZ om,aV om]
 ·rw[eD _ _ e]
  unfold pushU
  by_cases a:i<=j/\j<m
  ·rw[aV a,aV om]
  ·rw[aZ a,aZ om]
theorem pushU_push (τ:lB)(i k:Nat)(r:List Nat):pushU τ i (k+1) r=push τ i k r:=by
 funext j;unfold pushU push
 by_cases h:i<=j/\j<=k
 ·rw[aV h,aV om]
 ·rw[aZ h,aZ om]
theorem eqV_sl (a b c:Nat)(d:mF):dJ (.sl a b c d) (.sl a b c d)=true:=by simp [dJ]
theorem add_of_close (n b:Nat)(hn:n<=7)(hi:b<n)(C: ∀j,b<=j->j<n->CloseC n j):AddC n b:=by
 intro h a L F τ vx x R hx X Fi t;refine bH c_chain_tower_add rfl rfl ?_;simp(disch:=omega)only[go_sem,c_chain_tower_add,aF];refine (sift_ok h n a L F τ vx x b om om R hx X om t).mono ?_;have J:=Vw (n-b) b x om t X Fi;obtain⟨k,hk⟩:=JR ((Jn n τ (n-b) b x).1);obtain⟨r,hr⟩:=JR ((Jn n τ (n-b) b x).2);rw[hk,hr] at J ⊢;rintro _ w ⟨vr,rfl,G,x,f1⟩;have R1:=R.mono f1;have ct:w.cell a 0=some (aB n):=by rw[H.aG R1.t];rfl
 simp(disch:=omega)only[go_sem,ct]
 by_cases Y:(k:Int)=(n:Int)
 ·rw[bM Y]
  have e:k=n:=om
  subst e;simp(disch:=omega)only[go_sem];exact⟨F,τ,R1,wT.none t hi (J.in t hi),Fx.of f1,λ_ _ h=>h⟩
 rw[bJ Y];have o:k<n:=by have:=J.le;omega
 have x:=J.ge;simp(disch:=omega)only[go_sem]
 refine aH (λs d P=> ∃(m:Nat) (O:Nat->V),(∃g:Nat->V,d= [.ptr a 0,g 1,aB b,aB k,vr,aB m,g 6,g 7,g 8,g 9])/\b<=m/\m<=k+1/\TwR P n a L O (pushU τ b m r)/\PV (WT n L O) P vr r/\
   Fx (WT n L F) h P/\(∀id,id<h.next->WT n L O id->WT n L F id)/\s=k+1-m) (k+1-b)
  ⟨b,F,aA rfl,eS _,om,by rw[pushU_zero];exact R1,G,Fx.of f1,λ_ _ h=>h,rfl⟩ ?_
 clear R1 ct G f1;rintro s d i ⟨m,F2,⟨g,rfl⟩,u,a1,z,G,f2,w2,rfl⟩;simp(disch:=omega)only[go_sem]
 by_cases f:(m:Int)<=(k:Int)
 ·rw[bM f]
  have y:m<n:=om
  have cl:i.cell a 1=some (.sl L 0 n (.kn n)):=by rw[H.aG z.t];rfl
  have x:i.cell L (m*194)=some (F2 (m*194)):=by
   have:=z.cell (c:=0) y om;rwa [Nat.add_zero] at this
  have A:pushU τ b m r m=τ m:=by unfold pushU;rw[aZ om]
  have R:=z.ln;have R:=z.tn;simp(disch:=omega)only[go_sem,cl,x,cJ _ G.dR.1 G.dR.2]
  obtain⟨q,v⟩: ∃q:H,q=H.mk ((H.mk i.tr (i.next+14)).new (Ob.cells false [vr])).tr (i.next+19):=⟨_,rfl⟩
  rw[←v];have g3:q.get (i.next+14)=bW [vr]:=by rw[v];exact H.aN (H.mk i.tr (i.next+14)) _
  have x:q.next=i.next+19:=by rw[v]
  have N:Fr i q:=⟨om,λid x=>by rw[v];exact H.bL (H.mk i.tr (i.next+14)) (by simp;omega) _⟩
  have p:=z.mono N;have a0:=G.mono N;obtain⟨i,i,B⟩:=p.gens m y;rw[A] at B;have iO:=(t m u y).1;have v:(τ m).gens.length<=1000000:=jK iO.many (jK (Nat.pow_le_pow_left hn n) (jK (Nat.pow_le_pow_right om hn) (by decide)));obtain⟨h4,a4,p4⟩:=i.push (bytes:=24) (SV.one om g3 (.kn 1)) (n:=(τ m).gens.length) (m:=1) (by have:=All2.length B;omega) rfl om om om;have gt:h4.get a=q.get a:=p4.old a om (λid i x c e v=>p.tw (.inr ⟨2*m,om,i,x,c,by rw[sl2_g,v];exact e⟩))
  have gL:h4.get L=bW (rc (n*194) F2):=by
   rw[p4.old L om (by have:=p.ap (2*m) om;rw[sl2_g] at this;exact this)];exact p.l
  have a2:h4.cell a 1=some (.sl L 0 n (.kn n)):=by unfold H.cell;rw[gt,p.t];rfl
  have c:m*194+194<=n*194:=om
  simp(disch:=omega)only[go_sem,a4,a2,eqV_sl,gL,put_rc]
  obtain⟨c,Z⟩: ∃c,c=h4.set L (bW (rc (n*194) (F1 F2 (m*194) (.sl q.next 0 ((τ m).gens.length+1) (.un 1))))):=⟨_,rfl⟩
  rw[←Z];obtain⟨R5,f5,w5⟩:=p.more y (by rw[A];exact B) a0 (by rw[A];exact p4) (by rw[A]) Z;rw[pushU_succ τ r u] at R5;rw[dY m];refine⟨k+1-(m+1),om,m+1,_,aA rfl,om,om,R5,PV.go a0 f5 w5,f2.trans ((Fx.of (W:=WT n L F2) N).trans f5 (λ_ _ h=>h)) (λid w K=>w2 id w K),λid w K=>w2 id w (w5 id (by have:=f2.next;omega) K),rfl⟩
 rw[bJ f];have A:m=k+1:=om
 subst A;rw[pushU_push] at z;simp(disch:=omega)only[go_sem];have U:=Ci.start J t o
 refine aH (λs d P=> ∃(m:Nat) (O:Nat->V) (c:lB),(∃g:Nat->V,d= [.ptr a 0,g 1,aB b,g 3,g 4,g 5,aB ((m:Int)- 1),g 7,g 8,g 9])/\b<=m/\m<=k+1/\TwR P n a L O c/\Ci n b k r τ c m/\
   Fx (WT n L F) h P/\(∀id,id<h.next->WT n L O id->WT n L F id)/\s=m) (k+1)
  ⟨k+1,F2,_,aA (by rw[show ((k+1:Nat):Int)- 1=(k:Int) from om];rfl),om,om,z,U,f2,w2,rfl⟩ ?_
 clear z U f2 w2 G f u a1;rintro s d q ⟨m,F3,Q,⟨g3,rfl⟩,u,a1,p,AI,N,w3,hm⟩;subst hm;simp(disch:=omega)only[go_sem]
 by_cases f:(b:Int)<=(s:Int)- 1
 ·rw[bM f]
  obtain⟨j,rfl⟩: ∃j,s=j+1:=⟨s- 1,om⟩
  have ci:=AI.ci J t o om om;simp(disch:=omega)only[go_sem];rw[show ((j+1:Nat):Int)- 1=(j:Int) from om];refine (C j om om q a L F3 Q p ci).mono ?_;rintro _ h4 ⟨c,a,R4,t4,l4,g4,f4,w4⟩;simp(disch:=omega)only[go_sem];refine⟨j,om,j,c,a,aA rfl,om,om,R4,AI.next om om l4 g4 t4,N.trans f4 (λid w K=>w3 id w K),λid w K=>w3 id w (w4 id (by have:=N.next;omega) K),rfl⟩
 rw[bJ f];have A:s=b:=om
 rw[A] at AI;simp(disch:=omega)only[go_sem];exact⟨F3,Q,p,AI.done J t X o,N,w3⟩
theorem add_all (n:Nat)(b:n<=7): ∀d i,i+d=n->(i<n->AddC n i)/\(i<n->CloseC n i)
 |0,i,h=>⟨λa=>om,λa=>om⟩
 |d+1,i,h=>by
  have f:=add_all n b d (i+1) om
  have c: ∀j,i<=j->j<n->CloseC n j:=λj k a=>by
   by_cases e:j=i
   ·subst e;exact close_of_add n j b a λg=>f.1 g
   ·exact (add_all n b (n-j) j om).2 a
  exact⟨λa=>add_of_close n i b a c,λa=>c i (eS _) a⟩
termination_by d=>d
theorem add_ok (n:Nat)(b:n<=7)(a:0<n):AddC n 0:=(add_all n b n 0 om).1 a
end Go.Proofs.YtapfcpkecmmagaaGreat
namespace Go.Pm
set_option maxRecDepth 100000
section
variable {x y:List Nat} {R:Yo}
def Lt (x y:List Nat):Prop:= ∃k,k<x.length/\(∀j,j<k->x.getD j 0=y.getD j 0)/\x.getD k 0<y.getD k 0
def Le (x y:List Nat):Prop:=x=y∨Lt x y
theorem Lt.asymm (a:Lt x y)(b:Lt y x):False:=by
 obtain⟨k,_,c,d⟩:=a;obtain⟨m,_,d,e⟩:=b;rcases Nat.lt_trichotomy k m with h|h|h
 ·have:=d k h;omega
 ·subst h;omega
 ·have:=c m h;omega
theorem Le.antisymm (a:Le x y)(b:Le y x):x=y:=by
 rcases a with a|a
 ·exact a
 ·rcases b with b|b
  ·exact b.symm
  ·exact (a.asymm b).elim
def kP (x:List Nat):Nat->List Nat->Nat
 |b, []=>b
 |b,q::l=>kP x (if x.getD q 0<x.getD b 0 then q else b) l
theorem Qd (x:List Nat): ∀(l:List Nat) (b:Nat),kP x b l∈b::l/\ ∀q∈b::l,x.getD (kP x b l) 0<=x.getD q 0
 | [],b=>⟨by simp [kP],λq e=>by simp at e;subst e;exact Nat.le_refl _⟩
 |q::l,b=>by
  have c:=Qd x l (if x.getD q 0<x.getD b 0 then q else b);unfold kP;refine⟨?_,λr a=>?_⟩
  ·rcases List.mem_cons.1 c.1 with h|h
   ·rw[h];split<;>simp
   ·exact List.mem_cons_of_mem _ (List.mem_cons_of_mem _ h)
  ·have d:=c.2 _ (List.mem_cons_self ..)
   rcases List.mem_cons.1 a with rfl|a
   ·split at d<;>(split<;>omega)
   ·rcases List.mem_cons.1 a with rfl|a
    ·split at d<;>(split<;>omega)
    ·exact c.2 r (List.mem_cons_of_mem _ a)
def xX (τ:lB):Nat->Nat->List Nat->List Nat
 |0,_,x=>x
 |d+1,k,x=>xX τ d (k+1) (if kP x k (τ k).orb=k then x else bE (((τ k).to (kP x k (τ k).orb)).getD []) x)
section
variable {n:Nat} {τ:lB} {G:List Nat->Prop}
theorem Ub: ∀(d k:Nat) (x:List Nat),k+d=n->kW n k τ->bV n x-> ∃h,S n τ k h/\xX τ d k x=bE h x/\ ∀g,S n τ k g->Le (xX τ d k x) (bE g x)
 |0,k,x,h,_,X=>by
  obtain rfl:k=n:=oq
  refine⟨cH k,oJ.2 rfl,(fO X).symm,λg f=> .inl ?_⟩;rw[oJ] at f;subst f;exact (fO X).symm
 |d+1,k,x,h,t,X=>by
  have a:k<n:=oq
  have L:=(t k (Nat.le_refl _) a).1;have m:=t.mono (Nat.le_succ k);obtain⟨J,K⟩:=Qd x (τ k).orb k
  have A:kP x k (τ k).orb∈(τ k).orb:=by
   rcases List.mem_cons.1 J with h|h
   ·rw[h];exact L.base
   ·exact h
  obtain⟨y,b⟩:=L.to A;have Y:=L.isP _ y b
  have p:(if kP x k (τ k).orb=k then x else bE (((τ k).to (kP x k (τ k).orb)).getD []) x)=bE y x:=by
   split
   ·rename_i e
    rw[e,L.one] at b;cases b;exact (fO X).symm
   ·rw[b];rfl
  unfold xX;rw[p];obtain⟨g,f,e,s⟩:=Ub d (k+1) (bE y x) oq m (Y.mul X);have i:=m.isP a f;have r:S n τ k (bE g y):=(lG a).2 ⟨_,y,g,b,f,rfl⟩;refine⟨bE g y,r,by rw[e,bP i Y X],λu w=>?_⟩;have U:=t.isP oq w;obtain⟨v,l,o⟩:=t.sift a w;have c:=L.mem l;have V:=L.isP _ v l;have N:(bE u x).getD k 0=x.getD (u.getD k 0) 0:=dB (by rw[U.len];exact a)
  have F:(bE g (bE y x)).getD k 0=x.getD (kP x k (τ k).orb) 0:=by
   rw[dB (by rw[i.len];exact a),m.fix a f k oq,dB (by rw[Y.len];exact a),L.maps _ y b]
  have O:=K _ (List.mem_cons_of_mem _ c)
  by_cases z:x.getD (kP x k (τ k).orb) 0<x.getD (u.getD k 0) 0
  ·rw[e]
   refine .inr ⟨k,by rw[eH,i.len];exact a,λj B=>?_,by rw[N,F];exact z⟩;rw[dB (by rw[i.len];omega),m.fix a f j oq,dB (by rw[Y.len];omega),L.fix _ y b j B,dB (by rw[U.len];omega),t.fix oq w j B]
  ·have q:kP x k (τ k).orb=u.getD k 0:=X.inj (L.lt a A) (L.lt a c) oq
   rw[←q,b] at l;cases l;have:=s _ o;rwa [bP U Y.inv (Y.mul X),←bP Y.inv Y X,iK Y,fO X] at this
structure yR (n:Nat)(G:List Nat->Prop)(i p:Nat)(x:List Nat):Prop where
 mem:G x
 fix:Fix i x
 maps:x.getD i 0=p
 least: ∀y,G y->Fix i y->y.getD i 0=p->Le x y
theorem yR.uniq {i p:Nat}(a:yR n G i p x)(b:yR n G i p y):x=y:=
 (a.least y b.mem b.fix b.maps).antisymm (b.least x a.mem a.fix a.maps)
structure dW (n:Nat)(G:List Nat->Prop)(O:rC)(R:Yo):Prop where
 lo:O.length=n
 lr:R.length=n
 asc: ∀i,i<n->(O.getD i []).Pairwise (· < ·)
 mem: ∀i,i<n-> ∀p,p∈O.getD i []↔ ∃x,G x/\Fix i x/\x.getD i 0=p
 rl: ∀i,i<n->(R.getD i []).length=(O.getD i []).length
 rep: ∀i,i<n-> ∀k,k<(O.getD i []).length->yR n G i ((O.getD i []).getD k 0) ((R.getD i []).getD k [])
theorem Ih: ∀{a b:List Nat},a.Pairwise (· < ·)->b.Pairwise (· < ·)->(∀p,p∈a↔p∈b)->a=b
 | [], [],_,_,_=>rfl
 | [],y::b,_,_,h=>by have:=(h y).2 (by simp);simp at this
 |x::a, [],_,_,h=>by have:=(h x).1 (by simp);simp at this
 |x::a,y::b,ha,hb,h=>by
  obtain⟨i,l⟩:=List.pairwise_cons.1 ha;obtain⟨j,k⟩:=List.pairwise_cons.1 hb
  have e:x=y:=by
   have d:=(h x).1 (by simp);have f:=(h y).2 (by simp);rcases List.mem_cons.1 d with d|d
   ·exact d
   ·rcases List.mem_cons.1 f with f|f
    ·exact f.symm
    ·have:=j x d;have:=i y f;omega
  subst e;congr 1
  refine Ih l k λp=>⟨λc=>?_,λc=>?_⟩
  ·rcases List.mem_cons.1 ((h p).1 (List.mem_cons_of_mem _ c)) with e|g
   ·subst e;have:=i p c;omega
   ·exact g
  ·rcases List.mem_cons.1 ((h p).2 (List.mem_cons_of_mem _ c)) with e|g
   ·subst e;have:=j p c;omega
   ·exact g
theorem vP {α:Type}{d:α}{a b:List α}(e:a.length=b.length)(h: ∀i,i<a.length->a.getD i d=b.getD i d):a=b:=by
 refine List.ext_getElem e λi c f=>?_
 have:=h i c;simpa [List.getD,c,f] using this
theorem dW.uniq {O c:rC}{f:Yo}(a:dW n G O R)(b:dW n G c f):O=c/\R=f:=by
 have e:O=c:=vP (d:= []) (by rw[a.lo,b.lo]) λi hi=>by
  rw[a.lo] at hi;exact Ih (a.asc i hi) (b.asc i hi) λp=>(a.mem i hi p).trans (b.mem i hi p).symm
 subst e;refine⟨rfl,vP (d:= []) (by rw[a.lr,b.lr]) λi hi=>?_⟩;rw[a.lr] at hi;refine vP (d:= []) (by rw[a.rl i hi,b.rl i hi]) λk e=>?_
 rw[a.rl i hi] at e;exact (a.rep i hi k e).uniq (b.rep i hi k e)
theorem dW.congr {H:List Nat->Prop}{O:rC}(a:dW n G O R)(h: ∀x,G x↔H x):dW n H O R:=by
 have:G=H:=funext λx=>propext (h x)
 exact this▸a
theorem kW.chain (t:kW n 0 τ){O:rC}(A:O.length=n)(w:R.length=n)
  (o: ∀i,i<n->(O.getD i []).Pairwise (· < ·)) (mem: ∀i,i<n-> ∀p,p∈O.getD i []↔p∈(τ i).orb) (u: ∀i,i<n->(R.getD i []).length=(O.getD i []).length)
  (j: ∀i,i<n-> ∀k,k<(O.getD i []).length-> ∀y,(τ i).to ((O.getD i []).getD k 0)=some y->(R.getD i []).getD k []=xX τ (n-(i+1)) (i+1) y):dW n (S n τ 0) O R:=by
 refine⟨A,w,o,λi hi p=>?_,u,λi hi k g=>?_⟩
 ·have L:=(t i (Nat.zero_le _) hi).1
  have c:=t.mono (Nat.zero_le i)
  rw[mem i hi p]
  constructor
  ·intro h
   obtain⟨y,a⟩:=L.to h
   have v:S n τ i y:=(c.gen hi).2 (L.gen p y a)
   have:=(t.Jw (Nat.zero_le i) oq).1 v
   exact⟨y,this.1,this.2,L.maps p y a⟩
  ·rintro⟨x,d,r,rfl⟩
   obtain⟨y,a,_⟩:=c.sift hi ((t.Jw (Nat.zero_le i) oq).2 ⟨d,r⟩)
   exact L.mem a
 ·have L:=(t i (Nat.zero_le _) hi).1
  have c:=t.mono (Nat.zero_le i)
  have q:=t.mono (Nat.zero_le (i+1))
  have h:(O.getD i []).getD k 0∈O.getD i []:=by
   rw[bT g];exact List.getElem_mem g
  obtain⟨y,a⟩:=L.to ((mem i hi _).1 h)
  rw[j i hi k g y a]
  generalize (O.getD i []).getD k 0=p at a
  have Y:=L.isP p y a
  obtain⟨h,m,e,b⟩:=Ub (n-(i+1)) (i+1) y oq q Y
  have H:=q.isP hi m
  have l:S n τ i (bE h y):=(lG hi).2 ⟨p,y,h,a,m,rfl⟩
  have g:=(t.Jw (Nat.zero_le i) oq).1 l
  rw[e] at b ⊢
  refine⟨g.1,g.2,?_,λz d r e=>?_⟩
  ·rw[dB (by rw[H.len];exact hi),q.fix hi m i oq,L.maps p y a]
  ·obtain⟨v,s,f⟩:=c.sift hi ((t.Jw (Nat.zero_le i) oq).2 ⟨d,r⟩)
   rw[e,a] at s
   cases s
   have Z:=t.isP (Nat.zero_le _) d
   have:=b _ f
   rwa [bP Z Y.inv Y,iK Y,dD Z] at this
theorem wT.group {i:Nat}{c:lB}(a:wT n i x τ c)(t:kW n i τ)(hi:i<n)(X:bV n x)(z:List Nat):Go.Pm.S n c i z↔fE n (λg=>Go.Pm.S n τ i g∨g=x) z:=by
 have L:=(t i (Nat.le_refl _) hi).1
 have d: ∀g,(Go.Pm.S n τ i g∨g=x)->bV n g:=λg b=>by
  rcases b with b|rfl
  ·exact t.isP oq b
  ·exact X
 rw[a.tw.gen hi];constructor
 ·intro h
  refine h.le (fE.grp d) λg b=>(a.new g b).mono λu d=>?_
  rcases d with d|d
  ·exact .inl ((t.gen hi).2 (fE.of L.gP d))
  ·exact .inr d
 ·intro h
  refine h.le (fE.grp (a.tw i (Nat.le_refl _) hi).1.gP) λg b=>?_
  rcases b with b|rfl
  ·exact ((t.gen hi).1 b).mono a.old
  ·exact a.has
end
end
section
variable {j:Nat} {y:List Nat}
abbrev mE:=Nat->Nat->Option (List Nat)
def ins (t:mE):Nat->Nat->List Nat->Option (Nat×List Nat)
 |0,_,_=>none
 |d+1,i,x=>if x.getD i 0=i then ins t d (i+1) x else
  match t i (x.getD i 0) with
  |none=>some (i,x)
  |some y=>ins t d (i+1) (bE x (dM y))
def dd:rC->rC
 | []=> []
 |a::l=>if a∈dd l then dd l else a::dd l
theorem Gd {a:List Nat}: ∀{l:rC},a∈dd l↔a∈l
 | []=>Iff.rfl
 |b::l=>by
  unfold dd;have c:=Gd (a:=a) (l:=l);split
  ·rename_i h
   rw[c];constructor
   ·exact List.mem_cons_of_mem _
   ·intro d
    rcases List.mem_cons.1 d with rfl|d
    ·exact c.1 h
    ·exact d
  ·simp [c]
theorem Aq: ∀l:rC,(dd l).Nodup
 | []=>List.nodup_nil
 |b::l=>by
  unfold dd;split
  ·exact Aq l
  ·rename_i h;exact List.nodup_cons.2 ⟨h,Aq l⟩
def eU (n:Nat)(t:mE)(j:Nat):rC:=(List.range n).flatMap λi=>if j<=i then (List.range n).filterMap λp=>t i p else []
theorem fH {n:Nat}{t:mE}:y∈eU n t j↔ ∃i p,j<=i/\i<n/\p<n/\t i p=some y:=by
 simp only[eU,List.mem_flatMap,List.mem_range];constructor
 ·rintro⟨i,hi,h⟩
  split at h
  ·rename_i b
   obtain⟨p,a,e⟩:=List.mem_filterMap.1 h;exact⟨i,p,b,hi,List.mem_range.1 a,e⟩
  ·simp at h
 ·rintro⟨i,p,b,hi,a,e⟩
  refine⟨i,hi,?_⟩;rw[if_pos b];exact List.mem_filterMap.2 ⟨p,List.mem_range.2 a,e⟩
def iX (n:Nat)(t:mE):lB:=λj=>
 {gens:=dd (eU n t j)
  orb:=(List.range n).filter λp=>p==j||(t j p).isSome
  to:=λp=>if p=j then some (cH n) else t j p
  tr:=λq=>if q=j∨(t j q).isSome then (dd (eU n t j)).length else 0}
structure kN (n:Nat)(t:mE):Prop where
 lt: ∀i p y,t i p=some y->i<n/\p<n/\p≠i
 isP: ∀i p y,t i p=some y->bV n y
 fix: ∀i p y,t i p=some y->Fix i y
 maps: ∀i p y,t i p=some y->y.getD i 0=p
def xH (n:Nat)(t:mE):Prop:= ∀a b,a∈eU n t 0->b∈eU n t 0->ins t n 0 (bE a b)=none
section
variable {n:Nat} {t:mE}
theorem oE {p:Nat}(T:kN n t)(b:j<n)(h:(iX n t j).to p=some y):bV n y/\Fix j y/\y.getD j 0=p/\(p=j/\y=cH n∨t j p=some y):=by
 have a:(if p=j then some (cH n) else t j p)=some y:=h;split at a
 ·rename_i e
  cases a;exact⟨bV.one n,Fix.one n j oq,by rw[e];exact eX b,.inl ⟨e,rfl⟩⟩
 ·exact⟨T.isP _ _ _ a,T.fix _ _ _ a,T.maps _ _ _ a,.inr a⟩
theorem Wt (T:kN n t): ∀(d j:Nat) (x:List Nat),j+d=n->S n (iX n t) j x->bV n x/\Fix j x
 |0,j,x,h,hs=>by
  obtain rfl:j=n:=oq
  rw[oJ] at hs;subst hs;exact⟨bV.one j,Fix.one j j (Nat.le_refl _)⟩
 |d+1,j,x,h,hs=>by
  obtain⟨p,y,g,a,b,rfl⟩:=(lG oq).1 hs;obtain⟨G,F⟩:=Wt T d (j+1) g oq b;obtain⟨Y,F2,_⟩:=oE T oq a;exact⟨G.mul Y,Fix.mul G oq (F.mono oq) F2⟩
theorem Ba (j:Nat)(a:j<n){x:List Nat}(X:bV n x)(h:S n (iX n t) (j+1) x):S n (iX n t) j x:=
 (lG a).2 ⟨j,cH n,x,by show (if j=j then some (cH n) else t j j)=_;rw[if_pos rfl],h,(dD X).symm⟩
theorem Iy: ∀(d j:Nat),j+d=n->S n (iX n t) j (cH n)
 |0,j,h=>by
         obtain rfl:j=n:=oq
         exact oJ.2 rfl
 |d+1,j,h=>Ba j oq (bV.one n) (Iy d (j+1) oq)
theorem Ae (T:kN n t): ∀(d j:Nat) (x:List Nat),j+d=n->bV n x->Fix j x->ins t d j x=none->S n (iX n t) j x
 |0,j,x,h,X,F,_=>by
  obtain rfl:j=n:=oq
  exact oJ.2 (F.all X)
 |d+1,j,x,h,X,F,hi=>by
  unfold ins at hi;split at hi
  ·rename_i e
   exact Ba j oq X (Ae T d (j+1) x oq X (F.succ e) hi)
  ·rename_i e
   split at hi
   ·cases hi
   ·rename_i y a
    have Y:=T.isP _ _ _ a;have F2:=T.fix _ _ _ a;refine (lG oq).2 ⟨x.getD j 0,y,bE x (dM y),?_,?_,by rw[bP X Y.inv Y,iK Y,dD X]⟩
    ·show (if x.getD j 0=j then some (cH n) else t j (x.getD j 0))=_
     rw[if_neg e];exact a
    ·refine Ae T d (j+1) _ oq (X.mul Y.inv) ((Fix.mul X oq F (Fix.inv Y oq F2)).succ ?_) hi
     rw[dB (by rw[X.len];omega)];have:=mX Y (show j<n by omega);rwa [T.maps _ _ _ a] at this
theorem Ig: ∀(k d j:Nat) (x:List Nat),Fix (j+k) x->ins t (d+k) j x=ins t d (j+k) x
 |0,_,_,_,_=>rfl
 |k+1,d,j,x,F=>by
  have e:ins t (d+k+1) j x=ins t (d+k) (j+1) x:=by
   show (if x.getD j 0=j then ins t (d+k) (j+1) x else _)=_;rw[if_pos (F j oq)]
  rw[show d+(k+1)=(d+k)+1 from rfl,e,Ig k d (j+1) x (by rw[show j+1+k=j+(k+1) from oq];exact F),show j+1+k=j+(k+1) from oq]
theorem Ww (T:kN n t)(c:xH n t){a b:List Nat}(i:j<=n)(g:a∈eU n t 0)(f:b∈eU n t 0)(A:bV n a)(B:bV n b)(d:Fix j a)(e:Fix j b):S n (iX n t) j (bE a b):=by
 have F:=Fix.mul A i d e;have h:=c a b g f;rw[show n=(n-j)+j from oq,Ig j (n-j) 0 _ (by rw[Nat.zero_add];exact F),Nat.zero_add] at h;exact Ae T (n-j) j _ oq (A.mul B) F h
theorem GZ (T:kN n t)(h:y∈eU n t j):S n (iX n t) j y:=by
 obtain⟨i,p,b,b,c,e⟩:=fH.1 h;have Y:=T.isP _ _ _ e
 have a:S n (iX n t) i y:=by
  refine (lG b).2 ⟨p,y,cH n,?_,Iy (n-(i+1)) (i+1) oq,(fO Y).symm⟩;show (if p=i then some (cH n) else t i p)=_;rw[if_neg (T.lt _ _ _ e).2.2];exact e
 have: ∀k,k<=i->S n (iX n t) (i-k) y:=by
  intro k
  induction k with
  |zero=>intro _;exact a
  |succ k ih=>
   intro a;refine Ba (i-(k+1)) oq Y ?_;rw[show i-(k+1)+1=i-k from oq];exact ih oq
 have:=this (i-j) oq;rwa [show i-(i-j)=j from oq] at this
theorem Ot (T:kN n t)(c:xH n t):kW n 0 (iX n t):=λj _ f=>by
 have d: ∀p,p∈(iX n t j).orb↔((iX n t j).to p).isSome:=by
  intro p;show p∈(List.range n).filter (λp=>p==j||(t j p).isSome)↔(if p=j then some (cH n) else t j p).isSome;rw[List.mem_filter,List.mem_range]
  by_cases e:p=j
  ·subst e;simp [f]
  ·simp only[beq_iff_eq,e,if_neg,Bool.or_eq_true,false_or]
   constructor
   ·exact λh=>h.2
   ·intro h
    obtain⟨y,A⟩:=Option.isSome_iff_exists.1 h;exact⟨(T.lt _ _ _ A).2.1,h⟩
 have a: ∀s,s∈(iX n t j).gens↔s∈eU n t j:=λs=>Gd
 have b: ∀s,s∈eU n t j->bV n s/\Fix j s/\s∈eU n t 0:=λs l=>by
  obtain⟨i,p,w,r,o,e⟩:=fH.1 l;exact⟨T.isP _ _ _ e,(T.fix _ _ _ e).mono w,fH.2 ⟨i,p,Nat.zero_le _,r,o,e⟩⟩
 refine⟨⟨List.nodup_range.filter _,(d j).2 ?_,?_,d,λp y h=>(oE T f h).1,λp y h=>(oE T f h).2.1,λp y h=>(oE T f h).2.2.1,λp y h=>?_,λs l=>(b s ((a s).1 l)).1,λs l=>(b s ((a s).1 l)).2.1,Aq _,λq=>?_,λq x=>?_⟩,λq y A k s Z l=>?_,λq x=>?_,λh s l=>?_⟩
 ·show (if j=j then some (cH n) else t j j).isSome
  rw[if_pos rfl];rfl
 ·show (if j=j then some (cH n) else t j j)=_
  rw[if_pos rfl]
 ·rcases (oE T f h).2.2.2 with ⟨_,rfl⟩|e
  ·exact .one
  ·refine fE.of (λg B=>(b g ((a g).1 B)).1) ((a y).2 (fH.2 ⟨j,p,Nat.le_refl _,f,(T.lt _ _ _ e).2.1,e⟩))
 ·show (if q=j∨(t j q).isSome then (dd (eU n t j)).length else 0)<=_
  split
  ·exact Nat.le_refl _
  ·exact Nat.zero_le _
 ·show (if q=j∨(t j q).isSome then (dd (eU n t j)).length else 0)=0
  rw[if_neg];rintro (e|e)
  ·exact x ((d q).2 (by show (if q=j then some (cH n) else t j q).isSome;rw[if_pos e];rfl))
  ·refine x ((d q).2 ?_)
   show (if q=j then some (cH n) else t j q).isSome;split
   ·rfl
   ·exact e
 ·--closure
  have v:s∈eU n t j:=(a s).1 (List.mem_of_getElem? l);obtain⟨J,R,G⟩:=b s v;obtain⟨Y,N,W,m⟩:=oE T f A
  have Q:S n (iX n t) j (bE y s):=by
   rcases m with ⟨_,rfl⟩|e
   ·rw[fO J];exact GZ T v
   ·exact Ww T c oq (fH.2 ⟨j,q,Nat.zero_le _,f,(T.lt _ _ _ e).2.1,e⟩) G Y J N R
  obtain⟨p,u,g,w,r,o⟩:=(lG f).1 Q;obtain⟨U,fu,P,_⟩:=oE T f w;obtain⟨z,L⟩:=Wt T (n-(j+1)) (j+1) g oq r
  have O:(bE y s).getD j 0=p:=by
   rw[o,dB (by rw[z.len];exact f),L j oq,P]
  refine⟨u,by rw[O];exact w,?_⟩;rw[o,bP z U U.inv,iL U,dD z];exact r
 ·show (if q=j∨(t j q).isSome then (dd (eU n t j)).length else 0)=(dd (eU n t j)).length
  rw[if_pos];have:=(d q).1 x;have K:(if q=j then some (cH n) else t j q).isSome:=this;split at K
  ·rename_i e;exact .inl e
  ·exact .inr K
 ·have F:s∈eU n t (j+1):=Gd.1 l
  obtain⟨i,p,w,r,o,e⟩:=fH.1 F;exact fE.of (λg B=>(b g ((a g).1 B)).1) ((a s).2 (fH.2 ⟨i,p,oq,r,o,e⟩))
theorem Ng (T:kN n t)(c:xH n t)(a:0<n)(x:List Nat):S n (iX n t) 0 x↔fE n (· ∈eU n t 0) x:=by
 rw[(Ot T c).gen a];have:(λg=>g∈(iX n t 0).gens)=λg=>g∈eU n t 0:=funext λg=>propext Gd
 rw[this]
def put (t:mE)(i p:Nat)(x:List Nat):mE:=λj q=>if j=i/\q=p then some x else t j q
def iD (t:mE)(n:Nat)(x:List Nat):mE:=match ins t n 0 x with
 |none=>t
 |some (i,r)=>put t i (r.getD i 0) r
theorem rH (T:kN n t): ∀(d j:Nat) (x:List Nat) (i:Nat) (r:List Nat),j+d=n->bV n x->Fix j x->ins t d j x=some (i,r)->
  j<=i/\i<n/\bV n r/\Fix i r/\r.getD i 0≠i/\t i (r.getD i 0)=none/\ ∃w,fE n (· ∈eU n t 0) w/\x=bE r w
 |0,_,_,_,_,_,_,_,h=>by cases h
 |d+1,j,x,i,r,h,X,F,hi=>by
  unfold ins at hi;split at hi
  ·rename_i e
   obtain⟨p,b⟩:=rH T d (j+1) x i r oq X (F.succ e) hi;exact⟨oq,b⟩
  ·rename_i e
   split at hi
   ·rename_i q
    cases hi;exact⟨Nat.le_refl _,oq,X,F,e,q,cH n,.one,(dD X).symm⟩
   ·rename_i y a
    have Y:=T.isP _ _ _ a
    have u: ∀g,g∈eU n t 0->bV n g:=λg o=>by
     obtain⟨_,_,_,_,_,e⟩:=fH.1 o;exact T.isP _ _ _ e
    obtain⟨p,b,f,s,l,v,w,k,m⟩:=rH T d (j+1) _ i r oq (X.mul Y.inv) ((Fix.mul X oq F (Fix.inv Y oq (T.fix _ _ _ a))).succ (by
     rw[dB (by rw[X.len];omega)];have:=mX Y (show j<n by omega)
     rwa [T.maps _ _ _ a] at this)) hi
    have c:y∈eU n t 0:=fH.2 ⟨j,_,Nat.zero_le _,oq,(T.lt _ _ _ a).2.1,a⟩;refine⟨oq,b,f,s,l,v,bE w y,k.mul c,?_⟩;rw[←bP f (k.isP u) Y,←m,bP X Y.inv Y,iK Y,dD X]
theorem qK (T:kN n t): ∀(d j:Nat) (x:List Nat),j+d=n->bV n x->Fix j x->ins t d j x=none->fE n (· ∈eU n t 0) x
 |0,j,x,h,X,F,_=>by
  obtain rfl:j=n:=oq
  rw[F.all X];exact .one
 |d+1,j,x,h,X,F,hi=>by
  unfold ins at hi;split at hi
  ·rename_i e
   exact qK T d (j+1) x oq X (F.succ e) hi
  ·rename_i e
   split at hi
   ·cases hi
   ·rename_i y a
    have Y:=T.isP _ _ _ a
    have b:=qK T d (j+1) _ oq (X.mul Y.inv) ((Fix.mul X oq F (Fix.inv Y oq (T.fix _ _ _ a))).succ (by
     rw[dB (by rw[X.len];omega)];have:=mX Y (show j<n by omega)
     rwa [T.maps _ _ _ a] at this)) hi
    have:=b.mul (fH.2 ⟨j,_,Nat.zero_le _,oq,(T.lt _ _ _ a).2.1,a⟩);rwa [bP X Y.inv Y,iK Y,dD X] at this
def Sub (t t':mE):Prop:= ∀i p y,t i p=some y->t' i p=some y
theorem vE {a:mE}(s:Sub t a): ∀(d j:Nat) (x:List Nat),ins t d j x=none->ins a d j x=none
 |0,_,_,_=>rfl
 |d+1,j,x,h=>by
  unfold ins at h ⊢;split at h
  ·rename_i e;rw[if_pos e];exact vE s d _ _ h
  ·rename_i e
   rw[if_neg e];split at h
   ·cases h
   ·rename_i y b
    rw[s _ _ _ b];exact vE s d _ _ h
theorem Ou {i p:Nat}{x:List Nat}(h:t i p=none):Sub t (put t i p x):=λj q y a=>by
 unfold put;rw[if_neg (λe=>by rw[e.1,e.2,h] at a;cases a)];exact a
theorem Gr (T:kN n t): ∀(d j:Nat) (x:List Nat) (i:Nat) (r:List Nat),j+d=n->bV n x->Fix j x->ins t d j x=some (i,r)->ins (put t i (r.getD i 0) r) d j x=none
 |0,_,_,_,_,_,_,_,h=>by cases h
 |d+1,j,x,i,r,h,X,F,hi=>by
  obtain⟨f,m,g,l,k,c,_⟩:=rH T (d+1) j x i r h X F hi;have sub:=Ou (t:=t) (x:=r) c;unfold ins at hi ⊢;split at hi
  ·rename_i e;rw[if_pos e];exact Gr T d (j+1) x i r oq X (F.succ e) hi
  ·rename_i e
   rw[if_neg e];split at hi
   ·cases hi
    have:put t j (x.getD j 0) x j (x.getD j 0)=some x:=by unfold put;rw[if_pos ⟨rfl,rfl⟩]
    rw[this];simp only;rw[iL X]
    have: ∀(d j:Nat),j+d=n-> ∀b:mE,ins b d j (cH n)=none:=by
     intro d
     induction d with
     |zero=>intro _ _ _;rfl
     |succ d ih=>intro j o b;unfold ins;rw[if_pos (eX oq)];exact ih (j+1) oq b
    exact this d (j+1) oq _
   ·rename_i y a
    have Y:=T.isP _ _ _ a;rw[sub _ _ _ a]
    exact Gr T d (j+1) _ i r oq (X.mul Y.inv) ((Fix.mul X oq F (Fix.inv Y oq (T.fix _ _ _ a))).succ (by
     rw[dB (by rw[X.len];omega)];have:=mX Y (show j<n by omega)
     rwa [T.maps _ _ _ a] at this)) hi
end
end
section
variable {x:List Nat}
section
variable {n:Nat} {t:mE}
theorem kN.Sh (T:kN n t){j:Nat}: ∀g,g∈eU n t j->bV n g:=λg a=>by
 obtain⟨_,_,_,_,_,e⟩:=fH.1 a;exact T.isP _ _ _ e
theorem Sub.refl (t:mE):Sub t t:=λ_ _ _ h=>h
theorem Sub.trans {a b c:mE}(x:Sub a b)(y:Sub b c):Sub a c:=λi p z h=>y i p z (x i p z h)
theorem kN.empty (n:Nat):kN n (λ_ _=>none):=⟨λ_ _ _ h=>(by cases h),λ_ _ _ h=>(by cases h),λ_ _ _ h=>(by cases h),λ_ _ _ h=>(by cases h)⟩
theorem AZ (T:kN n t)(X:bV n x):kN n (iD t n x)/\Sub t (iD t n x)/\ins (iD t n x) n 0 x=none/\ ∀g,g∈eU n (iD t n x) 0->fE n (λu=>u∈eU n t 0∨u=x) g:=by
 unfold iD
 cases h:ins t n 0 x with
 |none=>exact⟨T,Sub.refl t,h,λg l=>fE.of (λu c=>by rcases c with c|rfl;exact T.Sh u c;exact X) (.inl l)⟩
 |some q=>
  obtain⟨i,r⟩:=q;have o:Fix 0 x:=λk K=>oq
  obtain⟨L,m,f,F,s,v,w,p,z⟩:=rH T n 0 x i r oq X o h
  have a: ∀j q y,put t i (r.getD i 0) r j q=some y->(j=i/\q=r.getD i 0/\y=r)∨t j q=some y:=λj q y b=>by
   unfold put at b;split at b
   ·rename_i e;cases b;exact .inl ⟨e.1,e.2,rfl⟩
   ·exact .inr b
  refine⟨⟨λj q y b=>?_,λj q y b=>?_,λj q y b=>?_,λj q y b=>?_⟩,Ou v,Gr T n 0 x i r oq X o h,λg l=>?_⟩
  ·rcases a j q y b with ⟨rfl,rfl,rfl⟩|h
   ·exact⟨m,f.dZ m,s⟩
   ·exact T.lt _ _ _ h
  ·rcases a j q y b with ⟨rfl,rfl,rfl⟩|h
   ·exact f
   ·exact T.isP _ _ _ h
  ·rcases a j q y b with ⟨rfl,rfl,rfl⟩|h
   ·exact F
   ·exact T.fix _ _ _ h
  ·rcases a j q y b with ⟨rfl,rfl,rfl⟩|h
   ·rfl
   ·exact T.maps _ _ _ h
  ·have d: ∀u,(u∈eU n t 0∨u=x)->bV n u:=λu c=>by
    rcases c with c|rfl
    ·exact T.Sh u c
    ·exact X
   obtain⟨j,q,G,J,A,e⟩:=fH.1 l;rcases a j q g e with ⟨_,_,rfl⟩|h
   ·have W:=p.isP T.Sh
    have B:g=bE x (dM w):=by rw[z,bP f W W.inv,iL W,dD f]
    rw[B];exact (fE.of d (.inr rfl)).app d ((p.mono λu c=>Or.inl c).inv d)
   ·exact fE.of d (.inl (fH.2 ⟨j,q,G,J,A,h⟩))
structure Ao (n:Nat)(L:List Nat->Prop)(t:mE):Prop where
 tab:kN n t
 gen: ∀g,g∈eU n t 0->fE n L g
variable {L:List Nat->Prop}
theorem Ao.ins (a:Ao n L t)(d: ∀g,L g->bV n g)(c:fE n L x):Ao n L (iD t n x)/\Sub t (iD t n x)/\Go.Pm.ins (iD t n x) n 0 x=none:=by
 obtain⟨e,i,f,h⟩:=AZ a.tab (c.isP d);refine⟨⟨e,λg e=>(h g e).le (fE.grp d) λu b=>?_⟩,i,f⟩;rcases b with b|rfl
 ·exact a.gen u b
 ·exact c
theorem Ao.group (a:Ao n L t)(d: ∀g,L g->bV n g)(e:0<n)(c:xH n t)(hi: ∀g,L g->Go.Pm.ins t n 0 g=none)(x:List Nat):S n (iX n t) 0 x↔fE n L x:=by
 rw[Ng a.tab c e];constructor
 ·exact λh=>h.le (fE.grp d) a.gen
 ·exact λh=>h.le (fE.grp a.tab.Sh) λg b=>qK a.tab n 0 g oq (d g b) (λk f=>oq) (hi g b)
structure Xu (n:Nat)(L:List Nat->Prop)(τ:lB):Prop where
 tw:kW n 0 τ
 group: ∀x,S n τ 0 x↔fE n L x
theorem Xu.start (a:0<n):Xu n (λ_=>False) (Uo n):=by
 refine⟨Tx n,λx=>?_⟩;rw[(Tx n).gen a];have:(λg=>g∈(Uo n 0).gens)=λ_=>False:=funext λg=>propext ⟨λh=>(by cases h),λh=>h.elim⟩
 rw[this]
theorem Xu.add {τ d:lB}(a:Xu n L τ)(i:0<n)(f: ∀g,L g->bV n g)(X:bV n x)(b:wT n 0 x τ d):Xu n (λg=>L g∨g=x) d:=by
 refine⟨b.tw,λz=>?_⟩
 have e: ∀g,(L g∨g=x)->bV n g:=λg c=>by
  rcases c with c|rfl
  ·exact f g c
  ·exact X
 rw[b.group a.tw i X z];constructor
 ·intro h
  refine h.le (fE.grp e) λg c=>?_
  rcases c with c|rfl
  ·exact ((a.group g).1 c).mono λu j=> .inl j
  ·exact fE.of e (.inr rfl)
 ·intro h
  refine h.mono λg c=>?_
  rcases c with c|rfl
  ·exact .inl ((a.group g).2 (fE.of f c))
  ·exact .inr rfl
theorem Xu.congr {M:List Nat->Prop}{τ:lB}(a:Xu n L τ)(h: ∀g,L g↔M g):Xu n M τ:=by
 have:L=M:=funext λg=>propext (h g)
 exact this▸a
end
def Ir (n:Nat)(R:Yo):List Nat->Prop:=fE n λg=>g∈R.flatten
def Valid (n:Nat)(O:rC)(R:Yo):Prop:=(∀g∈R.flatten,bV n g)/\dW n (Ir n R) O R
theorem Valid.iff {n:Nat}{O a:rC}{R b:Yo}(d: ∀g∈R.flatten,bV n g)(c:dW n (Ir n R) a b):Valid n O R↔O=a/\R=b:=by
 constructor
 ·rintro⟨_,h⟩;exact h.uniq c
 ·rintro⟨rfl,rfl⟩;exact⟨d,c⟩
theorem Valid.grp {n:Nat}{O:rC}{R:Yo}(v:Valid n O R):mH n (Ir n R):=fE.grp v.1
end
end Go.Pm
namespace Go.Proofs.YtapfcpkecmmagaaGreat
open Go Go.Ay Go.Pm
set_option maxRecDepth 100000
def zlev (c:Nat):V:=if c<130 then .aD else aB 0
def lv0:Lv:=⟨[], [],λ_=>none,λ_=>0⟩
theorem zlev_rc: [V.aD,V.aD,V.aD,V.aD,V.aD,V.aD,V.aD,V.aD,V.aD,V.aD,V.aD,V.aD,V.aD,V.aD,V.aD,V.aD,V.aD,V.aD,V.aD,V.aD,V.aD,V.aD,V.aD,V.aD,V.aD,V.aD,V.aD,V.aD,V.aD,V.aD,V.aD,V.aD,V.aD,V.aD,V.aD,V.aD,V.aD,V.aD,V.aD,V.aD,V.aD,V.aD,V.aD,V.aD,V.aD,V.aD,V.aD,V.aD,V.aD,V.aD,V.aD,V.aD,V.aD,V.aD,V.aD,V.aD,V.aD,V.aD,V.aD,V.aD,V.aD,V.aD,V.aD,V.aD,V.aD,V.aD,V.aD,V.aD,V.aD,V.aD,V.aD,V.aD,V.aD,V.aD,V.aD,V.aD,V.aD,V.aD,V.aD,V.aD,V.aD,V.aD,V.aD,V.aD,V.aD,V.aD,V.aD,V.aD,V.aD,V.aD,V.aD,V.aD,V.aD,V.aD,V.aD,V.aD,V.aD,V.aD,V.aD,V.aD,V.aD,V.aD,V.aD,V.aD,V.aD,V.aD,V.aD,V.aD,V.aD,V.aD,V.aD,V.aD,V.aD,V.aD,V.aD,V.aD,V.aD,V.aD,V.aD,V.aD,V.aD,V.aD,V.aD,V.aD,V.aD,V.aD,V.aD,V.aD,V.aD,V.aD,(aB 0),(aB 0),(aB 0),(aB 0),(aB 0),(aB 0),(aB 0),(aB 0),(aB 0),(aB 0),(aB 0),(aB 0),(aB 0),(aB 0),(aB 0),(aB 0),(aB 0),(aB 0),(aB 0),(aB 0),(aB 0),(aB 0),(aB 0),(aB 0),(aB 0),(aB 0),(aB 0),(aB 0),(aB 0),(aB 0),(aB 0),(aB 0),(aB 0),(aB 0),(aB 0),(aB 0),(aB 0),(aB 0),(aB 0),(aB 0),(aB 0),(aB 0),(aB 0),(aB 0),(aB 0),(aB 0),(aB 0),(aB 0),(aB 0),(aB 0),(aB 0),(aB 0),(aB 0),(aB 0),(aB 0),(aB 0),(aB 0),(aB 0),(aB 0),(aB 0),(aB 0),(aB 0),(aB 0),(aB 0)]=rc 194 zlev:=rfl
theorem zeros_lev (n:Nat):dO (rc 194 zlev) (n*194)=rc (n*194) λc=>zlev (c%194):=by
 refine List.ext_getElem (by simp [dO,cK]) λi a a=>?_
 simp [dO,rc];rw[List.getElem?_range (Nat.mod_lt _ om)];rfl
def twU (n i:Nat):lB:=λj=>if j<i then Uo n j else lv0
theorem TwR.congr {h:H}{n d L:Nat}{F:Nat->V}{τ b:lB}(R:TwR h n d L F τ)(e: ∀j,j<n->τ j=b j):TwR h n d L F b:=
 ⟨R.t,R.l,R.tn,R.ln,R.tw,λj p a c=>by rw[←e j a];exact R.to j p a c,λj p a c=>by rw[←e j a];exact R.iv j p a c,λj p a c=>by rw[←e j a];exact R.tr j p a c,
  λj a=>by rw[←e j a];exact R.gens j a,λj a=>by rw[←e j a];exact R.orb j a,R.dis,R.ap⟩
theorem newTower_ok (n:Nat)(h:H)(h0:0<n)(hn:n<=7):
  Ev T 155 [aB n] h (λv h'=> ∃tid L F,v= .ptr tid 0/\TwR h' n tid L F (Uo n)/\Fr h h'/\ ∀id,WT n L F id->h.next<=id):=by
 refine bH c_chain_newTower rfl rfl ?_
 have hm:vH h 194 3632 (rc 194 zlev) (aB n) (aB n)=some (.sl h.next 0 n (.kn n),h.new (.cells false (rc (n*194) λc=>zlev (c%194)))):=by
  rw[lZ om (Int.le_refl _) om om,De,zeros_lev]
 obtain⟨w,K⟩: ∃w:Nat->V,w=λc=>zlev (c%194):=⟨_,rfl⟩
 obtain⟨L,Q⟩:=JR h.next
 rw[Q,←K] at hm
 simp(disch:=omega)only[go_sem,c_chain_newTower,aF,zlev_rc,hm,Wu (z1:= aB 0) (z2:= .aD) (v:= aB n) (u:= .sl L 0 n (.kn n)) rfl rfl rfl rfl,Dx _ (v:= aB n) (u:= .sl L 0 n (.kn n)) rfl rfl,Q]
 obtain⟨d,m⟩: ∃d,d=(h.new (.cells false (rc (n*194) w))).new (.cells false [aB n,.sl L 0 n (.kn n)]):=⟨_,rfl⟩
 rw[←m]
 have g1:d.get L=some (.cells false (rc (n*194) w)):=by rw[m,H.bL _ (by rw[H.aX];omega),←Q,H.aN]
 have g2:d.get (L+1)=some (.cells false [aB n,.sl L 0 n (.kn n)]):=by
  rw[m];have:=H.aN (h.new (.cells false (rc (n*194) w))) (.cells false [aB n,.sl L 0 n (.kn n)]);rwa [H.aX,Q] at this
 have n2:d.next=L+2:=by rw[m,H.aX,H.aX,Q]
 have f2:Fr h d:=by rw[m];exact ((Fr.refl h).new _).new _
 clear m hm
 have s0: ∀s,s<2*n->sl2 w s= .aD:=λs _=>by
  unfold sl2 zlev at*;rw[K];simp only;rw[aV om]
 have w0: ∀id,WT n L w id->id=L:=λid y=>by
  rcases y with e|⟨s,hs,a4,len,c,e⟩
  ·exact e
  ·rw[s0 s hs] at e;cases e
 have Z: ∀j c,c<194->w (j*194+c)=zlev c:=λj c hc=>by
  rw[K];simp only;rw[Nat.mul_comm,Nat.mul_add_mod,Nat.mod_eq_of_lt hc]
 have z1: ∀j b c,b+c<194->w (j*194+b+c)=zlev (b+c):=λj b c hc=>by rw[Nat.add_assoc];exact Z j (b+c) hc
 have R:TwR d n (L+1) L w (twU n 0):=by
  refine⟨g2,g1,om,om,λy=>by have:=w0 _ y;omega,λj p a d=>?_,λj p a d=>?_,λj p a d=>?_,λj hj=>⟨[],?_,trivial⟩,λj hj=>?_,λs s' a d _=>?_,λs a=>?_⟩
  ·rw[z1 j 2 p om];unfold zlev;rw[aV om];rfl
  ·rw[z1 j 66 p om];unfold zlev;rw[aV om];rfl
  ·rw[z1 j 130 p om];unfold zlev;rw[aZ om];rfl
  ·have:=Z j 0 om
   rw[Nat.add_zero] at this;rw[this];exact Own.aD ..
  ·rw[Z j 1 om];exact Own.aD ..
  ·rw[s0 s a];intro i o n c e;cases e
  ·rw[s0 s a];exact dH.aD _
 have a3:d.cell (L+1) 1=some (.sl L 0 n (.kn n)):=by rw[H.aG g2];rfl
 simp(disch:=omega)only[go_sem,a3]
 refine aH (λk' G hh=> ∃(i:Nat) (F:Nat->V),(∃g:Nat->V,G= [aB n,g 1,.ptr (L+1) 0,g 3,g 4,aB n,aB i,g 7])/\i<=n/\TwR hh n (L+1) L F (twU n i)/\Fr h hh/\(∀id,WT n L F id->h.next<=id)/\k'=n-i) n
  ⟨0,w,aA rfl,fF _,R,f2,λid y=>by rw[w0 id y];omega,rfl⟩ ?_
 clear R g1 g2 n2 f2 s0 w0 Z z1
 rintro k' G h3 ⟨i,F,⟨g,rfl⟩,hi,R,f,y,rfl⟩
 simp(disch:=omega)only[go_sem]
 by_cases O:(i:Int)<(n:Int)
 ·rw[bM O]
  have U:i<n:=om
  have cl:h3.cell (L+1) 1=some (.sl L 0 n (.kn n)):=by rw[H.aG R.t];rfl
  have ln:=R.ln
  have hN:i*194+194<=n*194:=om
  have e0:twU n i i=lv0:=by unfold twU;rw[aZ om]
  simp(disch:=omega)only[go_sem,cl,cJ h3 (z:= aB 0) (v:= aB i) rfl rfl,R.l,put_rc]
  obtain⟨B,x⟩: ∃B,B=(h3.new (.cells false [aB i])).set L (some (.cells false (rc (n*194) (F1 F (i*194+1) (.sl h3.next 0 1 (.kn 1)))))):=⟨_,rfl⟩
  rw[←x]
  have p4:Pushd h3 (F (i*194+1)) 0 1 1 [] [aB i] (h3.new (.cells false [aB i])):=⟨H.aN ..,H.aX ..,λk hk _=>H.bL h3 hk _⟩
  obtain⟨Y,f4,w4⟩:=R.point U (q:=i) (v:= .sl h3.next 0 1 (.kn 1)) (by rw[e0];exact p4) (.inr rfl) (by rw[e0];rfl) x
  obtain⟨J,a1⟩: ∃J,J=F1 F (i*194+1) (.sl h3.next 0 1 (.kn 1)):=⟨_,rfl⟩
  rw[←a1] at Y w4
  have n4:B.next=h3.next+1:=by rw[x,H.dE,H.aX]
  have P: ∀id,WT n L J id->h.next<=id:=λid a=>by
   by_cases d:id<h3.next
   ·exact y id (w4 id d a)
   ·have:=f.next;omega
  have a2:Fr h B:=⟨jK f.next f4.next,λid a=>(f4.get id (iP a f.next) λd=>by have:=y id d;omega).trans (f.get id a)⟩
  clear x
  generalize N:oV (twU n i) i {twU n i i with orb:=(twU n i i).orb++ [i]}=A at Y
  have e4:A i={lv0 with orb:= [i]}:=by rw[←N,cG,e0];rfl
  refine (one_gen (rfl:T 176=some c_chain_one) n (H.mk B.tr (h3.next+1+16)) om).mono ?_
  rintro va h5 na
  simp(disch:=omega)only[go_sem]
  refine (one_gen (rfl:T 176=some c_chain_one) n h5 om).mono ?_
  rintro vb h6 nb
  have f5:Fr B h5:=((Fr.refl B).bN om:Fr B (H.mk B.tr (h3.next+1+16))).trans na.fr
  have R6:=Y.mono (f5.trans nb.fr)
  have pa:=(na.pv (W:=WT n L J) (λa=>by have:=Y.win a;simp at this;omega)).mono nb.fr
  have pb:=nb.pv (W:=WT n L J) (λa=>by have:=Y.win a;have:=f5.next;omega)
  have a0:PV (WT n L J) h6 vb (dM (cH n)):=by rw[rU];exact pb
  simp(disch:=omega)only[go_sem,R6.l,fU pa.dR.1 pa.dR.2,fU pb.dR.1 pb.dR.2,put_rc]
  obtain⟨R7,f7,w7⟩:=R6.way U (q:=i) om pa a0 (h3:=(h6.set L (some (Ob.cells false (rc (n*194) (F1 J (i*194+2+i) va))))).set L (some (Ob.cells false (rc (n*194) (F1 (F1 J (i*194+2+i) va) (i*194+66+i) vb))))) (eS _) (λid a _=>by rw[H.aI _ a,H.aI _ a]) (by rw[H.aT])
  have eT:oV A i {A i with to:=λr=>if r=i then some (cH n) else (A i).to r}=twU n (i+1):=by
   funext j
   by_cases e:j=i
   ·subst e
    rw[cG,e4];unfold twU;rw[aV om]
    rfl
   ·rw[eD _ _ e,←N,eD _ _ e]
    unfold twU
    by_cases e2:j<i
    ·rw[aV e2,aV om]
    ·rw[aZ e2,aZ om]
  rw[eT] at R7
  have f6:=a2.trans (f5.trans nb.fr)
  rw[dY i]
  refine⟨n-(i+1),om,i+1,_,aA rfl,om,R7,⟨jK f6.next f7.next,λid a=>(f7.get id (iP a f6.next) λd=>by have:=P id d;omega).trans (f6.get id a)⟩,λid a=>P id ((w7 id).1 a),rfl⟩
 rw[bJ O]
 obtain rfl:i=n:=om
 simp(disch:=omega)only[go_sem]
 have eT:TwR h3 i (L+1) L F (Uo i):=R.congr λj hj=>by unfold twU;rw[aV hj]
 exact⟨L+1,L,F,rfl,eT,f,λid a=>by have:=y id a;omega⟩
abbrev SP (h:H)(v:V)(l:LN):Prop:=SR h v (l.map zi)
theorem sp_at {h:H}{ws:List V}{l:LN}(a:All2 (SI h) ws (l.map zi)){i:Nat}(hi:i<l.length):SI h (ws.getD i .undef) (zi (l.getD i [])):=by
 have:=Ge a (i:=i) (by simpa using hi);rwa [show (l.map zi).getD i []=zi (l.getD i []) by simp [List.getD,hi]] at this
theorem off_old {W:Nat->Prop}{h:H}{b:Nat}{v:V}{l:List Int}(s:SI h v l)(d:h.next<=b)(a: ∀id,W id->b<=id):Kj W v:=by
 cases v with
 |sl id off len cap=>exact λc=>by have:=s.in _ _ _ _ rfl;have:=a id c;omega
 |_=>trivial
theorem take_more {l:LN}{i:Nat}(hi:i<l.length)(g:List Nat):g∈l.take (i+1)↔g∈l.take i∨g=l.getD i []:=by
 rw[List.take_add_one,eV hi,sZ];simp [List.getD,hi]
theorem build_ok (n:Nat)(m:V)(l:LN)(h:H)(o:0<n)(G:n<=7)(O:l.length<1000000)(w:SP h m l)(z: ∀g∈l,bV n g):
  Ev T 116 [aB n,m] h (λv h'=> ∃tid L F τ,v= .ptr tid 0/\TwR h' n tid L F τ/\Xu n (· ∈l) τ/\Fr h h'/\ ∀id,WT n L F id->h.next<=id):=by
 refine bH c_chain_build rfl rfl ?_
 simp(disch:=omega)only[go_sem,c_chain_build,aF]
 refine (newTower_ok n h o G).mono ?_
 rintro _ e ⟨tid,L,F,rfl,R,f,b⟩
 have B:=w.lens
 rw[iR] at B
 obtain⟨id,q,u,x,d,k,y,c⟩:=w.open
 rw[iR] at x d k y
 simp(disch:=omega)only[go_sem,B]
 refine aH (λA a k=> ∃(i:Nat) (F:Nat->V) (τ:lB),(∃g:Nat->V,a= [aB n,m,g 2,.ptr tid 0,g 4,m,aB (l.length:Int),aB i,g 8])/\i<=l.length/\TwR k n tid L F τ/\Xu n (· ∈l.take i) τ/\Fr h k/\(∀id,WT n L F id->h.next<=id)/\A=l.length-i) l.length
  ⟨0,F,Uo n,aA rfl,fF _,R,(Xu.start o).congr (by simp),f,b,rfl⟩ ?_
 clear R f b F
 rintro A a p ⟨i,F,τ,⟨g,rfl⟩,hi,R,t,f,b,rfl⟩
 simp(disch:=omega)only[go_sem]
 by_cases j:(i:Int)<(l.length:Int)
 ·rw[bM j]
  have a:i<l.length:=om
  have ci:p.cell id (q+i)=some (u.getD i .undef):=by rw[f.cell (d om),y i a]
  have d:=sp_at c a
  have pv:PV (WT n L F) p (u.getD i .undef) (l.getD i []):=⟨d.mono f,off_old d (eS _) b⟩
  have X:bV n (l.getD i []):=z _ (by simp [List.getD,a])
  simp(disch:=omega)only[go_sem,x.ixa,ci]
  refine (add_ok n G o p tid L F τ _ _ R pv X (λk c=>om) t.tw).mono ?_
  rintro c c ⟨k,c,J,q,s,K⟩
  have N:=(t.add o (λg d=>z g (List.mem_of_mem_take d)) X q).congr λg=>(take_more a g).symm
  simp(disch:=omega)only[go_sem]
  rw[dY i]
  refine⟨l.length-(i+1),om,i+1,k,c,aA rfl,om,J,N,⟨jK f.next s.next,λid e=>(s.get id (iP e f.next) λr=>by have:=b id r;omega).trans (f.get id e)⟩,λid e=>?_,rfl⟩
  by_cases r:id<p.next
  ·exact b id (K id r e)
  ·have:=f.next;omega
 rw[bJ j]
 obtain rfl:i=l.length:=om
 simp(disch:=omega)only[go_sem]
 exact⟨tid,L,F,τ,rfl,R,t.congr λg=>by rw[List.take_length],f,b⟩
theorem best_drop (x:List Nat)(l:List Nat){i:Nat}(hi:i<l.length)(b:Nat):kP x b (l.drop i)=kP x (if x.getD (l.getD i 0) 0<x.getD b 0 then l.getD i 0 else b) (l.drop (i+1)):=by
 rw[Ts hi,bT hi];rfl
theorem least_ok (h:H)(n l L:Nat)(F:Nat->V)(τ:lB)(vx:V)(x:List Nat)(i:Nat)(hn:n<=7)(R:TwR h n l L F τ)(hx:PV (WT n L F) h vx x)(X:bV n x)(a4:i<n)(t:kW n (i+1) τ):
  Ev T 159 [.ptr l 0,vx,aB i] h (λv h'=>PV (WT n L F) h' v (xX τ (n-(i+1)) (i+1) x)/\bV n (xX τ (n-(i+1)) (i+1) x)/\Fr h h'):=by
 refine bH c_chain_tower_least rfl rfl ?_
 simp(disch:=omega)only[go_sem,c_chain_tower_least,aF]
 rw[dY i]
 refine aH (λk' c hh=> ∃(k:Nat) (y:List Nat) (J:V),(∃g:Nat->V,c= [.ptr l 0,J,g 2,g 3,aB k,g 5,g 6,g 7,g 8,g 9,g 10,g 11,g 12,g 13])/\i<k/\k<=n/\xX τ (n-k) k y=xX τ (n-(i+1)) (i+1) x/\
   PV (WT n L F) hh J y/\bV n y/\Fr h hh/\k'=n-k) (n-(i+1))
  ⟨i+1,x,vx,aA rfl,om,om,rfl,hx,X,Fr.refl h,rfl⟩ ?_
 rintro k' c A ⟨k,y,J,⟨g,rfl⟩,a3,a3,o,hy,Y,f,rfl⟩
 have O:=R.mono f
 have ct:A.cell l 0=some (aB n):=by rw[H.aG O.t];rfl
 have cl:A.cell l 1=some (.sl L 0 n (.kn n)):=by rw[H.aG O.t];rfl
 simp(disch:=omega)only[go_sem,ct,cl]
 by_cases P:(k:Int)<(n:Int)
 case neg=>
  rw[bJ P];obtain rfl:k=n:=om
  rw[Nat.sub_self] at o;simp(disch:=omega)only[go_sem];rw[←o];exact⟨hy,Y,f⟩
 have d:k<n:=om
 rw[bM P]
 have co:A.cell L (k*194+1)=some (F (k*194+1)):=O.cell d om
 have P:=O.orb k d
 have lo:=Own.lens P (by rw[aL,aQ])
 have iO:=(t k om d).1
 have a3:=orbn iO d
 simp(disch:=omega)only[go_sem,cl,co,lo]
 obtain⟨id,a1,sh,q,hc⟩:=(show SI A (F (k*194+1)) (zi (τ k).orb) from P.sv).open
 rw[aQ] at sh q hc
 obtain⟨K,s,W,e,z⟩:=hy.si.open
 rw[aQ,Y.len] at W e z
 refine aH (λm' c hh=> ∃(m b:Nat),(∃g:Nat->V,c= [.ptr l 0,J,g 2,g 3,aB k,aB b,g 6,g 7,F (k*194+1),aB ((τ k).orb.length:Int),aB m,g 11,g 12,g 13])/\m<=(τ k).orb.length/\b<n/\b∈k::(τ k).orb/\
   kP y b ((τ k).orb.drop m)=kP y k (τ k).orb/\Fr A hh/\m'=(τ k).orb.length-m) (τ k).orb.length
  ⟨0,k,aA rfl,fF _,d,zJ ..,rfl,Fr.refl A,rfl⟩ ?_
 rintro m' c j ⟨m,b,⟨c,rfl⟩,c,hb,Q,a,r,rfl⟩
 simp(disch:=omega)only[go_sem]
 by_cases w:(m:Int)<((τ k).orb.length:Int)
 ·rw[bM w]
  have c:m<(τ k).orb.length:=om
  rw[best_drop _ _ c] at a
  have cq:j.cell id (a1+m)=some (aB ((τ k).orb.getD m 0:Nat)):=by rw[r.cell (q om),hc m c];congr 2;simp [zi,c]
  have G:(τ k).orb.getD m 0∈(τ k).orb:=by rw[bT c];exact xR c
  have p:=iO.lt d G
  generalize (τ k).orb.getD m 0=q at cq G p a
  have c:j.cell K (s+q)=some (aB (y.getD q 0:Nat)):=by rw[r.cell (e om),z q p];congr 2;simp [zi,Y.len,p]
  have g:j.cell K (s+b)=some (aB (y.getD b 0:Nat)):=by rw[r.cell (e om),z b hb];congr 2;simp [zi,Y.len,hb]
  simp(disch:=omega)only[go_sem,sh.ixa,cq,W.ixa,c,g]
  have fb:Fr A (H.mk j.tr (j.next+9)):=r.bN om
  by_cases Z:((y.getD q 0:Nat):Int)<((y.getD b 0:Nat):Int)
  ·rw[bM Z]
   rw[aV om] at a
   simp(disch:=omega)only[go_sem]
   rw[dY m]
   exact⟨(τ k).orb.length-(m+1),om,m+1,q,aA rfl,om,p,yK _ G,a,fb,rfl⟩
  ·rw[bJ Z]
   rw[aZ om] at a
   simp(disch:=omega)only[go_sem]
   rw[dY m]
   exact⟨(τ k).orb.length-(m+1),om,m+1,b,aA rfl,om,hb,Q,a,fb,rfl⟩
 rw[bJ w]
 have c:m=(τ k).orb.length:=om
 rw[c,List.drop_length] at a
 have a:b=kP y k (τ k).orb:=a
 have c:n-k=(n-(k+1))+1:=om
 rw[c] at o
 have o:xX τ (n-(k+1)) (k+1) (if kP y k (τ k).orb=k then y else bE (((τ k).to (kP y k (τ k).orb)).getD []) y)=xX τ (n-(i+1)) (i+1) x:=o
 rw[←a] at o
 have R3:=O.mono r
 have N:=hy.mono r
 simp(disch:=omega)only[go_sem]
 by_cases B:b=k
 ·rw[aV B] at o
  have e0:decide ((b:Int)≠(k:Int))=false:=bJ om
  simp(disch:=omega)only[go_sem,e0]
  rw[dY k]
  exact⟨n-(k+1),om,k+1,y,J,aA rfl,om,om,o,N,Y,f.trans r,rfl⟩
 rw[aZ B] at o
 have e0:decide ((b:Int)≠(k:Int))=true:=bM om
 have a2:j.cell l 1=some (.sl L 0 n (.kn n)):=by rw[H.aG R3.t];rfl
 have a:b∈(τ k).orb:=by
  rcases Dw.1 Q with e|e
  ·exact absurd e B
  ·exact e
 obtain⟨u,c⟩:=iO.to a
 have U:=iO.isP _ _ c
 have a:j.cell L (k*194+2+b)=some (F (k*194+2+b)):=R3.cell2 d om
 have a0:PV (WT n L F) j (F (k*194+2+b)) u:=by
  have:=R3.to k b d om;rw[c] at this;exact this
 rw[c] at o
 simp(disch:=omega)only[go_sem,e0,a2,a]
 refine (mul_gen (rfl:T 181=some c_chain_mul) _ J u y j (by rw[U.len];omega) a0.si N.si (λj a=>by rw[Y.len];exact U.dZ (by rw[←U.len];exact a))).mono ?_
 rintro v a nw
 simp(disch:=omega)only[go_sem]
 rw[dY k]
 exact⟨n-(k+1),om,k+1,_,v,aA rfl,om,om,o,nw.pv (λa=>by have:=R3.win a;omega),U.mul Y,(f.trans r).trans nw.fr,rfl⟩
end Go.Proofs.YtapfcpkecmmagaaGreat
namespace Go.Proofs.YtapfcpkecmmagaaGreat
open Go Go.Ay Go.Sort
set_option maxRecDepth 100000
section
variable {h:H} {S N i j a:Nat} {d:Array Int} {lt:Int->Int->Bool}
structure Arr (h:H)(S N:Nat)(d:Array Int):Prop where
 get:h.get S=bW (ints d.toList)
 size:d.size=N
 lt:S<h.next
theorem Arr.rd (A:Arr h S N d)(hi:i<N):h.cell S i=some (aB d[i]!):=by
 have b:i<d.size:=by rw[A.size];exact hi
 rw[H.aG A.get];simp [ints,b]
theorem Arr.fr {h':H}(A:Arr h S N d)(f:Fr h h'):Arr h' S N d:=⟨by rw[f.get _ A.lt];exact A.get,A.size,iP A.lt f.next⟩
theorem put_cont (hi:i<d.size)(hh:H)(S:Nat)(x:Int):dQ (bW (ints d.toList)) hh S i [aB x]=some (hh.set S (bW (ints (d.setIfInBounds i x).toList))):=by
 rw[Ec (by simpa using hi),Array.toList_setIfInBounds]
theorem put_cont' {y:Int}(hi:i<d.size)(hh:H)(S:Nat)(x:Int):dQ (bW (ints (d.setIfInBounds j y).toList)) hh S i [aB x]=some (hh.set S (bW (ints ((d.setIfInBounds j y).setIfInBounds i x).toList))):=
 put_cont (by simpa using hi) hh S x
theorem Arr.swap {h2:H}(A:Arr h S N d){nx:Nat}(b:h.next<=nx)(e:h2=((H.mk h.tr nx).set S (bW (ints (d.setIfInBounds i d[j]!).toList))).set S (bW (ints ((d.setIfInBounds i d[j]!).setIfInBounds j d[i]!).toList))):Arr h2 S N (swp d i j)/\Fx (· =S) h h2:=by
 subst e;refine⟨⟨?_,?_,iP A.lt b⟩,⟨b,λid _ c=>?_⟩⟩
 ·rw[H.aT];rfl
 ·have:=A.size;simp [swp,this]
 ·rw[H.aI _ c,H.aI _ c];rfl
theorem isNaN_int (a:Int)(h:H):Ev T 147 [aB a] h (λv h'=>v= .bool false/\h'=h):=by
 refine bH c_cmp_isNaN_int rfl rfl ?_;have e:decide (a≠a)=false:=bJ om;simp(disch:=omega)only[go_sem,c_cmp_isNaN_int,aF,e]
theorem less_int (a b:Int)(h:H):Ev T 134 [aB a,aB b] h (λv h'=>v= .bool (ltInt a b)/\Fr h h'):=by
 refine bH c_cmp_Less_int rfl rfl ?_;simp(disch:=omega)only[go_sem,c_cmp_Less_int,aF];refine (isNaN_int a h).mono ?_;rintro _ c ⟨rfl,rfl⟩;simp(disch:=omega)only[go_sem];exact⟨rfl,Fr.refl _⟩
theorem fxt {a b c:H}(x:Fx (· =S) a b)(y:Fx (· =S) b c):Fx (· =S) a c:=x.trans y λ_ _ h=>h
theorem insI_t (b:a<j+1)(h2:lt d[j+1]! d[j]! =true):insInner lt a (j+1) d=insInner lt a j (swp d (j+1) j):=by
 rw[insInner,aV (by simp [b,h2])]
theorem insI_f (h2:lt d[j+1]! d[j]! =false):insInner lt a (j+1) d=d:=by
 rw[insInner,aZ (by simp [h2])]
theorem insI_s (h:j<=a):insInner lt a j d=d:=by
 cases j with
 |zero=>rfl
 |succ j=>rw[insInner,aZ (by simp;omega)]
theorem insertion_ok (h:H)(S N a b:Nat)(d:Array Int)(u:mF)(J:N<1000000)(A:Arr h S N d)(K:b<=N)(G:a<=b):
  Ev T 128 [.sl S 0 N u,aB a,aB b] h (λ_ h'=>Arr h' S N (insertionSort ltInt d a b)/\Fx (· =S) h h'):=by
 refine bH c_slices_insertionSortOrdered_int rfl rfl ?_
 simp(disch:=omega)only[go_sem,c_slices_insertionSortOrdered_int,aF]
 rw[dY a]
 refine aH (λq c s=> ∃(i:Nat) (e:Array Int),(∃g:Nat->V,c= [.sl S 0 N u,aB a,aB b,aB i,g 4,g 5,g 6])/\a<i/\i<=b+1/\Arr s S N e/\insOuter ltInt a b i e=insertionSort ltInt d a b/\Fx (· =S) h s/\q=b+1-i) (b+1-(a+1))
  ⟨a+1,d,aA rfl,om,om,A,rfl,Fx.refl _ h,rfl⟩ ?_
 clear A
 rintro q c t ⟨i,e,⟨g,rfl⟩,t,t,A,k,F,rfl⟩
 simp(disch:=omega)only[go_sem]
 by_cases t:(i:Int)<(b:Int)
 case neg=>
  rw[bJ t];simp(disch:=omega)only[go_sem];rw[insOuter,aZ om] at k;rw[←k];exact⟨A,F⟩
 rw[bM t]
 rw[insOuter,aV om] at k
 simp(disch:=omega)only[go_sem]
 refine aH (λq c s=> ∃(j:Nat) (f:Array Int),(∃g:Nat->V,c= [.sl S 0 N u,aB a,aB b,aB i,aB j,g 5,g 6])/\a<=j/\j<=i/\Arr s S N f/\insInner ltInt a j f=insInner ltInt a i e/\Fx (· =S) h s/\q=j) i
  ⟨i,e,aA rfl,om,om,A,rfl,F,rfl⟩ ?_
 clear A F
 rintro q c o ⟨j,f,⟨c,rfl⟩,c,c,A,n,F,c⟩
 have c:=A.size
 by_cases p:(a:Int)<(j:Int)
 ·obtain⟨m,rfl⟩: ∃m,j=m+1:=⟨j- 1,om⟩
  have c:=A.rd (i:=m+1) om
  have e:=A.rd (i:=m) om
  have v:=bM p
  have x:((m+1:Nat):Int)- 1=(m:Int):=om
  simp(disch:=omega)only[go_sem,v,x,c,e]
  refine (less_int _ _ _).mono ?_
  rintro _ y ⟨rfl,c⟩
  have l:Fr o y:=Fr.trans ((Fr.refl o).bN om) c
  have r:=A.fr l
  have B:=r.rd (i:=m+1) om
  have z:=r.rd (i:=m) om
  cases hl:ltInt f[m+1]! f[m]! with
  |false=>
   rw[insI_f hl] at n;simp(disch:=omega)only[go_sem,hl];rw[dY i];rw[←n] at k;exact⟨b+1-(i+1),om,i+1,f,aA rfl,om,om,r,k,fxt F (Fx.of l),rfl⟩
  |true=>
   rw[insI_t om hl] at n;simp(disch:=omega)only[go_sem,hl,x,B,z,r.get,put_cont,put_cont'];have W:=r.swap (i:=m+1) (j:=m) (nx:=y.next+18) om rfl;exact⟨m,om,m,_,aA rfl,om,om,W.1,n,fxt (fxt F (Fx.of l)) W.2,rfl⟩
 ·have v:=bJ p
  rw[insI_s om] at n
  simp(disch:=omega)only[go_sem,v]
  rw[dY i]
  rw[←n] at k
  have w:Fr o (H.mk o.tr (o.next+15)):=(Fr.refl o).bN om
  exact⟨b+1-(i+1),om,i+1,f,aA rfl,om,om,A.fr w,k,fxt F (Fx.of w),rfl⟩
end
def chd (lt:Int->Int->Bool)(hi first root:Nat)(d:Array Int):Nat:=if 2*root+1+1<hi/\lt d[first+(2*root+1)]! d[first+(2*root+1)+1]! =true then 2*root+2 else 2*root+1
theorem sift_eq {lt:Int->Int->Bool}(hi first a:Nat)(d:Array Int):siftDown lt hi first a d=if 2*a+1≥hi then d else
  if lt d[first+a]! d[first+chd lt hi first a d]! =true then siftDown lt hi first (chd lt hi first a d) (swp d (first+a) (first+chd lt hi first a d)) else d:=by
 rw[siftDown]
 unfold chd
 by_cases c:2*a+1≥hi
 ·rw[dif_pos c,aV c]
 ·rw[dif_neg c,aZ c]
  by_cases b:2*a+1+1<hi/\lt d[first+(2*a+1)]! d[first+(2*a+1)+1]! =true
  ·rw[aV (by simpa using b),aV b]
   cases h3:lt d[first+a]! d[first+(2*a+2)]!
   ·simp
   ·simp [show 2*a+2<hi by omega]
  ·rw[aZ (by simpa using b),aZ b]
   cases h3:lt d[first+a]! d[first+(2*a+1)]! <;>simp
theorem siftDown_ok  (h:H)(S N u hi first:Nat)(d:Array Int)(P:mF)(U:N<1000000)(A:Arr h S N d)(Y:first+hi<=N)(L:u<=hi):
  Ev T 168 [.sl S 0 N P,aB u,aB hi,aB first] h (λ_ h'=>Arr h' S N (siftDown ltInt hi first u d)/\Fx (· =S) h h'):=by
 refine bH c_slices_siftDownOrdered_int rfl rfl ?_
 simp(disch:=omega)only[go_sem,c_slices_siftDownOrdered_int,aF]
 refine aH (λQ p R=> ∃(r:Nat) (e:Array Int),(∃g:Nat->V,p= [.sl S 0 N P,aB u,aB hi,aB first,aB r,g 5,g 6,g 7,g 8])/\r<=hi/\Arr R S N e/\siftDown ltInt hi first r e=siftDown ltInt hi first u d/\Fx (· =S) h R/\Q=hi-r) (hi-u)
  ⟨u,d,aA rfl,L,A,rfl,Fx.refl _ h,rfl⟩ ?_
 clear A
 rintro Q p s ⟨r,e,⟨g,rfl⟩,g,A,a,F,rfl⟩
 have J:2*(r:Int)+1=((2*r+1:Nat):Int):=om
 by_cases g:(hi:Int)<=((2*r+1:Nat):Int)
 ·have G:=bM g
  simp(disch:=omega)only[go_sem,J,G]
  rw[sift_eq,aV om] at a
  rw[←a]
  exact⟨A,F⟩
 have G:=bJ g
 rw[sift_eq,aZ om] at a
 have O:((2*r+1:Nat):Int)+1=((2*r+2:Nat):Int):=om
 have c:(first:Int)+(r:Int)=((first+r:Nat):Int):=om
 have k:(first:Int)+((2*r+1:Nat):Int)=((first+(2*r+1):Nat):Int):=om
 have z:(first:Int)+((2*r+2:Nat):Int)=((first+(2*r+2):Nat):Int):=om
 have g:((first+(2*r+1):Nat):Int)+1=((first+(2*r+1)+1:Nat):Int):=om
 have p:=A.size
 by_cases x:((2*r+2:Nat):Int)<(hi:Int)
 ·have K:=bM x
  have n:=A.rd (i:=first+(2*r+1)) om
  have y:=A.rd (i:=first+(2*r+1)+1) om
  simp(disch:=omega)only[go_sem,J,G,O,K,k,g,n,y]
  refine (less_int _ _ _).mono ?_
  rintro _ B ⟨rfl,g⟩
  have w:Fr s B:=Fr.trans ((Fr.refl s).bN om) g
  have v:=A.fr w
  have m:=v.rd (i:=first+r) om
  have n:=v.rd (i:=first+(2*r+1)) om
  have y:=v.rd (i:=first+(2*r+2)) om
  cases hl:ltInt e[first+(2*r+1)]! e[first+(2*r+1)+1]! with
  |false=>
   have l:chd ltInt hi first r e=2*r+1:=aZ (by rw[hl];simp)
   rw[l] at a;simp(disch:=omega)only[go_sem,hl,c,k,m,n];refine (less_int _ _ _).mono ?_;rintro _ q ⟨rfl,f⟩;have o:Fr B q:=Fr.trans ((Fr.refl B).bN om) f;have b:=v.fr o;have m:=b.rd (i:=first+r) om;have n:=b.rd (i:=first+(2*r+1)) om;have t:=fxt (fxt F (Fx.of w)) (Fx.of o)
   cases hl2:ltInt e[first+r]! e[first+(2*r+1)]! with
   |false=>
    rw[aZ (by rw[hl2];simp)] at a;simp(disch:=omega)only[go_sem,hl2];rw[←a];exact⟨b,t⟩
   |true=>
    rw[aV hl2] at a;simp(disch:=omega)only[go_sem,hl2,c,k,m,n,b.get,put_cont,put_cont'];have W:=b.swap (i:=first+r) (j:=first+(2*r+1)) (nx:=q.next+24) om rfl;exact⟨hi-(2*r+1),om,2*r+1,_,aA rfl,om,W.1,a,fxt t W.2,rfl⟩
  |true=>
   have l:chd ltInt hi first r e=2*r+2:=aV ⟨om,hl⟩
   rw[l] at a;simp(disch:=omega)only[go_sem,hl,O,c,z,m,y];refine (less_int _ _ _).mono ?_;rintro _ q ⟨rfl,f⟩;have o:Fr B q:=Fr.trans ((Fr.refl B).bN om) f;have b:=v.fr o;have m:=b.rd (i:=first+r) om;have y:=b.rd (i:=first+(2*r+2)) om;have t:=fxt (fxt F (Fx.of w)) (Fx.of o)
   cases hl2:ltInt e[first+r]! e[first+(2*r+2)]! with
   |false=>
    rw[aZ (by rw[hl2];simp)] at a;simp(disch:=omega)only[go_sem,hl2];rw[←a];exact⟨b,t⟩
   |true=>
    rw[aV hl2] at a;simp(disch:=omega)only[go_sem,hl2,c,z,m,y,b.get,put_cont,put_cont'];have W:=b.swap (i:=first+r) (j:=first+(2*r+2)) (nx:=q.next+24) om rfl;exact⟨hi-(2*r+2),om,2*r+2,_,aA rfl,om,W.1,a,fxt t W.2,rfl⟩
 ·have K:=bJ x
  have l:chd ltInt hi first r e=2*r+1:=aZ om
  rw[l] at a
  have w:Fr s (H.mk s.tr (s.next+20)):=(Fr.refl s).bN om
  have v:=A.fr w
  have m:=A.rd (i:=first+r) om
  have n:=A.rd (i:=first+(2*r+1)) om
  simp(disch:=omega)only[go_sem,J,G,O,K,c,k,m,n]
  refine (less_int _ _ _).mono ?_
  rintro _ q ⟨rfl,f⟩
  have o:Fr s q:=Fr.trans ((Fr.refl s).bN om) f
  have b:=A.fr o
  have m:=b.rd (i:=first+r) om
  have n:=b.rd (i:=first+(2*r+1)) om
  have t:=fxt F (Fx.of o)
  cases hl2:ltInt e[first+r]! e[first+(2*r+1)]! with
  |false=>
   rw[aZ (by rw[hl2];simp)] at a;simp(disch:=omega)only[go_sem,hl2];rw[←a];exact⟨b,t⟩
  |true=>
   rw[aV hl2] at a;simp(disch:=omega)only[go_sem,hl2,c,k,m,n,b.get,put_cont,put_cont'];have W:=b.swap (i:=first+r) (j:=first+(2*r+1)) (nx:=q.next+24) om rfl;exact⟨hi-(2*r+1),om,2*r+1,_,aA rfl,om,W.1,a,fxt t W.2,rfl⟩
theorem heapSort_ok  (h:H)(S N a b:Nat)(d:Array Int)(s:mF)(y:N<1000000)(A:Arr h S N d)(U:b<=N)(Q:a<=b):
  Ev T 129 [.sl S 0 N s,aB a,aB b] h (λ_ h'=>Arr h' S N (heapSort ltInt d a b)/\Fx (· =S) h h'):=by
 refine bH c_slices_heapSortOrdered_int rfl rfl ?_
 obtain⟨n,P⟩:=JR (b-a)
 have B:(b:Int)-(a:Int)=(n:Int):=om
 have K:((n:Int)- 1).tdiv 2=(((n- 1)/2+1:Nat):Int)- 1:=by
  by_cases G:n=0
  ·subst G;decide
  ·rw[Int.tdiv_eq_ediv_of_nonneg om];omega
 simp(disch:=omega)only[go_sem,c_slices_heapSortOrdered_int,aF,B,K]
 refine aH (λf c t=> ∃(k:Nat) (e:Array Int),(∃g:Nat->V,c= [.sl S 0 N s,aB a,aB b,aB a,aB 0,aB n,aB ((k:Int)- 1),g 7,g 8,g 9])/\k<=n+1/\(k=1∨k<=n)/\Arr t S N e/\heapBuild ltInt n a k e=heapBuild ltInt n a ((n- 1)/2+1) d/\Fx (· =S) h t/\f=k) ((n- 1)/2+1)
  ⟨(n- 1)/2+1,d,aA rfl,om,om,A,rfl,Fx.refl _ h,rfl⟩ ?_
 clear A
 rintro f c L ⟨k,e,⟨g,rfl⟩,p,x,A,u,F,w⟩
 subst w
 by_cases l:(0:Int)<=(f:Int)- 1
 ·have o:=bM l
  obtain⟨m,rfl⟩: ∃m,f=m+1:=⟨f- 1,om⟩
  have r:((m+1:Nat):Int)- 1=(m:Int):=om
  rw[r] at o
  rw[r]
  simp(disch:=omega)only[go_sem,o]
  refine (siftDown_ok L S N m n a e s y A om om).mono ?_
  rintro _ z ⟨J,F2⟩
  simp(disch:=omega)only[go_sem]
  exact⟨m,om,m,_,aA rfl,om,om,J,u,fxt F F2,rfl⟩
 have o:=bJ l
 obtain rfl:f=0:=om
 have u:e=heapBuild ltInt n a ((n- 1)/2+1) d:=u
 simp(disch:=omega)only[go_sem,o]
 refine aH (λf c t=> ∃(k:Nat) (q:Array Int),(∃g:Nat->V,c= [.sl S 0 N s,aB a,aB b,aB a,aB 0,aB n,g 6,aB ((k:Int)- 1),g 8,g 9])/\k<=n/\Arr t S N q/\heapPop ltInt a k q=heapPop ltInt a n e/\Fx (· =S) h t/\f=k) n
  ⟨n,e,aA rfl,om,A,rfl,F,rfl⟩ ?_
 clear A F l o p x
 rintro f c z ⟨k,q,⟨g,rfl⟩,p,A,v,F,w⟩
 subst w
 have c:=A.size
 by_cases l:(0:Int)<=(f:Int)- 1
 ·have o:=bM l
  obtain⟨m,rfl⟩: ∃m,f=m+1:=⟨f- 1,om⟩
  have r:((m+1:Nat):Int)- 1=(m:Int):=om
  rw[r] at o
  rw[r]
  have c:(a:Int)+(m:Int)=((a+m:Nat):Int):=om
  have g:=A.rd (i:=a+m) om
  have k:=A.rd (i:=a) om
  simp(disch:=omega)only[go_sem,o,c,g,k,A.get,put_cont,put_cont']
  have W:=A.swap (i:=a) (j:=a+m) (nx:=z.next+20) om rfl
  have c:=siftDown_ok _ S N 0 m a _ s y W.1 om om
  refine c.mono ?_
  rintro _ c ⟨O,R⟩
  simp(disch:=omega)only[go_sem]
  exact⟨m,om,m,_,aA rfl,om,O,v,fxt (fxt F W.2) R,rfl⟩
 have o:=bJ l
 obtain rfl:f=0:=om
 simp(disch:=omega)only[go_sem,o]
 have v:q=heapPop ltInt a n e:=v
 have:heapSort ltInt d a b=q:=by unfold heapSort;rw[P,v,u]
 rw[this]
 exact⟨A,F⟩
def shfV (op:BinOp)(k:IntKind)(x y:V):Option V:=match x,y with
 | .int j a,.int _ b=>if j=k then wU op k a b else none
 |_,_=>none
theorem evI_shf (ρ:X->V)(h:H)(op:BinOp)(k:IntKind)(x y:X):cZ ρ h (.shf op k x y)=(shfV op k (ρ x) (ρ y)).map (·,h):=by
 simp only[cZ,shfV];cases ρ x<;>cases ρ y<;>try rfl
 simp only;split<;>rfl
theorem shfV_int (op:BinOp)(k j:IntKind)(a b:Int):shfV op k (.int k a) (.int j b)=wU op k a b:=by simp [shfV]
theorem wrap_u64 (n:Int):0<=IntKind.u64.wrap n/\IntKind.u64.wrap n<18446744073709551616:=by
 unfold IntKind.wrap;simp only[IntKind.bits,IntKind.signed];have:=Int.emod_nonneg n (show (18446744073709551616:Int)≠0 by omega);have:=Int.emod_lt_of_pos n (show (0:Int)<18446744073709551616 by omega);simp;omega
theorem wrap_u64_in {n:Int}(a:0<=n)(h2:n<18446744073709551616):IntKind.u64.wrap n=n:=by
 unfold IntKind.wrap;simp only[IntKind.bits,IntKind.signed];have:n%18446744073709551616=n:=Int.emod_eq_of_lt a h2;simp;exact this
theorem wrap_u8_in {n:Int}(a:0<=n)(h2:n<256):IntKind.u8.wrap n=n:=by
 unfold IntKind.wrap;simp only[IntKind.bits,IntKind.signed];have:n%256=n:=Int.emod_eq_of_lt a h2;simp;exact this
theorem shl_u64 (a b:Int)(c:0<=b): ∃y,wU .shl .u64 a b=some (.int .u64 y)/\0<=y/\y<18446744073709551616:=by
 unfold wU;rw[aZ om];exact⟨_,rfl,wrap_u64 _⟩
theorem shr_u64 (a b:Int)(c:0<=b): ∃y,wU .shr .u64 a b=some (.int .u64 y):=by
 unfold wU;rw[aZ om];exact⟨_,rfl⟩
theorem shr_eight {x:Nat}:wU .shr .u64 (x:Int) 8=some (.int .u64 ((x/256:Nat):Int)):=by
 unfold wU;rw[aZ om];simp only;congr 2;show Int.fdiv (x:Int) 256=_;rw[Int.fdiv_eq_ediv_of_nonneg _ om];rfl
theorem xor_u64 (a b:Int): ∃y,arith .xor .u64 a b=some (.int .u64 y)/\0<=y/\y<18446744073709551616:=⟨_,rfl,wrap_u64 _⟩
theorem and_u64 (a:Int)(b:Nat)(c:b<18446744073709551616): ∃y:Nat,arith .and .u64 a (b:Int)=some (.int .u64 (y:Int))/\y<=b:=by
 refine⟨(BitVec.ofInt 64 a&&&BitVec.ofInt 64 (b:Int)).toNat,?_,?_⟩
 ·rw[Qp]
  congr 2;show IntKind.u64.wrap (((BitVec.ofInt 64 a&&&BitVec.ofInt 64 (b:Int)).toNat:Nat):Int)=_;have:=(BitVec.ofInt 64 a&&&BitVec.ofInt 64 (b:Int)).isLt;generalize (BitVec.ofInt 64 a&&&BitVec.ofInt 64 (b:Int)).toNat=w at*;exact wrap_u64_in om om
 ·rw[BitVec.toNat_and]
  have:(BitVec.ofInt 64 (b:Int)).toNat=b:=by
   simp [BitVec.toNat_ofInt];omega
  rw[this];exact Nat.and_le_right
theorem bits_tab: ∀z,z<256->([0,1,2,2,3,3,3,3,4,4,4,4,4,4,4,4,5,5,5,5,5,5,5,5,5,5,5,5,5,5,5,5,6,6,6,6,6,6,6,6,6,6,6,6,6,6,6,6,6,6,6,6,6,6,6,6,6,6,6,6,6,6,6,6,7,7,7,7,7,7,7,7,7,7,7,7,7,7,7,7,7,7,7,7,7,7,7,7,7,7,7,7,7,7,7,7,7,7,7,7,7,7,7,7,7,7,7,7,7,7,7,7,7,7,7,7,7,7,7,7,7,7,7,7,7,7,7,7,8,8,8,8,8,8,8,8,8,8,8,8,8,8,8,8,8,8,8,8,8,8,8,8,8,8,8,8,8,8,8,8,8,8,8,8,8,8,8,8,8,8,8,8,8,8,8,8,8,8,8,8,8,8,8,8,8,8,8,8,8,8,8,8,8,8,8,8,8,8,8,8,8,8,8,8,8,8,8,8,8,8,8,8,8,8,8,8,8,8,8,8,8,8,8,8,8,8,8,8,8,8,8,8,8,8,8,8,8,8,8,8,8,8,8,8,8,8,8,8,8,8,8,8,8,8,8,8][z]? :Option Nat)=some (bitsLen z):=by decide+kernel
theorem six_tab {z:Nat}(a:z<256):Zr (.str [0,1,2,2,3,3,3,3,4,4,4,4,4,4,4,4,5,5,5,5,5,5,5,5,5,5,5,5,5,5,5,5,6,6,6,6,6,6,6,6,6,6,6,6,6,6,6,6,6,6,6,6,6,6,6,6,6,6,6,6,6,6,6,6,7,7,7,7,7,7,7,7,7,7,7,7,7,7,7,7,7,7,7,7,7,7,7,7,7,7,7,7,7,7,7,7,7,7,7,7,7,7,7,7,7,7,7,7,7,7,7,7,7,7,7,7,7,7,7,7,7,7,7,7,7,7,7,7,8,8,8,8,8,8,8,8,8,8,8,8,8,8,8,8,8,8,8,8,8,8,8,8,8,8,8,8,8,8,8,8,8,8,8,8,8,8,8,8,8,8,8,8,8,8,8,8,8,8,8,8,8,8,8,8,8,8,8,8,8,8,8,8,8,8,8,8,8,8,8,8,8,8,8,8,8,8,8,8,8,8,8,8,8,8,8,8,8,8,8,8,8,8,8,8,8,8,8,8,8,8,8,8,8,8,8,8,8,8,8,8,8,8,8,8,8,8,8,8,8,8,8,8,8,8,8,8]) (.int .u8 (z:Int))=some (.int .u8 ((bitsLen z:Nat):Int)):=by
 have c:bitsLen z<=8:=(bitsLen_le_iff z 8).2 om;have b:=bits_tab z a;generalize ([0,1,2,2,3,3,3,3,4,4,4,4,4,4,4,4,5,5,5,5,5,5,5,5,5,5,5,5,5,5,5,5,6,6,6,6,6,6,6,6,6,6,6,6,6,6,6,6,6,6,6,6,6,6,6,6,6,6,6,6,6,6,6,6,7,7,7,7,7,7,7,7,7,7,7,7,7,7,7,7,7,7,7,7,7,7,7,7,7,7,7,7,7,7,7,7,7,7,7,7,7,7,7,7,7,7,7,7,7,7,7,7,7,7,7,7,7,7,7,7,7,7,7,7,7,7,7,7,8,8,8,8,8,8,8,8,8,8,8,8,8,8,8,8,8,8,8,8,8,8,8,8,8,8,8,8,8,8,8,8,8,8,8,8,8,8,8,8,8,8,8,8,8,8,8,8,8,8,8,8,8,8,8,8,8,8,8,8,8,8,8,8,8,8,8,8,8,8,8,8,8,8,8,8,8,8,8,8,8,8,8,8,8,8,8,8,8,8,8,8,8,8,8,8,8,8,8,8,8,8,8,8,8,8,8,8,8,8,8,8,8,8,8,8,8,8,8,8,8,8,8,8,8,8,8,8]:List Nat)=l at*;unfold Zr;simp only;rw[aV om,De,b];simp only[Option.map_some];rw[Nat.mod_eq_of_lt om]
theorem bits_256 {x:Nat}(h:256<=x):bitsLen x=8+bitsLen (x/256):=by
 apply Nat.le_antisymm
 ·rw[bitsLen_le_iff,Nat.pow_add]
  have:=lt_two_pow_bitsLen (x/256);omega
 ·have a:=lt_two_pow_bitsLen x
  have b: ¬bitsLen x<=8:=λb=>by rw[bitsLen_le_iff] at b;omega
  obtain⟨k,b⟩: ∃k,bitsLen x=8+k:=⟨bitsLen x- 8,om⟩
  rw[b,Nat.pow_add] at a;have:bitsLen (x/256)<=k:=(bitsLen_le_iff _ _).2 om;omega
theorem len64_ok (x:Nat)(h:H)(e:x<65536):Ev T 138 [.int .u64 (x:Int)] h (λv h'=>v= aB (bitsLen x:Nat)/\h'=h):=by
 refine bH c_math_bits_Len64 rfl rfl ?_;have b:decide ((4294967296:Int)<=(x:Int))=false:=bJ om;have c:decide ((65536:Int)<=(x:Int))=false:=bJ om
 by_cases d:256<=x
 ·have a:decide ((256:Int)<=(x:Int))=true:=bM om
  have f:=bits_256 d;have d:bitsLen (x/256)<=8:=(bitsLen_le_iff _ 8).2 om;simp(disch:=omega)only[go_sem,c_math_bits_Len64,aF,b,c,a,evI_shf,shfV_int,shr_eight,Pg,six_tab,wrap_u8_in];exact⟨by congr 1;omega,trivial⟩
 ·have a:decide ((256:Int)<=(x:Int))=false:=bJ om
  have d:bitsLen x<=8:=(bitsLen_le_iff _ 8).2 om;simp(disch:=omega)only[go_sem,c_math_bits_Len64,aF,b,c,a,Pg,six_tab,wrap_u8_in];exact⟨by congr 1;omega,trivial⟩
theorem len_ok (x:Nat)(h:H)(a:x<65536):Ev T 112 [.int .u64 (x:Int)] h (λv h'=>v= aB (bitsLen x:Nat)/\h'=h):=by
 refine bH c_math_bits_Len rfl rfl ?_;simp(disch:=omega)only[go_sem,c_math_bits_Len,aF];refine (len64_ok x h a).mono ?_;rintro _ _ ⟨rfl,rfl⟩;simp(disch:=omega)only[go_sem]
theorem pow2_ok (n:Nat)(h:H)(d:n<65536):Ev T 169 [aB n] h (λv h'=>v= .int .u64 ((2^bitsLen n:Nat):Int)/\h'=h):=by
 refine bH c_slices_nextPowerOfTwo rfl rfl ?_;have a:bitsLen n<=16:=(bitsLen_le_iff _ 16).2 om;have b:2^bitsLen n<=2^16:=Nat.pow_le_pow_right om a;obtain⟨m,a⟩:=JR (2^bitsLen n);rw[a] at b ⊢
 have c:wU .shl .u64 1 ((bitsLen n:Nat):Int)=some (.int .u64 (m:Int)):=by
  unfold wU;rw[aZ om];simp only[De,IntKind.bits];rw[Nat.min_eq_left om];have e:(1:Int)*2^bitsLen n=(m:Int):=by rw[Int.one_mul,←a];push_cast;rfl
  rw[e,wrap_u64_in om om]
 simp(disch:=omega)only[go_sem,c_slices_nextPowerOfTwo,aF,wrap_u64_in (n:=(n:Int)) om om];refine (len_ok n h d).mono ?_;rintro _ _ ⟨rfl,rfl⟩;simp(disch:=omega)only[go_sem,evI_shf,shfV_int,c]
theorem next_ok (R:Nat)(x:Int)(h:H)(i:h.get R=some (.cells false [.int .u64 x]))(m:R<h.next):
  Ev T 170 [.ptr R 0] h (λv h'=> ∃y,v= .int .u64 y/\h'.get R=some (.cells false [.int .u64 y])/\Fx (· =R) h h'):=by
 refine bH c_slices_xorshift_Next rfl rfl ?_
 have l:h.cell R 0=some (.int .u64 x):=by rw[H.aG i];rfl
 obtain⟨c,e,_⟩:=shl_u64 x 13 om
 obtain⟨a,b,_⟩:=xor_u64 x c
 obtain⟨c,f⟩:=shr_u64 a 7 om
 obtain⟨j,g,_⟩:=xor_u64 a c
 obtain⟨a,c,_⟩:=shl_u64 j 17 om
 obtain⟨k,d,_⟩:=xor_u64 j a
 have j: ∀(u w:Int) (a:H),dQ (some (.cells false [.int .u64 u])) a R 0 [.int .u64 w]=some (a.set R (some (.cells false [.int .u64 w]))):=λu w a=>bF (by simp) a R _
 simp(disch:=omega)only[go_sem,c_slices_xorshift_Next,aF,l,evI_shf,shfV_int,e,b,f,g,c,d,i,j]
 exact⟨k,rfl,rfl,⟨by simp only[H.dE];omega,λid _ a=>by
  rw[H.aI _ a,H.lJ,H.aI _ a,H.lJ,H.aI _ a,H.lJ]⟩⟩
theorem Arr.fxo  {h h':H}{S N R:Nat}{d:Array Int}(A:Arr h S N d)(f:Fx (· =R) h h')(a:R≠S):Arr h' S N d:=⟨by rw[f.get S A.lt (λe=>a e.symm)];exact A.get,A.size,iP A.lt f.next⟩
theorem reverse_ok  (h:H)(S N a b:Nat)(d:Array Int)(n:mF)(s:N<1000000)(A:Arr h S N d)(t:b<=N)(r:a<b):
  Ev T 132 [.sl S 0 N n,aB a,aB b] h (λ_ h'=>Arr h' S N (reverseRange d a b)/\Fx (· =S) h h'):=by
 refine bH c_slices_reverseRangeOrdered_int rfl rfl ?_
 have o:(b:Int)- 1=((b- 1:Nat):Int):=om
 simp(disch:=omega)only[go_sem,c_slices_reverseRangeOrdered_int,aF,o]
 refine aH (λc f o=> ∃(i j:Nat) (e:Array Int),(∃g:Nat->V,f= [.sl S 0 N n,aB a,aB b,aB i,aB j,g 5])/\j<b/\i<=b/\Arr o S N e/\reverseLoop i j e=reverseLoop a (b- 1) d/\Fx (· =S) h o/\c=j) (b- 1)
  ⟨a,b- 1,d,aA rfl,om,om,A,rfl,Fx.refl _ h,rfl⟩ ?_
 clear A
 rintro c f q ⟨i,j,e,⟨g,rfl⟩,e,hi,A,k,F,p⟩
 subst p
 have e:=A.size
 rw[reverseLoop] at k
 by_cases l:(i:Int)<(c:Int)
 ·have m:=bM l
  rw[aV om] at k
  have f:=A.rd (i:=i) om
  have e:=A.rd (i:=c) om
  simp(disch:=omega)only[go_sem,m,f,e,A.get,put_cont,put_cont']
  have W:=A.swap (i:=i) (j:=c) (nx:=q.next+16) om rfl
  rw[show (i:Int)+1=((i+1:Nat):Int) from om,show (c:Int)- 1=((c- 1:Nat):Int) from om]
  exact⟨c- 1,om,i+1,c- 1,_,aA rfl,om,om,W.1,k,fxt F W.2,rfl⟩
 have m:=bJ l
 rw[aZ om] at k
 simp(disch:=omega)only[go_sem,m]
 unfold reverseRange
 rw[←k]
 exact⟨A,F⟩
theorem tdivN (n:Nat){k:Int}{m:Nat}(a:k=(m:Int)):(n:Int).tdiv k=((n/m:Nat):Int):=by
 rw[a,Int.tdiv_eq_ediv_of_nonneg om];rfl
theorem break_ok  (h:H)(S N a b:Nat)(d:Array Int)(cp:mF)(hN:N<60000)(A:Arr h S N d)(hb:b<=N)(a1:a<=b):
  Ev T 130 [.sl S 0 N cp,aB a,aB b] h (λ_ h'=> ∃e,Arr h' S N e/\PermIn a b d e/\Fx (· =S) h h'):=by
 refine bH c_slices_breakPatternsOrdered_int rfl rfl ?_
 obtain⟨n,z⟩:=JR (b-a)
 have en:(b:Int)-(a:Int)=(n:Int):=om
 by_cases z:(8:Int)<=(n:Int)
 case neg=>
  have P:=bJ z;simp(disch:=omega)only[go_sem,c_slices_breakPatternsOrdered_int,aF,en,P];exact⟨d,A,permIn_refl d a b,Fx.refl _ h⟩
 have P:=bM z
 have B:=tdivN n (k:=4) (m:=4) rfl
 obtain⟨q,z⟩:=JR (n/4)
 rw[z] at B
 have ei:(a:Int)+(q:Int)*2- 1=((a+q*2- 1:Nat):Int):=om
 have ej:(a:Int)+(q:Int)*2+1=((a+q*2+1:Nat):Int):=om
 have L:=two_pow_bitsLen_le (show 0<n by omega)
 have z:=lt_two_pow_bitsLen n
 obtain⟨m,hm⟩:=JR (2^bitsLen n)
 rw[hm] at L z
 obtain⟨R,U⟩:=JR h.next
 have a0:R≠S:=by have:=A.lt;omega
 have L: ∀c:H,dQ (bW [.int .u64 0]) c R 0 [.int .u64 (n:Int)]=some (c.set R (bW [.int .u64 (n:Int)])):=λc=>bF (by simp) c R _
 have z:(h.new (.cells false [.int .u64 0])).get R=bW [.int .u64 0]:=by rw[←U,H.aN]
 simp(disch:=omega)only[go_sem,c_slices_breakPatternsOrdered_int,aF,en,P,U,wrap_u64_in (n:=(n:Int)) om om,z,L]
 obtain⟨o,f⟩: ∃o,o=(h.new (.cells false [.int .u64 0])).set R (bW [.int .u64 (n:Int)]):=⟨_,rfl⟩
 rw[←f]
 have g1:o.get R=bW [.int .u64 (n:Int)]:=by rw[f,H.aT]
 have n1:o.next=R+1:=by rw[f,H.dE,H.aX,U]
 have K:Fr h o:=by rw[f];exact ((Fr.refl h).new _).set om _
 clear f
 refine (pow2_ok n o om).mono ?_
 rintro _ f ⟨rfl,c⟩
 rw[c,hm]
 simp(disch:=omega)only[go_sem,B,ei]
 refine aH (λk' p c=> ∃(i:Nat) (e:Array Int) (x:Int),(∃g:Nat->V,p= [.sl S 0 N cp,aB a,aB b,aB n,.ptr R 0,.int .u64 (m:Int),aB i,g 7,g 8,g 9,g 10])/\a<=i/\i<=a+q*2+2/\Arr c S N e/\PermIn a b d e/\c.get R=bW [.int .u64 x]/\R<c.next/\Fx (· =S) h c/\k'=a+q*2+2-i) (a+q*2+2-(a+q*2- 1))
  ⟨a+q*2- 1,d,_,aA rfl,om,om,A.fr K,permIn_refl d a b,g1,om,Fx.of K,rfl⟩ ?_
 clear A g1 n1 K c o
 rintro k' p o ⟨i,e,x,⟨g,rfl⟩,s,c,A,Y,gR,nR,F,rfl⟩
 by_cases c:(i:Int)<=((a+q*2+1:Nat):Int)
 case neg=>
  have f:=bJ c;simp(disch:=omega)only[go_sem,B,ej,f];exact⟨e,A,Y,F⟩
 have f:=bM c
 simp(disch:=omega)only[go_sem,B,ej,f]
 refine (next_ok R x o gR nR).mono ?_
 rintro _ G ⟨y,rfl,r,F2⟩
 have l:=A.fxo F2 a0
 obtain⟨w,hw,c⟩:=and_u64 y (m- 1) om
 have em:(m:Int)- 1=((m- 1:Nat):Int):=om
 have c:=l.size
 have v:Fx (· =S) h G:=⟨jK F.next F2.next,λid c f=>(F2.get id (iP c F.next) (λe=>by have:id=R:=e;omega)).trans (F.get id c f)⟩
 have t:R<G.next:=iP nR F2.next
 by_cases u:(n:Int)<=(w:Int)
 ·have J:=bM u
  have c:(w:Int)-(n:Int)=((w-n:Nat):Int):=om
  have O:(a:Int)+((w-n:Nat):Int)=((a+(w-n):Nat):Int):=om
  have Q:=l.rd (i:=i) om
  have Z:=l.rd (i:=a+(w-n)) om
  simp(disch:=omega)only[go_sem,em,wrap_u64_in (n:=((m- 1:Nat):Int)) om om,hw,J,c,O,Q,Z,l.get,put_cont,put_cont']
  have W:=l.swap (i:=i) (j:=a+(w-n)) (nx:=G.next+20) om rfl
  rw[dY i]
  refine⟨a+q*2+2-(i+1),om,i+1,_,y,aA rfl,om,om,W.1,permIn_trans _ _ _ a b Y (swp_permIn e a b i (a+(w-n)) s om om om om),?_,iP t W.2.next,fxt v W.2,rfl⟩
  exact r
 ·have J:=bJ u
  have O:(a:Int)+(w:Int)=((a+w:Nat):Int):=om
  have Q:=l.rd (i:=i) om
  have Z:=l.rd (i:=a+w) om
  simp(disch:=omega)only[go_sem,em,wrap_u64_in (n:=((m- 1:Nat):Int)) om om,hw,J,O,Q,Z,l.get,put_cont,put_cont']
  have W:=l.swap (i:=i) (j:=a+w) (nx:=G.next+20) om rfl
  rw[dY i]
  refine⟨a+q*2+2-(i+1),om,i+1,_,y,aA rfl,om,om,W.1,permIn_trans _ _ _ a b Y (swp_permIn e a b i (a+w) s om om om om),?_,iP t W.2.next,fxt v W.2,rfl⟩
  exact r
structure Chs (h h':H)(R:Nat):Prop where
 get: ∃s,h'.get R=bW [aB s]
 fx:Fx (· =R) h h'
theorem Chs.trans {a b c:H}{R:Nat}(x:Chs a b R)(y:Chs b c R):Chs a c R:=⟨y.get,x.fx.trans y.fx λ_ _ h=>h⟩
theorem order2_ok  (h:H)(S N a b R:Nat)(d:Array Int)(k:mF)(n:N<1000000)(A:Arr h S N d)(o:a<N)(q:b<N)(p:R≠S)(j:R<h.next)(s:Int)(m:h.get R=bW [aB s]):
  Ev T 186 [.sl S 0 N k,aB a,aB b,.ptr R 0] h (λv h'=>(v= .tup [aB a,aB b]∨v= .tup [aB b,aB a])/\Chs h h' R):=by
 refine bH c_slices_order2Ordered_int rfl rfl ?_
 have l:=A.rd (i:=a) om
 have e:=A.rd (i:=b) om
 simp(disch:=omega)only[go_sem,c_slices_order2Ordered_int,aF,l,e]
 refine (less_int _ _ _).mono ?_
 rintro _ f ⟨rfl,e⟩
 have g:Fr h f:=Fr.trans ((Fr.refl h).bN om) e
 have c:f.get R=bW [aB s]:=by rw[g.get R j];exact m
 cases hl:ltInt d[b]! d[a]! with
 |false=>
  simp(disch:=omega)only[go_sem,hl];exact⟨.inl trivial,⟨s,c⟩,Fx.of g⟩
 |true=>
  have cR:f.cell R 0=some (aB s):=by rw[H.aG c];rfl
  have l: ∀(w:Int) (e:H),dQ (bW [aB s]) e R 0 [aB w]=some (e.set R (bW [aB w])):=λw e=>bF (by simp) e R _
  simp(disch:=omega)only[go_sem,hl,cR,c,l];exact⟨.inr trivial,⟨_,by rw[H.aT]⟩,(Fx.of (W:=(· =R)) g).trans (Fx.set f (W:=(· =R)) rfl _) (λ_ _ h=>h)⟩
theorem median_ok  (h:H)(S N a b c R:Nat)(d:Array Int)(k:mF)(t:N<1000000)(A:Arr h S N d)(p:a<N)(u:b<N)(B:c<N)(f:R≠S)(g:R<h.next)(s:Int)(L:h.get R=bW [aB s]):
  Ev T 172 [.sl S 0 N k,aB a,aB b,aB c,.ptr R 0] h (λv h'=>(∃m,v= aB (m:Nat)/\(m=a∨m=b∨m=c))/\Chs h h' R):=by
 refine bH c_slices_medianOrdered_int rfl rfl ?_
 simp(disch:=omega)only[go_sem,c_slices_medianOrdered_int,aF]
 refine (order2_ok h S N a b R d k t A p u f g s L).mono ?_
 rintro P O ⟨q,l⟩
 obtain⟨w,i,rfl,o,e,G⟩: ∃x y,P= .tup [aB (x:Nat),aB (y:Nat)]/\x<N/\y<N/\((x=a∨x=b)/\(y=a∨y=b)):=by
  rcases q with rfl|rfl
  ·exact⟨a,b,rfl,p,u,.inl rfl,.inr rfl⟩
  ·exact⟨b,a,rfl,u,p,.inr rfl,.inl rfl⟩
 have F:=A.fxo l.fx f
 obtain⟨q,G⟩:=l.get
 have z:=iP g l.fx.next
 simp(disch:=omega)only[go_sem]
 refine (order2_ok O S N i c R d k t F e B f z q G).mono ?_
 rintro K Q ⟨n,j⟩
 obtain⟨J,q,rfl,r,q⟩: ∃x y,K= .tup [aB (x:Nat),aB (y:Nat)]/\x<N/\(x=i∨x=c):=by
  rcases n with rfl|rfl
  ·exact⟨i,c,rfl,e,.inl rfl⟩
  ·exact⟨c,i,rfl,B,.inr rfl⟩
 have n:=F.fxo j.fx f
 obtain⟨i,e⟩:=j.get
 have q:=iP z j.fx.next
 simp(disch:=omega)only[go_sem]
 refine (order2_ok Q S N w J R d k t n o r f q i e).mono ?_
 rintro e e ⟨e,i⟩
 have C:=(l.trans j).trans i
 rcases e with rfl|rfl
 ·simp(disch:=omega)only[go_sem]
  exact⟨⟨J,rfl,om⟩,C⟩
 ·simp(disch:=omega)only[go_sem]
  exact⟨⟨w,rfl,om⟩,C⟩
theorem medianA_ok  (h:H)(S N a R:Nat)(d:Array Int)(c:mF)(i:N<1000000)(A:Arr h S N d)(l:0<a)(n:a+1<N)(j:R≠S)(b:R<h.next)(s:Int)(g:h.get R=bW [aB s]):
  Ev T 171 [.sl S 0 N c,aB a,.ptr R 0] h (λv h'=>(∃m,v= aB (m:Nat)/\(m=a- 1∨m=a∨m=a+1))/\Chs h h' R):=by
 refine bH c_slices_medianAdjacentOrdered_int rfl rfl ?_
 have k:(a:Int)- 1=((a- 1:Nat):Int):=om
 have e:(a:Int)+1=((a+1:Nat):Int):=om
 simp(disch:=omega)only[go_sem,c_slices_medianAdjacentOrdered_int,aF,k,e]
 refine (median_ok h S N (a- 1) a (a+1) R d c i A om om om j b s g).mono ?_
 rintro _ e ⟨⟨m,rfl,f⟩,C⟩
 simp(disch:=omega)only[go_sem]
 exact⟨⟨m,rfl,f⟩,C⟩
theorem pivot_ok  (h:H)(S N a b:Nat)(d:Array Int)(B:mF)(P:N<1000000)(A:Arr h S N d)(hb:b<=N)(a0:a<b):
  Ev T 131 [.sl S 0 N B,aB a,aB b] h (λv h'=> ∃(p:Nat) (t:Int),v= .tup [aB p,aB t]/\a<=p/\p<b/\Fr h h'):=by
 refine bH c_slices_choosePivotOrdered_int rfl rfl ?_
 obtain⟨n,e⟩:=JR (b-a)
 have W:(b:Int)-(a:Int)=(n:Int):=om
 have O:=tdivN n (k:=4) (m:=4) rfl
 obtain⟨q,e⟩:=JR (n/4)
 rw[e] at O
 have ei:(a:Int)+(q:Int)*1=((a+q:Nat):Int):=om
 have ej:(a:Int)+(q:Int)*2=((a+q*2:Nat):Int):=om
 have ek:(a:Int)+(q:Int)*3=((a+q*3:Nat):Int):=om
 obtain⟨R,L⟩:=JR h.next
 have c:R≠S:=by have:=A.lt;omega
 obtain⟨l,g⟩: ∃l,l=h.new (.cells false [aB 0]):=⟨_,rfl⟩
 have Z:l.get R=bW [aB 0]:=by rw[g,←L,H.aN]
 have e:l.next=R+1:=by rw[g,H.aX,L]
 have f1:Fr h l:=by rw[g];exact (Fr.refl h).new _
 have A1:=A.fr f1
 have G: ∀(p:Nat) (f:H),a<=p->p<b->Fx (· =R) l f->a<=p/\p<b/\Fr h f:=λp f x1 Y e=>⟨x1,Y,jK f1.next e.next,λid Y=>(e.get id om (λe=>by have:id=R:=e;omega)).trans (f1.get id Y)⟩
 by_cases h8:(8:Int)<=(n:Int)
 case neg=>
  have Q:=bJ h8;simp(disch:=omega)only[go_sem,c_slices_choosePivotOrdered_int,aF,W,O,ei,ej,ek,Q];rw[←g];have cR:l.cell R 0=some (aB 0):=by rw[H.aG Z];rfl
  simp(disch:=omega)only[go_sem,L,cR];refine bB (λ_=>?_) (λe=>(e (by trivial)).elim);simp(disch:=omega)only[go_sem];exact⟨a+q*2,1,rfl,G _ _ om om (Fx.refl _ _)⟩
 have Q:=bM h8
 have r: ∀(i j k:Nat) (f:H) (F:Int),a<=i->i<b->a<=j->j<b->a<=k->k<b->Arr f S N d->f.get R=bW [aB F]->R<f.next->Fx (· =R) l f->
   Ev T 172 [.sl S 0 N B,aB i,aB j,aB k,.ptr R 0] f (λv h'=> ∃p o,v= aB (p:Nat)/\a<=p/\p<b/\h'.get R=bW [aB o]/\Fr h h'):=by
  intro i j k f F e e e e e e U g2 n2 F2
  refine (median_ok f S N i j k R d B P U om om om c n2 F g2).mono ?_
  rintro _ w ⟨⟨p,rfl,e⟩,⟨o,s⟩,J⟩
  exact⟨p,o,rfl,om,om,s,(G p w om om (F2.trans J λ_ _ h=>h)).2.2⟩
 by_cases K:(50:Int)<=(n:Int)
 case neg=>
  have y:=bJ K;simp(disch:=omega)only[go_sem,c_slices_choosePivotOrdered_int,aF,W,O,ei,ej,ek,Q,y];rw[←g];simp(disch:=omega)only[go_sem,L];refine (r (a+q) (a+q*2) (a+q*3) l 0 om om om om om om A1 Z om (Fx.refl _ _)).mono ?_;rintro _ w ⟨p,o,rfl,z,u,s,x⟩;have cR:w.cell R 0=some (aB o):=by rw[H.aG s];rfl
  simp(disch:=omega)only[go_sem,cR];refine bB (λ_=>?_) (λ_=>?_)
  ·simp(disch:=omega)only[go_sem]
   exact⟨p,1,rfl,z,u,x⟩
  ·simp(disch:=omega)only[go_sem]
   refine bB (λ_=>?_) (λ_=>?_)
   ·simp(disch:=omega)only[go_sem]
    exact⟨p,2,rfl,z,u,x⟩
   ·simp(disch:=omega)only[go_sem]
    exact⟨p,0,rfl,z,u,x⟩
 have y:=bM K
 simp(disch:=omega)only[go_sem,c_slices_choosePivotOrdered_int,aF,W,O,ei,ej,ek,Q,y]
 rw[←g]
 simp(disch:=omega)only[go_sem,L]
 refine (medianA_ok l S N (a+q) R d B P A1 om om c om 0 Z).mono ?_
 rintro _ f ⟨⟨i,rfl,hi⟩,⟨F,g2⟩,F2⟩
 have U:=A1.fxo F2 c
 have n2:=F2.next
 simp(disch:=omega)only[go_sem]
 refine (medianA_ok f S N (a+q*2) R d B P U om om c om F g2).mono ?_
 rintro _ w ⟨⟨j,rfl,e⟩,⟨o,s⟩,J⟩
 have A3:=U.fxo J c
 have e:=J.next
 simp(disch:=omega)only[go_sem]
 refine (medianA_ok w S N (a+q*3) R d B P A3 om om c om o s).mono ?_
 rintro _ h4 ⟨⟨k,rfl,e⟩,⟨g,f⟩,e⟩
 have A4:=A3.fxo e c
 have c:=e.next
 simp(disch:=omega)only[go_sem]
 refine (r i j k h4 g om om om om om om A4 f om ((F2.trans J λ_ _ h=>h).trans e λ_ _ h=>h)).mono ?_
 rintro _ w ⟨p,o,rfl,z,u,s,x⟩
 have cR:w.cell R 0=some (aB o):=by rw[H.aG s];rfl
 simp(disch:=omega)only[go_sem,cR]
 refine bB (λ_=>?_) (λ_=>?_)
 ·simp(disch:=omega)only[go_sem]
  exact⟨p,1,rfl,z,u,x⟩
 ·simp(disch:=omega)only[go_sem]
  refine bB (λ_=>?_) (λ_=>?_)
  ·simp(disch:=omega)only[go_sem]
   exact⟨p,2,rfl,z,u,x⟩
  ·simp(disch:=omega)only[go_sem]
   exact⟨p,0,rfl,z,u,x⟩
section
variable {lt:Int->Int->Bool} {j b:Nat} {d:Array Int}
theorem shD_t (h:lt d[j+1]! d[j]! =true):shiftDown lt (j+1) d=shiftDown lt j (swp d (j+1) j):=by rw[shiftDown,aZ (by simp [h])]
theorem shD_f (h:lt d[j+1]! d[j]! =false):shiftDown lt (j+1) d=d:=by rw[shiftDown,aV (by simp [h])]
theorem shU_t (a:j<b)(h:lt d[j]! d[j- 1]! =true):shiftUp lt b j d=shiftUp lt b (j+1) (swp d j (j- 1)):=by rw[shiftUp,aV a,aZ (by simp [h])]
theorem shU_f (a:j<b)(h:lt d[j]! d[j- 1]! =false):shiftUp lt b j d=d:=by rw[shiftUp,aV a,aV (by simp [h])]
theorem scS_t {i:Nat}(hi:i<b)(h:lt d[i]! d[i- 1]! =false):scanSorted lt d b i=scanSorted lt d b (i+1):=by rw[scanSorted,aV (by simp [h,hi])]
theorem scS_f {i:Nat}(h: ¬(i<b/\lt d[i]! d[i- 1]! =false)):scanSorted lt d b i=i:=by rw[scanSorted,aZ (by simpa using h)]
theorem pIns_eq (lt:Int->Int->Bool)(a b s i:Nat)(d:Array Int):partialIns lt a b (s+1) i d=if scanSorted lt d b i=b then (d,true) else if b-a<50 then (d,false) else
  partialIns lt a b s (scanSorted lt d b i) (if b-scanSorted lt d b i≥2 then shiftUp lt b (scanSorted lt d b i+1) (if scanSorted lt d b i-a≥2 then shiftDown lt (scanSorted lt d b i- 1) (swp d (scanSorted lt d b i) (scanSorted lt d b i- 1)) else swp d (scanSorted lt d b i) (scanSorted lt d b i- 1)) else
   (if scanSorted lt d b i-a≥2 then shiftDown lt (scanSorted lt d b i- 1) (swp d (scanSorted lt d b i) (scanSorted lt d b i- 1)) else swp d (scanSorted lt d b i) (scanSorted lt d b i- 1))):=by rw[partialIns]
theorem partial_ok (h:H)(S N a b:Nat)(d:Array Int)(R:mF)(hN:N<1000000)(A:Arr h S N d)(hb:b<=N)(b1:a<b):
  Ev T 133 [.sl S 0 N R,aB a,aB b] h (λv h'=>v= .bool (partialInsertionSort ltInt d a b).2/\Arr h' S N (partialInsertionSort ltInt d a b).1/\Fx (· =S) h h'):=by
 refine bH c_slices_partialInsertionSortOrdered_int rfl rfl ?_
 simp(disch:=omega)only[go_sem,c_slices_partialInsertionSortOrdered_int,aF]
 rw[dY a]
 refine aH (λf c r=> ∃(s i:Nat) (e:Array Int),(∃g:Nat->V,c= [.sl S 0 N R,aB a,aB b,g 3,aB i,aB (5-(s:Int)),g 6,g 7,g 8,g 9,g 10,g 11,g 12,g 13,g 14,g 15,g 16,g 17])/\s<=5/\a<i/\i<=b/\Arr r S N e/\partialIns ltInt a b s i e=partialInsertionSort ltInt d a b/\Fx (· =S) h r/\f=s) 5
  ⟨5,a+1,d,aA rfl,om,om,om,A,rfl,Fx.refl _ h,rfl⟩ ?_
 clear A
 rintro f c Z ⟨s,i,e,⟨g,rfl⟩,hs,a8,a9,A,k,F,hk⟩
 subst hk
 by_cases B:(5:Int)-(f:Int)<5
 case neg=>
  have l:=bJ B;obtain rfl:f=0:=om
  simp(disch:=omega)only[go_sem,l];have k:(e,false)=partialInsertionSort ltInt d a b:=k;rw[←k];exact⟨rfl,A,F⟩
 have l:=bM B
 obtain⟨s,rfl⟩: ∃s,f=s+1:=⟨f- 1,om⟩
 simp(disch:=omega)only[go_sem,l]
 rw[pIns_eq] at k
 refine aH (λf c r=> ∃(m:Nat),(∃g:Nat->V,c= [.sl S 0 N R,aB a,aB b,g 3,aB m,aB (5-((s+1:Nat):Int)),g 6,g 7,g 8,g 9,g 10,g 11,g 12,g 13,g 14,g 15,g 16,g 17])/\a<m/\m<=b/\Arr r S N e/\scanSorted ltInt e b m=scanSorted ltInt e b i/\Fx (· =S) h r/\f=b-m) (b-i)
  ⟨i,aA rfl,a8,a9,A,rfl,F,rfl⟩ ?_
 clear A F B l
 rintro f c t ⟨m,⟨g,rfl⟩,B,B,A,U,F,rfl⟩
 have B:=A.size
 have y:(m:Int)- 1=((m- 1:Nat):Int):=om
 have a4:(m:Int)+1=((m+1:Nat):Int):=om
 by_cases a3:(m:Int)<(b:Int)
 case neg=>
  have l:=bJ a3;have B:m=b:=om
  rw[scS_f om] at U;rw[←U,aV B] at k;have e2:decide ((m:Int)=(b:Int))=true:=bM om;simp(disch:=omega)only[go_sem,l,e2];rw[←k];exact⟨rfl,A.fr ((Fr.refl t).bN om),fxt F (Fx.of ((Fr.refl t).bN om))⟩
 have l:=bM a3
 have n:=A.rd (i:=m) om
 have o:=A.rd (i:=m- 1) om
 simp(disch:=omega)only[go_sem,l,y,n,o]
 refine (less_int _ _ _).mono ?_
 rintro _ h3 ⟨rfl,a1⟩
 have L:Fr t h3:=Fr.trans ((Fr.refl t).bN om) a1
 have z:=A.fr L
 have F3:=fxt F (Fx.of L)
 cases hl:ltInt e[m]! e[m- 1]! with
 |false=>
  rw[scS_t om hl] at U;simp(disch:=omega)only[go_sem,hl,a4];exact⟨b-(m+1),om,m+1,aA rfl,om,om,z,U,F3,rfl⟩
 |true=>
  rw[scS_f (by rw[hl];simp)] at U;rw[←U,aZ om] at k;have e2:decide ((m:Int)=(b:Int))=false:=bJ om
  by_cases a5:(b:Int)-(a:Int)<50
  ·have J:=bM a5
   rw[aV om] at k;simp(disch:=omega)only[go_sem,hl,e2,J];rw[←k];exact⟨rfl,z,F3⟩
  have J:=bJ a5;rw[aZ om] at k;have n:=z.rd (i:=m) om;have o:=z.rd (i:=m- 1) om;simp(disch:=omega)only[go_sem,hl,e2,J,y,n,o,z.get,put_cont,put_cont'];have W:=z.swap (i:=m) (j:=m- 1) (nx:=h3.next+18) om rfl
  obtain⟨B,a0⟩: ∃B,B=((H.mk h3.tr (h3.next+18)).set S (bW (ints (e.setIfInBounds m e[m- 1]!).toList))).set S (bW (ints ((e.setIfInBounds m e[m- 1]!).setIfInBounds (m- 1) e[m]!).toList)):=⟨_,rfl⟩
  rw[←a0] at W ⊢;obtain⟨A4,B⟩:=W;have K:=fxt F3 B;clear a0 B z F3 L a1 n o;obtain⟨Q,a2⟩:=JR (swp e m (m- 1));rw[a2] at A4 k;refine kE (λe O=> ∃Y,(∃g:Nat->V,e= [.sl S 0 N R,aB a,aB b,g 3,aB m,aB (5-((s+1:Nat):Int)),g 6,g 7,g 8,g 9,g 10,g 11,g 12,g 13,g 14,g 15,g 16,g 17])/\Arr O S N Y/\Y=(if m-a≥2 then shiftDown ltInt (m- 1) Q else Q)/\Fx (· =S) h O) ?_ ?_
  ·refine bB (λt=>?_) (λt=>?_)
   ·simp(disch:=omega)only[go_sem,y]
    refine aH (λf c r=> ∃(j:Nat) (x:Array Int),(∃g:Nat->V,c= [.sl S 0 N R,aB a,aB b,g 3,aB m,aB (5-((s+1:Nat):Int)),aB j,g 7,g 8,g 9,g 10,g 11,g 12,g 13,g 14,g 15,g 16,g 17])/\j<b/\Arr r S N x/\shiftDown ltInt j x=shiftDown ltInt (m- 1) Q/\Fx (· =S) h r/\f=j) (m- 1)
     ⟨m- 1,Q,aA rfl,om,A4,rfl,K,rfl⟩ ?_
    rintro f c O ⟨j,x,⟨g,rfl⟩,hj,u,w,F5,hk⟩;subst hk;have e:=u.size
    by_cases Z:(1:Int)<=(f:Int)
    ·have l:=bM Z
     obtain⟨q,rfl⟩: ∃q,f=q+1:=⟨f- 1,om⟩
     have a6:((q+1:Nat):Int)- 1=(q:Int):=om
     have n:=u.rd (i:=q+1) om;have o:=u.rd (i:=q) om;simp(disch:=omega)only[go_sem,l,a6,n,o];refine (less_int _ _ _).mono ?_;rintro _ h6 ⟨rfl,e⟩;have y:Fr O h6:=Fr.trans ((Fr.refl O).bN om) e;have p:=u.fr y;have F6:=fxt F5 (Fx.of y)
     cases hl:ltInt x[q+1]! x[q]! with
     |false=>
      rw[shD_f hl] at w;simp(disch:=omega)only[go_sem,hl];exact .inl ⟨x,aA rfl,p,by rw[aV om,←w],F6⟩
     |true=>
      rw[shD_t hl] at w;have n:=p.rd (i:=q+1) om;have o:=p.rd (i:=q) om;simp(disch:=omega)only[go_sem,hl,a6,n,o,p.get,put_cont,put_cont'];have W:=p.swap (i:=q+1) (j:=q) (nx:=h6.next+18) om rfl;exact⟨q,om,q,_,aA rfl,om,W.1,w,fxt F6 W.2,rfl⟩
    ·have l:=bJ Z
     obtain rfl:f=0:=om
     simp(disch:=omega)only[go_sem,l];have w:x=shiftDown ltInt (m- 1) Q:=w;exact .inl ⟨x,aA rfl,u,by rw[aV om,←w],F5⟩
   ·simp(disch:=omega)only[go_sem]
    exact .inl ⟨Q,aA rfl,A4,by rw[aZ om],K⟩
  ·rintro c O ⟨Y,⟨g,rfl⟩,u,e,F5⟩
   rw[←e] at k;clear A4 K e a2;simp(disch:=omega)only[go_sem];have G:(5:Int)-((s+1:Nat):Int)+1=5-(s:Int):=om
   refine bB (λt=>?_) (λt=>?_)
   ·rw[aV om] at k
    simp(disch:=omega)only[go_sem,a4];refine aH (λf c r=> ∃(j:Nat) (x:Array Int),(∃g:Nat->V,c= [.sl S 0 N R,aB a,aB b,g 3,aB m,aB (5-((s+1:Nat):Int)),g 6,aB j,g 8,g 9,g 10,g 11,g 12,g 13,g 14,g 15,g 16,g 17])/\0<j/\j<=b/\Arr r S N x/\shiftUp ltInt b j x=shiftUp ltInt b (m+1) Y/\Fx (· =S) h r/\f=b-j) (b-(m+1))
     ⟨m+1,Y,aA rfl,om,om,u,rfl,F5,rfl⟩ ?_
    rintro f c h6 ⟨j,x,⟨g,rfl⟩,c,hj,p,P,F6,rfl⟩;have c:=p.size
    by_cases Z:(j:Int)<(b:Int)
    ·have l:=bM Z
     have a7:(j:Int)- 1=((j- 1:Nat):Int):=om
     have b0:(j:Int)+1=((j+1:Nat):Int):=om
     have n:=p.rd (i:=j) om;have o:=p.rd (i:=j- 1) om;simp(disch:=omega)only[go_sem,l,a7,n,o];refine (less_int _ _ _).mono ?_;rintro _ h7 ⟨rfl,c⟩;have e:Fr h6 h7:=Fr.trans ((Fr.refl h6).bN om) c;have A7:=p.fr e;have F7:=fxt F6 (Fx.of e)
     cases hl:ltInt x[j]! x[j- 1]! with
     |false=>
      rw[shU_f om hl] at P;rw[←P] at k;simp(disch:=omega)only[go_sem,hl,G];exact⟨s,om,s,m,x,aA rfl,om,om,om,A7,k,F7,rfl⟩
     |true=>
      rw[shU_t om hl] at P;have n:=A7.rd (i:=j) om;have o:=A7.rd (i:=j- 1) om;simp(disch:=omega)only[go_sem,hl,a7,b0,n,o,A7.get,put_cont,put_cont'];have W:=A7.swap (i:=j) (j:=j- 1) (nx:=h7.next+18) om rfl;exact⟨b-(j+1),om,j+1,_,aA rfl,om,om,W.1,P,fxt F7 W.2,rfl⟩
    ·have l:=bJ Z
     rw[shiftUp,aZ om] at P;rw[←P] at k;simp(disch:=omega)only[go_sem,l,G];exact⟨s,om,s,m,x,aA rfl,om,om,om,p,k,F6,rfl⟩
   ·rw[aZ om] at k
    simp(disch:=omega)only[go_sem,G];exact⟨s,om,s,m,Y,aA rfl,om,om,om,u,k,F5,rfl⟩
end
section
variable {p:Int->Bool} {d:Array Int} {j i:Nat}
theorem scU_t (a:i<=j)(h2:p d[i]! =true):scanUp p d j i=scanUp p d j (i+1):=by rw[scanUp,aV (by simp [a,h2])]
theorem scU_f (h: ¬(i<=j/\p d[i]! =true)):scanUp p d j i=i:=by rw[scanUp,aZ (by simpa using h)]
theorem scD_t (a:i<=j+1)(h2:p d[j+1]! =true):scanDown p d i (j+1)=scanDown p d i j:=by rw[scanDown,aV (by simp [a,h2])]
theorem scD_f (h: ¬(i<=j/\p d[j]! =true)):scanDown p d i j=j:=by
 cases j with
 |zero=>rfl
 |succ j=>rw[scanDown,aZ (by simpa using h)]
theorem scanUp_hi (p:Int->Bool)(d:Array Int)(j i:Nat):scanUp p d j i<=max i (j+1):=by
 obtain⟨n,a⟩:=JR (j+1-i)
 induction n generalizing i with
 |zero=>rw[scU_f (λh=>by have:=h.1;omega)];omega
 |succ n ih=>
  by_cases h:i<=j/\p d[i]! =true
  ·rw[scU_t h.1 h.2]
   have:=ih (i+1) om;omega
  ·rw[scU_f h];omega
theorem partition_ok (h:H)(S N a b pv:Nat)(d:Array Int)(P:mF)(hN:N<1000000)(A:Arr h S N d)(hb:b<=N)(b3:a<=pv)(b4:pv<b):
  Ev T 136 [.sl S 0 N P,aB a,aB b,aB pv] h (λv h'=>v= .tup [aB ((partition ltInt d a b pv).1:Nat),.bool (partition ltInt d a b pv).2.1]/\Arr h' S N (partition ltInt d a b pv).2.2/\Fx (· =S) h h'):=by
 refine bH c_slices_partitionOrdered_int rfl rfl ?_
 have sz:=A.size
 have G:=A.rd (i:=a) om
 have K:=A.rd (i:=pv) om
 simp(disch:=omega)only[go_sem,c_slices_partitionOrdered_int,aF,G,K,A.get,put_cont,put_cont']
 have W:=A.swap (i:=a) (j:=pv) (nx:=h.next+16) om rfl
 obtain⟨h1,R⟩: ∃h1,h1=((H.mk h.tr (h.next+16)).set S (bW (ints (d.setIfInBounds a d[pv]!).toList))).set S (bW (ints ((d.setIfInBounds a d[pv]!).setIfInBounds pv d[a]!).toList)):=⟨_,rfl⟩
 rw[←R] at W ⊢
 obtain⟨A1,F1⟩:=W
 obtain⟨e,he⟩:=JR (swp d a pv)
 rw[he] at A1
 clear R G K A
 have eb:(b:Int)- 1=((b- 1:Nat):Int):=om
 have ea:(a:Int)+1=((a+1:Nat):Int):=om
 have hP:partition ltInt d a b pv=if scanUp (λx=>ltInt x e[a]!) e (b- 1) (a+1)>scanDown (λx=>!ltInt x e[a]!) e (scanUp (λx=>ltInt x e[a]!) e (b- 1) (a+1)) (b- 1) then
   (scanDown (λx=>!ltInt x e[a]!) e (scanUp (λx=>ltInt x e[a]!) e (b- 1) (a+1)) (b- 1),true,swp e (scanDown (λx=>!ltInt x e[a]!) e (scanUp (λx=>ltInt x e[a]!) e (b- 1) (a+1)) (b- 1)) a) else
   ((partLoop ltInt a (scanUp (λx=>ltInt x e[a]!) e (b- 1) (a+1)+1) (scanDown (λx=>!ltInt x e[a]!) e (scanUp (λx=>ltInt x e[a]!) e (b- 1) (a+1)) (b- 1)- 1) (swp e (scanUp (λx=>ltInt x e[a]!) e (b- 1) (a+1)) (scanDown (λx=>!ltInt x e[a]!) e (scanUp (λx=>ltInt x e[a]!) e (b- 1) (a+1)) (b- 1)))).1,false,
    swp (partLoop ltInt a (scanUp (λx=>ltInt x e[a]!) e (b- 1) (a+1)+1) (scanDown (λx=>!ltInt x e[a]!) e (scanUp (λx=>ltInt x e[a]!) e (b- 1) (a+1)) (b- 1)- 1) (swp e (scanUp (λx=>ltInt x e[a]!) e (b- 1) (a+1)) (scanDown (λx=>!ltInt x e[a]!) e (scanUp (λx=>ltInt x e[a]!) e (b- 1) (a+1)) (b- 1)))).2 (partLoop ltInt a (scanUp (λx=>ltInt x e[a]!) e (b- 1) (a+1)+1) (scanDown (λx=>!ltInt x e[a]!) e (scanUp (λx=>ltInt x e[a]!) e (b- 1) (a+1)) (b- 1)- 1) (swp e (scanUp (λx=>ltInt x e[a]!) e (b- 1) (a+1)) (scanDown (λx=>!ltInt x e[a]!) e (scanUp (λx=>ltInt x e[a]!) e (b- 1) (a+1)) (b- 1)))).1 a):=by
  rw[←he];rfl
 obtain⟨R,R⟩:=JR (partition ltInt d a b pv)
 rw[R] at hP
 rw[R]
 simp(disch:=omega)only[go_sem,ea,eb]
 refine bX (λJ c=>(∃g:Nat->V,J= [.sl S 0 N P,aB a,aB b,aB pv,g 4,g 5,aB (scanUp (λx=>ltInt x e[a]!) e (b- 1) (a+1):Nat),aB ((b- 1):Nat),g 8,g 9,g 10,g 11,g 12,g 13])/\Arr c S N e/\Fx (· =S) h c) ?_ ?_
 ·refine aH (λB J c=> ∃(k:Nat),(∃g:Nat->V,J= [.sl S 0 N P,aB a,aB b,aB pv,g 4,g 5,aB (k:Nat),aB ((b- 1):Nat),g 8,g 9,g 10,g 11,g 12,g 13])/\(a+1)<=k/\k<=N+2/\Arr c S N e/\scanUp (λx=>ltInt x e[a]!) e (b- 1) k=scanUp (λx=>ltInt x e[a]!) e (b- 1) (a+1)/\Fx (· =S) h c/\B=(b- 1)+1-k) ((b- 1)+1-(a+1))
   ⟨(a+1),aA rfl,om,om,A1,rfl,F1,rfl⟩ ?_
  rintro B l F ⟨k,⟨g,rfl⟩,a6,b1,r,m,U,rfl⟩
  by_cases f:(k:Int)<=(((b- 1):Nat):Int)
  ·have o:decide ((k:Int)<=(((b- 1):Nat):Int))=true:=bM f
   have eK:(k:Int)+1=((k+1:Nat):Int):=om
   have a5:=r.size
   have G:=r.rd (i:=k) om
   have K:=r.rd (i:=a) om
   simp(disch:=omega)only[go_sem,o,G,K]
   refine (less_int _ _ _).mono ?_
   rintro _ L ⟨rfl,y⟩
   have s:Fr F L:=Fr.trans ((Fr.refl F).bN om) y
   have t:=r.fr s
   have q:=fxt U (Fx.of s)
   cases hl:ltInt e[k]! e[a]! with
   |false=>
    rw[scU_f (λc=>by have:=c.2;simp [hl] at this)] at m;simp(disch:=omega)only[go_sem,hl];exact⟨by rw[←m];exact aA rfl,t,q⟩
   |true=>
    rw[scU_t om (by simp [hl])] at m;simp(disch:=omega)only[go_sem,hl,eK];exact⟨(b- 1)+1-(k+1),om,k+1,aA rfl,om,om,t,m,q,rfl⟩
  ·have o:decide ((k:Int)<=(((b- 1):Nat):Int))=false:=bJ f
   rw[scU_f (λc=>f (by have:=c.1;omega))] at m
   simp(disch:=omega)only[go_sem,o]
   exact⟨by rw[←m];exact aA rfl,r.fr ((Fr.refl F).bN om),fxt U (Fx.of ((Fr.refl F).bN om))⟩
 ·rintro l h9 ⟨⟨g,rfl⟩,A9,F9⟩
  have a1:=scanUp_ge (λx=>ltInt x e[a]!) e (b- 1) (a+1)
  have a0:=scanUp_hi (λx=>ltInt x e[a]!) e (b- 1) (a+1)
  obtain⟨n,Q⟩: ∃x,scanUp (λx=>ltInt x e[a]!) e (b- 1) (a+1)=x:=⟨_,rfl⟩
  rw[Q] at a1 a0
  rw[Q]
  simp(disch:=omega)only[go_sem]
  refine bX (λJ c=>(∃g:Nat->V,J= [.sl S 0 N P,aB a,aB b,aB pv,g 4,g 5,aB (n:Nat),aB (scanDown (λx=>!ltInt x e[a]!) e n (b- 1):Nat),g 8,g 9,g 10,g 11,g 12,g 13])/\Arr c S N e/\Fx (· =S) h c) ?_ ?_
  ·refine aH (λB J c=> ∃(k:Nat),(∃g:Nat->V,J= [.sl S 0 N P,aB a,aB b,aB pv,g 4,g 5,aB (n:Nat),aB (k:Nat),g 8,g 9,g 10,g 11,g 12,g 13])/\k<=(b- 1)/\Arr c S N e/\scanDown (λx=>!ltInt x e[a]!) e n k=scanDown (λx=>!ltInt x e[a]!) e n (b- 1)/\Fx (· =S) h c/\B=k) (b- 1)
    ⟨(b- 1),aA rfl,om,A9,rfl,F9,rfl⟩ ?_
   rintro B l F ⟨k,⟨g,rfl⟩,a6,r,m,U,a2⟩
   subst a2
   by_cases f:((n:Nat):Int)<=(B:Int)
   ·have o:=bM f
    obtain⟨k,rfl⟩: ∃k,B=k+1:=⟨B- 1,om⟩
    have eK:((k+1:Nat):Int)- 1=(k:Int):=om
    have a5:=r.size
    have G:=r.rd (i:=k+1) om
    have K:=r.rd (i:=a) om
    simp(disch:=omega)only[go_sem,o,G,K]
    refine (less_int _ _ _).mono ?_
    rintro _ L ⟨rfl,y⟩
    have s:Fr F L:=Fr.trans ((Fr.refl F).bN om) y
    have t:=r.fr s
    have q:=fxt U (Fx.of s)
    cases hl:ltInt e[k+1]! e[a]! with
    |true=>
     rw[scD_f (λc=>by have:=c.2;simp [hl] at this)] at m;simp(disch:=omega)only[go_sem,hl];exact⟨by rw[←m];exact aA rfl,t,q⟩
    |false=>
     rw[scD_t om (by simp [hl])] at m;simp(disch:=omega)only[go_sem,hl,eK];exact⟨k,om,k,aA rfl,om,t,m,q,rfl⟩
   ·have o:=bJ f
    rw[scD_f (λc=>f (by have:=c.1;omega))] at m
    simp(disch:=omega)only[go_sem,o]
    exact⟨by rw[←m];exact aA rfl,r.fr ((Fr.refl F).bN om),fxt U (Fx.of ((Fr.refl F).bN om))⟩
  ·rintro l h2 ⟨⟨g,rfl⟩,Z,F2⟩
   have a3:=scanDown_le (λx=>!ltInt x e[a]!) e n (b- 1)
   obtain⟨z,a4⟩: ∃x,scanDown (λx=>!ltInt x e[a]!) e n (b- 1)=x:=⟨_,rfl⟩
   rw[a4] at a3
   rw[a4]
   rw[Q,a4] at hP
   have b2:=Z.size
   by_cases O:(z:Int)<(n:Int)
   ·have o:=bM O
    rw[aV om] at hP
    have G:=Z.rd (i:=z) om
    have K:=Z.rd (i:=a) om
    simp(disch:=omega)only[go_sem,o,G,K,Z.get,put_cont,put_cont']
    have W:=Z.swap (i:=z) (j:=a) (nx:=h2.next+16) om rfl
    rw[hP]
    exact⟨rfl,W.1,fxt F2 W.2⟩
   have o:=bJ O
   rw[aZ om] at hP
   have G:=Z.rd (i:=n) om
   have K:=Z.rd (i:=z) om
   simp(disch:=omega)only[go_sem,o,G,K,Z.get,put_cont,put_cont']
   have W:=Z.swap (i:=n) (j:=z) (nx:=h2.next+16) om rfl
   obtain⟨h3,b0⟩: ∃h3,h3=((H.mk h2.tr (h2.next+16)).set S (bW (ints (e.setIfInBounds n e[z]!).toList))).set S (bW (ints ((e.setIfInBounds n e[z]!).setIfInBounds z e[n]!).toList)):=⟨_,rfl⟩
   rw[←b0] at W ⊢
   obtain⟨A3,a8⟩:=W
   have F3:=fxt F2 a8
   have a9:n<=z:=om
   obtain⟨e0,a7⟩:=JR (swp e n z)
   rw[a7] at A3 hP
   clear b0 G K Z A9 F9 A1 F1 he O o
   have ei:(n:Int)+1=((n+1:Nat):Int):=om
   have ej:(z:Int)- 1=((z- 1:Nat):Int):=om
   simp(disch:=omega)only[go_sem,ei,ej]
   refine bX (λJ c=>(∃g:Nat->V,J= [.sl S 0 N P,aB a,aB b,aB pv,g 4,g 5,g 6,aB (((partLoop ltInt a (n+1) (z- 1) e0).1:Nat):Int),g 8,g 9,g 10,g 11,g 12,g 13])/\Arr c S N (partLoop ltInt a (n+1) (z- 1) e0).2/\(partLoop ltInt a (n+1) (z- 1) e0).1<b/\Fx (· =S) h c) ?_ ?_
   ·refine aH (λB J c=> ∃(i j:Nat) (e:Array Int),(∃g:Nat->V,J= [.sl S 0 N P,aB a,aB b,aB pv,g 4,g 5,aB i,aB j,g 8,g 9,g 10,g 11,g 12,g 13])/\a<i/\i<=b+1/\j<b/\Arr c S N e/\partLoop ltInt a i j e=partLoop ltInt a (n+1) (z- 1) e0/\Fx (· =S) h c/\B=j) (z- 1)
     ⟨n+1,z- 1,e0,aA rfl,om,om,om,A3,rfl,F3,rfl⟩ ?_
    obtain⟨R,R⟩:=JR (partLoop ltInt a (n+1) (z- 1) e0)
    rw[R]
    clear hP R Q a4 a7 ei ej a3 a1 a0 F3 a8 A3 b2 h3 a9
    clear n z
    rintro B l h3 ⟨i,j,e,⟨g,rfl⟩,R,Q,Q,A3,hL,F3,a2⟩
    rw[partLoop_eq] at hL
    simp(disch:=omega)only[go_sem]
    refine bX (λJ c=>(∃g:Nat->V,J= [.sl S 0 N P,aB a,aB b,aB pv,g 4,g 5,aB (scanUp (λx=>ltInt x e[a]!) e j i:Nat),aB (j:Nat),g 8,g 9,g 10,g 11,g 12,g 13])/\Arr c S N e/\Fx (· =S) h c) ?_ ?_
    ·refine aH (λB J c=> ∃(k:Nat),(∃g:Nat->V,J= [.sl S 0 N P,aB a,aB b,aB pv,g 4,g 5,aB (k:Nat),aB (j:Nat),g 8,g 9,g 10,g 11,g 12,g 13])/\i<=k/\k<=N+2/\Arr c S N e/\scanUp (λx=>ltInt x e[a]!) e j k=scanUp (λx=>ltInt x e[a]!) e j i/\Fx (· =S) h c/\B=j+1-k) (j+1-i)
      ⟨i,aA rfl,om,om,A3,rfl,F3,rfl⟩ ?_
     rintro B l F ⟨k,⟨g,rfl⟩,a6,b1,r,m,U,rfl⟩
     by_cases f:(k:Int)<=((j:Nat):Int)
     ·have o:=bM f
      have eK:(k:Int)+1=((k+1:Nat):Int):=om
      have a5:=r.size
      have G:=r.rd (i:=k) om
      have K:=r.rd (i:=a) om
      simp(disch:=omega)only[go_sem,o,G,K]
      refine (less_int _ _ _).mono ?_
      rintro _ L ⟨rfl,y⟩
      have s:Fr F L:=Fr.trans ((Fr.refl F).bN om) y
      have t:=r.fr s
      have q:=fxt U (Fx.of s)
      cases hl:ltInt e[k]! e[a]! with
      |false=>
       rw[scU_f (λc=>by have:=c.2;simp [hl] at this)] at m;simp(disch:=omega)only[go_sem,hl];exact⟨by rw[←m];exact aA rfl,t,q⟩
      |true=>
       rw[scU_t om (by simp [hl])] at m;simp(disch:=omega)only[go_sem,hl,eK];exact⟨j+1-(k+1),om,k+1,aA rfl,om,om,t,m,q,rfl⟩
     ·have o:=bJ f
      rw[scU_f (λc=>f (by have:=c.1;omega))] at m
      simp(disch:=omega)only[go_sem,o]
      exact⟨by rw[←m];exact aA rfl,r.fr ((Fr.refl F).bN om),fxt U (Fx.of ((Fr.refl F).bN om))⟩
    ·rintro l h9 ⟨⟨g,rfl⟩,A9,F9⟩
     have a1:=scanUp_ge (λx=>ltInt x e[a]!) e j i
     have a0:=scanUp_hi (λx=>ltInt x e[a]!) e j i
     obtain⟨u,hu⟩: ∃x,scanUp (λx=>ltInt x e[a]!) e j i=x:=⟨_,rfl⟩
     rw[hu] at a1 a0
     rw[hu]
     simp(disch:=omega)only[go_sem]
     refine bX (λJ c=>(∃g:Nat->V,J= [.sl S 0 N P,aB a,aB b,aB pv,g 4,g 5,aB (u:Nat),aB (scanDown (λx=>!ltInt x e[a]!) e u j:Nat),g 8,g 9,g 10,g 11,g 12,g 13])/\Arr c S N e/\Fx (· =S) h c) ?_ ?_
     ·refine aH (λB J c=> ∃(k:Nat),(∃g:Nat->V,J= [.sl S 0 N P,aB a,aB b,aB pv,g 4,g 5,aB (u:Nat),aB (k:Nat),g 8,g 9,g 10,g 11,g 12,g 13])/\k<=j/\Arr c S N e/\scanDown (λx=>!ltInt x e[a]!) e u k=scanDown (λx=>!ltInt x e[a]!) e u j/\Fx (· =S) h c/\B=k) j
       ⟨j,aA rfl,om,A9,rfl,F9,rfl⟩ ?_
      rintro B l F ⟨k,⟨g,rfl⟩,a6,r,m,U,a2⟩
      subst a2
      by_cases f:((u:Nat):Int)<=(B:Int)
      ·have o:=bM f
       obtain⟨k,rfl⟩: ∃k,B=k+1:=⟨B- 1,om⟩
       have eK:((k+1:Nat):Int)- 1=(k:Int):=om
       have a5:=r.size
       have G:=r.rd (i:=k+1) om
       have K:=r.rd (i:=a) om
       simp(disch:=omega)only[go_sem,o,G,K]
       refine (less_int _ _ _).mono ?_
       rintro _ L ⟨rfl,y⟩
       have s:Fr F L:=Fr.trans ((Fr.refl F).bN om) y
       have t:=r.fr s
       have q:=fxt U (Fx.of s)
       cases hl:ltInt e[k+1]! e[a]! with
       |true=>
        rw[scD_f (λc=>by have:=c.2;simp [hl] at this)] at m;simp(disch:=omega)only[go_sem,hl];exact⟨by rw[←m];exact aA rfl,t,q⟩
       |false=>
        rw[scD_t om (by simp [hl])] at m;simp(disch:=omega)only[go_sem,hl,eK];exact⟨k,om,k,aA rfl,om,t,m,q,rfl⟩
      ·have o:=bJ f
       rw[scD_f (λc=>f (by have:=c.1;omega))] at m
       simp(disch:=omega)only[go_sem,o]
       exact⟨by rw[←m];exact aA rfl,r.fr ((Fr.refl F).bN om),fxt U (Fx.of ((Fr.refl F).bN om))⟩
     ·rintro l h4 ⟨⟨g,rfl⟩,A4,F4⟩
      have a3:=scanDown_le (λx=>!ltInt x e[a]!) e u j
      obtain⟨w,hw⟩: ∃x,scanDown (λx=>!ltInt x e[a]!) e u j=x:=⟨_,rfl⟩
      rw[hw] at a3
      rw[hw]
      rw[hu,hw] at hL
      have c:=A4.size
      by_cases O:(w:Int)<(u:Int)
      ·have o:=bM O
       rw[aV om] at hL
       simp(disch:=omega)only[go_sem,o]
       rw[←hL]
       exact⟨aA rfl,A4,om,F4⟩
      have o:=bJ O
      rw[aZ om] at hL
      have G:=A4.rd (i:=u) om
      have K:=A4.rd (i:=w) om
      have ei:(u:Int)+1=((u+1:Nat):Int):=om
      have ej:(w:Int)- 1=((w- 1:Nat):Int):=om
      simp(disch:=omega)only[go_sem,o,G,K,A4.get,put_cont,put_cont',ei,ej]
      have W:=A4.swap (i:=u) (j:=w) (nx:=h4.next+16) om rfl
      exact⟨w- 1,om,u+1,w- 1,_,aA rfl,om,om,om,W.1,hL,fxt F4 W.2,rfl⟩
   ·rintro l h5 ⟨⟨g,rfl⟩,A5,Y,F5⟩
    generalize partLoop ltInt a (n+1) (z- 1) e0=r at hP A5 Y
    obtain⟨m,c⟩:=r
    have Y:m<b:=Y
    have A5:Arr h5 S N c:=A5
    have c:=A5.size
    have G:=A5.rd (i:=m) om
    have K:=A5.rd (i:=a) om
    simp(disch:=omega)only[go_sem,G,K,A5.get,put_cont,put_cont']
    have W:=A5.swap (i:=m) (j:=a) (nx:=h5.next+16) om rfl
    rw[hP]
    exact⟨rfl,W.1,fxt F5 W.2⟩
theorem partEq_ok (h:H)(S N a b pv:Nat)(d:Array Int)(J:mF)(hN:N<1000000)(A:Arr h S N d)(hb:b<=N)(a4:a<=pv)(a5:pv<b):
  Ev T 135 [.sl S 0 N J,aB a,aB b,aB pv] h (λv h'=>v= aB ((partitionEqual ltInt d a b pv).1:Nat)/\Arr h' S N (partitionEqual ltInt d a b pv).2/\Fx (· =S) h h'):=by
 refine bH c_slices_partitionEqualOrdered_int rfl rfl ?_
 have sz:=A.size
 have F:=A.rd (i:=a) om
 have G:=A.rd (i:=pv) om
 simp(disch:=omega)only[go_sem,c_slices_partitionEqualOrdered_int,aF,F,G,A.get,put_cont,put_cont']
 have W:=A.swap (i:=a) (j:=pv) (nx:=h.next+16) om rfl
 obtain⟨h1,P⟩: ∃h1,h1=((H.mk h.tr (h.next+16)).set S (bW (ints (d.setIfInBounds a d[pv]!).toList))).set S (bW (ints ((d.setIfInBounds a d[pv]!).setIfInBounds pv d[a]!).toList)):=⟨_,rfl⟩
 rw[←P] at W ⊢
 obtain⟨A1,F1⟩:=W
 have eb:(b:Int)- 1=((b- 1:Nat):Int):=om
 have ea:(a:Int)+1=((a+1:Nat):Int):=om
 unfold partitionEqual
 obtain⟨L,he⟩: ∃e,swp d a pv=e:=⟨_,rfl⟩
 rw[he] at A1 ⊢
 clear P F G A
 simp(disch:=omega)only[go_sem,ea,eb]
 refine bX (λy c=>(∃g:Nat->V,y= [.sl S 0 N J,aB a,aB b,aB pv,g 4,aB (((partEqLoop ltInt a (a+1) (b- 1) L).1:Nat):Int),g 6,g 7,g 8,g 9])/\Arr c S N (partEqLoop ltInt a (a+1) (b- 1) L).2/\Fx (· =S) h c) ?_ ?_
 ·refine aH (λr y c=> ∃(i j:Nat) (e:Array Int),(∃g:Nat->V,y= [.sl S 0 N J,aB a,aB b,aB pv,g 4,aB i,aB j,g 7,g 8,g 9])/\a<i/\i<=b+1/\j<b/\Arr c S N e/\partEqLoop ltInt a i j e=partEqLoop ltInt a (a+1) (b- 1) L/\Fx (· =S) h c/\r=j) (b- 1)
   ⟨a+1,b- 1,L,aA rfl,om,om,om,A1,rfl,F1,rfl⟩ ?_
  obtain⟨P,P⟩:=JR (partEqLoop ltInt a (a+1) (b- 1) L)
  rw[P]
  clear P F1 A1 h1 he L
  rintro r f L ⟨i,j,e,⟨g,rfl⟩,L,L,L,A3,O,F3,Q⟩
  rw[partEqLoop_eq] at O
  simp(disch:=omega)only[go_sem]
  refine bX (λy c=>(∃g:Nat->V,y= [.sl S 0 N J,aB a,aB b,aB pv,g 4,aB (scanUp (λx=>!ltInt e[a]! x) e j i:Nat),aB (j:Nat),g 7,g 8,g 9])/\Arr c S N e/\Fx (· =S) h c) ?_ ?_
  ·refine aH (λr y c=> ∃(k:Nat),(∃g:Nat->V,y= [.sl S 0 N J,aB a,aB b,aB pv,g 4,aB (k:Nat),aB (j:Nat),g 7,g 8,g 9])/\i<=k/\k<=N+2/\Arr c S N e/\scanUp (λx=>!ltInt e[a]! x) e j k=scanUp (λx=>!ltInt e[a]! x) e j i/\Fx (· =S) h c/\r=j+1-k) (j+1-i)
    ⟨i,aA rfl,om,om,A3,rfl,F3,rfl⟩ ?_
   rintro r f B ⟨k,⟨g,rfl⟩,a2,L,o,m,U,rfl⟩
   by_cases l:(k:Int)<=((j:Nat):Int)
   ·have s:=bM l
    have Y:(k:Int)+1=((k+1:Nat):Int):=om
    have a0:=o.size
    have F:=o.rd (i:=k) om
    have G:=o.rd (i:=a) om
    simp(disch:=omega)only[go_sem,s,F,G]
    refine (less_int _ _ _).mono ?_
    rintro _ K ⟨rfl,z⟩
    have q:Fr B K:=Fr.trans ((Fr.refl B).bN om) z
    have t:=o.fr q
    have n:=fxt U (Fx.of q)
    cases hl:ltInt e[a]! e[k]! with
    |true=>
     rw[scU_f (λc=>by have:=c.2;simp [hl] at this)] at m;simp(disch:=omega)only[go_sem,hl];exact⟨by rw[←m];exact aA rfl,t,n⟩
    |false=>
     rw[scU_t om (by simp [hl])] at m;simp(disch:=omega)only[go_sem,hl,Y];exact⟨j+1-(k+1),om,k+1,aA rfl,om,om,t,m,n,rfl⟩
   ·have s:=bJ l
    rw[scU_f (λc=>l (by have:=c.1;omega))] at m
    simp(disch:=omega)only[go_sem,s]
    exact⟨by rw[←m];exact aA rfl,o.fr ((Fr.refl B).bN om),fxt U (Fx.of ((Fr.refl B).bN om))⟩
  ·rintro f L ⟨⟨g,rfl⟩,A9,F9⟩
   have a1:=scanUp_ge (λx=>!ltInt e[a]! x) e j i
   have Z:=scanUp_hi (λx=>!ltInt e[a]! x) e j i
   obtain⟨u,hu⟩: ∃x,scanUp (λx=>!ltInt e[a]! x) e j i=x:=⟨_,rfl⟩
   rw[hu] at a1 Z
   rw[hu]
   simp(disch:=omega)only[go_sem]
   refine bX (λy c=>(∃g:Nat->V,y= [.sl S 0 N J,aB a,aB b,aB pv,g 4,aB (u:Nat),aB (scanDown (λx=>ltInt e[a]! x) e u j:Nat),g 7,g 8,g 9])/\Arr c S N e/\Fx (· =S) h c) ?_ ?_
   ·refine aH (λr y c=> ∃(k:Nat),(∃g:Nat->V,y= [.sl S 0 N J,aB a,aB b,aB pv,g 4,aB (u:Nat),aB (k:Nat),g 7,g 8,g 9])/\k<=j/\Arr c S N e/\scanDown (λx=>ltInt e[a]! x) e u k=scanDown (λx=>ltInt e[a]! x) e u j/\Fx (· =S) h c/\r=k) j
     ⟨j,aA rfl,om,A9,rfl,F9,rfl⟩ ?_
    rintro r f B ⟨k,⟨g,rfl⟩,a2,o,m,U,Q⟩
    subst Q
    by_cases l:((u:Nat):Int)<=(r:Int)
    ·have s:=bM l
     obtain⟨k,rfl⟩: ∃k,r=k+1:=⟨r- 1,om⟩
     have Y:((k+1:Nat):Int)- 1=(k:Int):=om
     have a0:=o.size
     have F:=o.rd (i:=k+1) om
     have G:=o.rd (i:=a) om
     simp(disch:=omega)only[go_sem,s,F,G]
     refine (less_int _ _ _).mono ?_
     rintro _ K ⟨rfl,z⟩
     have q:Fr B K:=Fr.trans ((Fr.refl B).bN om) z
     have t:=o.fr q
     have n:=fxt U (Fx.of q)
     cases hl:ltInt e[a]! e[k+1]! with
     |false=>
      rw[scD_f (λc=>by have:=c.2;simp [hl] at this)] at m;simp(disch:=omega)only[go_sem,hl];exact⟨by rw[←m];exact aA rfl,t,n⟩
     |true=>
      rw[scD_t om (by simp [hl])] at m;simp(disch:=omega)only[go_sem,hl,Y];exact⟨k,om,k,aA rfl,om,t,m,n,rfl⟩
    ·have s:=bJ l
     rw[scD_f (λc=>l (by have:=c.1;omega))] at m
     simp(disch:=omega)only[go_sem,s]
     exact⟨by rw[←m];exact aA rfl,o.fr ((Fr.refl B).bN om),fxt U (Fx.of ((Fr.refl B).bN om))⟩
   ·rintro f h4 ⟨⟨g,rfl⟩,A4,F4⟩
    have a3:=scanDown_le (λx=>ltInt e[a]! x) e u j
    obtain⟨w,hw⟩: ∃x,scanDown (λx=>ltInt e[a]! x) e u j=x:=⟨_,rfl⟩
    rw[hw] at a3
    rw[hw]
    rw[hu,hw] at O
    have c:=A4.size
    by_cases R:(w:Int)<(u:Int)
    ·have s:=bM R
     rw[aV om] at O
     simp(disch:=omega)only[go_sem,s]
     rw[←O]
     exact⟨aA rfl,A4,F4⟩
    have s:=bJ R
    rw[aZ om] at O
    have F:=A4.rd (i:=u) om
    have G:=A4.rd (i:=w) om
    have e:(u:Int)+1=((u+1:Nat):Int):=om
    have c:(w:Int)- 1=((w- 1:Nat):Int):=om
    simp(disch:=omega)only[go_sem,s,F,G,A4.get,put_cont,put_cont',e,c]
    have W:=A4.swap (i:=u) (j:=w) (nx:=h4.next+16) om rfl
    exact⟨w- 1,om,u+1,w- 1,_,aA rfl,om,om,om,W.1,O,fxt F4 W.2,rfl⟩
 ·rintro f c ⟨⟨g,rfl⟩,e,c⟩
  simp(disch:=omega)only[go_sem]
  exact⟨e,c⟩
end
def PdqC  (n:Nat):Prop:= ∀(h:H) (S N a b:Nat) (lim:Int) (d:Array Int) (cp:mF),N<60000->Arr h S N d->a<=b->b<=N->b-a<=n->0<=lim->lim<1000000->Below ltInt a b d->
 Ev T 111 [.sl S 0 N cp,aB a,aB b,aB lim] h (λ_ h'=> ∃e,Arr h' S N e/\PermIn a b d e/\SortedIn ltInt a b e/\Fx (· =S) h h')
theorem pdq_ok  (n:Nat)(ih: ∀m,m<n->PdqC m):PdqC n:=by
 intro h S N a b x d o hN A a5 a6 hn s q hB;refine bH c_slices_pdqsortOrdered_int rfl rfl ?_;simp(disch:=omega)only[go_sem,c_slices_pdqsortOrdered_int,aF]
 refine aH (λk' w P=> ∃(c f:Nat) (l':Int) (O wp:Bool) (e:Array Int),(∃g:Nat->V,w= [.sl S 0 N o,aB (c:Int),aB (f:Int),aB l',.bool O,.bool wp,g 6,g 7,g 8,g 9,g 10,g 11,g 12,g 13,g 14,g 15,g 16,g 17,g 18,g 19,g 20,g 21,g 22])/\c<=f/\f<=N/\a<=c/\f<=b/\0<=l'/\l'<1000000/\Below ltInt c f e/\Arr P S N e/\Fx (· =S) h P/\
   (∀R,PermIn c f e R->SortedIn ltInt c f R->PermIn a b d R/\SortedIn ltInt a b R)/\k'=f-c) (b-a)
  ⟨a,b,x,true,true,d,aA rfl,a5,a6,eS _,eS _,s,q,hB,A,Fx.refl _ h,λR h1 h2=>⟨h1,h2⟩,rfl⟩ ?_
 clear A hB s q;rintro k' w h1 ⟨c,f,l',O,wp,e,⟨g,rfl⟩,u,j,a4,a2,s,q,hB,A,F,K,rfl⟩;obtain⟨m,a⟩:=JR (f-c);have d:(f:Int)-(c:Int)=(m:Int):=om
 have ez: ∀{x:Array Int} {hx:H},Arr hx S N x->f<=x.size:=λA=>by rw[A.size];exact j
 by_cases a:(m:Int)<=12
 ·have Q:=bM a
  simp(disch:=omega)only[go_sem,d,Q];refine (insertion_ok h1 S N c f e o om A j u).mono ?_;rintro _ h2 ⟨A2,F2⟩;obtain⟨b,p2⟩:=insertionSort_holds swo_ltInt e c f u (ez A);obtain⟨W,q2⟩:=K _ b p2;simp(disch:=omega)only[go_sem];exact⟨_,A2,W,q2,fxt F F2⟩
 have Q:=bJ a
 by_cases hl:l'=0
 ·have z:=bM hl
  simp(disch:=omega)only[go_sem,d,Q,z];refine (heapSort_ok h1 S N c f e o om A j u).mono ?_;rintro _ h2 ⟨A2,F2⟩;obtain⟨b,p2⟩:=heapSort_holds swo_ltInt e c f u (ez A);obtain⟨W,q2⟩:=K _ b p2;simp(disch:=omega)only[go_sem];exact⟨_,A2,W,q2,fxt F F2⟩
 have z:=bJ hl;simp(disch:=omega)only[go_sem,d,Q,z];refine kE (λU P=> ∃(z:Array Int) (y:Int) (g:Nat->V),U= [.sl S 0 N o,aB (c:Int),aB (f:Int),aB y,.bool O,.bool wp,aB m,g 7,g 8,g 9,g 10,g 11,g 12,g 13,g 14,g 15,g 16,g 17,g 18,g 19,g 20,g 21,g 22]/\0<=y/\y<1000000/\Arr P S N z/\PermIn c f e z/\Fx (· =S) h P) ?_ ?_
 ·cases O with
  |true=>
   simp(disch:=omega)only[go_sem];exact .inl ⟨e,l',_,(aA rfl: ∃g:Nat->V,_= [.sl S 0 N o,aB (c:Int),aB (f:Int),aB l',.bool true,.bool wp,aB m,g 7,g 8,g 9,g 10,g 11,g 12,g 13,g 14,g 15,g 16,g 17,g 18,g 19,g 20,g 21,g 22]).choose_spec,s,q,A,permIn_refl e c f,F⟩
  |false=>
   simp(disch:=omega)only[go_sem];refine (break_ok h1 S N c f e o hN A j u).mono ?_;rintro _ h2 ⟨z,A2,p2,F2⟩;simp(disch:=omega)only[go_sem];exact .inl ⟨z,l'- 1,_,(aA rfl: ∃g:Nat->V,_= [.sl S 0 N o,aB (c:Int),aB (f:Int),aB (l'- 1),.bool false,.bool wp,aB m,g 7,g 8,g 9,g 10,g 11,g 12,g 13,g 14,g 15,g 16,g 17,g 18,g 19,g 20,g 21,g 22]).choose_spec,om,om,A2,p2,fxt F F2⟩
 clear A F s q hl z g;rintro w h2 ⟨z,y,g,rfl,s,q,A,P2,F⟩;have B2:=hB.perm (by rw[←P2.1];exact ez A) P2;simp(disch:=omega)only[go_sem];refine (pivot_ok h2 S N c f z o om A j om).mono ?_;rintro _ h3 ⟨p,t,rfl,G,J,f3⟩;have A3:=A.fr f3;have F3:=fxt F (Fx.of f3);clear A F;simp(disch:=omega)only[go_sem];refine kE (λU P=> ∃(Z:Array Int) (p2:Nat) (t2:Int) (g:Nat->V),U= [.sl S 0 N o,aB (c:Int),aB (f:Int),aB y,.bool O,.bool wp,aB m,aB p2,aB t2,g 9,g 10,g 11,g 12,g 13,g 14,g 15,g 16,g 17,g 18,g 19,g 20,g 21,g 22]/\c<=p2/\p2<f/\Arr P S N Z/\PermIn c f z Z/\Fx (· =S) h P) ?_ ?_
 ·refine bB (λht=>?_) (λht=>?_)
  ·simp(disch:=omega)only[go_sem]
   refine (reverse_ok h3 S N c f z o om A3 j om).mono ?_;rintro _ h4 ⟨A4,F4⟩;have Y:(f:Int)- 1-((p:Int)-(c:Int))=(((f- 1)-(p-c):Nat):Int):=om
   simp(disch:=omega)only[go_sem,Y];exact .inl ⟨_,(f- 1)-(p-c),1,_,(aA rfl: ∃g:Nat->V,_= [.sl S 0 N o,aB (c:Int),aB (f:Int),aB y,.bool O,.bool wp,aB m,aB ((f- 1)-(p-c):Nat),aB 1,g 9,g 10,g 11,g 12,g 13,g 14,g 15,g 16,g 17,g 18,g 19,g 20,g 21,g 22]).choose_spec,om,om,A4,reverseRange_holds z c f u (ez A3),fxt F3 F4⟩
  ·simp(disch:=omega)only[go_sem]
   exact .inl ⟨z,p,t,_,(aA rfl: ∃g:Nat->V,_= [.sl S 0 N o,aB (c:Int),aB (f:Int),aB y,.bool O,.bool wp,aB m,aB p,aB t,g 9,g 10,g 11,g 12,g 13,g 14,g 15,g 16,g 17,g 18,g 19,g 20,g 21,g 22]).choose_spec,G,J,A3,permIn_refl z c f,F3⟩
 have a1:=ez A3;clear A3 F3 G J f3 p t g;rintro w h4 ⟨Z,p,t,g,rfl,G,J,A,P3,F⟩;have B3:=B2.perm a1 P3;have a0:=permIn_trans _ _ _ c f P2 P3;have a7:f<=z.size:=a1;clear a1 B2 hB;refine zN (λU P=> ∃(B:Array Int) (g:Nat->V),U= [.sl S 0 N o,aB (c:Int),aB (f:Int),aB y,.bool O,.bool wp,aB m,aB p,g 8,g 9,g 10,g 11,g 12,g 13,g 14,g 15,g 16,g 17,g 18,g 19,g 20,g 21,g 22]/\Arr P S N B/\PermIn c f e B/\Below ltInt c f B/\Fx (· =S) h P) ?_ ?_
 ·have skip: ∀(U:List V),(∃g:Nat->V,U= [.sl S 0 N o,aB (c:Int),aB (f:Int),aB y,.bool O,.bool wp,aB m,aB p,g 8,g 9,g 10,g 11,g 12,g 13,g 14,g 15,g 16,g 17,g 18,g 19,g 20,g 21,g 22])-> ∃(B:Array Int) (g:Nat->V),U= [.sl S 0 N o,aB (c:Int),aB (f:Int),aB y,.bool O,.bool wp,aB m,aB p,g 8,g 9,g 10,g 11,g 12,g 13,g 14,g 15,g 16,g 17,g 18,g 19,g 20,g 21,g 22]/\Arr h4 S N B/\PermIn c f e B/\Below ltInt c f B/\Fx (· =S) h h4:=λU ⟨g,a⟩=>⟨Z,g,a,A,a0,B3,F⟩
  have run: ∀g:Nat->V,Ev T 133 [.sl S 0 N o,aB (c:Int),aB (f:Int)] h4 (λv b=> ∃r:Array Int×Bool,v= .bool r.2/\Arr b S N r.1/\Fx (· =S) h4 b/\PermIn c f Z r.1/\(r.2=true->SortedIn ltInt c f r.1)):=λ_=>by
   refine (partial_ok h4 S N c f Z o om A j om).mono ?_;rintro v h5 ⟨a,A5,F5⟩;obtain⟨W,q2⟩:=partialInsertionSort_holds swo_ltInt Z c f om (ez A) B3;exact⟨_,a,A5,F5,W,q2⟩
  cases O with
  |false=>
   simp(disch:=omega)only[go_sem];exact .inl (skip _ (aA rfl))
  |true=>cases wp with
   |false=>
    simp(disch:=omega)only[go_sem]
    exact .inl (skip _ (aA rfl))
   |true=>
    simp(disch:=omega)only[go_sem]
    refine bB (λht=>?_) (λht=>?_)
    ·simp(disch:=omega)only[go_sem]
     refine (run g).mono ?_
     rintro v h5 ⟨⟨Y,r5⟩,rfl,A5,F5,W,q2⟩
     have A5:Arr h5 S N Y:=A5
     have W:PermIn c f Z Y:=W
     have P5:=permIn_trans _ _ _ c f a0 W
     cases r5 with
     |false=>
      simp(disch:=omega)only[go_sem];exact .inl ⟨Y,_,(aA rfl: ∃g:Nat->V,_= [.sl S 0 N o,aB (c:Int),aB (f:Int),aB y,.bool true,.bool true,aB m,aB p,g 8,g 9,g 10,g 11,g 12,g 13,g 14,g 15,g 16,g 17,g 18,g 19,g 20,g 21,g 22]).choose_spec,A5,P5,B3.perm (ez A) W,fxt F F5⟩
     |true=>
      obtain⟨w1,w2⟩:=K _ P5 (q2 rfl);simp(disch:=omega)only[go_sem];exact .inr ⟨by simp,Y,A5,w1,w2,fxt F F5⟩
    ·simp(disch:=omega)only[go_sem]
     exact .inl (skip _ (aA rfl))
 clear A P3 a0 B3 F P2 a7 Z z;rintro w h5 ⟨B,g,rfl,A,P4,B4,F⟩;have a3:=ez A;refine zN (λU P=> ∃(g:Nat->V),U= [.sl S 0 N o,aB (c:Int),aB (f:Int),aB y,.bool O,.bool wp,aB m,aB p,g 8,g 9,g 10,g 11,g 12,g 13,g 14,g 15,g 16,g 17,g 18,g 19,g 20,g 21,g 22]/\Arr P S N B/\Fx (· =S) h P) ?_ ?_
 ·by_cases h0:(0:Int)<(c:Int)
  case neg=>
   have Q:=bJ h0;simp(disch:=omega)only[go_sem,Q];exact .inl ⟨_,(aA rfl: ∃g:Nat->V,_= [.sl S 0 N o,aB (c:Int),aB (f:Int),aB y,.bool O,.bool wp,aB m,aB p,g 8,g 9,g 10,g 11,g 12,g 13,g 14,g 15,g 16,g 17,g 18,g 19,g 20,g 21,g 22]).choose_spec,A.fr ((Fr.refl h5).bN om),fxt F (Fx.of ((Fr.refl h5).bN om))⟩
  have Q:=bM h0;have d:(c:Int)- 1=((c- 1:Nat):Int):=om
  have a:=A.rd (i:=c- 1) om;have b:=A.rd (i:=p) om;simp(disch:=omega)only[go_sem,Q,d,a,b];refine (less_int _ _ _).mono ?_;rintro _ h6 ⟨rfl,a⟩;have b:Fr h5 h6:=Fr.trans ((Fr.refl h5).bN om) a;have A6:=A.fr b;have F6:=fxt F (Fx.of b)
  cases hl:ltInt B[c- 1]! B[p]! with
  |true=>
   simp(disch:=omega)only[go_sem,hl];exact .inl ⟨_,(aA rfl: ∃g:Nat->V,_= [.sl S 0 N o,aB (c:Int),aB (f:Int),aB y,.bool O,.bool wp,aB m,aB p,g 8,g 9,g 10,g 11,g 12,g 13,g 14,g 15,g 16,g 17,g 18,g 19,g 20,g 21,g 22]).choose_spec,A6,F6⟩
  |false=>
   obtain⟨w1,w2,w3,w4,w5⟩:=round_eq swo_ltInt (partitionEqual_holds ltInt) om G J a3 B4 hl (Prod.eta (partitionEqual ltInt B c f p)).symm;simp(disch:=omega)only[go_sem,hl];refine (partEq_ok h6 S N c f p B o om A6 j G J).mono ?_;rintro _ h7 ⟨rfl,A7,F7⟩;simp(disch:=omega)only[go_sem];refine .inr ⟨by simp,f-(partitionEqual ltInt B c f p).1,om,(partitionEqual ltInt B c f p).1,f,y,O,wp,_,aA rfl,w2,j,om,a2,s,q,w4,A7,fxt F6 F7,λR r1 r2=>?_,rfl⟩;obtain⟨t1,t2⟩:=w5 R r1 r2;exact K R (permIn_trans _ _ _ c f P4 t1) t2
 clear A F;rintro w h6 ⟨g,rfl,A,F⟩;have e8:=tdivN m (k:=8) (m:=8) rfl;simp(disch:=omega)only[go_sem];refine (partition_ok h6 S N c f p B o om A j G J).mono ?_;obtain⟨r,a⟩:=JR (partition ltInt B c f p);rw[a];obtain⟨l,ap,Y⟩:=r;obtain⟨w1,w2,w3,w4,w5,w6,w7⟩:=round_part swo_ltInt (partition_holds ltInt) G J a3 B4 a;rintro _ h7 ⟨rfl,A7,F7⟩;have A7:Arr h7 S N Y:=A7;have F7:=fxt F F7;have el:(l:Int)-(c:Int)=((l-c:Nat):Int):=om
 have a:(f:Int)-(l:Int)=((f-l:Nat):Int):=om
 have Q:(l:Int)+1=((l+1:Nat):Int):=om
 simp(disch:=omega)only[go_sem,el,a,e8];refine bB (λht=>?_) (λht=>?_)
 ·simp(disch:=omega)only[go_sem]
  refine (ih (l-c) om h7 S N c l y Y o hN A7 w1 om (eS _) s q w4).mono ?_;rintro _ h8 ⟨L,A8,p8,s8,F8⟩;obtain⟨u1,u2⟩:=w6 L p8 s8;simp(disch:=omega)only[go_sem,Q];refine⟨f-(l+1),om,l+1,f,y,_,ap,L,aA rfl,om,j,om,a2,s,q,u1,A8,fxt F7 F8,λR r1 r2=>?_,rfl⟩;obtain⟨t1,t2⟩:=u2 R r1 r2;exact K R (permIn_trans _ _ _ c f P4 t1) t2
 ·simp(disch:=omega)only[go_sem,Q]
  refine (ih (f-(l+1)) om h7 S N (l+1) f y Y o hN A7 om j (eS _) s q w5).mono ?_;rintro _ h8 ⟨L,A8,p8,s8,F8⟩;obtain⟨u1,u2⟩:=w7 L p8 s8;simp(disch:=omega)only[go_sem];refine⟨l-c,om,c,l,y,_,ap,L,aA rfl,om,om,a4,om,s,q,u1,A8,fxt F7 F8,λR r1 r2=>?_,rfl⟩;obtain⟨t1,t2⟩:=u2 R r1 r2;exact K R (permIn_trans _ _ _ c f P4 t1) t2
theorem pdq_all  (n:Nat):PdqC n:=by
 induction n using Nat.strongRecOn with
 |_ n ih=>exact pdq_ok n  ih
theorem sortArr_ok (h:H)(S N:Nat)(d:Array Int)(a:mF)(b:N<60000)(A:Arr h S N d):
  Ev T 87 [.sl S 0 N a] h (λ_ h'=> ∃e,Arr h' S N e/\PermIn 0 N d e/\SortedIn ltInt 0 N e/\Fx (· =S) h h'):=by
 refine bH c_slices_Sort_int_int rfl rfl ?_
 have g:bitsLen N<=16:=(bitsLen_le_iff _ 16).2 om
 simp(disch:=omega)only[go_sem,c_slices_Sort_int_int,aF,wrap_u64_in (n:=(N:Int)) om om]
 refine (len_ok N h om).mono ?_
 rintro _ c ⟨rfl,f⟩
 subst f
 simp(disch:=omega)only[go_sem]
 refine (pdq_all N c S N 0 N _ d a b A om om om om om (.inl rfl)).mono ?_
 rintro _ c ⟨e,c,p,s,F⟩
 simp(disch:=omega)only[go_sem]
 exact⟨e,c,p,s,F⟩
theorem arr_list {l:List Int}{N:Nat}(f:l.length=N){e:Array Int}(g:PermIn 0 N l.toArray e)(h:SortedIn ltInt 0 N e):e.toList.Perm l/\e.toList.Pairwise (· <= ·):=by
 obtain⟨b,a,c⟩:=g;have a:e.size=N:=by rw[b];simpa using f
 refine⟨?_,?_⟩
 ·have b:(e.extract 0 N).toList=e.toList:=by rw[←a];simp
  have d:(l.toArray.extract 0 N).toList=l:=by rw[←f];simp
  rwa [b,d] at c
 ·rw[Ta]
  intro i j hi d c;have b:j<N:=by simpa [a] using d
  have:=h i j (fF _) c b;unfold ltInt at this;have b:e[i]! =e.toList[i]:=by simp at hi;simp [hi]
  have a:e[j]! =e.toList[j]:=by simp at d;simp [d]
  rw[b,a] at this;simpa using this
theorem sort_ok (h:H)(S:Nat)(l:List Int)(a:mF)(d:l.length<60000)(c:h.get S=bW (ints l))(f:S<h.next):
  Ev T 87 [.sl S 0 l.length a] h (λ_ h'=> ∃l',h'.get S=bW (ints l')/\l'.Perm l/\l'.Pairwise (· <= ·)/\Fx (· =S) h h'):=by
 refine (sortArr_ok h S l.length l.toArray a d ⟨c,by simp,f⟩).mono ?_
 rintro _ h' ⟨e,A,p,s,F⟩
 obtain⟨g,b⟩:=arr_list rfl p s
 exact⟨e.toList,A.get,g,b,F⟩
theorem asc_perm {a b:List Int}(h:a.Perm b)(c:a.Pairwise (· <= ·))(f:b.Pairwise (· <= ·)):a=b:=
 h.eq_of_pairwise (λ_ _ _ _ e d=>Int.le_antisymm e d) c f
end Go.Proofs.YtapfcpkecmmagaaGreat
namespace Go.Proofs.YtapfcpkecmmagaaGreat
open Go Go.Ay Go.Pm
set_option maxRecDepth 100000
theorem values1_ok (id b:Nat)(d:V)(l:List Int)(h:H)(t:l.length<1000000)(J:Nat->H->Prop)(D:H->Prop)(n:J 0 h)
  (m: ∀i hh,J i hh->hh.get b=bW [d]/\SI hh d l)
  (p: ∀i hh,i<l.length->J i hh->Ey T id [aB (l.getD i 0)] hh (λv h'=>v= .bool true/\J (i+1) h'∨v= .bool false/\D h')):
  Ev T 180 [.yl id,.ptr b 0] h (λ_ h'=>J l.length h'∨D h'):=by
 refine bH c_slices_Values_int_int_1 rfl rfl ?_
 obtain⟨r,s⟩:=m 0 h n
 have q:h.cell b 0=some d:=by rw[H.aG r];rfl
 have r:=s.lens
 simp(disch:=omega)only[go_sem,c_slices_Values_int_int_1,aF,q,r]
 refine aH (λk a hh=> ∃(i:Nat),(∃g:Nat->V,a= [.yl id,.ptr b 0,g 2,d,aB (l.length:Int),aB i,g 6,g 7])/\i<=l.length/\J i hh/\k=l.length-i) l.length
  ⟨0,aA rfl,fF _,n,rfl⟩ ?_
 rintro k a o ⟨i,⟨g,rfl⟩,hi,e,rfl⟩
 by_cases c:(i:Int)<(l.length:Int)
 ·have f:=bM c
  obtain⟨a,g⟩:=m i o e
  obtain⟨a,a,k,a,a⟩:=g.open
  have ci:=a i om
  simp(disch:=omega)only[go_sem,f,k.ixa,ci]
  refine (p i o om e).mono ?_
  rintro v a (⟨rfl,j⟩|⟨rfl,j⟩)
  ·simp(disch:=omega)only[go_sem]
   rw[dY i]
   exact⟨l.length-(i+1),om,i+1,aA rfl,om,j,rfl⟩
  ·simp(disch:=omega)only[go_sem]
   exact .inr j
 have f:=bJ c
 obtain rfl:i=l.length:=om
 simp(disch:=omega)only[go_sem,f]
 exact .inl e
theorem collect_ok (b:Nat)(K:V)(l:List Int)(h:H)(hn:l.length<100000)(hb:h.get b=bW [K])(U:b<h.next)(W:SI h K l):
  Ev T 179 [.fn 180 [] [.ptr b 0]] h (λv h'=>Own h' v 1 (ints l) h.next/\(v= .aD∨ ∃id cap,v= .sl id 0 l.length cap/\h.next<=id/\id<h'.next/\h'.get id=bW (ints l))/\Fr h h'):=by
 refine bH c_slices_Collect_int rfl rfl ?_
 simp(disch:=omega)only[go_sem,c_slices_Collect_int,aF]
 refine Ev.mono (Q:=λv h'=>Own h' v 1 (ints l) h.next/\(v= .aD∨ ∃id cap,v= .sl id 0 l.length cap/\h.next<=id/\id<h'.next/\h'.get id=bW (ints l))/\Fr h h') ?_ (λv h' W=>by simp(disch:=omega)only[go_sem];exact W)
 refine bH c_slices_AppendSeq_int_int rfl rfl ?_
 simp(disch:=omega)only[go_sem,c_slices_AppendSeq_int_int,aF,kT (x:= .aD) rfl rfl]
 obtain⟨B,L⟩:=JR h.next
 obtain⟨u,q⟩: ∃u,u=h.new (.cells false [.aD]):=⟨_,rfl⟩
 have g1:u.get B=bW [.aD]:=by rw[q,←L,H.aN]
 have n1:u.next=B+1:=by rw[q,H.aX,L]
 have f1:Fr h u:=by rw[q];exact (Fr.refl h).new _
 rw[←q,L]
 refine⟨rfl,?_⟩
 refine sN λr p=>?_
 refine (values1_ok (B+1) b K l _ om (λi d=>d.get (B+1)=some (.loop r)/\B+1<d.next/\Fr h d/\ ∃g,d.get B=bW [g]/\Own d g 1 (ints (l.take i)) (B+2)/\(g= .aD∨ ∃id cap,g= .sl id 0 i cap/\B+2<=id/\id<d.next/\d.get id=bW (ints (l.take i)))) (λ_=>False) ?_ ?_ ?_).mono ?_
 ·have e:=H.aN u (.loop r)
  rw[n1] at e
  refine⟨e,by rw[H.aX];omega,f1.new _,.aD,by rw[H.bL u om];exact g1,Own.aD _ _ _,.inl rfl⟩
 ·rintro i d ⟨_,_,f,_⟩
  exact⟨by rw[f.get b U];exact hb,W.mono f⟩
 ·rintro i d hi ⟨R,nr,f,g,G,A,Y⟩
  have iA:r.st= .ready:=by rw[p]
  have Z:r.pend=none:=by rw[p]
  refine pX R (by rw[p];rfl) iA λt g2 O o2=>?_
  rw[congrArg fQ.assign p,congrArg fQ.vars p,congrArg fQ.pars p]
  simp(disch:=omega)only[go_sem,List.zip_cons_cons,List.zip_nil_left]
  rw[congrArg fQ.body p]
  have N:t.cell B 0=some g:=by unfold H.cell;rw[o2 B om,G];rfl
  simp(disch:=omega)only[go_sem,N,cJ t (z:= aB 0) (v:= aB (l.getD i 0)) rfl rfl,O]
  obtain⟨a,o⟩: ∃a,a=t.new (.cells false [aB (l.getD i 0)]):=⟨_,rfl⟩
  have q:a.get d.next=bW [aB (l.getD i 0)]:=by rw[o,←O,H.aN]
  have u:a.next=d.next+1:=by rw[o,H.aX,O]
  have J: ∀k,k<d.next->k≠B+1->a.get k=d.get k:=λk j w=>by rw[o,H.bL t om,o2 k w]
  have r3:a.get (B+1)=some (.loop (oI r)):=by rw[o,H.bL t om,g2]
  rw[←o]
  have d:Own a g 1 (ints (l.take i)) (B+2):=A.mono om λid y n c e j w=>J id w om
  have o:(l.take i).length=i:=by rw[xF];omega
  obtain⟨j,a4,F⟩:=d.push (bytes:=8) (SV.one om q (.kn 1)) (n:=i) (m:=1) (by rw[aL,o,kF]) rfl om om om
  have P: ∀k,k<B+2->dH g k:=λk d id y n c e d=>by
   have:=(A.in _ _ _ _ e).2.1;omega
  have k:j.get B=bW [g]:=by rw[F.old B om (P B om),J B om om];exact G
  have o:j.get (B+1)=some (.loop (oI r)):=by rw[F.old (B+1) om (P (B+1) om)];exact r3
  have d:dQ (bW [g]) j B 0 [.sl a.next 0 (i+1) (.un 1)]=some (j.set B (bW [.sl a.next 0 (i+1) (.un 1)])):=bF (by simp) j B _
  simp(disch:=omega)only[go_sem,a4,k,d]
  refine pZ iA Z (by rw[H.aI j om];exact o) (.inl ⟨rfl,?_⟩)
  have d:ints (l.take (i+1))=ints (l.take i)++ [aB (l.getD i 0)]:=by
   rw[←List.take_append_getElem hi,iN];simp [ints,List.getD,hi]
  have k:=F.next
  have g5:((j.set B (bW [.sl a.next 0 (i+1) (.un 1)])).set (B+1) (some (.loop r))).get a.next=bW (ints (l.take (i+1))):=by
   rw[H.aI _ om,H.aI _ om,F.get,d]
  refine⟨by rw[H.aT],by simp only[H.dE];omega,⟨by simp only[H.dE];have:=f.next;omega,λid s=>?_⟩,_,by rw[H.aI _ om,H.aT],?_,.inr ⟨a.next,_,rfl,om,by simp only[H.dE];omega,g5⟩⟩
  ·rw[H.aI _ om,H.aI _ om,F.old id (by have:=f.next;omega) (P id om),J id (by have:=f.next;omega) om]
   exact f.get id s
  ·exact .inr ⟨a.next,i+1,_, [],rfl,by rw[aL,xF];omega,.inl rfl,om,by simp only[H.dE];omega,by rw[qA];exact g5⟩
 ·rintro _ t (⟨R,nr,f,g,G,A,Y⟩|h)
  case inr=>exact h.elim
  refine⟨r,R,by rw[p];simp,?_⟩
  have N:(t.set (B+1) (some (.loop {r with st:= .out}))).cell B 0=some g:=by unfold H.cell;rw[H.aI _ om,G];rfl
  have en:r.pend.getD .norm= .norm:=by rw[p];rfl
  rw[en]
  simp(disch:=omega)only[go_sem,N]
  rw[List.take_length] at A Y
  refine⟨?_,?_,⟨by simp only[H.dE];have:=f.next;omega,λid s=>by rw[H.aI _ om];exact f.get id s⟩⟩
  ·refine (A.mono (by simp only[H.dE];omega) λid y n c e j w=>H.aI _ om _).le om
  ·rcases Y with rfl|⟨id,cap,rfl,a,j,w⟩
   ·exact .inl rfl
   ·exact .inr ⟨id,cap,rfl,om,j,by rw[H.aI _ om];exact w⟩
theorem sorted_ok (b:Nat)(f:V)(l:List Int)(h:H)(u:0<l.length)(t:l.length<50000)(n:h.get b=bW [f])(c:b<h.next)(q:SI h f l):
  Ev T 157 [.fn 180 [] [.ptr b 0]] h (λv h'=> ∃id cap l',v= .sl id 0 l.length cap/\h.next<=id/\id<h'.next/\h'.get id=bW (ints l')/\l'.Perm l/\l'.Pairwise (· <= ·)/\Fr h h'):=by
 refine bH c_slices_Sorted_int rfl rfl ?_
 simp(disch:=omega)only[go_sem,c_slices_Sorted_int,aF]
 refine (collect_ok b f l h om n c q).mono ?_
 rintro v m ⟨k,s,a⟩
 rcases s with rfl|⟨id,cap,rfl,r,g,p⟩
 ·exfalso
  rcases k with ⟨_,e⟩|⟨_,_,_,_,e,_⟩
  ·have:=congrArg List.length e
   rw[aL,List.length_nil] at this
   omega
  ·cases e
 simp(disch:=omega)only[go_sem]
 refine (sort_ok m id l cap om p g).mono ?_
 rintro _ k ⟨l',o,j,i,d⟩
 simp(disch:=omega)only[go_sem]
 exact⟨id,cap,l',rfl,r,iP g d.next,o,j,i,jK a.next d.next,λk g=>(d.get k (iP g a.next) (λe=>by have:k=id:=e;omega)).trans (a.get k g)⟩
section
variable {v vO vR:V} {b C D n:Nat} {r O:LN} {wsO wsR:List V}
structure Frsh (h h':H)(v:V)(l:List Int):Prop where
 ex: ∃id cap,v= .sl id 0 l.length cap/\h.next<=id/\id<h'.next/\h'.get id=bW (ints l)/\(cap= .un 1∨cap= .kn l.length)
 fr:Fr h h'
theorem Frsh.pv {h h':H}{l:List Nat}(f:Frsh h h' v (zi l)){W:Nat->Prop}(d: ∀id,W id->id<h.next):PV W h' v l:=by
 obtain⟨id,a,rfl,a,c,a,_⟩:=f.ex;exact⟨SV.all (by rw[aL,kF]) c a _,λa=>by have:=d id a;omega⟩
theorem Frsh.si {h h':H}{l:List Int}(f:Frsh h h' v l):SI h' v l:=by
 obtain⟨id,a,rfl,a,c,a,_⟩:=f.ex;exact SV.all (by rw[aL,kF]) c a _
theorem Frsh.own {h h':H}{l:List Int}(f:Frsh h h' v l):Own h' v 1 (ints l) h.next:=by
 obtain⟨id,a,rfl,c,g,d,e⟩:=f.ex;exact .inr ⟨id,l.length,a, [],rfl,by rw[aL,kF],by rcases e with e|e;exact .inl e;exact .inr ⟨e,rfl⟩,c,g,by rw[qA];exact d⟩
theorem clone_ok (u:V)(l:List Int)(h:H)(p:0<l.length)(s:l.length<1000000)(k:SI h u l):
  Ev T 100 [u] h (λv h'=>Frsh h h' v l):=by
 refine bH c_slices_Clone_api_Perm_int rfl rfl ?_
 have j:By false u=some (.bool false):=by
  rcases k with ⟨_,e⟩|⟨id,a,len,q,q,q,rfl,_⟩
  ·have:=congrArg List.length e
   rw[aL,List.length_nil] at this;omega
  ·rfl
 simp(disch:=omega)only[go_sem,c_slices_Clone_api_Perm_int,aF,j]
 have f:Fr h (h.new (.cells false [])):=(Fr.refl h).new _
 have o:Own (h.new (.cells false [])) (.sl h.next 0 0 (.kn 0)) 1 [] 0:=Own.new h 1 0 0 [] rfl (fF _)
 obtain⟨j,i,c⟩:=o.push (bytes:=8) (k.mono f) (n:=0) (m:=l.length) rfl (by rw[aL,kF]) om p om
 have j:(h.new (.cells false [])).next=h.next+1:=H.aX ..
 rw[j] at i
 have o:=c.next
 have g:=c.get
 rw[j] at o g
 simp(disch:=omega)only[go_sem,i]
 refine⟨⟨h.next+1,_,rfl,om,om,g,.inl rfl⟩,om,λid d=>?_⟩
 rw[c.old id om (λc a n c e a=>by cases e;omega)]
 exact f.get id d
def CapOk (v:V):Prop:= ∀id off len cap,v= .sl id off len cap->cap= .un 1∨ ∃c,cap= .kn c/\len<=c
theorem Own.capOk {h:H}{ws:List V}(o:Own h v 1 ws b):CapOk v:=by
 rintro id a len a rfl;rcases o with ⟨e,_⟩|⟨_,_,_,_,e,_,c,_⟩
 ·cases e
 ·cases e
  rcases c with e|⟨e,_⟩
  ·exact .inl e
  ·exact .inr ⟨_,e,eS _⟩
def SRR (h:H)(v:V)(R:List (List (List Int))):Prop:= ∃ws,SV h v 1 ws/\All2 (SR h) ws R/\ ∀w∈ws,CapOk w
theorem SRR.mono {h h':H}{R:List (List (List Int))}(s:SRR h v R)(f:Fr h h'):SRR h' v R:=by
 obtain⟨c,s,a,k⟩:=s;exact⟨c,s.mono f,a.mono λ_ _ x=>x.mono f,k⟩
def ChI (h:H)(v:V)(d:Int)(O:List (List Int))(R:List (List (List Int))):Prop:= ∃vO vR,v= .agg [aB d,vO,vR]/\SR h vO O/\SRR h vR R
theorem ChI.mono {h h':H}{d:Int}{O:List (List Int)}{R:List (List (List Int))}(s:ChI h v d O R)(f:Fr h h'):ChI h' v d O R:=by
 obtain⟨vO,vR,e,a,c⟩:=s;exact⟨vO,vR,e,a.mono f,c.mono f⟩
def PL (W:Nat->Prop)(h:H)(v:V)(r:LN):Prop:= ∃ws,SV h v 1 ws/\Kj W v/\PVs W h ws r/\CapOk v
section
variable {W W':Nat->Prop} {h h' hh:H}
theorem PL.go (p:PL W h v r)(f:Fx W h h')(c: ∀id,id<h.next->W' id->W id):PL W' h' v r:=by
 obtain⟨d,s,o,a,k⟩:=p;exact⟨d,s.fx o f,o.weak s c,PVs.go a f c,k⟩
theorem PL.sp (p:PL W h v r):SP h v r:=by
 obtain⟨c,s,o,a,_⟩:=p;refine⟨c,s,?_⟩;have c:=All2.length a
 exact All2.iC (by simpa using c) λi hi c=>by
  have:=(All2.get a i hi om).si;simpa using this
def BlkIn (W:Nat->Prop)(v:V):Prop:= ∀id off n c,v= .sl id off n c->W id
structure CAcc (h hh:H)(C D:Nat)(W:Nat->Prop)(n:Nat)(O:LN)(R:jL)(vO vR:V)(wsO wsR:List V):Prop where
 get:hh.get C=bW [aB n,vO,vR]
 oO:Own hh vO 1 wsO h.next
 oR:Own hh vR 1 wsR h.next
 aO:PVs W hh wsO O
 aR:All2 (PL W hh) wsR R
 bO:BlkIn W vO
 bR:BlkIn W vR
 pO:dH vO C
 pR:dH vR C
 qO:dH vO D
 qR:dH vR D
 d:W D
 cd:C≠D
 dis:HX vO vR
 wb: ∀id,W id->id<hh.next
 low: ∀id,id<h.next->W id
 hC:h.next<=C
 hD:h.next<=D
 c:W C
 fr:Fr h hh
theorem CAcc.start (j:h.next<=C)(a:C<hh.next)(g:h.next<=D)(d:D<hh.next)(c:C≠D)(f:Fr h hh)(i:hh.get C=bW [aB n,.aD,.aD]):CAcc h hh C D (λid=>id=C∨id=D∨id<h.next) n [] [] .aD .aD [] []:=
 ⟨i,Own.aD _ _ _,Own.aD _ _ _,trivial,trivial,λ_ _ _ _ e=>(by cases e),λ_ _ _ _ e=>(by cases e),dH.aD _,dH.aD _,dH.aD _,dH.aD _,.inr (.inl rfl),c,λ_ _ _ _ e=>(by cases e),λid e=>by rcases e with rfl|rfl|e;exact a;exact d;exact iP e f.next,λid e=> .inr (.inr e),j,g,.inl rfl,f⟩
theorem CAcc.mono {R:jL}(A:CAcc h hh C D W n O R vO vR wsO wsR){h2:H}(f:Fr hh h2):CAcc h h2 C D W n O R vO vR wsO wsR:=
 ⟨by rw[f.get C (A.wb C A.c)];exact A.get,A.oO.fr f,A.oR.fr f,PVs.go A.aO (Fx.of f) (λ_ _ h=>h),A.aR.mono λ_ _ x=>x.go (Fx.of f) (λ_ _ h=>h),A.bO,A.bR,A.pO,A.pR,A.qO,A.qR,A.d,A.cd,A.dis,λid h=>iP (A.wb id h) f.next,A.low,A.hC,A.hD,A.c,A.fr.trans f⟩
theorem CAcc.step {R:jL}(A:CAcc h hh C D W n O R vO vR wsO wsR){v4 v5:V}{o:List Nat}(K:PV W hh v4 o)(w:PL W hh v5 r)
  {h6:H} {a k1 k2:Nat} (L:hh.next<=a) (N:hh.next<=b) (u:a≠b) (t:a<h6.next) (s:b<h6.next) (G:wsO.length+1=k1) (F:wsR.length+1=k2)
  (y:h6.get C=bW [aB n,.sl a 0 k1 (.un 1),.sl b 0 k2 (.un 1)]) (J:h6.get a=bW (wsO++ [v4])) (z:h6.get b=bW (wsR++ [v5]))
  (m: ∀k,k<hh.next->k≠C->dH vO k->dH vR k->h6.get k=hh.get k):
  CAcc h h6 C D (λid=>W id∨id=a∨id=b) n (O++ [o]) (R++ [r]) (.sl a 0 k1 (.un 1)) (.sl b 0 k2 (.un 1)) (wsO++ [v4]) (wsR++ [v5]):=by
 have p:Fx W hh h6:=⟨om,λid g i=>m id g (λe=>i (e▸A.c)) (λj f n c e l=>i (l▸A.bO _ _ _ _ e)) (λj f n c e l=>i (l▸A.bR _ _ _ _ e))⟩
 have q: ∀id,id<hh.next->(W id∨id=a∨id=b)->W id:=λid g i=>by
  rcases i with i|i|i
  ·exact i
  ·omega
  ·omega
 have i:=A.wb C A.c
 have i:=A.wb D A.d
 have i:=A.fr.next
 refine⟨y,.inr ⟨a,k1,_, [],rfl,by rw[iZ];simp;omega,.inl rfl,om,t,by rw[qA];exact J⟩,.inr ⟨b,k2,_, [],rfl,by rw[iZ];simp;omega,.inl rfl,om,s,by rw[qA];exact z⟩,
  (PVs.go A.aO p q).append (PVs.one (PV.go K p q)),(A.aR.mono λ_ _ x=>x.go p q).append ⟨w.go p q,trivial⟩,λid f n c e=>by cases e;exact .inr (.inl rfl),λid f n c e=>by cases e;exact .inr (.inr rfl),
  dH.sl om,dH.sl om,dH.sl om,dH.sl om,.inl A.d,A.cd,λi o n c e i i i i B=>by cases e;cases B;exact u,λid g=>?_,λid g=> .inl (A.low id g),A.hC,A.hD,.inl A.c,⟨om,λid i=>?_⟩⟩
 ·rcases g with g|g|g
  ·have:=A.wb id g;omega
  ·omega
  ·omega
 ·have p:=A.hC
  rw[m id om om (λj f n c e l=>by have:=(A.oO.in _ _ _ _ e).2.1;omega) (λj f n c e l=>by have:=(A.oR.in _ _ _ _ e).2.1;omega)]
  exact A.fr.get id i
theorem CAcc.box {R:jL}(A:CAcc h hh C D W n O R vO vR wsO wsR){h3:H}{o:Option Ob}(e:h3=hh.set D o):CAcc h h3 C D W n O R vO vR wsO wsR:=by
 subst e;have f:Fx W hh (hh.set D o):=Fx.set hh A.d o;have i:=A.wb D A.d
 refine⟨by rw[H.aI hh A.cd];exact A.get,A.oO.mono (eS _) λid g m c e _ _=>H.aI hh (λa=>A.qO _ _ _ _ e a.symm) o,A.oR.mono (eS _) λid g m c e _ _=>H.aI hh (λa=>A.qR _ _ _ _ e a.symm) o,
  PVs.go A.aO f (λ_ _ h=>h),A.aR.mono λ_ _ x=>x.go f (λ_ _ h=>h),A.bO,A.bR,A.pO,A.pR,A.qO,A.qR,A.d,A.cd,A.dis,A.wb,A.low,A.hC,A.hD,A.c,?_⟩
 exact A.fr.set A.hD o
end
def ChW (W:Nat->Prop)(h:H)(v:V)(n:Nat)(O:LN)(R:jL):Prop:= ∃vO vR wsO wsR,v= .agg [aB n,vO,vR]/\SV h vO 1 wsO/\Kj W vO/\PVs W h wsO O/\SV h vR 1 wsR/\Kj W vR/\All2 (PL W h) wsR R
section
variable {W W':Nat->Prop} {h h' hh:H}
theorem ChW.go {R:jL}(c:ChW W h v n O R)(f:Fx W h h')(a: ∀id,id<h.next->W' id->W id):ChW W' h' v n O R:=by
 obtain⟨vO,vR,wsO,wsR,e,d,g,k,j,i,l⟩:=c;exact⟨vO,vR,wsO,wsR,e,d.fx g f,g.weak d a,PVs.go k f a,j.fx i f,i.weak j a,l.mono λ_ _ x=>x.go f a⟩
theorem ChW.mono {R:jL}(c:ChW W h v n O R)(f:Fr h h'):ChW W h' v n O R:=c.go (Fx.of f) λ_ _ h=>h
theorem ChW.ch {R:jL}(c:ChW W h v n O R):ChI h v (n:Int) (O.map zi) (R.map (List.map zi)):=by
 obtain⟨vO,vR,wsO,wsR,e,g,f,f,j,l,a⟩:=c;refine⟨vO,vR,e,⟨wsO,g,?_⟩,⟨wsR,j,?_,λw k=>?_⟩⟩
 ·have d:=All2.length f
  exact All2.iC (by simpa using d) λi hi e=>by
   have:=(All2.get f i hi om).si;simpa using this
 ·have d:=All2.length a
  exact All2.iC (by simpa using d) λi hi e=>by
   have:=(All2.get a i hi om).sp;simpa using this
 ·obtain⟨i,hi,rfl⟩:=uK.1 k
  have d:=All2.length a;obtain⟨_,_,_,_,k⟩:=All2.get a i hi om;exact k
theorem off_of {sz:Nat}{ws:List V}(o:Own h v sz ws b):Kj (λid=>id<b) v:=by
 cases v with
 |sl id off m c=>exact λe=>by have:=(o.in _ _ _ _ rfl).2.1;omega
 |_=>trivial
theorem CAcc.chw {R:jL}(A:CAcc h hh C D W n O R vO vR wsO wsR):ChW (λid=>id<h.next) hh (.agg [aB n,vO,vR]) n O R:=
 ⟨vO,vR,wsO,wsR,rfl,A.oO.sv,off_of A.oO,PVs.weak A.aO λid _ h=>A.low id h,A.oR.sv,off_of A.oR,A.aR.mono λ_ _ x=>x.go (Fx.refl _ _) λid _ h=>A.low id h⟩
end
theorem rL {h:H}{O:List (List Int)}(s:SR h v O):v.one=true:=by
 obtain⟨_,t,_⟩:=s;exact t.dG.2.1
theorem qZ {h:H}{O:List (List (List Int))}(s:SRR h v O):v.one=true:=by
 obtain⟨_,t,_⟩:=s;exact t.dG.2.1
end
def ChL (τ:lB)(n j:Nat)(o:List Nat)(r:LN):Prop:=o.Pairwise (· < ·)/\(∀p,p∈o↔p∈(τ j).orb)/\r.length=o.length/\ ∀k,k<o.length-> ∀y,(τ j).to (o.getD k 0)=some y->r.getD k []=xX τ (n-(j+1)) (j+1) y
theorem perm_zi {l:List Int}{a:List Nat}(h:l.Perm (zi a)): ∃q,l=zi q/\q.Perm a:=by
 refine⟨l.map Int.toNat,?_,?_⟩
 ·unfold zi
  rw[List.map_map];refine (List.map_id l).symm.trans (yZ λx b=>?_);have:=h.mem_iff.1 b;obtain⟨k,_,rfl⟩:=pU.1 this;simp
 ·have:=h.map Int.toNat
  have e:(zi a).map Int.toNat=a:=by
   unfold zi;rw[List.map_map];exact (yZ λx _=>by simp).trans (List.map_id a)
  rwa [e] at this
theorem zi_asc {q:List Nat}(h:(zi q).Pairwise (· <= ·))(nd:q.Nodup):q.Pairwise (· < ·):=by
 unfold zi at h;rw[List.pairwise_map] at h;rw[DE] at nd;exact (h.and nd).imp λ⟨a,h2⟩=>om
theorem values_ok (u:V)(b:u.cells= [u])(a:u.one=true)(h:H):Ev T 158 [u] h (λv h'=>v= .fn 180 [] [.ptr h.next 0]/\h'.get h.next=bW [u]/\h'.next=h.next+1/\Fr h h'):=by
 refine bH c_slices_Values_int_int rfl rfl ?_;simp(disch:=omega)only[go_sem,c_slices_Values_int_int,aF,kT b a];exact (Fr.refl h).new _
theorem getD_app_old {α:Type}{a:List α}{x:α}{j:Nat}{d:α}(h:j<a.length):(a++ [x]).getD j d=a.getD j d:=by
 rw[List.getD,List.getD,wE h]
theorem getD_app_new {α:Type}{a:List α}{x d:α}:(a++ [x]).getD a.length d=x:=by
 rw[List.getD,Cq (eS _),Nat.sub_self];rfl
theorem tchain_ok (h:H)(n s L:Nat)(F:Nat->V)(τ:lB)(hn:n<=7)(R:TwR h n s L F τ)(t:kW n 0 τ):
  Ev T 117 [.ptr s 0] h (λv h'=> ∃O R',ChW (λid=>id<h.next) h' v n O R'/\dW n (S n τ 0) O R'/\Fr h h'):=by
 refine bH c_chain_tower_chain rfl rfl ?_
 obtain⟨B,hB⟩:=JR h.next
 have tn:=R.tn
 have ln:=R.ln
 have ct:h.cell s 0=some (aB n):=by rw[H.aG R.t];rfl
 have bl:kY [aB 0,.aD,.aD] [(0,1,aB n)]=some (.agg [aB n,.aD,.aD]):=by
  have e1:putAt [aB 0,.aD,.aD] 0 [aB n]=some [aB n,.aD,.aD]:=by simp [putAt]
  simp [kY,gI,e1,V.cells,V.one]
 obtain⟨U,a3⟩: ∃U,U=(h.new (.cells false [aB 0,.aD,.aD])).new (.cells false [aB 0,.aD,.aD]):=⟨_,rfl⟩
 have n1:U.next=B+2:=by rw[a3,H.aX,H.aX,hB]
 have g1:U.get (B+1)=bW [aB 0,.aD,.aD]:=by
  rw[a3];have:=H.aN (h.new (.cells false [aB 0,.aD,.aD])) (.cells false [aB 0,.aD,.aD]);rwa [H.aX,hB] at this
 have g0:U.get B=bW [aB 0,.aD,.aD]:=by rw[a3,H.bL _ (by rw[H.aX,hB];omega),←hB,H.aN]
 have f1:Fr h U:=by rw[a3];exact ((Fr.refl h).new _).new _
 have e4:U.cell s 0=some (aB n):=by rw[f1.cell tn];exact ct
 simp(disch:=omega)only[go_sem,c_chain_tower_chain,aF,hB,ct,bl]
 rw[←a3]
 simp(disch:=omega)only[go_sem,dK U (B+1) 0 (v:= aB n) (u:= .aD) (w:= .aD) rfl rfl rfl,g1,cW]
 obtain⟨l,a2⟩: ∃l,l=U.set (B+1) (bW [aB n,.aD,.aD]):=⟨_,rfl⟩
 have n2:l.next=B+2:=by rw[a2];exact n1
 have f2:Fr h l:=by rw[a2];exact f1.set om _
 have g2:l.get (B+1)=bW [aB n,.aD,.aD]:=by rw[a2,H.aT]
 have c3:l.get B=bW [aB 0,.aD,.aD]:=by rw[a2,H.aI _ om];exact g0
 have d1:U.cell s 1=some (.sl L 0 n (.kn n)):=by rw[H.aG (R.mono f1).t];rfl
 rw[←a2]
 simp(disch:=omega)only[go_sem,d1]
 clear a3 a2 f1 g0 g1 e4 d1 n1 U
 refine aH (λk' a1 J=> ∃(i:Nat) (W:Nat->Prop) (O:LN) (R':jL) (vO K:V) (c2 b6:List V),(∃g:Nat->V,a1= [.ptr s 0,.ptr B 0,.ptr (B+1) 0,g 3,g 4,g 5,g 6,aB n,aB i,g 9,g 10,g 11,g 12,g 13])/\i<=n/\CAcc h J (B+1) B W n O R' vO K c2 b6/\
   J.get B=bW [aB 0,.aD,.aD]/\O.length=i/\R'.length=i/\(∀j,j<i->ChL τ n j (O.getD j []) (R'.getD j []))/\k'=n-i) n
  ⟨0,_, [], [],_,_,_,_,aA rfl,fF _,CAcc.start om om om om om f2 g2,c3,rfl,rfl,λj hj=>om,rfl⟩ ?_
 clear f2 g2 c3 n2 l
 rintro k' a1 l ⟨i,W,O,R',vO,K,c2,b6,⟨g,rfl⟩,hi,A,gB,lO,lR,hC,rfl⟩
 by_cases b9:(i:Int)<(n:Int)
 case neg=>
  have e1:=bJ b9;obtain rfl:i=n:=om
  have hr:=aS A.get;have nB:=A.fr.next;simp(disch:=omega)only[go_sem,e1,hr,dK l B 0 (v:= aB i) (u:=vO) (w:=K) rfl (SV.dG A.oO.sv).2.1 (SV.dG A.oR.sv).2.1,gB,cW];have d5:=aS (h:=l.set B (bW [aB i,vO,K])) (H.aT ..);have fB:Fx (· =B) l (l.set B (bW [aB i,vO,K])):=Fx.set l (W:=(· =B)) rfl _;simp(disch:=omega)only[go_sem,d5]
  obtain⟨h3,c9⟩: ∃h3,h3=l.set B (bW [aB i,vO,K]):=⟨_,rfl⟩
  rw[←c9] at fB ⊢;have A3:=A.box c9;refine⟨O,R',by rw[←hB];exact A3.chw,?_,A3.fr⟩;have X:=t.chain (O:=O) (R:=R') lO lR (λj hj=>(hC j hj).1) (λj hj=>(hC j hj).2.1) (λj hj=>(hC j hj).2.2.1) (λj hj=>(hC j hj).2.2.2);exact X
 have e1:=bM b9
 have Z:i<n:=om
 have R2:=R.mono A.fr
 have cl:l.cell s 1=some (.sl L 0 n (.kn n)):=by rw[H.aG R2.t];rfl
 have co:l.cell L (i*194+1)=some (F (i*194+1)):=R2.cell Z om
 have oo:=R2.orb i Z
 obtain⟨iO,_⟩:=t i (fF _) Z
 have a2:=orbn iO Z
 have c1:0<(τ i).orb.length:=Xn iO.base
 simp(disch:=omega)only[go_sem,e1,cl,co]
 refine (values_ok (F (i*194+1)) (SV.dG oo.sv).1 (SV.dG oo.sv).2.1 l).mono ?_
 rintro _ h3 ⟨rfl,g3,n3,f3⟩
 simp(disch:=omega)only[go_sem]
 have c6:SI h3 (F (i*194+1)) (zi (τ i).orb):=(show SI l _ _ from oo.sv).mono f3
 refine (sorted_ok l.next _ (zi (τ i).orb) h3 (by rw[aQ];exact c1) (by rw[aQ];omega) g3 om c6).mono ?_
 rintro _ h4 ⟨P,cp,l',rfl,a2,c7,gP,pm,d2,f4⟩
 obtain⟨q,rfl,a2⟩:=perm_zi pm
 have c4:=zi_asc d2 (a2.nodup_iff.2 iO.nd)
 have lq:q.length=(τ i).orb.length:=a2.length_eq
 have b3: ∀p,p∈q↔p∈(τ i).orb:=λp=>a2.mem_iff
 rw[aQ,←lq]
 have A4:=A.mono (f3.trans f4)
 have pq:PV W h4 (.sl P 0 q.length cp) q:=⟨SV.all (by rw[aL,aQ,kF]) c7 gP _,λhw=>by have:=A.wb P hw;omega⟩
 have d9:h4.get B=bW [aB 0,.aD,.aD]:=by rw[(f3.trans f4).get B (A.wb B A.d)];exact gB
 clear A gB g3 c6 oo co cl R2 pm d2
 simp(disch:=omega)only[go_sem]
 refine bX (λA J=> ∃(Q:V) (r:LN),(∃g:Nat->V,A= [.ptr s 0,.ptr B 0,.ptr (B+1) 0,aB i,.sl P 0 q.length cp,Q,g 6,aB n,aB i,g 9,g 10,g 11,g 12,g 13])/\PL W J Q r/\ChL τ n i q r/\Fr h4 J) ?_ ?_
 ·refine aH (λk' A J=> ∃(k:Nat) (Q:V) (ws:List V) (r:LN) (W':Nat->Prop),(∃g:Nat->V,A= [.ptr s 0,.ptr B 0,.ptr (B+1) 0,aB i,.sl P 0 q.length cp,Q,g 6,aB n,aB i,g 9,.sl P 0 q.length cp,aB (q.length:Int),aB k,g 13])/\k<=q.length/\Own J Q 1 ws h4.next/\PVs W' J ws r/\BlkIn W' Q/\(∀id,W id->W' id)/\(∀id,W' id->id<J.next/\(W id∨h4.next<=id))/\r.length=k/\
    (∀j,j<k-> ∀y,(τ i).to (q.getD j 0)=some y->r.getD j []=xX τ (n-(i+1)) (i+1) y)/\Fr h4 J/\k'=q.length-k) q.length
   ⟨0,.aD, [], [],W,aA rfl,fF _,Own.aD _ _ _,trivial,λ_ _ _ _ e=>(by cases e),λ_ h=>h,λid h=>⟨A4.wb id h,.inl h⟩,rfl,λj hj=>om,Fr.refl _,rfl⟩ ?_
  rintro k' a1 f ⟨k,Q,ws,r,W',⟨g,rfl⟩,hk,ow,b5,e3,d0,c5,lr,hr,f5,rfl⟩
  by_cases b4:(k:Int)<(q.length:Int)
  case neg=>
   have e2:=bJ b4;obtain rfl:k=q.length:=om
   simp(disch:=omega)only[go_sem,e2];refine⟨Q,r,aA rfl,⟨ws,ow.sv,?_,b5.weak (λid _ h=>d0 id h),Own.capOk ow⟩,⟨c4,b3,lr,hr⟩,f5⟩
   cases Q with
   |sl id b1 m c=>exact λh=>by have:=(ow.in _ _ _ _ rfl).2.1;have:=A4.wb id h;omega
   |_=>trivial
  have e2:=bM b4
  have A:k<q.length:=om
  obtain⟨p,hp⟩:=JR (q.getD k 0)
  have b8:=pq.mono f5
  have ck:f.cell P k=some (aB p):=by
   rw[H.aG (by rw[f5.get P c7];exact gP),tT A,hp]
  have a2:p∈(τ i).orb:=(b3 p).1 (by rw[←hp,bT A];exact xR A)
  have A:=iO.lt Z a2
  obtain⟨y,hy⟩:=iO.to a2
  have Y:=iO.isP _ _ hy
  have R5:=R.mono (A4.fr.trans f5)
  have cl:f.cell s 1=some (.sl L 0 n (.kn n)):=by rw[H.aG R5.t];rfl
  have a2:f.cell L (i*194+2+p)=some (F (i*194+2+p)):=R5.cell2 Z om
  have A:PV (WT n L F) f (F (i*194+2+p)) y:=by
   have:=R5.to i p Z om;rw[hy] at this;exact this
  simp(disch:=omega)only[go_sem,e2,ck,cl,a2]
  refine (least_ok f n s L F τ _ y i hn R5 A Y Z (t.mono om)).mono ?_
  rintro Y h6 ⟨A,p,f6⟩
  simp(disch:=omega)only[go_sem]
  refine (clone_ok Y _ h6 (by rw[aQ,p.len];omega) (by rw[aQ,p.len];omega) A.si).mono ?_
  rintro v7 h7 p
  have f7:=p.fr
  have p7:PV W' h7 v7 (xX τ (n-(i+1)) (i+1) y):=p.pv λid h=>iP (c5 id h).1 f6.next
  simp(disch:=omega)only[go_sem,cJ h7 (z:= .aD) p7.dR.1 p7.dR.2]
  obtain⟨N,x⟩: ∃N,N=h7.new (.cells false [v7]):=⟨_,rfl⟩
  have g8:N.get h7.next=bW [v7]:=by rw[x,H.aN]
  have n8:N.next=h7.next+1:=by rw[x,H.aX]
  have f8:Fr h7 N:=by rw[x];exact (Fr.refl h7).new _
  rw[←x]
  have a8:=(f6.trans f7).trans f8
  have p:=ow.fr a8
  have A:=All2.length b5
  obtain⟨h9,a9,p9⟩:=p.push (bytes:=24) (SV.one om g8 (.kn 1)) (n:=k) (m:=1) om rfl om om om
  simp(disch:=omega)only[go_sem,a9]
  rw[dY k]
  have n9:=p9.next
  have f9:Fx W' N h9:=p9.fx e3
  have p:=a8.next
  have c0: ∀id,id<N.next->(W' id∨id=N.next)->W' id:=λid U l=>by
   rcases l with l|l
   ·exact l
   ·omega
  refine⟨q.length-(k+1),om,k+1,_,_,r++ [xX τ (n-(i+1)) (i+1) y],λid=>W' id∨id=N.next,aA rfl,om,p9.own om rfl (by have:=f5.next;omega),?_,λid b1 m c e=>by cases e;exact .inr rfl,λid h=> .inl (d0 id h),λid h=>?_,by rw[iZ,lr];rfl,λj hj z hz=>?_,?_,rfl⟩
  ·exact (PVs.go (PVs.go b5 (Fx.of a8) (λ_ _ h=>h)) f9 c0).append (PVs.one (PV.go (p7.mono f8) f9 c0))
  ·rcases h with h|h
   ·have:=c5 id h;exact⟨om,this.2⟩
   ·have:=f5.next;exact⟨om,.inr om⟩
  ·by_cases e:j=k
   ·subst e
    rw[hp,hy] at hz
    cases hz
    rw[←lr,getD_app_new]
   ·rw[getD_app_old om]
    exact hr j om z hz
  ·refine⟨by have:=f5.next;omega,λid b0=>?_⟩
   rw[p9.old id (by have:=f5.next;omega) (λd4 b1 m c e e2=>by have:=(ow.in _ _ _ _ e).2.1;omega),a8.get id (by have:=f5.next;omega)]
   exact f5.get id b0
 rintro a1 f ⟨Q,r,⟨g,rfl⟩,pl,d8,f5⟩
 have G:=A4.mono f5
 have b8:=pq.mono f5
 have d7:f.get B=bW [aB 0,.aD,.aD]:=by rw[f5.get B (A4.wb B A4.d)];exact d9
 have cO:f.cell (B+1) 1=some vO:=by rw[H.aG G.get];rfl
 have cR:f.cell (B+1) 2=some K:=by rw[H.aG G.get];rfl
 obtain⟨ws,b7,p,A,g⟩:=pl
 have pl:PL W f Q r:=⟨ws,b7,p,A,g⟩
 have g:=G.fr.next
 have c8:=G.wb _ G.c
 simp(disch:=omega)only[go_sem,cO,cR,cJ _ (z:= .aD) (v:= .sl P 0 q.length cp) rfl rfl]
 obtain⟨h6,b2⟩: ∃h6:H,h6=H.mk ((H.mk f.tr (f.next+3)).new (Ob.cells false [.sl P 0 q.length cp])).tr (f.next+14):=⟨_,rfl⟩
 rw[←b2]
 have g:h6.get (f.next+3)=bW [.sl P 0 q.length cp]:=by rw[b2];exact H.aN (H.mk f.tr (f.next+3)) _
 have n6:h6.next=f.next+14:=by rw[b2]
 have o6: ∀k,k≠f.next+3->h6.get k=f.get k:=λk hk=>by rw[b2];exact H.bL (H.mk f.tr (f.next+3)) (by simpa using hk) _
 have f6:Fr f h6:=⟨om,λid b0=>o6 id om⟩
 have p:=All2.length G.aO
 have p:=All2.length G.aR
 obtain⟨h7,a7,p7⟩:=(G.oO.fr f6).push (bytes:=24) (SV.one om g (.kn 1)) (n:=i) (m:=1) om rfl om om om
 have g:=p7.next
 have a6: ∀k,k<f.next->dH vO k->h7.get k=f.get k:=λk U l=>by rw[p7.old k om l,o6 k om]
 have e0:h7.cell (B+1) 2=some K:=by unfold H.cell;rw[a6 (B+1) c8 G.pO,G.get];rfl
 have eR:dJ K K=true:=G.oR.sv.dJ
 have g:Q.cells= [Q]/\Q.one=true:=⟨(SV.dG b7).1,(SV.dG b7).2.1⟩
 simp(disch:=omega)only[go_sem,a7,e0,eR,cJ _ (z:= .aD) g.1 g.2]
 obtain⟨N,x⟩: ∃N:H,N=H.mk ((H.mk h7.tr (f.next+8)).new (Ob.cells false [Q])).tr h7.next:=⟨_,rfl⟩
 rw[←x]
 have g8:N.get (f.next+8)=bW [Q]:=by rw[x];exact H.aN (H.mk h7.tr (f.next+8)) _
 have n8:N.next=h7.next:=by rw[x]
 have o8: ∀k,k≠f.next+8->N.get k=h7.get k:=λk hk=>by rw[x];exact H.bL (H.mk h7.tr (f.next+8)) (by simpa using hk) _
 have g:Own N K 1 b6 h.next:=G.oR.mono om λid b1 m c e _ b0=>by
  rw[o8 id om,a6 id b0 (λd4 p p p p e2=>G.dis _ _ _ _ p _ _ _ _ e e2.symm)]
 obtain⟨h9,a9,p9⟩:=g.push (bytes:=24) (SV.one om g8 (.kn 1)) (n:=i) (m:=1) om rfl om om om
 have n9:=p9.next
 have d3: ∀k,f.next<=k->dH K k:=λk hk id b1 m c e e2=>by have:=(G.oR.in _ _ _ _ e).1;omega
 have a5: ∀k,k<f.next->dH vO k->dH K k->h9.get k=f.get k:=λk U l h3=>by rw[p9.old k om h3,o8 k om,a6 k U l]
 have m:h9.get (B+1)=bW [aB n,vO,K]:=by rw[a5 _ c8 G.pO G.pR];exact G.get
 have c: ∀(J:H) (x:V),dQ (bW [aB n,vO,K]) J (B+1) 1 [x]=some (J.set (B+1) (bW [aB n,x,K])):=λJ x=>bF (by simp) J _ x
 have g: ∀(J:H) (x y:V),dQ (bW [aB n,x,K]) J (B+1) 2 [y]=some (J.set (B+1) (bW [aB n,x,y])):=λJ x y=>bF (by simp) J _ y
 simp(disch:=omega)only[go_sem,a9,m,c,g]
 rw[dY i]
 obtain⟨ha,hb⟩:h6.next=f.next+14/\N.next=f.next+15:=⟨n6,om⟩
 rw[ha,hb]
 obtain⟨a4,a0⟩: ∃a4,a4=(h9.set (B+1) (bW [aB n,.sl (f.next+14) 0 (i+1) (.un 1),K])).set (B+1) (bW [aB n,.sl (f.next+14) 0 (i+1) (.un 1),.sl (f.next+15) 0 (i+1) (.un 1)]):=⟨_,rfl⟩
 rw[←a0]
 have c: ∀k,k≠B+1->a4.get k=h9.get k:=λk hk=>by rw[a0,H.aI _ hk,H.aI _ hk]
 have g:a4.next=f.next+16:=by rw[a0];show h9.next=_;omega
 have d6:=G.step (v4:= .sl P 0 q.length cp) (v5:=Q) (o:=q) (r:=r) (h6:=a4) (a:=f.next+14) (b:=f.next+15) (k1:=i+1) (k2:=i+1) b8 pl om om om om om om om (by rw[a0,H.aT])
  (by rw[c _ om,p9.old _ om (d3 _ om),o8 _ om,←ha];exact p7.get) (by rw[c _ om,←hb];exact p9.get) (λk U l h3 h4=>by rw[c k l];exact a5 k U h3 h4)
 refine⟨n-(i+1),om,i+1,_,_,_,_,_,_,_,aA rfl,om,d6,?_,by rw[iZ,lO];rfl,by rw[iZ,lR];rfl,λj hj=>?_,rfl⟩
 ·rw[a5 B (G.wb B G.d) G.qO G.qR];exact d7
 ·by_cases e:j=i
  ·subst e
   have e1:(O++ [q]).getD j []=q:=by rw[←lO];exact getD_app_new
   have e2:(R'++ [r]).getD j []=r:=by rw[←lR];exact getD_app_new
   rw[e1,e2]
   exact d8
  ·rw[getD_app_old om,getD_app_old om]
   exact hC j om
end Go.Proofs.YtapfcpkecmmagaaGreat
namespace Go.Ay
set_option maxRecDepth 100000
def sm:Nat->(Nat->Int)->Int
 |0,_=>0
 |n+1,f=>sm n f+f n
theorem Oy (f:Nat->Int):sm 0 f=0:=rfl
theorem oG (n:Nat)(f:Nat->Int):sm (n+1) f=sm n f+f n:=rfl
theorem pJ {n:Nat}{f g:Nat->Int}(h: ∀k,k<n->f k=g k):sm n f=sm n g:=by
 induction n with
 |zero=>rfl
 |succ n ih=>rw[oG,oG,ih λk a=>h k (by omega),h n (by omega)]
theorem DX (n:Nat):sm n (λ_=>0)=0:=by
 induction n with
 |zero=>rfl
 |succ n ih=>rw[oG,ih];rfl
theorem Wo {n:Nat}{f:Nat->Int}(h: ∀k,k<n->f k=0):sm n f=0:=by
 rw[pJ h,DX]
theorem EH (n:Nat)(f g:Nat->Int):sm n (λk=>f k+g k)=sm n f+sm n g:=by
 induction n with
 |zero=>rfl
 |succ n ih=>rw[oG,oG,oG,ih];omega
def ab (x:Int):Int:=if x<0 then -x else x
end Go.Ay
namespace Go.Proofs.YtapfcpkecmmagaaGreat
open Go Go.Ay
set_option maxRecDepth 100000
section
variable {h h' a:H} {l:List Int} {u:V} {b x:Nat}
def Copy (h:H)(l:List Int)(v:V)(h':H):Prop:=Own h' v 1 (ints l) h.next/\Fr h h'/\(0<l.length-> ∃id,v= .sl id 0 l.length (.un 1)/\h.next<=id/\id<h'.next/\h'.get id=bW (ints l))
theorem copy_of {v:V}(d:SI h v l)(i:l.length<1000000): ∃v' h',qY (h.new (.cells false [])) 1 8 (.sl h.next 0 0 (.kn 0)) v=some (v',h')/\Copy h l v' h':=by
 obtain⟨v',h',e,a⟩:=(Own.new h 1 0 h.next [] rfl (eS _)).app (bytes:=8) (n:=0) (by rw[H.aX];omega) (SV.mono d ((Fr.refl h).new _)) (m:=l.length) rfl (by rw[aL,kF]) om om;refine⟨v',h',e,a.own,a.fr h ((Fr.refl h).new _) (eS _),λc=>?_⟩;rcases a.dG with ⟨c,_⟩|⟨id,c,g,e,f⟩
 ·omega
 ·exact⟨id,by rw[c,Nat.zero_add],g,e,f⟩
theorem own_ok (v:V)(l:List Int)(h:H)(f:SI h v l)(d:l.length<1000000):Ev T 55 [v] h (Copy h l):=by
 refine bH c_kit_Own_int rfl rfl ?_;simp only[c_kit_Own_int,aF,go_sem];obtain⟨c,h',e,c⟩:=copy_of f d;simp only[e,go_sem];exact c
theorem tmod_nat (n d:Nat):(n:Int).tmod (d:Int)=((n%d:Nat):Int):=rfl
theorem tmod_bd (a:Int){n:Int}(c:0<n): -n<a.tmod n/\a.tmod n<n:=by
 have d:=Int.tmod_lt_of_pos a c;refine⟨?_,d⟩;rcases Int.le_total 0 a with h|h
 ·have:=Int.tmod_nonneg n h;omega
 ·have d:=Int.tmod_lt_of_pos (-a) c
  rw[Int.neg_tmod] at d;omega
theorem tmod_fix (a:Int){n:Int}(d:0<n):(if a.tmod n<0 then a.tmod n+n else a.tmod n)=a%n:=by
 have c:=tmod_bd a d;have e:a.tmod n=a-n*(a.tdiv n):=by have:=Int.mul_tdiv_add_tmod a n;omega
 have c:a%n=a-n*(a/n):=Int.emod_def a n;have c:=Int.emod_nonneg a (show n≠0 by omega);have c:=Int.emod_lt_of_pos a d
 have c:(a.tmod n)%n=a%n:=by
  rw[e,Int.sub_emod,Int.mul_emod_right,Int.sub_zero,Int.emod_emod]
 split
 ·rw[←c,←Int.emod_eq_of_lt (a:=a.tmod n+n) (b:=n) om om,Int.add_emod_right]
 ·rw[←c,Int.emod_eq_of_lt om om]
theorem eq_of_getD {a b:List Int}(d:a.length=b.length)(h: ∀j,j<a.length->a.getD j 0=b.getD j 0):a=b:=by
 apply List.ext_getElem d;intro i c e;have:=h i c;rw[zB,eV c,zB,eV e] at this;exact this
theorem equal_gen {g:Nat}(w:T g=some c_slices_Equal_int_int)(r y:V)(a b:List Int)(h:H)(s:SI h r a)(J:SI h y b)(O:a.length<1000000)(N:b.length<1000000):Ev T g [r,y] h (λv h'=>v= .bool (decide (a=b))/\Fr h h'):=by
 refine yN w rfl ?_;obtain⟨id,F,z,q,P⟩:=s.open;obtain⟨F,F,p,n,t⟩:=J.open;simp (disch:=first|omega|(simp only[Qn];(try omega);done)|fail) only[go_sem,c_slices_Equal_int_int,aF,s.lens,J.lens];refine bB (λm=>?_) (λo=>?_)
 ·simp (disch:=first|omega|(simp only[Qn];(try omega);done)|fail) only[go_sem]
  have:a≠b:=λe=>m (by rw[e])
  exact⟨by rw[bJ this],Fr.refl h⟩
 have o:a.length=b.length:=om
 simp (disch:=first|omega|(simp only[Qn];(try omega);done)|fail) only[go_sem,s.lens];refine aH (λk f K=> ∃(i:Nat) (B G A:V),f= [r,y,.bool false,B,.bool (decide ((a.length:Int)≠(b.length:Int))),aB (a.length:Int),aB i,G,A]/\i<=a.length/\(∀j,j<i->a.getD j 0=b.getD j 0)/\Fr h K/\k=a.length-i) a.length
  ⟨0,_,_,_,rfl,fF _,λj L=>om,Fr.refl h,rfl⟩ ?_
 rintro k f K ⟨i,B,G,A,rfl,hi,d,c,rfl⟩;simp (disch:=first|omega|(simp only[Qn];(try omega);done)|fail) only[go_sem];refine bB (λf=>?_) (λf=>?_)
 ·have k:=vG c q P
  have f:=vG c n t;simp (disch:=first|omega|(simp only[Qn];(try omega);done)|fail) only[go_sem,z.ixa,p.ixa,k,f,De];refine bB (λm=>?_) (λQ=>?_)
  ·simp (disch:=first|omega|(simp only[Qn];(try omega);done)|fail) only[go_sem]
   have:a≠b:=λe=>m (by rw[e])
   exact⟨by rw[bJ this],c.bN om⟩
  ·simp (disch:=first|omega|(simp only[Qn];(try omega);done)|fail) only[go_sem]
   rw[dY i];refine⟨a.length-(i+1),om,i+1,_,_,_,rfl,om,λj L=>?_,c.bN om,rfl⟩
   by_cases e:j=i
   ·rw[e];exact Decidable.byContradiction Q
   ·exact d j om
 ·simp (disch:=first|omega|(simp only[Qn];(try omega);done)|fail) only[go_sem]
  have:a=b:=eq_of_getD o λj L=>d j om
  exact⟨by rw[bM this],c⟩
theorem equal_ok (d f:V)(a b:List Int)(h:H)(g:SI h d a)(i:SI h f b)(e:a.length<1000000)(c:b.length<1000000):Ev T 149 [d,f] h (λv h'=>v= .bool (decide (a=b))/\Fr h h'):=equal_gen (rfl:T 149=some c_slices_Equal_int_int) d f a b h g i e c
theorem same_ok (r t:V)(a b:List Int)(h:H)(p:SI h r a)(z:SI h t b)(G:a.length<1000000)(F:b.length<1000000):Ev T 16 [r,t] h (λv h'=>v= .bool (decide (a=b))/\Fr h h'):=by
 refine bH c_kit_Same_int rfl rfl ?_;obtain⟨id,y,w,q,J⟩:=p.open;obtain⟨y,y,o,m,s⟩:=z.open;simp (disch:=first|omega|(simp only[Qn];(try omega);done)|fail) only[go_sem,c_kit_Same_int,aF,p.lens,z.lens];refine bB (λg=>?_) (λn=>?_)
 ·simp (disch:=first|omega|(simp only[Qn];(try omega);done)|fail) only[go_sem]
  have:a≠b:=λe=>g (by rw[e])
  exact⟨by rw[bJ this],Fr.refl h⟩
 have n:a.length=b.length:=om
 simp (disch:=first|omega|(simp only[Qn];(try omega);done)|fail) only[go_sem,p.lens];refine aH (λk f A=> ∃(i:Nat) (L y K:V),f= [r,t,.bool false,aB i,L,y,K]/\i<=a.length/\(∀j,j<i->a.getD j 0=b.getD j 0)/\Fr h A/\k=a.length-i) a.length
  ⟨0,_,_,_,rfl,fF _,λj B=>om,Fr.refl h,rfl⟩ ?_
 rintro k f A ⟨i,f,f,f,rfl,hi,d,c,rfl⟩;simp (disch:=first|omega|(simp only[Qn];(try omega);done)|fail) only[go_sem,p.lens];refine bB (λf=>?_) (λf=>?_)
 ·have k:=vG c q J
  have f:=vG c m s;simp (disch:=first|omega|(simp only[Qn];(try omega);done)|fail) only[go_sem,w.ixa,o.ixa,k,f,De];refine bB (λg=>?_) (λN=>?_)
  ·simp (disch:=first|omega|(simp only[Qn];(try omega);done)|fail) only[go_sem]
   have:a≠b:=λe=>g (by rw[e])
   exact⟨by rw[bJ this],c.bN om⟩
  ·simp (disch:=first|omega|(simp only[Qn];(try omega);done)|fail) only[go_sem]
   rw[dY i];refine⟨a.length-(i+1),om,i+1,_,_,_,rfl,om,λj B=>?_,c.bN om,rfl⟩
   by_cases e:j=i
   ·rw[e];exact Decidable.byContradiction N
   ·exact d j om
 ·simp (disch:=first|omega|(simp only[Qn];(try omega);done)|fail) only[go_sem]
  have:a=b:=eq_of_getD n λj B=>d j om
  exact⟨by rw[bM this],c⟩
def Frs (u:V)(b:Nat):Prop:= ∀id off n c,u= .sl id off n c->b<=id
theorem Frs.ne {id off n:Nat}{c:mF}(f:Frs u b)(h:id<b):u≠ .sl id off n c:=λe=>by have:=f _ _ _ _ e;omega
theorem Frs.le {g:Nat}(f:Frs u b)(h:g<=b):Frs u g:=λid d n c e=>jK h (f id d n c e)
theorem Frs.own {v:V}{sz:Nat}{ws:List V}(o:Own h v sz ws b):Frs v b:=λid c n c e=>by
 rcases o with ⟨d,_⟩|⟨c,_,_,_,d,_,_,f,_⟩
 ·rw[d] at e;cases e
 ·rw[d] at e;cases e;exact f
structure FxT (x:Nat)(h h':H):Prop where
 next:h.next<=h'.next
 get: ∀id,id<h.next->id≠x->h'.get id=h.get id
theorem FxT.refl (x:Nat)(h:H):FxT x h h:=⟨eS _,λ_ _ _=>rfl⟩
theorem FxT.of (f:Fr h h'):FxT x h h':=⟨f.next,λid c _=>f.get id c⟩
theorem FxT.trans {b c:H}(f:FxT x a b)(g:FxT x b c):FxT x a c:=⟨jK f.next g.next,λid d e=>(g.get id (iP d f.next) e).trans (f.get id d e)⟩
theorem FxT.set {b:H}(f:FxT x a b)(o:Option Ob):FxT x a (b.set x o):=⟨f.next,λid c d=>(H.aI b d o).trans (f.get id c d)⟩
theorem FxT.fr {b c:H}(f:Fr a b)(e:a.next<=x)(g:FxT x b c):Fr a c:=⟨jK f.next g.next,λid d=>(g.get id (iP d f.next) om).trans (f.get id d)⟩
theorem SI.fx {g:Nat}(s:SI h u l)(n:Frs u g)(r:x<g)(f:FxT x h h'):SI h' u l:=by
 rcases s with s|⟨id,c,len,d,j,p,rfl,q,e,o,i,m⟩
 ·exact .inl s
 ·have k:=n _ _ _ _ rfl
  exact .inr ⟨id,c,len,d,j,p,rfl,q,iP e f.next,by rw[f.get id e om];exact o,i,m⟩
def Tk (h:H)(x:Nat)(l:List Int):Prop:= ∃vl,∃a:Nat,h.get x=bW [vl,aB a]/\SI h vl l/\(∀id off len c,vl= .sl id off len c->id<x)/\a<=l.length/\x<h.next
theorem Tk.mono (t:Tk h x l)(f:Fr h h'):Tk h' x l:=by
 obtain⟨i,a,g,e,j,d,c⟩:=t;exact⟨i,a,(f.get x c).trans g,e.mono f,j,d,iP c f.next⟩
theorem Tk.low (t:Tk h x l)(i:h.next<=h'.next)(g: ∀id,id<=x->h'.get id=h.get id):Tk h' x l:=by
 obtain⟨e,a,d,k,f,j,c⟩:=t;refine⟨e,a,(g x (eS _)).trans d,?_,f,j,iP c i⟩;rcases k with p|⟨id,c,len,d,k,q,e,j,r,o,n,m⟩
 ·exact .inl p
 ·have:=f _ _ _ _ e
  exact .inr ⟨id,c,len,d,k,q,e,j,iP r i,(g id om).trans o,n,m⟩
theorem Tk.set {y:Nat}(t:Tk h x l)(c:h.next<=y)(o:Option Ob):Tk (h.set y o) x l:=t.mono ((Fr.refl h).set c o)
def divG (n:Nat):Nat->Nat->Nat
 |0,_=>n
 |f+1,d=>if d*d<=n then (if n%d=0 then d else divG n f (d+1)) else n
def divF (n:Nat):Nat:=divG n 1000 2
def isP (n:Int):Bool:=decide (1<n)&&(decide (n<1000000)&&decide (divF n.toNat=n.toNat))
end
end Go.Proofs.YtapfcpkecmmagaaGreat
namespace Go.Proofs.YtapfcpkecmmagaaGreat
open Go Go.Ay Go.Pm
set_option maxRecDepth 100000
theorem equalFunc_gen {g:Nat}(x:T g=some c_slices_EqualFunc_int_int_int_int)(f:Nat)(m r:V)(a b:List V)(e:Nat->Bool)(h:H)(G:SV h m 1 a)(L:SV h r 1 b)(Q:a.length<1000000)(N:b.length<1000000)
  (O:a.length=b.length-> ∀i,i<a.length-> ∀hh,Fr h hh->Ev T f [a.getD i .undef,b.getD i .undef] hh (λv h'=>v= .bool (e i)/\Fr hh h')):
  Ev T g [m,r,.fn f [] []] h (λv h'=>v= .bool (decide (a.length=b.length/\ ∀i,i<a.length->e i=true))/\Fr h h'):=by
 refine yN x rfl ?_
 have K:dA m=some (aB (a.length:Int)):=by unfold dA;rw[G.len (n:=a.length) om om];rfl
 have A:dA r=some (aB (b.length:Int)):=by unfold dA;rw[L.len (n:=b.length) om om];rfl
 obtain⟨id,s,R,t,U⟩:=G.shape a.length om om
 obtain⟨u,p,z,l,w⟩:=L.shape b.length om om
 simp(disch:=omega)only[go_sem,c_slices_EqualFunc_int_int_int_int,aF,K,A]
 refine bB (λA=>?_) (λk=>?_)
 ·simp(disch:=omega)only[go_sem]
  exact⟨by rw[bJ (λh=>A om)],Fr.refl h⟩
 have k:a.length=b.length:=om
 simp(disch:=omega)only[go_sem,K]
 refine aH (λJ d hh=> ∃(i:Nat),(∃g:Nat->V,d= [m,r,.fn f [] [],g 3,g 4,g 5,g 6,g 7,m,aB (a.length:Int),aB i,g 11,g 12])/\i<=a.length/\(∀j,j<i->e j=true)/\Fr h hh/\J=a.length-i) a.length
  ⟨0,aA rfl,fF _,λj Y=>om,Fr.refl h,rfl⟩ ?_
 rintro J d hh ⟨i,⟨g,rfl⟩,hi,o,F,rfl⟩
 by_cases q:(i:Int)<(a.length:Int)
 ·have y:=bM q
  have c:i<a.length:=om
  have P:hh.cell id (s+i)=some (a.getD i .undef):=by rw[F.cell (t om),U i c,List.getD,eV c];rfl
  have W:hh.cell u (p+i)=some (b.getD i .undef):=by rw[F.cell (l om),w i om,List.getD,eV om];rfl
  simp(disch:=omega)only[go_sem,y,R.ixa,z.ixa,P,W]
  refine (O k i c hh F).mono ?_
  rintro _ d ⟨rfl,B⟩
  cases he:e i with
  |true=>
   simp(disch:=omega)only[go_sem];rw[dY i];refine⟨a.length-(i+1),om,i+1,aA rfl,om,λj Y=>?_,F.trans B,rfl⟩
   by_cases d:j=i
   ·rw[d];exact he
   ·exact o j om
  |false=>
   simp(disch:=omega)only[go_sem];exact⟨by rw[bJ (λh=>by have:=h.2 i c;rw[he] at this;cases this)],F.trans B⟩
 have y:=bJ q
 obtain rfl:i=a.length:=om
 simp(disch:=omega)only[go_sem,y]
 exact⟨by rw[bM ⟨k,o⟩],F⟩
theorem getD_row {α β:Type}{R:α->β->Prop}{as:List α}{b:List β}(a:All2 R as b){i:Nat}(hi:i<b.length)(d:α)(e:β):R (as.getD i d) (b.getD i e):=by
 have c:=a.length;rw[List.getD,eV om,List.getD,eV hi];exact a.get i om hi
theorem list_ext_getD {α:Type}[DecidableEq α]{a b:List α}(d:α):decide (a=b)=decide (a.length=b.length/\ ∀i,i<a.length->decide (a.getD i d=b.getD i d)=true):=by
 congr 1;rw[eq_iff_iff];constructor
 ·rintro rfl;exact⟨rfl,λi _=>by simp⟩
 ·rintro⟨h1,h2⟩
  exact vP (d:=d) h1 λi hi=>by simpa using h2 i hi
def SmallR (R:List (List (List Int))):Prop:=R.length<1000000/\ ∀i,i<R.length->(R.getD i []).length<1000000
def SmallRR (R:List (List (List Int))):Prop:=R.length<1000000/\ ∀i,i<R.length->(R.getD i []).length<1000000/\ ∀k,k<(R.getD i []).length->((R.getD i []).getD k []).length<1000000
def SmallO (O:List (List Int)):Prop:=O.length<1000000/\ ∀i,i<O.length->(O.getD i []).length<1000000
theorem csame_ok (va vb:V)(d m:Int)(O r:List (List Int))(R s:List (List (List Int)))(h:H)(ha:ChI h va d O R)(hb:ChI h vb m r s)(so:SmallO O)(x:SmallO r)(sr:SmallRR R)(n:SmallRR s):
  Ev T 115 [va,vb] h (λv h'=>v= .bool (decide (d=m/\O=r/\R=s))/\Fr h h'):=by
 obtain⟨q,A,rfl,sO,sR⟩:=ha
 obtain⟨c,e,rfl,U,a0⟩:=hb
 refine bH c_chain_same rfl rfl ?_
 obtain⟨wO,tO,aO⟩:=sO
 obtain⟨Q,F,z⟩:=U
 obtain⟨wR,tR,aR,_⟩:=sR
 obtain⟨a2,t,p,_⟩:=a0
 have lO:=aO.length
 have B:=z.length
 have lR:=aR.length
 have o:=p.length
 simp(disch:=omega)only[go_sem,c_chain_same,aF,bD h (v:= aB d) (u:=q) (w:=A) rfl tO.dG.2.1 tR.dG.2.1]
 obtain⟨b,l⟩: ∃b,b=h.new (.cells false [aB d,q,A]):=⟨_,rfl⟩
 have W:b.get h.next=some (.cells false [aB d,q,A]):=by rw[l,H.aN]
 have U:b.next=h.next+1:=by rw[l,H.aX]
 have f1:Fr h b:=by rw[l];exact (Fr.refl h).new _
 rw[←l]
 simp(disch:=omega)only[go_sem,bD b (v:= aB m) (u:=c) (w:=e) rfl F.dG.2.1 t.dG.2.1]
 obtain⟨a,j⟩: ∃a,a=b.new (.cells false [aB m,c,e]):=⟨_,rfl⟩
 have U:a.get b.next=some (.cells false [aB m,c,e]):=by rw[j,H.aN]
 have l:a.next=b.next+1:=by rw[j,H.aX]
 have l:Fr b a:=by rw[j];exact (Fr.refl b).new _
 rw[←j]
 have ga: ∀g,Fr a g-> ∀i,g.cell h.next i= [aB d,q,A][i]? :=λg f i=>by rw[H.aG (by rw[f.get _ om,l.get _ om];exact W)]
 have N: ∀g,Fr a g-> ∀i,g.cell b.next i= [aB m,c,e][i]? :=λg f i=>by rw[H.aG (by rw[f.get _ om];exact U)]
 have F2:=f1.trans l
 by_cases J:d=m
 case neg=>
  have b:=bJ J;simp(disch:=omega)only[go_sem,H.aG W,ga a (Fr.refl _),N a (Fr.refl _),b];exact⟨by rw[bJ (λh=>J h.1)],F2⟩
 have b:=bM J
 simp(disch:=omega)only[go_sem,H.aG W,ga a (Fr.refl _),N a (Fr.refl _),b]
 refine (equalFunc_gen (rfl:T 148=some c_slices_EqualFunc_int_int_int_int) 149 q c wO Q (λi=>decide (O.getD i []=r.getD i [])) a (tO.mono F2) (F.mono F2) (by rw[lO];exact so.1) (by rw[B];exact x.1) (λhl i hi g f=>?_)).mono ?_
 ·exact equal_ok _ _ _ _ g ((getD_row aO om _ _).mono (F2.trans f)) ((getD_row z om _ _).mono (F2.trans f)) (so.2 i om) (x.2 i om)
 rw[lO,B,←list_ext_getD]
 rintro _ Y ⟨rfl,a⟩
 by_cases L:O=r
 case neg=>
  rw[bJ L];simp(disch:=omega)only[go_sem];exact⟨by rw[bJ (λh=>L h.2.1)],F2.trans a⟩
 rw[bM L]
 simp(disch:=omega)only[go_sem,ga Y a,N Y a]
 have y:=F2.trans a
 refine (equalFunc_gen (rfl:T 150=some c_slices_EqualFunc_api_Perm_api_Perm_api_Perm_api_Perm) 151 A e wR a2 (λi=>decide (R.getD i []=s.getD i [])) Y (tR.mono y) (t.mono y) (by rw[lR];exact sr.1) (by rw[o];exact n.1) (λhl i hi g f=>?_)).mono ?_
 ·refine bH c_chain_same_1 rfl rfl ?_
  simp(disch:=omega)only[go_sem,c_chain_same_1,aF]
  obtain⟨ws,s1,s2⟩:=(getD_row aR (i:=i) om .undef []).mono (y.trans f)
  obtain⟨a1,Z,G⟩:=(getD_row p (i:=i) om .undef []).mono (y.trans f)
  have k1:=s2.length
  have k2:=G.length
  refine (equalFunc_gen (rfl:T 152=some c_slices_EqualFunc_api_Perm_api_Perm_api_Perm_api_Perm_x152) 153 _ _ ws a1 (λk=>decide ((R.getD i []).getD k []=(s.getD i []).getD k [])) g s1 Z (by rw[k1];exact (sr.2 i om).1) (by rw[k2];exact (n.2 i om).1) (λa k a h4 K=>?_)).mono ?_
  ·refine bH c_chain_same_1_1 rfl rfl ?_
   simp(disch:=omega)only[go_sem,c_chain_same_1_1,aF]
   refine (equal_gen (rfl:T 154=some c_slices_Equal_api_Perm_int) _ _ _ _ h4 ((getD_row s2 om _ _).mono K) ((getD_row G om _ _).mono K) ((sr.2 i om).2 k om) ((n.2 i om).2 k om)).mono ?_
   rintro _ h5 ⟨rfl,P⟩
   simp(disch:=omega)only[go_sem]
   exact P
  rw[k1,k2,←list_ext_getD]
  rintro _ h5 ⟨rfl,P⟩
  simp(disch:=omega)only[go_sem]
  exact P
 rw[lR,o,←list_ext_getD]
 rintro _ h4 ⟨rfl,K⟩
 simp(disch:=omega)only[go_sem]
 refine⟨?_,y.trans K⟩
 congr 2
 rw[eq_iff_iff]
 exact⟨λh=>⟨J,L,h⟩,λh=>h.2.2⟩
section
variable {i:Nat} {a:List Int}
def pckOk (a:List Int):Bool:=decide a.Nodup&&a.all λx=>decide (0<=x)&&decide (x<(a.length:Int))
def pck (a:List Int):Int:=if a.length<1∨64<a.length then 2 else if pckOk a=true then 0 else 3
structure Pre (a:List Int)(i:Nat):Prop where
 nd:(a.take i).Nodup
 rg: ∀x∈a.take i,0<=x/\x<(a.length:Int)
theorem takeI {l:List Int}(hi:i<l.length):l.take (i+1)=l.take i++ [l.getD i 0]:=by
 rw[List.take_add_one,eV hi];simp [List.getD,hi]
theorem Pre.zero (a:List Int):Pre a 0:=⟨by simp,λx b=>by simp at b⟩
theorem Pre.succ (p:Pre a i)(hi:i<a.length)(f:0<=a.getD i 0)(d:a.getD i 0<(a.length:Int))(h2:a.getD i 0∉a.take i):Pre a (i+1):=by
 refine⟨?_,λx b=>?_⟩
 ·rw[takeI hi,List.nodup_append]
  exact⟨p.nd,by simp,λx b y c=>by
   have e:y=a.getD i 0:=by simpa using c
   intro c;rw[c,e] at b
   exact h2 b⟩
 ·rw[takeI hi] at b
  rcases sZ.1 b with b|b
  ·exact p.rg x b
  ·simp at b;subst b;exact⟨f,d⟩
theorem Pre.all (p:Pre a a.length):pckOk a=true:=by
 have e:a.take a.length=a:=List.take_length;unfold pckOk;simp only[pF,decide_eq_true_eq,zE];exact⟨e▸p.nd,λx b=>p.rg x (by rw[e];exact b)⟩
theorem pck_bad (hi:i<a.length)(h:a.getD i 0<0∨(a.length:Int)<=a.getD i 0∨a.getD i 0∈a.take i):pckOk a=false:=by
 cases e:pckOk a with
 |false=>rfl
 |true=>
  exfalso;unfold pckOk at e;simp only[pF,decide_eq_true_eq,zE] at e;obtain⟨c,d⟩:=e
  have f:a.getD i 0∈a:=by
   have:a.getD i 0=a[i]:=by simp [List.getD,hi]
   rw[this];exact xR hi
  have:=d _ f;rcases h with h|h|h
  ·omega
  ·omega
  ·have b:(a.take (i+1)).Nodup:=c.sublist (List.take_sublist _ _)
   rw[takeI hi,List.nodup_append] at b;exact b.2.2 _ h _ (by simp) rfl
theorem bools64: [V.bool false,.bool false,.bool false,.bool false,.bool false,.bool false,.bool false,.bool false,.bool false,.bool false,.bool false,.bool false,.bool false,.bool false,.bool false,.bool false,
 .bool false,.bool false,.bool false,.bool false,.bool false,.bool false,.bool false,.bool false,.bool false,.bool false,.bool false,.bool false,.bool false,.bool false,.bool false,.bool false,
 .bool false,.bool false,.bool false,.bool false,.bool false,.bool false,.bool false,.bool false,.bool false,.bool false,.bool false,.bool false,.bool false,.bool false,.bool false,.bool false,
 .bool false,.bool false,.bool false,.bool false,.bool false,.bool false,.bool false,.bool false,.bool false,.bool false,.bool false,.bool false,.bool false,.bool false,.bool false,.bool false]=rc 64 (λ_=> .bool false):=rfl
theorem perm_Check_ok (u:V)(a:List Int)(h:H)(Z:a.length<1000000)(P:SI h u a):
  Ev T 108 [u] h (λv h'=>v= aB (pck a)/\Fr h h'):=by
 refine bH c_perm_Check rfl rfl ?_
 have l:=P.lens
 obtain⟨id,off,t,A,U⟩:=P.open
 by_cases Q:a.length<1
 ·have y:decide ((a.length:Int)<1)=true:=bM om
  simp(disch:=omega)only[go_sem,c_perm_Check,aF,l,y]
  exact⟨by unfold pck;rw[aV (.inl Q)],Fr.refl h⟩
 have y:decide ((a.length:Int)<1)=false:=bJ om
 by_cases W:64<a.length
 ·have B:decide ((64:Int)<(a.length:Int))=true:=bM om
  simp(disch:=omega)only[go_sem,c_perm_Check,aF,l,y,B]
  exact⟨by unfold pck;rw[aV (.inr W)],Fr.refl h⟩
 have B:decide ((64:Int)<(a.length:Int))=false:=bJ om
 have r:pck a=if pckOk a=true then 0 else 3:=by unfold pck;rw[aZ om]
 simp(disch:=omega)only[go_sem,c_perm_Check,aF,l,y,B,bools64]
 have m:Fr h (h.new (.cells false (rc 64 λ_=>V.bool false))):=(Fr.refl h).new _
 have d:(h.new (.cells false (rc 64 λ_=>V.bool false))).get h.next=some (.cells false (rc 64 λ_=>V.bool false)):=H.aN ..
 have o:(h.new (.cells false (rc 64 λ_=>V.bool false))).next=h.next+1:=H.aX ..
 generalize h.new (.cells false (rc 64 λ_=>V.bool false))=Q at*
 obtain⟨S,L⟩:=JR h.next
 rw[L] at d o
 rw[L]
 refine aH (λN c R=> ∃(i:Nat),(∃j:Nat->V,c= [u,aB 0,.ptr S 0,j 3,j 4,u,aB (a.length:Int),aB i,j 8,j 9])/\i<=a.length/\Pre a i/\
   R.get S=some (.cells false (rc 64 λj=> .bool ((a.take i).contains (j:Int))))/\Fr h R/\N=a.length-i) a.length
  ⟨0,aA rfl,fF _,Pre.zero a,by rw[d];rfl,m,rfl⟩ ?_
 clear d m o
 rintro N c O ⟨i,⟨Y,rfl⟩,hi,p,K,F,rfl⟩
 simp(disch:=omega)only[go_sem]
 by_cases q:(i:Int)<(a.length:Int)
 ·rw[bM q]
  have b:i<a.length:=om
  have ci:O.cell id (off+i)=some (aB (a.getD i 0)):=by rw[F.cell (A om),U i b]
  generalize f:a.getD i 0=x at ci
  by_cases g:x<0
  ·have n:=bM g
   simp(disch:=omega)only[go_sem,t.ixa,ci,n]
   refine⟨?_,F⟩
   rw[r,pck_bad b (.inl (by rw[f];exact g))];rfl
  have n:=bJ g
  by_cases z:(a.length:Int)<=x
  ·have w:decide ((a.length:Int)<=x)=true:=bM om
   simp(disch:=omega)only[go_sem,t.ixa,ci,n,w,l]
   refine⟨?_,F⟩
   rw[r,pck_bad b (.inr (.inl (by rw[f];exact z)))];rfl
  have w:decide ((a.length:Int)<=x)=false:=bJ om
  obtain⟨k,rfl⟩: ∃k:Nat,x=(k:Int):=⟨x.toNat,om⟩
  have G:k<64:=om
  have s:=gU K G
  cases hm:(a.take i).contains (k:Int) with
  |true=>
   rw[hm] at s;simp(disch:=omega)only[go_sem,t.ixa,ci,n,w,l,s];refine⟨?_,F⟩;rw[r,pck_bad b (.inr (.inr (by rw[f];simpa using hm)))];rfl
  |false=>
   rw[hm] at s;have J:=bF (vs:=rc 64 λj=> .bool ((a.take i).contains (j:Int))) (off:=k) (by rw[cK];exact G) O S (.bool true);rw[eJ] at J;simp(disch:=omega)only[go_sem,t.ixa,ci,n,w,l,s,K,J];rw[dY i];refine⟨a.length-(i+1),om,i+1,aA rfl,om,p.succ b (by rw[f];omega) (by rw[f];omega) (by rw[f];simpa using hm),?_,F.set om _,rfl⟩;congr 2;refine aY λj hj=>?_
   rw[takeI b,f]
   by_cases e:j=k
   ·subst e;rw[aV rfl];simp
   ·rw[aZ e]
    congr 1;rw[xJ];simp only[List.contains_iff_mem,sZ,List.mem_singleton];constructor
    ·exact .inl
    ·rintro (h|h)
     ·exact h
     ·omega
 rw[bJ q]
 obtain rfl:i=a.length:=om
 simp(disch:=omega)only[go_sem]
 refine⟨?_,F⟩
 rw[r,p.all];rfl
end
theorem mks_bools (hh:H)(c:Nat)(a:c<=100000):vH hh 1 1 [.bool false] (aB c) (aB c)=some (.sl hh.next 0 c (.kn c),hh.new (.cells false (rc c λ_=> .bool false))):=by
 rw[lZ om (Int.le_refl _) om om,De,kF];congr 4;refine List.ext_getElem (by simp [dO,rc]) λi _ _=>?_
 simp [dO,Nat.mod_one,rc]
theorem fine_ok (u:V)(a:List Int)(h:H)(Q:a.length<=1000)(L:SI h u a):
  Ev T 107 [u,aB (a.length:Int)] h (λv h'=>v= .bool (pckOk a)/\Fr h h'):=by
 refine bH c_kit_Fine rfl rfl ?_
 have t:=L.lens
 obtain⟨id,off,r,y,O⟩:=L.open
 simp(disch:=omega)only[go_sem,c_kit_Fine,aF,t]
 rw[bJ (show ¬((a.length:Int)≠(a.length:Int)) by omega)]
 simp(disch:=omega)only[go_sem,mks_bools _ a.length om]
 have l:Fr h (h.new (.cells false (rc a.length λ_=>V.bool false))):=(Fr.refl h).new _
 have d:(h.new (.cells false (rc a.length λ_=>V.bool false))).get h.next=some (.cells false (rc a.length λ_=>V.bool false)):=H.aN ..
 have n:(h.new (.cells false (rc a.length λ_=>V.bool false))).next=h.next+1:=H.aX ..
 generalize h.new (.cells false (rc a.length λ_=>V.bool false))=R at*
 obtain⟨S,G⟩:=JR h.next
 rw[G] at d n
 rw[G]
 refine aH (λJ c N=> ∃(i:Nat),(∃j:Nat->V,c= [u,aB (a.length:Int),j 2,.sl S 0 a.length (.kn a.length),aB i,j 5,j 6,j 7])/\i<=a.length/\Pre a i/\
   N.get S=some (.cells false (rc a.length λj=> .bool ((a.take i).contains (j:Int))))/\Fr h N/\J=a.length-i) a.length
  ⟨0,aA rfl,fF _,Pre.zero a,by rw[d];rfl,l,rfl⟩ ?_
 clear d l n
 rintro J c K ⟨i,⟨P,rfl⟩,hi,o,B,F,rfl⟩
 simp(disch:=omega)only[go_sem]
 by_cases p:(i:Int)<(a.length:Int)
 ·rw[bM p]
  have b:i<a.length:=om
  have ci:K.cell id (off+i)=some (aB (a.getD i 0)):=by rw[F.cell (y om),O i b]
  generalize f:a.getD i 0=x at ci
  by_cases g:x<0
  ·have m:=bM g
   simp(disch:=omega)only[go_sem,r.ixa,ci,m]
   refine⟨?_,F⟩
   rw[pck_bad b (.inl (by rw[f];exact g))]
  have m:=bJ g
  by_cases w:(a.length:Int)<=x
  ·have s:decide ((a.length:Int)<=x)=true:=bM om
   simp(disch:=omega)only[go_sem,r.ixa,ci,m,s,t]
   refine⟨?_,F⟩
   rw[pck_bad b (.inr (.inl (by rw[f];exact w)))]
  have s:decide ((a.length:Int)<=x)=false:=bJ om
  obtain⟨k,rfl⟩: ∃k:Nat,x=(k:Int):=⟨x.toNat,om⟩
  have z:k<a.length:=om
  have q:=gU B z
  cases hm:(a.take i).contains (k:Int) with
  |true=>
   rw[hm] at q;simp(disch:=omega)only[go_sem,r.ixa,ci,m,s,t,q];refine⟨?_,F⟩;rw[pck_bad b (.inr (.inr (by rw[f];simpa using hm)))]
  |false=>
   rw[hm] at q;have A:=bF (vs:=rc a.length λj=> .bool ((a.take i).contains (j:Int))) (off:=k) (by rw[cK];exact z) K S (.bool true);rw[eJ] at A;simp(disch:=omega)only[go_sem,r.ixa,ci,m,s,t,q,B,A];rw[dY i];refine⟨a.length-(i+1),om,i+1,aA rfl,om,o.succ b (by rw[f];omega) (by rw[f];omega) (by rw[f];simpa using hm),?_,F.set om _,rfl⟩;congr 2;refine aY λj U=>?_
   rw[takeI b,f]
   by_cases e:j=k
   ·subst e;rw[aV rfl];simp
   ·rw[aZ e]
    congr 1;rw[xJ];simp only[List.contains_iff_mem,sZ,List.mem_singleton];constructor
    ·exact .inl
    ·rintro (h|h)
     ·exact h
     ·omega
 rw[bJ p]
 obtain rfl:i=a.length:=om
 simp(disch:=omega)only[go_sem]
 refine⟨?_,F⟩
 rw[o.all]
theorem ref_Check_ok (u:V)(a:List Int)(h:H)(j:a.length<1000000)(g:SI h u a):
  Ev T 76 [u] h (λv h'=>v= aB (pck a)/\Fr h h'):=by
 refine bH c_ref01_Check rfl rfl ?_
 have c:=g.lens
 by_cases d:a.length<1
 ·have b:decide ((a.length:Int)<1)=true:=bM om
  simp(disch:=omega)only[go_sem,c_ref01_Check,aF,c,b]
  exact⟨by unfold pck;rw[aV (.inl d)],Fr.refl h⟩
 have b:decide ((a.length:Int)<1)=false:=bJ om
 by_cases i:64<a.length
 ·have d:decide ((64:Int)<(a.length:Int))=true:=bM om
  simp(disch:=omega)only[go_sem,c_ref01_Check,aF,c,b,d]
  exact⟨by unfold pck;rw[aV (.inr i)],Fr.refl h⟩
 have d:decide ((64:Int)<(a.length:Int))=false:=bJ om
 have f:pck a=if pckOk a=true then 0 else 3:=by unfold pck;rw[aZ om]
 simp(disch:=omega)only[go_sem,c_ref01_Check,aF,c,b,d]
 refine (fine_ok u a h om g).mono ?_
 rintro _ i ⟨rfl,F⟩
 cases e:pckOk a with
 |true=>
  simp(disch:=omega)only[go_sem];exact⟨by rw[f,e];rfl,F⟩
 |false=>
  simp(disch:=omega)only[go_sem];exact⟨by rw[f,e];rfl,F⟩
theorem pckOk_isP {a:List Int}(h:pckOk a=true):a=zi (a.map Int.toNat)/\bV a.length (a.map Int.toNat):=by
 unfold pckOk at h;simp only[pF,decide_eq_true_eq,zE] at h;obtain⟨f,c⟩:=h
 have e:a=zi (a.map Int.toNat):=by
  unfold zi;rw[List.map_map];refine (List.map_id a).symm.trans (yZ λx b=>?_);have:=(c x b).1
  show x=((x.toNat:Nat):Int)
  omega
 refine⟨e,by simp,?_,λx b=>?_⟩
 ·rw[DE,List.pairwise_map]
  rw[DE] at f;refine f.imp_of_mem λ{x y} b d e e=>?_
  have:=(c x b).1;have:=(c y d).1;omega
 ·obtain⟨y,d,rfl⟩:=pU.1 b
  have:=c y d;omega
theorem pckOk_zi {n:Nat}{l:List Nat}(L:bV n l):pckOk (zi l)=true:=by
 unfold pckOk;simp only[pF,decide_eq_true_eq,zE];refine⟨?_,λx b=>?_⟩
 ·unfold zi
  have:=L.nd;rw[DE] at this ⊢;rw[List.pairwise_map];exact this.imp λa e=>a om
 ·obtain⟨k,c,rfl⟩:=pU.1 b
  have:=L.lt k c;rw[aQ,L.len];omega
end Go.Proofs.YtapfcpkecmmagaaGreat
