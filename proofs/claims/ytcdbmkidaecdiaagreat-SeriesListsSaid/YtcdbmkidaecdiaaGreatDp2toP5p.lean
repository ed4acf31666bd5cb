/- Texts of the claim. -/
import Derived.Test.YtcdbmkidaecdiaaGreatDp1
import Derived.Test.YtcdbmkidaecdiaaGreatP5a
import Derived.Test.YtcdbmkidaecdiaaGreatAy39
import Derived.Test.YtcdbmkidaecdiaaGreatC16code
import Derived.Sort.AssemblyPlain
import Derived.Test.YtcdbmkidaecdiaaGreatAy26
set_option maxHeartbeats 32000000
namespace Go.Pm
set_option maxRecDepth 100000
section
variable {j p:Nat}
structure Lv where
 gens:zJ
 orb:List Nat
 to:Nat->Option (List Nat)
 tr:Nat->Nat
abbrev pG:=Nat->Lv
def Fix (i:Nat)(x:List Nat):Prop:= ∀k,k<i->x.getD k 0=k
def InS (n:Nat)(τ:pG):Nat->Nat->List Nat->Prop
 |_,0,x=>x=bT n
 |i,d+1,x=> ∃p y h,(τ i).to p=some y/\InS n τ (i+1) d h/\x=aX h y
def S (n:Nat)(τ:pG)(i:Nat)(x:List Nat):Prop:=InS n τ i (n-i) x
section
variable {n:Nat} {τ τ':pG} {x y z:List Nat} {i:Nat}
theorem vC:S n τ n x↔x=bT n:=by unfold S;rw[Nat.sub_self];exact Iff.rfl
theorem pY (hi:i<n):S n τ i x↔ ∃p y h,(τ i).to p=some y/\S n τ (i+1) h/\x=aX h y:=by
 unfold S;rw[show n-i=(n-(i+1))+1 from oq];exact Iff.rfl
theorem Sj: ∀(d i:Nat) (x:List Nat),(∀j,i<=j->j<i+d->τ j=τ' j)->(InS n τ i d x↔InS n τ' i d x)
 |0,_,_,_=>Iff.rfl
 |d+1,i,x,h=>by
  simp only[InS];rw[h i (Nat.le_refl _) oq];have a:=λg=>Sj d (i+1) g (λj b c=>h j oq oq)
  simp only[a]
theorem HM (h: ∀j,i<=j->j<n->τ j=τ' j):S n τ i x↔S n τ' i x:=
 Sj _ _ _ λj a b=>h j a oq
structure SQ (n j:Nat)(l:Lv):Prop where
 nd:l.orb.Nodup
 base:j∈l.orb
 one:l.to j=some (bT n)
 iff: ∀p,p∈l.orb↔(l.to p).isSome
 cX: ∀p y,l.to p=some y->bC n y
 fix: ∀p y,l.to p=some y->Fix j y
 maps: ∀p y,l.to p=some y->y.getD j 0=p
 gen: ∀p y,l.to p=some y->cG n (· ∈l.gens) y
 gP: ∀s∈l.gens,bC n s
 gF: ∀s∈l.gens,Fix j s
 gN:l.gens.Nodup
 le: ∀q,l.tr q<=l.gens.length
 zero: ∀q,q∉l.orb->l.tr q=0
theorem SQ.lt {l:Lv}(L:SQ n j l)(c:j<n)(b:p∈l.orb):p<n:=by
 obtain⟨y,a⟩:=Option.isSome_iff_exists.1 ((L.iff p).1 b);rw[←L.maps p y a];exact (L.cX p y a).gW c
theorem SQ.to {l:Lv}(L:SQ n j l)(a:p∈l.orb): ∃y,l.to p=some y:=Option.isSome_iff_exists.1 ((L.iff p).1 a)
theorem SQ.mem {l:Lv}(L:SQ n j l){y:List Nat}(h:l.to p=some y):p∈l.orb:=(L.iff p).2 (by rw[h];rfl)
def Cl (n j:Nat)(τ:pG):Prop:= ∀q y,(τ j).to q=some y-> ∀k s,k<(τ j).tr q->(τ j).gens[k]? =some s->
 ∃u,(τ j).to ((aX y s).getD j 0)=some u/\S n τ (j+1) (aX (aX y s) (cY u))
def Full (l:Lv):Prop:= ∀q∈l.orb,l.tr q=l.gens.length
def Dn (n j:Nat)(τ:pG):Prop:=j+1<n-> ∀s∈(τ (j+1)).gens,cG n (· ∈(τ j).gens) s
def oT (n i:Nat)(τ:pG):Prop:= ∀j,i<=j->j<n->SQ n j (τ j)/\Cl n j τ/\Full (τ j)/\Dn n j τ
theorem oT.mono (t:oT n i τ){k:Nat}(h:i<=k):oT n k τ:=λj b a=>t j oq a
theorem oT.congr (t:oT n i τ)(h: ∀j,i<=j->j<n->τ j=τ' j):oT n i τ':=λj m r=>by
 obtain⟨a,b,c,d⟩:=t j m r;have e:=h j m r;refine⟨e▸a,λq y o k s l f=>?_,e▸c,λg s f=>?_⟩
 ·rw[←e] at o l f ⊢
  obtain⟨u,w,v⟩:=b q y o k s l f;exact⟨u,w,(HM λk B A=>h k oq A).1 v⟩
 ·rw[←h (j+1) oq g] at f
  rw[←e];exact d g s f
theorem Fix.one (n i:Nat)(hi:i<=n):Fix i (bT n):=λk a=>fF oq
theorem Fix.mul (X:bC n x)(hi:i<=n)(a:Fix i x)(b:Fix i y):Fix i (aX x y):=λk c=>by
 rw[cM (by rw[X.len];omega),a k c,b k c]
theorem Fix.inv (X:bC n x)(hi:i<=n)(a:Fix i x):Fix i (cY x):=λk b=>by
 have:=sW X (show k<n by omega);rwa [a k b] at this
theorem Fix.mono (a:Fix j x)(h:i<=j):Fix i x:=λk b=>a k oq
theorem Fix.succ (a:Fix i x)(h:x.getD i 0=i):Fix (i+1) x:=λk b=>by
 by_cases e:k=i
 ·rw[e];exact h
 ·exact a k oq
theorem Fix.all (X:bC n x)(a:Fix n x):x=bT n:=by
 refine yM (by rw[X.len,iU]) λk b=>?_
 rw[X.len] at b;rw[a k b,fF b]
theorem cG.fix {L:List Nat->Prop}(b: ∀g,L g->bC n g)(hi:i<=n)(a: ∀g,L g->Fix i g)(h:cG n L x):Fix i x:=by
 induction h with
 |one=>exact Fix.one n i hi
 |mul hx hg ih=>exact Fix.mul (hx.cX b) hi ih (a _ hg)
theorem oT.HG: ∀(d i:Nat),i+d=n->oT n i τ-> ∀x,(S n τ i x->bC n x/\Fix i x)/\(i<n->(S n τ i x↔cG n (· ∈(τ i).gens) x))
 |0,i,h,_,x=>by
  obtain rfl:i=n:=oq
  refine⟨λa=>?_,λh=>oq⟩;rw[vC] at a;subst a;exact⟨bC.one i,Fix.one i i (Nat.le_refl _)⟩
 |d+1,i,h,t,x=>by
  have hi:i<n:=oq
  have l:=oT.HG d (i+1) oq (t.mono oq);obtain⟨L,C,F,D⟩:=t i (Nat.le_refl _) hi;have r: ∀g,g∈(τ i).gens->bC n g:=L.gP
  have P: ∀z,S n τ (i+1) z->cG n (· ∈(τ i).gens) z:=by
   intro z f
   by_cases b:i+1<n
   ·exact ((l z).2 b|>.1 f).le (cG.dH r) (D b)
   ·obtain rfl:i+1=n:=oq
    rw[vC] at f;subst f;exact .one
  have w: ∀u z,S n τ (i+1) u->S n τ (i+1) z->S n τ (i+1) (aX u z):=by
   intro u z m f
   by_cases b:i+1<n
   ·obtain⟨Q,_⟩:=t (i+1) oq b
    exact ((l _).2 b).2 ((((l u).2 b).1 m).app Q.gP (((l z).2 b).1 f))
   ·obtain rfl:i+1=n:=oq
    rw[vC] at m f ⊢;subst m f;exact cE (bC.one _)
  have v:S n τ (i+1) (bT n):=by
   by_cases b:i+1<n
   ·exact ((l _).2 b).2 .one
   ·obtain rfl:i+1=n:=oq
    exact vC.2 rfl
  have c:S n τ i x->cG n (· ∈(τ i).gens) x:=by
   intro a;obtain⟨p,y,g,o,B,rfl⟩:=(pY hi).1 a;exact (P g B).app r (L.gen p y o)
  refine⟨λa=>⟨(c a).cX r,(c a).fix r oq L.gF⟩,λ_=>⟨c,λO=>?_⟩⟩;clear c
  induction O with
  |one=>exact (pY hi).2 ⟨i,bT n,bT n,L.one,v,(cE (bC.one n)).symm⟩
  |mul hx a hind=>
   rename_i R s;obtain⟨q,y,g,o,B,e⟩:=(pY hi).1 hind;obtain⟨k,K,J⟩:=List.mem_iff_getElem.1 a;obtain⟨u,m,N⟩:=C q y o k s (by rw[F q (L.mem o)];exact K) (by rw[List.getElem?_eq_getElem K,J]);refine (pY hi).2 ⟨_,u,aX g (aX (aX y s) (cY u)),m,w _ _ B N,?_⟩;have G:=((l g).1 B).1;have Y:=L.cX q y o;have U:=L.cX _ u m;have A:=r s a;rw[e,aV G Y A,aV G ((Y.mul A).mul U.inv) U,aV (Y.mul A) U.inv U,gG U,cE (Y.mul A)]
theorem oT.gen (t:oT n i τ)(hi:i<n):S n τ i x↔cG n (· ∈(τ i).gens) x:=(oT.HG (n-i) i oq t x).2 hi
theorem oT.cX (t:oT n i τ)(hi:i<=n)(h:S n τ i x):bC n x:=((oT.HG (n-i) i oq t x).1 h).1
theorem oT.fix (t:oT n i τ)(hi:i<=n)(h:S n τ i x):Fix i x:=((oT.HG (n-i) i oq t x).1 h).2
theorem oT.dH (t:oT n i τ)(hi:i<=n):iJ n (S n τ i):=by
 by_cases h:i<n
 ·have g:=cG.dH (n:=n) (L:=(· ∈(τ i).gens)) (t i (Nat.le_refl _) h).1.gP
  exact⟨λa=>t.cX hi a,(t.gen h).2 g.one,λa b=>(t.gen h).2 (g.mul ((t.gen h).1 a) ((t.gen h).1 b)),λa=>(t.gen h).2 (g.inv ((t.gen h).1 a))⟩
 ·obtain rfl:i=n:=oq
  refine⟨λa=>t.cX hi a,vC.2 rfl,λa b=>?_,λa=>?_⟩
  ·rw[vC] at a b ⊢;subst a b;exact cE (bC.one _)
  ·rw[vC] at a ⊢;subst a;exact nY _
theorem oT.sift (t:oT n i τ)(hi:i<n)(h:S n τ i x): ∃y,(τ i).to (x.getD i 0)=some y/\S n τ (i+1) (aX x (cY y)):=by
 obtain⟨p,y,g,a,b,rfl⟩:=(pY hi).1 h;have L:=(t i (Nat.le_refl _) hi).1;have c:=t.mono (Nat.le_succ i);have G:=c.cX hi b;have Y:=L.cX p y a
 have e:(aX g y).getD i 0=p:=by
  rw[cM (by rw[G.len];exact hi),c.fix hi b i oq,L.maps p y a]
 refine⟨y,by rw[e];exact a,?_⟩;rw[aV G Y Y.inv,fQ Y,cE G];exact b
theorem oT.back (t:oT n i τ)(hi:i<n){y:List Nat}(a:bC n x)(b:(τ i).to (x.getD i 0)=some y)(h2:S n τ (i+1) (aX x (cY y))):S n τ i x:=by
 have Y:=(t i (Nat.le_refl _) hi).1.cX _ y b;refine (pY hi).2 ⟨_,y,_,b,h2,?_⟩;rw[aV a Y.inv Y,gG Y,cE a]
theorem oT.ajK (t:oT n i τ)(hi:i<n):S n τ (i+1) x↔S n τ i x/\x.getD i 0=i:=by
 have L:=(t i (Nat.le_refl _) hi).1;have a:=t.mono (Nat.le_succ i);constructor
 ·intro h
  have e:=a.fix hi h i oq;have X:=a.cX hi h;refine⟨t.back hi X (y:=bT n) (by rw[e];exact L.one) ?_,e⟩;rw[nY,cE X];exact h
 ·rintro⟨h,e⟩
  obtain⟨y,b,c⟩:=t.sift hi h;rw[e,L.one] at b;cases b;rwa [nY,cE (t.cX oq h)] at c
theorem oT.AJ (t:oT n i τ): ∀{k:Nat},i<=k->k<=n->(S n τ k x↔S n τ i x/\Fix k x):=by
 intro k
 induction k with
 |zero=>
  intro h _;obtain rfl:i=0:=oq
  exact⟨λh=>⟨h,λ_ h=>oq⟩,λh=>h.1⟩
 |succ k ih=>
  intro g f
  by_cases e:i=k+1
  ·subst e
   exact⟨λh=>⟨h,t.fix f h⟩,λh=>h.1⟩
  ·have a:=ih oq oq
   rw[(t.mono oq).ajK (i:=k) f,a];constructor
   ·rintro⟨⟨b,c⟩,d⟩;exact⟨b,c.succ d⟩
   ·rintro⟨b,c⟩;exact⟨⟨b,c.mono oq⟩,c k oq⟩
end
end
section
variable {j k q:Nat}
def vE (τ:pG)(i:Nat)(l:Lv):pG:=λj=>if j=i then l else τ j
theorem bX (τ:pG)(i:Nat)(l:Lv):vE τ i l i=l:=by simp [vE]
theorem dV (τ:pG){i:Nat}(l:Lv)(h:j≠i):vE τ i l j=τ j:=by simp [vE,h]
def Lv.tick (l:Lv)(q:Nat):Lv:={l with tr:=λr=>if r=q then l.tr q+1 else l.tr r}
def Lv.reach (l:Lv)(p:Nat)(y:List Nat):Lv:={l with orb:=l.orb++ [p],to:=λr=>if r=p then some y else l.to r}
def Lv.more (l:Lv)(r:List Nat):Lv:={l with gens:=l.gens++ [r]}
structure CI (n i:Nat)(τ:pG):Prop where
 jO:SQ n i (τ i)
 cl:Cl n i τ
 dn:Dn n i τ
 up:oT n (i+1) τ
section
variable {n:Nat} {τ τ':pG} {x y z s u w:List Nat} {i:Nat}
theorem CI.full (c:CI n i τ)(a:Full (τ i)):oT n i τ:=λj d b=>by
 by_cases e:j=i
 ·subst e;exact⟨c.jO,c.cl,a,c.dn⟩
 ·exact c.up j oq b
theorem aeM {l:Lv}(h:i<k):S n (vE τ i l) k x↔S n τ k x:=HM λj a _=>dV τ l oq
theorem oT.ahK {l:Lv}(h:i<k)(t:oT n k τ):oT n k (vE τ i l):=t.congr λj a _=>(dV τ l oq).symm
theorem CI.Qh (c:CI n i τ)(hi:i<n)(b:(τ i).to q=some y)(e:s∈(τ i).gens)(a:(τ i).to ((aX y s).getD i 0)=some u):
  bC n (aX (aX y s) (cY u))/\Fix (i+1) (aX (aX y s) (cY u))/\cG n (· ∈(τ i).gens) (aX (aX y s) (cY u)):=by
 have L:=c.jO
 have Y:=L.cX q y b
 have U:=L.cX _ u a
 have g:=L.gP s e
 have f:=Y.mul g
 have d:cG n (· ∈(τ i).gens) (aX (aX y s) (cY u)):=((L.gen q y b).mul e).app L.gP ((L.gen _ u a).inv L.gP)
 refine⟨f.mul U.inv,Fix.succ (d.fix L.gP oq L.gF) ?_,d⟩
 rw[cM (by rw[f.len];exact hi)]
 have:=sW U hi
 rwa [L.maps _ u a] at this
theorem CI.tick (c:CI n i τ)(m:(τ i).to q=some y)(F:(τ i).tr q=k)(p:(τ i).gens[k]? =some s)(J:(τ i).to ((aX y s).getD i 0)=some u)
  (N:S n τ (i+1) (aX (aX y s) (cY u))):CI n i (vE τ i ((τ i).tick q)):=by
 have L:=c.jO
 have h:k<(τ i).gens.length:=(List.getElem?_eq_some_iff.1 p).1
 refine⟨?_,?_,?_,c.up.ahK oq⟩
 ·rw[bX]
  refine⟨L.nd,L.base,L.one,L.iff,L.cX,L.fix,L.maps,L.gen,L.gP,L.gF,L.gN,λr=>?_,λr A=>?_⟩
  ·show (if r=q then (τ i).tr q+1 else (τ i).tr r)<=_
   split
   ·rw[F];exact h
   ·exact L.le r
  ·show (if r=q then (τ i).tr q+1 else (τ i).tr r)=0
   have:r≠q:=λe=>A (by rw[e];exact L.mem m)
   rw[if_neg this];exact L.zero r A
 ·intro r v f j t o l
  rw[bX] at f o l ⊢
  simp only[aeM (Nat.lt_succ_self i)]
  have d:j<(if r=q then (τ i).tr q+1 else (τ i).tr r):=o
  by_cases e:r=q/\j=k
  ·obtain⟨rfl,rfl⟩:=e
   have a:(τ i).to r=some v:=f
   have b:(τ i).gens[j]? =some t:=l
   rw[m] at a;cases a
   rw[p] at b;cases b
   exact⟨u,J,N⟩
  ·refine c.cl r v f j t ?_ l
   split at d
   ·rename_i G;subst G
    have:j≠k:=λK=>e ⟨rfl,K⟩
    omega
   ·exact d
 ·intro O g B
  rw[dV τ _ oq] at B
  rw[bX]
  exact c.dn O g B
theorem CI.reach (c:CI n i τ)(hi:i<n){p:Nat}(J:(τ i).to p=none)(Y:bC n y)(F:Fix i y)(N:y.getD i 0=p)(U:cG n (· ∈(τ i).gens) y):CI n i (vE τ i ((τ i).reach p y)):=by
 have L:=c.jO;have m:p∉(τ i).orb:=λh=>by have:=(L.iff p).1 h;rw[J] at this;cases this
 have f: ∀r v,((τ i).reach p y).to r=some v->(r=p/\v=y)∨(r≠p/\(τ i).to r=some v):=by
  intro r v h;have A:(if r=p then some y else (τ i).to r)=some v:=h;split at A
  ·rename_i e;cases A;exact .inl ⟨e,rfl⟩
  ·rename_i e;exact .inr ⟨e,A⟩
 have d: ∀r v,(τ i).to r=some v->((τ i).reach p y).to r=some v:=by
  intro r v h;have:r≠p:=λe=>by rw[e,J] at h;cases h
  show (if r=p then some y else (τ i).to r)=some v;rw[if_neg this];exact h
 refine⟨?_,?_,?_,c.up.ahK oq⟩
 ·rw[bX]
  refine⟨?_,List.mem_append_left _ L.base,d _ _ L.one,λr=>?_,λr v h=>?_,λr v h=>?_,λr v h=>?_,λr v h=>?_,L.gP,L.gF,L.gN,L.le,λr O=>?_⟩
  ·show ((τ i).orb++ [p]).Nodup
   rw[List.nodup_append];exact⟨L.nd,by simp,λa P b B=>by simp at B;subst B;exact λe=>m (e▸P)⟩
  ·show r∈(τ i).orb++ [p]↔(if r=p then some y else (τ i).to r).isSome
   by_cases e:r=p
   ·subst e;simp
   ·rw[if_neg e,←L.iff r];simp [e]
  ·rcases f r v h with ⟨_,rfl⟩|⟨_,h⟩
   ·exact Y
   ·exact L.cX r v h
  ·rcases f r v h with ⟨_,rfl⟩|⟨_,h⟩
   ·exact F
   ·exact L.fix r v h
  ·rcases f r v h with ⟨rfl,rfl⟩|⟨_,h⟩
   ·exact N
   ·exact L.maps r v h
  ·rcases f r v h with ⟨_,rfl⟩|⟨_,h⟩
   ·exact U
   ·exact L.gen r v h
  ·exact L.zero r λh=>O (List.mem_append_left _ h)
 ·intro r v G j t o K
  rw[bX] at G o K ⊢;simp only[aeM (Nat.lt_succ_self i)];rcases f r v G with ⟨rfl,rfl⟩|⟨_,h⟩
  ·have hz:(τ i).tr r=0:=L.zero r m
   have Q:j<(τ i).tr r:=o;omega
  ·obtain⟨a,R,W⟩:=c.cl r v h j t o K
   exact⟨a,d _ _ R,W⟩
 ·intro Z g l
  rw[dV τ _ oq] at l;rw[bX];exact c.dn Z g l
theorem CI.found (c:CI n i τ)(hi:i<n){p:Nat}(b:(τ i).to q=some y)(t:(τ i).tr q=k)(r:(τ i).gens[k]? =some s)(l:(aX y s).getD i 0=p)(o:(τ i).to p=none):
  CI n i (vE τ i (((τ i).tick q).reach p (aX y s))):=by
 have L:=c.jO
 have a:s∈(τ i).gens:=List.mem_of_getElem? r
 have Y:=L.cX q y b
 have m:=L.gP s a
 have g:=c.reach hi o (Y.mul m) (Fix.mul Y oq (L.fix q y b) (L.gF s a)) l ((L.gen q y b).mul a)
 have d:q≠p:=λe=>by rw[e,o] at b;cases b
 have f:(vE τ i ((τ i).reach p (aX y s)) i).to p=some (aX y s):=by
  rw[bX];show (if p=p then some (aX y s) else (τ i).to p)=_;rw[if_pos rfl]
 have v:S n (vE τ i ((τ i).reach p (aX y s))) (i+1) (aX (aX y s) (cY (aX y s))):=by
  rw[fQ (Y.mul m)];exact (g.up.dH oq).one
 have A:=g.tick (q:=q) (k:=k) (y:=y) (s:=s) (u:=aX y s) (by
  rw[bX];show (if q=p then some (aX y s) else (τ i).to q)=_
  rw[if_neg d];exact b) (by rw[bX];exact t) (by rw[bX];exact r) (by rw[l];exact f) v
 have e:vE (vE τ i ((τ i).reach p (aX y s))) i ((vE τ i ((τ i).reach p (aX y s)) i).tick q)=vE τ i (((τ i).tick q).reach p (aX y s)):=by
  funext j
  by_cases h:j=i
  ·subst h;rw[bX,bX,bX];rfl
  ·rw[dV _ _ h,dV _ _ h,dV _ _ h]
 rwa [e] at A
structure Jb (n i:Nat)(x:List Nat)(τ τ':pG):Prop where
 low: ∀j,j<i->τ' j=τ j
 tw:oT n i τ'
 old: ∀s∈(τ i).gens,s∈(τ' i).gens
 new: ∀s∈(τ' i).gens,cG n (λg=>g∈(τ i).gens∨g=x) s
 has:cG n (· ∈(τ' i).gens) x
theorem Jb.S (a:Jb n i x τ τ')(t:oT n i τ)(hi:i<n)(h:Go.Pm.S n τ i z):Go.Pm.S n τ' i z:=
 (a.tw.gen hi).2 (((t.gen hi).1 h).mono a.old)
theorem CI.added (c:CI n i τ)(d:i+1<n)(a:Jb n (i+1) z τ τ')(r:cG n (· ∈(τ i).gens) z):CI n i τ'/\Go.Pm.S n τ' (i+1) z:=by
 have e:=a.low i oq;refine⟨⟨e▸c.jO,λq y l k s f m=>?_,λh g b=>?_,a.tw⟩,(a.tw.gen d).2 a.has⟩
 ·rw[e] at l f m ⊢
  obtain⟨u,o,p⟩:=c.cl q y l k s f m;exact⟨u,o,a.S c.up d p⟩
 ·rw[e]
  refine (a.new g b).le (cG.dH c.jO.gP) λg b=>?_
  rcases b with b|rfl
  ·exact c.dn d g b
  ·exact r
def Zx (n:Nat)(τ:pG):Nat->Nat->List Nat->Nat×List Nat
 |0,i,x=>(i,x)
 |d+1,i,x=>match (τ i).to (x.getD i 0) with
  |none=>(i,x)
  |some y=>Zx n τ d (i+1) (if x.getD i 0=i then x else aX x (cY y))
structure SfP (n i:Nat)(τ:pG)(x:List Nat)(k:Nat)(r:List Nat):Prop where
 ge:i<=k
 le:k<=n
 cX:bC n r
 fix:Fix k r
 out:k<n->(τ k).to (r.getD k 0)=none
 rest:i<n-> ∃w,cG n (· ∈(τ i).gens) w/\x=aX r w
theorem VY: ∀(d i:Nat) (x:List Nat),i+d=n->oT n i τ->bC n x->Fix i x->SfP n i τ x (Zx n τ d i x).1 (Zx n τ d i x).2
 |0,i,x,h,_,X,F=>⟨Nat.le_refl _,by show i<=n;omega,X,F,λb=>by have:i<n:=b;omega,λb=>oq⟩
 |d+1,i,x,h,t,X,F=>by
  have hi:i<n:=oq
  obtain⟨L,C,A,D⟩:=t i (Nat.le_refl _) hi;unfold Zx
  cases e:(τ i).to (x.getD i 0) with
  |none=>exact⟨Nat.le_refl _,by show i<=n;omega,X,F,λ_=>e,λ_=>⟨bT n,.one,(cE X).symm⟩⟩
  |some y=>
   simp only;have Y:=L.cX _ y e
   have l: ∀c,c=(if x.getD i 0=i then x else aX x (cY y))->bC n c/\Fix (i+1) c/\x=aX c y:=by
    intro c b
    by_cases g:x.getD i 0=i
    ·rw[if_pos g] at b
     subst b;rw[g,L.one] at e;cases e;exact⟨X,F.succ g,(cE X).symm⟩
    ·rw[if_neg g] at b
     subst b;refine⟨X.mul Y.inv,(Fix.mul X oq F (Fix.inv Y oq (L.fix _ y e))).succ ?_,by rw[aV X Y.inv Y,gG Y,cE X]⟩;rw[cM (by rw[X.len];exact hi)];have:=sW Y hi;rwa [L.maps _ y e] at this
   obtain⟨r,F2,ex⟩:=l _ rfl;have a:=VY d (i+1) _ oq (t.mono oq) r F2;refine⟨by have:=a.ge;omega,a.le,a.cX,a.fix,a.out,λ_=>?_⟩
   by_cases m:i+1<n
   ·obtain⟨w,p,v⟩:=a.rest m
    have f:cG n (· ∈(τ i).gens) w:=p.le (cG.dH L.gP) (D m);refine⟨aX w y,f.app L.gP (L.gen _ y e),?_⟩;rw[←aV a.cX (f.cX L.gP) Y,←v];exact ex
   ·have o:d=0:=oq
    subst o;exact⟨y,L.gen _ y e,ex⟩
theorem SfP.in (f:SfP n i τ x n w)(t:oT n i τ)(hi:i<n):S n τ i x:=by
 obtain⟨v,a,e⟩:=f.rest hi;have:=f.fix.all f.cX;rw[this,eD (a.cX (t i (Nat.le_refl _) hi).1.gP)] at e;subst e;exact (t.gen hi).2 a
theorem SfP.aiL (f:SfP n i τ x k w)(t:oT n i τ)(b:k<n)(e:i<=j)(h2:j<=k): ¬S n τ j w:=by
 intro h;have c:=t.mono e;have d:=(c.AJ h2 oq).2 ⟨h,f.fix⟩;obtain⟨y,a,_⟩:=(t.mono f.ge).sift b d;rw[f.out b] at a;cases a
def push (τ:pG)(i k:Nat)(r:List Nat):pG:=λj=>if i<=j/\j<=k then (τ j).more r else τ j
theorem HW (τ:pG){i:Nat}(r:List Nat)(a:i<=j)(h2:j<=k):push τ i k r j=(τ j).more r:=by simp [push,a,h2]
theorem Nk (τ:pG){i:Nat}(r:List Nat)(h:j<i∨k<j):push τ i k r j=τ j:=by
 unfold push;rw[if_neg oq]
structure Oh (n i k:Nat)(r:List Nat)(τ τ':pG)(j:Nat):Prop where
 low: ∀m,m<j->τ' m=push τ i k r m
 tw:oT n j τ'
 gens:j<=k->(τ' j).gens=(τ j).gens++ [r]
 same:k<j->τ' j=τ j
theorem Oh.start (f:SfP n i τ x k w)(t:oT n i τ)(_:k<n):Oh n i k w τ (push τ i k w) (k+1):=
 ⟨λ_ _=>rfl,(t.mono (by have:=f.ge;omega)).congr λj a _=>(Nk τ w (.inr oq)).symm,λh=>oq,λ_=>Nk τ w (.inr oq)⟩
theorem Oh.ci (f:SfP n i τ x k w)(t:oT n i τ)(Z:k<n)(a:Oh n i k w τ τ' (j+1))(B:i<=j)(h2:j<=k):CI n j τ':=by
 have Q:j<n:=oq
 obtain⟨L,C,Fu,D⟩:=t j B Q;have e:τ' j=(τ j).more w:=(a.low j oq).trans (HW τ w B h2);have U:=t.mono B;have J:w∉(τ j).gens:=λW=>f.aiL t Z B h2 ((U.gen Q).2 (cG.of L.gP W))
 have F: ∀z,S n τ (j+1) z->S n τ' (j+1) z:=by
  intro z G
  by_cases v:j+1<n
  ·have K:=t.mono (show i<=j+1 by omega)
   refine (a.tw.gen v).2 (((K.gen v).1 G).mono λg c=>?_)
   by_cases o:j+1<=k
   ·rw[a.gens o];exact List.mem_append_left _ c
   ·rw[a.same oq];exact c
  ·obtain rfl:j+1=n:=oq
   rw[vC] at G ⊢;exact G
 have l: ∀g,g∈(τ j).gens->g∈(τ j).gens++ [w]:=λg c=>List.mem_append_left _ c
 have r: ∀g,g∈(τ j).gens++ [w]->bC n g:=λg c=>by
  rcases List.mem_append.1 c with c|c
  ·exact L.gP g c
  ·simp at c;subst c;exact f.cX
 refine⟨?_,λq y R m s P d=>?_,λv s d=>?_,a.tw⟩
 ·rw[e]
  refine⟨L.nd,L.base,L.one,L.iff,L.cX,L.fix,L.maps,λp y h=>(L.gen p y h).mono l,r,λg c=>?_,?_,λq=>?_,L.zero⟩
  ·rcases List.mem_append.1 c with c|c
   ·exact L.gF g c
   ·simp at c;subst c;exact f.fix.mono h2
  ·show ((τ j).gens++ [w]).Nodup
   rw[List.nodup_append];exact⟨L.gN,by simp,λa ha b O=>by simp at O;subst O;exact λe=>J (e▸ha)⟩
  ·show (τ j).tr q<=((τ j).gens++ [w]).length
   have:=L.le q;simp;omega
 ·rw[e] at R P d ⊢
  have N:m<(τ j).tr q:=P;have A:((τ j).gens++ [w])[m]? =some s:=d;rw[List.getElem?_append_left (by have:=L.le q;omega)] at A;obtain⟨u,Y,g2⟩:=C q y R m s N A;exact⟨u,Y,F _ g2⟩
 ·rw[e]
  show cG n (· ∈(τ j).gens++ [w]) s
  by_cases o:j+1<=k
  ·rw[a.gens o] at d
   rcases List.mem_append.1 d with d|d
   ·exact (D v s d).mono l
   ·simp at d;subst d
    exact cG.of r (List.mem_append_right _ (by simp))
  ·rw[a.same oq] at d
   exact (D v s d).mono l
theorem Oh.next {b:pG}(a:Oh n i k w τ τ' (j+1))(c:i<=j)(h2:j<=k)(low: ∀m,m<j->b m=τ' m)(g:(b j).gens=(τ' j).gens)(t:oT n j b):Oh n i k w τ b j:=
 ⟨λm d=>(low m d).trans (a.low m oq),t,λ_=>by rw[g,a.low j oq,HW τ w c h2];rfl,λh=>oq⟩
theorem Oh.done (f:SfP n i τ x k w)(t:oT n i τ)(X:bC n x)(p:k<n)(a:Oh n i k w τ τ' i):Jb n i x τ τ':=by
 have hi:i<n:=by have:=f.ge;omega
 have L:=(t i (Nat.le_refl _) hi).1;have c:=a.gens f.ge;obtain⟨v,h,e⟩:=f.rest hi;have V:=h.cX L.gP;refine⟨λj m=>(a.low j m).trans (Nk τ w (.inl m)),a.tw,λs d=>?_,λs d=>?_,?_⟩
 ·rw[c];exact List.mem_append_left _ d
 ·have b: ∀g,(g∈(τ i).gens∨g=x)->bC n g:=λg c=>by
   rcases c with c|rfl
   ·exact L.gP g c
   ·exact X
  rw[c] at d;rcases List.mem_append.1 d with d|d
  ·exact cG.of b (.inl d)
  ·simp at d;subst d
   have o:s=aX x (cY v):=by rw[e,aV f.cX V V.inv,fQ V,cE f.cX]
   rw[o];exact (cG.of b (.inr rfl)).app b ((h.mono λg c=>Or.inl c).inv b)
 ·have b: ∀g,g∈(τ' i).gens->bC n g:=(a.tw i (Nat.le_refl _) hi).1.gP
  rw[e];exact (cG.of b (by rw[c];exact List.mem_append_right _ (by simp))).app b (h.mono λg l=>by rw[c];exact List.mem_append_left _ l)
theorem Jb.none (t:oT n i τ)(hi:i<n)(h:Go.Pm.S n τ i x):Jb n i x τ τ:=by
 have L:=(t i (Nat.le_refl _) hi).1
 have b: ∀g,(g∈(τ i).gens∨g=x)->bC n g:=λg a=>by
  rcases a with a|rfl
  ·exact L.gP g a
  ·exact t.cX oq h
 exact⟨λ_ _=>rfl,t,λ_ c=>c,λs c=>cG.of b (.inl c),(t.gen hi).1 h⟩
theorem SQ.many {l:Lv}(L:SQ n j l):l.gens.length<=n^n:=Bc L.gN L.gP
def PE (n:Nat):pG:=λj=>⟨[], [j],λp=>if p=j then some (bT n) else none,λ_=>0⟩
theorem PR (n:Nat):oT n 0 (PE n):=λj _ c=>by
 refine⟨⟨by simp [PE],by simp [PE],by simp [PE],λp=>?_,λp y h=>?_,λp y h=>?_,λp y h=>?_,λp y h=>?_,λs b=>?_,λs b=>?_,by simp [PE],λq=>Nat.le_refl _,λ_ _=>rfl⟩,λq y g k s f=>?_,λq _=>rfl,λ_ s b=>?_⟩
 ·show p∈ [j]↔(if p=j then some (bT n) else none).isSome
  by_cases e:p=j<;>simp [e]
 all_goals first
  |(have a:(if p=j then some (bT n) else none)=some y:=h
    split at a
    ·rename_i e
     cases a
     first
      |exact bC.one n
      |exact Fix.one n j oq
      |(rw[e];exact fF c)
      |exact .one
    ·cases a)
  |(cases b;done)
  |(have d:k<0:=f;omega)
end
end
end Go.Pm
namespace Go.Proofs.YtcdbmkidaecdiaaGreat
open Go Go.Ay Go.Pm
set_option maxRecDepth 100000
def Slot (W:Nat->Prop)(h:H)(v:V):Option (List Nat)->Prop
 |none=>v= .aE
 |some y=>PV W h v y
def tU (F:Nat->V)(s:Nat):V:=F (s/2*194+s%2)
def WT (n L:Nat)(F:Nat->V)(id:Nat):Prop:=id=L∨ ∃s,s<2*n/\ ∃off len c,tU F s= .sl id off len c
structure rV (h:H)(n tid L:Nat)(F:Nat->V)(τ:pG):Prop where
 t:h.get tid=some (.cells false [aC n,.sl L 0 n (.kn n)])
 l:h.get L=some (.cells false (rc (n*194) F))
 tn:tid<h.next
 ln:L<h.next
 tw: ¬WT n L F tid
 to: ∀j p,j<n->p<64->Slot (WT n L F) h (F (j*194+2+p)) ((τ j).to p)
 iv: ∀j p,j<n->p<64->Slot (WT n L F) h (F (j*194+66+p)) (((τ j).to p).map cY)
 tr: ∀j p,j<n->p<64->F (j*194+130+p)= aC ((τ j).tr p:Nat)
 gens: ∀j,j<n-> ∃vs,cQ h (F (j*194)) 1 vs 0/\dW (WT n L F) h vs (τ j).gens
 orb: ∀j,j<n->cQ h (F (j*194+1)) 1 (ints (zi (τ j).orb)) 0
 IF: ∀s s',s<2*n->s'<2*n->s≠s'->Dis (tU F s) (tU F s')
 ap: ∀s,s<2*n->cZ (tU F s) L
section
variable {h h':H} {n tid L:Nat} {F:Nat->V} {τ:pG}
theorem Slot.fx {W:Nat->Prop}{v:V}{o:Option (List Nat)}(s:Slot W h v o)(f:Fx W h h'):Slot W h' v o:=by
 cases o with
 |none=>exact s
 |some y=>exact PV.fx s f
theorem Slot.iP {W W':Nat->Prop}{v:V}{o:Option (List Nat)}(s:Slot W h v o)(a: ∀id,id<h.next->W' id->W id):Slot W' h v o:=by
 cases o with
 |none=>exact s
 |some y=>exact PV.iP s a
theorem Gg (F:Nat->V)(j:Nat):tU F (2*j)=F (j*194):=by
 unfold tU;congr 1;omega
theorem Kv (F:Nat->V)(j:Nat):tU F (2*j+1)=F (j*194+1):=by
 unfold tU;congr 1;omega
theorem rV.own (R:rV h n tid L F τ){s:Nat}(c:s<2*n): ∃ws,cQ h (tU F s) 1 ws 0:=by
 rcases Nat.mod_two_eq_zero_or_one s with e|e
 ·obtain⟨a,b,_⟩:=R.gens (s/2) om
  exact⟨a,by unfold tU;rw[e];exact b⟩
 ·exact⟨_,by unfold tU;rw[e];exact R.orb (s/2) om⟩
theorem rV.Nl (R:rV h n tid L F τ){id:Nat}(b:WT n L F id):id<h.next:=by
 rcases b with rfl|⟨s,d,a,len,c,e⟩
 ·exact R.ln
 ·obtain⟨f,o⟩:=R.own d
  exact (o.in _ _ _ _ e).1
theorem rV.mono (R:rV h n tid L F τ)(f:Fr h h'):rV h' n tid L F τ:=by
 refine⟨by rw[f.get _ R.tn];exact R.t,by rw[f.get _ R.ln];exact R.l,jB R.tn f.next,jB R.ln f.next,R.tw,
  λj p a b=>(R.to j p a b).fx (Fx.of f),λj p a b=>(R.iv j p a b).fx (Fx.of f),R.tr,λj c=>?_,λj c=>(R.orb j c).fr f,R.IF,R.ap⟩
 obtain⟨d,a,b⟩:=R.gens j c;exact⟨d,a.fr f,b.fx (Fx.of f)⟩
theorem rV.cell (R:rV h n tid L F τ){j c:Nat}(a:j<n)(b:c<194):h.cell L (j*194+c)=some (F (j*194+c)):=
 qF R.l (by
         have:(j+1)*194<=n*194:=Nat.mul_le_mul_right _ a
         omega)
theorem rV.Ub (R:rV h n tid L F τ){j c p:Nat}(b:j<n)(a:c+p<194):h.cell L (j*194+c+p)=some (F (j*194+c+p)):=by
 rw[Nat.add_assoc];exact R.cell b a
end
theorem RN {n:Nat}{τ:pG}{d i:Nat}{x:List Nat}(h:(τ i).to (x.getD i 0)=none):Zx n τ (d+1) i x=(i,x):=by
 rw[Zx,h]
theorem TX {n:Nat}{τ:pG}{d i:Nat}{x z:List Nat}(h:(τ i).to (x.getD i 0)=some z):Zx n τ (d+1) i x=Zx n τ d (i+1) (if x.getD i 0=i then x else aX x (cY z)):=by
 rw[Zx,h]
theorem abP (h:H)(n tid L:Nat)(F:Nat->V)(τ:pG)(vx:V)(x:List Nat)(a:Nat)(hn:n<=64)(h0:0<n)(R:rV h n tid L F τ)(hx:PV (WT n L F) h vx x)(X:bC n x)(P:a<=n)(t:oT n a τ):
  Ev T 229 [.ptr tid 0,vx,aC a] h (λv h'=> ∃vr,v= .tup [aC (((Zx n τ (n-a) a x).1:Nat):Int),vr]/\PV (WT n L F) h' vr (Zx n τ (n-a) a x).2/\bC n (Zx n τ (n-a) a x).2/\Fr h h'):=by
 refine cT tK rfl ?_
 simp(disch:=omega)only[go_sem,tK,aD]
 refine aI (λk' m hh=> ∃(i:Nat) (y:List Nat) (q:V),(∃g:Nat->V,m= [.ptr tid 0,q,g 2,g 3,g 4,aC i,g 6,g 7,g 8,g 9])/\a<=i/\i<=n/\Zx n τ (n-i) i y=Zx n τ (n-a) a x/\
   PV (WT n L F) hh q y/\bC n y/\Fr h hh/\k'=n-i) (n-a)
  ⟨a,x,vx,aB rfl,eH _,P,rfl,hx,X,Fr.refl h,rfl⟩ ?_
 rintro k' m d ⟨i,y,q,⟨g,rfl⟩,K,a1,e,B,Y,f,rfl⟩
 have G:=R.mono f
 have Q:d.cell tid 0=some (aC n):=by rw[H.aF G.t];rfl
 have cl:d.cell tid 1=some (.sl L 0 n (.kn n)):=by rw[H.aF G.t];rfl
 simp(disch:=omega)only[go_sem,Q,cl]
 by_cases A:(i:Int)<(n:Int)
 ·have b:i<n:=om
  rw[bN A]
  obtain⟨id,O,J,N,hc⟩:=B.si.open
  rw[aN,Y.len] at J N hc
  have ci:d.cell id (O+i)=some (aC (y.getD i 0:Nat)):=by rw[hc i b];congr 2;simp [zi,Y.len,b]
  have r:=Y.gW b
  have lv:=(t i K b).1
  generalize hk:y.getD i 0=k at ci r
  have cb:=G.Ub (c:=66) (p:=k) b om
  have w:=G.iv i k b om
  simp(disch:=omega)only[go_sem,Q,cl,J.ixa,ci,cb]
  generalize F (i*194+66+k)=vb at w cb
  have o:n-i=(n-(i+1))+1:=om
  rw[o] at e
  cases hto:(τ i).to k with
  |none=>
   rw[hto] at w;rw[RN (by rw[hk];exact hto)] at e;have l:vb= .aE:=w;subst l;simp(disch:=omega)only[go_sem];rw[←e];exact⟨q,rfl,B.fx (Fx.of ((Fr.refl d).bH om)),Y,f.bH om⟩
  |some z=>
   rw[hto] at w;rw[TX (by rw[hk];exact hto),hk] at e;have Z:=lv.cX _ _ hto;have l:PV (WT n L F) d vb (cY z):=w;have sn:=Ie l (bC.ne h0 Z.inv) false;have u:Fr d (H.mk d.tr (d.next+14)):=(Fr.refl d).bH om
   by_cases s:k=i
   ·have e0:decide ((k:Int)≠(i:Int))=false:=bE om
    rw[bJ s] at e;simp(disch:=omega)only[go_sem,sn,J.ixa,ci,e0];rw[dU i];exact⟨n-(i+1),om,i+1,y,q,aB rfl,om,om,e,B.fx (Fx.of u),Y,f.trans u,rfl⟩
   ·have e0:decide ((k:Int)≠(i:Int))=true:=bN om
    rw[bL s] at e;simp(disch:=omega)only[go_sem,sn,J.ixa,ci,e0];have W:=B.fx (Fx.of u);have U:=l.fx (Fx.of u);have f':=f.trans u;generalize H.mk d.tr (d.next+14)=h3 at*;refine (mL mW.ok q vb y (cY z) h3 (by rw[Y.len];omega) W.si U.si (λj hj=>by rw[iR,Z.len];exact Y.gW (by rw[←Y.len];exact hj))).mono ?_;rintro v h4 nw;have f4:=f'.trans nw.fr;simp(disch:=omega)only[go_sem];rw[dU i];refine⟨n-(i+1),om,i+1,_,v,aB rfl,om,om,e,nw.pv (λhw=>?_),Y.mul Z.inv,f4,rfl⟩;have:=R.Nl hw;have:=f'.next;omega
 ·rw[bE A]
  obtain rfl:i=n:=om
  simp(disch:=omega)only[go_sem,Q,cl]
  rw[Nat.sub_self] at e
  have a0:Zx i τ (i-a) a x=(i,y):=e.symm
  rw[a0]
  exact⟨q,rfl,B,Y,f⟩
section
variable {h h' h2:H} {n tid L i:Nat} {F F':Nat->V} {τ τ':pG}
theorem TS (b: ∀s,s<2*n->tU F' s=tU F s)(id:Nat):WT n L F' id↔WT n L F id:=by
 unfold WT;constructor
 ·rintro (e|⟨s,a,h2⟩)
  ·exact .inl e
  ·exact .inr ⟨s,a,by rw[←b s a];exact h2⟩
 ·rintro (e|⟨s,a,h2⟩)
  ·exact .inl e
  ·exact .inr ⟨s,a,by rw[b s a];exact h2⟩
theorem VU {j:Nat}(P: ∀s,s<2*n->tU F' s=tU F s)(a:j<n):F' (j*194)=F (j*194)/\F' (j*194+1)=F (j*194+1):=
 ⟨(Gg F' j).symm.trans ((P _ om).trans (Gg F j)),(Kv F' j).symm.trans ((P _ om).trans (Kv F j))⟩
theorem PV.go {W W':Nat->Prop}{v:V}{l:List Nat}(p:PV W h v l)(f:Fx W h h')(a: ∀id,id<h.next->W' id->W id):PV W' h' v l:=⟨p.si.fx p.off f,p.off.iP p.si a⟩
theorem Slot.go {W W':Nat->Prop}{v:V}{o:Option (List Nat)}(s:Slot W h v o)(f:Fx W h h')(a: ∀id,id<h.next->W' id->W id):Slot W' h' v o:=by
 cases o with
 |none=>exact s
 |some y=>exact PV.go s f a
theorem dW.go {W W':Nat->Prop}{vs:List V}{ls:LN}(s:dW W h vs ls)(f:Fx W h h')(a: ∀id,id<h.next->W' id->W id):dW W' h' vs ls:=s.mono λ_ _ x=>PV.go x f a
theorem rV.cells (R:rV h n tid L F τ)(l:h.next<=h'.next)(y: ∀id,id≠L->id<h.next->h'.get id=h.get id)(A:h'.get L=some (.cells false (rc (n*194) F')))
  (g: ∀s,s<2*n->tU F' s=tU F s) (z: ∀j,j<n->(τ' j).gens=(τ j).gens/\(τ' j).orb=(τ j).orb)
  (q: ∀j p,j<n->p<64->Slot (WT n L F) h' (F' (j*194+2+p)) ((τ' j).to p)) (r: ∀j p,j<n->p<64->Slot (WT n L F) h' (F' (j*194+66+p)) (((τ' j).to p).map cY))
  (u: ∀j p,j<n->p<64->F' (j*194+130+p)= aC ((τ' j).tr p:Nat)):rV h' n tid L F' τ'/\Fx (WT n L F) h h'/\ ∀id,WT n L F' id↔WT n L F id:=by
 have f:Fx (WT n L F) h h':=⟨l,λid b h2=>y id (λe=>h2 (.inl e)) b⟩
 have w:=TS (L:=L) g
 have o:WT n L F'=WT n L F:=funext λid=>propext (w id)
 have x: ∀s,s<2*n-> ∀id a len c,tU F s= .sl id a len c->id<h.next->h'.get id=h.get id:=λs b id a len c e h2=>y id (λG=>(R.ap s b _ _ _ _ e) G.symm) h2
 refine⟨⟨?_,A,jB R.tn l,jB R.ln l,by rw[o];exact R.tw,by rw[o];exact q,by rw[o];exact r,u,λj d=>?_,λj d=>?_,λs v b h2 k=>by rw[g s b,g v h2];exact R.IF s v b h2 k,λs b=>by rw[g s b];exact R.ap s b⟩,f,w⟩
 ·rw[f.get tid R.tn R.tw];exact R.t
 ·obtain⟨B,b,h2⟩:=R.gens j d
  rw[(VU g d).1,o,(z j d).1]
  exact⟨B,b.zI l λid a m c e k=>x (2*j) om id a m c (by rw[Gg];exact e) k,h2.fx f⟩
 ·rw[(VU g d).2,(z j d).2]
  exact (R.orb j d).zI l λid a m c e k=>x (2*j+1) om id a m c (by rw[Kv];exact e) k
structure ajQ (h h':H)(n tid L:Nat)(F F':Nat->V)(s0:Nat):Prop where
 fx:Fx (WT n L F) h h'
 wt: ∀id,id<h.next->WT n L F' id->WT n L F id
 IF: ∀s s',s<2*n->s'<2*n->s≠s'->Dis (tU F' s) (tU F' s')
 ap: ∀s,s<2*n->cZ (tU F' s) L
 own: ∀s,s<2*n->s≠s0->tU F' s=tU F s/\ ∀ws,cQ h (tU F s) 1 ws 0->cQ h' (tU F s) 1 ws 0
theorem rV.ajD (R:rV h n tid L F τ){s0 x m:Nat}(w:s0<2*n){ws us:List V}(p:uV h (tU F s0) x m 1 ws us h2)(g: ∀s,s<2*n->s≠s0->tU F' s=tU F s){O:pF}(f:tU F' s0= .sl h.next 0 (x+m) O)(o:Option Ob):
  ajQ h (h2.set L o) n tid L F F' s0:=by
 have k: ∀s,s<2*n-> ∀id a len c,tU F s= .sl id a len c->id<h.next:=λs q id a len c e=>by
  obtain⟨ws,o⟩:=R.own q;exact (o.in _ _ _ _ e).1
 have B:Fx (WT n L F) h h2:=p.fx λid a len c e=> .inr ⟨s0,w,a,len,c,e⟩
 refine⟨B.trans (Fx.set h2 (.inl rfl:WT n L F L) o) (λ_ _ h=>h),λid d z=>?_,λs j d h2 r=>?_,λs d=>?_,λs d r=>⟨g s d r,λws G=>?_⟩⟩
 ·rcases z with e|⟨s,q,a,len,c,e⟩
  ·exact .inl e
  ·by_cases b:s=s0
   ·rw[b,f] at e;cases e;omega
   ·exact .inr ⟨s,q,a,len,c,by rw[←g s q b];exact e⟩
 ·by_cases b:s=s0
  ·rw[b,f,g j h2 om]
   intro i o n c e N J v u l
   cases e
   have:=k j h2 _ _ _ _ l
   omega
  ·rw[g s d b]
   by_cases y:j=s0
   ·rw[y,f]
    intro i o n c e N J v u l
    cases l
    have:=k s d _ _ _ _ e
    omega
   ·rw[g j h2 y];exact R.IF s j d h2 r
 ·by_cases b:s=s0
  ·rw[b,f]
   exact cZ.sl (by have:=R.ln;omega)
  ·rw[g s d b];exact R.ap s d
 ·refine G.zI (show h.next<=h2.next by rw[p.next];omega) λid a m c e A=>?_
  rw[H.aH h2 (λb:id=L=>(R.ap s d _ _ _ _ e) b.symm)]
  refine p.old id om λK t v u l b=>?_
  exact R.IF s s0 d w r _ _ _ _ e _ _ _ _ l b
def F1 (F:Nat->V)(k:Nat)(v:V):Nat->V:=λc=>if c=k then v else F c
theorem rV.slot (R:rV h n tid L F τ){e g m:Nat}(hi:i<n)(U:e<2){ws us:List V}(p:uV h (F (i*194+e)) g m 1 ws us h2){h3:H}{v:V}{o:pF}(y:o= .un 1∨o= .kn (g+m))(z:v= .sl h.next 0 (g+m) o)(l:h3=h2.set L (some (.cells false (rc (n*194) (F1 F (i*194+e) v)))))
  (a: ∀j,j<n->(τ' j).to=(τ j).to/\(τ' j).tr=(τ j).tr)
  (P:Fx (WT n L F) h h3->(∀id,id<h.next->WT n L (F1 F (i*194+e) v) id->WT n L F id)->(∀s,s<2*n->s≠2*i+e-> ∀ws,cQ h (tU F s) 1 ws 0->cQ h3 (tU F s) 1 ws 0)->cQ h3 v 1 (ws++us) 0->ws.length=g*1/\us.length=m*1->
   (∀j,j<n-> ∃vs,cQ h3 (F1 F (i*194+e) v (j*194)) 1 vs 0/\dW (WT n L (F1 F (i*194+e) v)) h3 vs (τ' j).gens)/\ ∀j,j<n->cQ h3 (F1 F (i*194+e) v (j*194+1)) 1 (ints (zi (τ' j).orb)) 0)
  (r:ws.length=g*1/\us.length=m*1):
  rV h3 n tid L (F1 F (i*194+e) v) τ'/\Fx (WT n L F) h h3/\ ∀id,id<h.next->WT n L (F1 F (i*194+e) v) id->WT n L F id:=by
 have x: ∀s,s<2*n->s≠2*i+e->tU (F1 F (i*194+e) v) s=tU F s:=λs d h2=>by
  unfold tU F1;rw[bL om]
 have f:(2*i+e)/2*194+(2*i+e)%2=i*194+e:=om
 have w:tU F (2*i+e)=F (i*194+e):=by unfold tU;rw[f]
 have u:tU (F1 F (i*194+e) v) (2*i+e)= .sl h.next 0 (g+m) o:=by unfold tU F1;rw[f,bJ rfl,z]
 have G:=R.ajD (F':=F1 F (i*194+e) v) (s0:=2*i+e) om (by rw[w];exact p) x u (some (.cells false (rc (n*194) (F1 F (i*194+e) v))))
 rw[←l] at G
 obtain⟨Q,J⟩:=P G.fx G.wt (λs d h2=>(G.own s d h2).2) (by
  rw[z,l];have O:cQ h2 (.sl h.next 0 (g+m) o) 1 (ws++us) 0:= .inr ⟨h.next,g+m,o, [],rfl,by rw[iA,r.1,r.2];omega,by rcases y with e|e;exact .inl e;exact .inr ⟨e,rfl⟩,fR _,by rw[p.next];omega,by rw[tD];exact p.get⟩;refine O.zI (eH _) λid N m c e K=>?_
  cases e
  exact H.aH h2 (by have:=R.ln;omega) _) r
 have A: ∀j c,2<=c->c<194->F1 F (i*194+e) v (j*194+c)=F (j*194+c):=λj c d h2=>by
  unfold F1;rw[bL om]
 have k: ∀j b c,2<=b->b+c<194->F1 F (i*194+e) v (j*194+b+c)=F (j*194+b+c):=λj b c d h2=>by
  rw[Nat.add_assoc];exact A j (b+c) om h2
 have q:=G.fx.next
 refine⟨⟨?_,by rw[l,H.aS],jB R.tn q,jB R.ln q,λB=>R.tw (G.wt _ R.tn B),λj p d h2=>?_,λj p d h2=>?_,λj p d h2=>?_,Q,J,G.IF,G.ap⟩,G.fx,G.wt⟩
 ·rw[G.fx.get tid R.tn R.tw];exact R.t
 ·rw[k j 2 p om om,(a j d).1];exact (R.to j p d h2).go G.fx G.wt
 ·rw[k j 66 p om om,(a j d).1];exact (R.iv j p d h2).go G.fx G.wt
 ·rw[k j 130 p om om,(a j d).2];exact R.tr j p d h2
theorem rV.more (R:rV h n tid L F τ)(hi:i<n){vs:List V}{c:V}{r:List Nat}(pv:dW (WT n L F) h vs (τ i).gens)(q:PV (WT n L F) h c r)(p:uV h (F (i*194)) (τ i).gens.length 1 1 vs [c] h2){h3:H}{v:V}(o:v= .sl h.next 0 ((τ i).gens.length+1) (.un 1))(d:h3=h2.set L (some (.cells false (rc (n*194) (F1 F (i*194) v))))):
  rV h3 n tid L (F1 F (i*194) v) (vE τ i ((τ i).more r))/\Fx (WT n L F) h h3/\ ∀id,id<h.next->WT n L (F1 F (i*194) v) id->WT n L F id:=by
 refine R.slot (e:=0) hi om p (.inl rfl) o d (λj a=>?_) (λf b g l s=>⟨λj a=>?_,λj a=>?_⟩) ⟨by have:=aM.length pv;omega,rfl⟩
 ·by_cases e:j=i
  ·subst e;rw[bX];exact⟨rfl,rfl⟩
  ·rw[dV _ _ e];exact⟨rfl,rfl⟩
 ·by_cases e:j=i
  ·subst e
   rw[bX]
   refine⟨vs++ [c],?_,(dW.go pv f b).append (dW.one (PV.go q f b))⟩
   unfold F1;rw[bJ (Nat.add_zero _).symm];exact l
  ·rw[dV _ _ e]
   obtain⟨k,m,h2⟩:=R.gens j a
   refine⟨k,?_,dW.go h2 f b⟩
   have:=g (2*j) om om k (by rw[Gg];exact m)
   rw[Gg] at this
   unfold F1;rw[bL om];exact this
 ·have:=g (2*j+1) om om _ (by rw[Kv];exact R.orb j a)
  rw[Kv] at this
  unfold F1;rw[bL om]
  by_cases e:j=i
  ·subst e;rw[bX];exact this
  ·rw[dV _ _ e];exact this
theorem rV.TU (R:rV h n tid L F τ)(hi:i<n){q:Nat}(p:uV h (F (i*194+1)) (τ i).orb.length 1 1 (ints (zi (τ i).orb)) [aC q] h2){h3:H}{v:V}{b:pF}(c:b= .un 1∨b= .kn ((τ i).orb.length+1))(r:v= .sl h.next 0 ((τ i).orb.length+1) b)(d:h3=h2.set L (some (.cells false (rc (n*194) (F1 F (i*194+1) v))))):
  rV h3 n tid L (F1 F (i*194+1) v) (vE τ i {τ i with orb:=(τ i).orb++ [q]})/\Fx (WT n L F) h h3/\ ∀id,id<h.next->WT n L (F1 F (i*194+1) v) id->WT n L F id:=by
 refine R.slot (e:=1) hi om p c r d (λj a=>?_) (λf k l m t=>⟨λj a=>?_,λj a=>?_⟩) ⟨by rw[aP,aN,uH],rfl⟩
 ·by_cases e:j=i
  ·subst e;rw[bX];exact⟨rfl,rfl⟩
  ·rw[dV _ _ e];exact⟨rfl,rfl⟩
 ·obtain⟨g,o,h2⟩:=R.gens j a
  have:=l (2*j) om om g (by rw[Gg];exact o)
  rw[Gg] at this
  refine⟨g,?_,?_⟩
  ·unfold F1;rw[bL om];exact this
  ·by_cases e:j=i
   ·subst e;rw[bX];exact dW.go h2 f k
   ·rw[dV _ _ e];exact dW.go h2 f k
 ·by_cases e:j=i
  ·subst e
   rw[bX]
   have s:ints (zi ((τ j).orb++ [q]))=ints (zi (τ j).orb)++ [aC q]:=by simp [zi,ints]
   show cQ h3 _ 1 (ints (zi ((τ j).orb++ [q]))) 0
   rw[s]
   unfold F1;rw[bJ rfl];exact m
  ·rw[dV _ _ e]
   have:=l (2*j+1) om om _ (by rw[Kv];exact R.orb j a)
   rw[Kv] at this
   unfold F1;rw[bL om];exact this
theorem rV.tick (R:rV h n tid L F τ)(hi:i<n){q:Nat}(k:q<64){z:Int}(g:z=((τ i).tr q:Nat)+1){h3:H}(c:h3=h.set L (some (.cells false (rc (n*194) (F1 F (i*194+130+q) (aC z)))))):
  rV h3 n tid L (F1 F (i*194+130+q) (aC z)) (vE τ i ((τ i).tick q))/\Fx (WT n L F) h h3/\ ∀id,WT n L (F1 F (i*194+130+q) (aC z)) id↔WT n L F id:=by
 subst c
 have f:Fx (WT n L F) h (h.set L (some (.cells false (rc (n*194) (F1 F (i*194+130+q) (aC z)))))):=Fx.set h (.inl rfl) _
 have b: ∀j,(vE τ i ((τ i).tick q) j).to=(τ j).to/\(vE τ i ((τ i).tick q) j).gens=(τ j).gens/\(vE τ i ((τ i).tick q) j).orb=(τ j).orb:=λj=>by
  by_cases e:j=i
  ·subst e;rw[bX];exact⟨rfl,rfl,rfl⟩
  ·rw[dV _ _ e];exact⟨rfl,rfl,rfl⟩
 refine R.cells (eH _) (λid a _=>H.aH h a _) (H.aS ..) (λs l=>?_) (λj _=>(b j).2) (λj p a h2=>?_) (λj p a h2=>?_) (λj p a h2=>?_)
 ·unfold tU F1;rw[bL om]
 ·rw[(b j).1]
  have:=(R.to j p a h2).fx f
  unfold F1;rw[bL om];exact this
 ·rw[(b j).1]
  have:=(R.iv j p a h2).fx f
  unfold F1;rw[bL om];exact this
 ·have:=R.tr j p a h2
  unfold F1
  by_cases e:j=i
  ·subst e
   rw[bX]
   show _=aC (if p=q then (τ j).tr q+1 else (τ j).tr p:Nat)
   by_cases d:p=q
   ·subst d;rw[bJ rfl,bJ rfl,g];rfl
   ·rw[bL om,bL d];exact this
  ·rw[bL om,dV _ _ e];exact this
theorem rV.way (R:rV h n tid L F τ)(hi:i<n){q:Nat}(u:q<64){g d:V}{y:List Nat}(t:PV (WT n L F) h g y)(o:PV (WT n L F) h d (cY y)){h3:H}(l:h.next<=h3.next)(k: ∀id,id≠L->id<h.next->h3.get id=h.get id)
  (m:h3.get L=some (.cells false (rc (n*194) (F1 (F1 F (i*194+2+q) g) (i*194+66+q) d)))):
  rV h3 n tid L (F1 (F1 F (i*194+2+q) g) (i*194+66+q) d) (vE τ i {τ i with to:=λr=>if r=q then some y else (τ i).to r})/\Fx (WT n L F) h h3/\ ∀id,WT n L (F1 (F1 F (i*194+2+q) g) (i*194+66+q) d) id↔WT n L F id:=by
 have f:Fx (WT n L F) h h3:=⟨l,λid a h2=>k id (λe=>h2 (.inl e)) a⟩
 have b: ∀j,(vE τ i {τ i with to:=λr=>if r=q then some y else (τ i).to r} j).tr=(τ j).tr/\(vE τ i {τ i with to:=λr=>if r=q then some y else (τ i).to r} j).gens=(τ j).gens/\(vE τ i {τ i with to:=λr=>if r=q then some y else (τ i).to r} j).orb=(τ j).orb:=λj=>by
  by_cases e:j=i
  ·subst e;rw[bX];exact⟨rfl,rfl,rfl⟩
  ·rw[dV _ _ e];exact⟨rfl,rfl,rfl⟩
 refine R.cells l k m (λs v=>?_) (λj _=>(b j).2) (λj p a h2=>?_) (λj p a h2=>?_) (λj p a h2=>?_)
 ·unfold tU F1;rw[bL om,bL om]
 ·have:=(R.to j p a h2).fx f
  unfold F1
  by_cases e:j=i
  ·subst e
   rw[bX]
   show Slot _ _ _ (if p=q then some y else (τ j).to p)
   by_cases c:p=q
   ·subst c;rw[bL om,bJ rfl,bJ rfl];exact PV.fx t f
   ·rw[bL om,bL om,bL c];exact this
  ·rw[bL om,bL om,dV _ _ e];exact this
 ·have:=(R.iv j p a h2).fx f
  unfold F1
  by_cases e:j=i
  ·subst e
   rw[bX]
   show Slot _ _ _ ((if p=q then some y else (τ j).to p).map cY)
   by_cases c:p=q
   ·subst c;rw[bJ rfl,bJ rfl];exact PV.fx o f
   ·rw[bL om,bL om,bL c];exact this
  ·rw[bL om,bL om,dV _ _ e];exact this
 ·rw[(b j).1]
  have:=R.tr j p a h2
  unfold F1;rw[bL om,bL om];exact this
end
theorem DV {l:List Nat}(nd:l.Nodup){k:Nat}(a:k<l.length):l.getD k 0∉l.take k:=by
 intro h;obtain⟨m,b,e⟩:=wV.1 h;have c:m<k:=by simp at b;omega
 rw[List.getElem_take,cL a] at e;have d:=nd.idxOf_getElem m om;have f:=nd.idxOf_getElem k a;rw[e] at d;omega
theorem ahF {n i:Nat}{τ b:pG}{y s u z:List Nat}{q k:Nat}(c:CI n i τ)(K:i+1<n)(t:(τ i).to q=some y)(F:(τ i).tr q=k)(g:(τ i).gens[k]? =some s)(w:(τ i).to ((aX y s).getD i 0)=some u)
  (A:z=aX (aX y s) (cY u)) (a:Jb n (i+1) z (vE τ i ((τ i).tick q)) b):CI n i b/\b i=(τ i).tick q/\ ∀j,j<i->b j=τ j:=by
 have v:b i=(τ i).tick q:=(a.low i om).trans (bX ..)
 have f: ∀j,j<i->b j=τ j:=λj o=>(a.low j om).trans (dV _ _ om)
 have G:Jb n (i+1) z τ (vE b i (τ i)):=by
  have x: ∀j,i<j->vE τ i ((τ i).tick q) j=τ j:=λj o=>dV _ _ om
  have d: ∀j,i<j->vE b i (τ i) j=b j:=λj o=>dV _ _ om
  refine⟨λj o=>?_,a.tw.congr λj L _=>(d j om).symm,λs g=>?_,λs g=>?_,?_⟩
  ·by_cases e:j=i
   ·subst e;exact bX ..
   ·rw[dV _ _ e];exact f j om
  ·rw[d _ om];exact a.old s (by rw[x _ om];exact g)
  ·rw[d _ om] at g
   have:=a.new s g;rwa [x _ om] at this
  ·rw[d _ om];exact a.has
 have l:s∈(τ i).gens:=EV g
 obtain⟨_,_,r⟩:=c.Qh om t l w
 obtain⟨J,p⟩:=c.added K G (by rw[A];exact r)
 have m:vE b i (τ i) i=τ i:=bX ..
 have B:=J.tick (q:=q) (k:=k) (y:=y) (s:=s) (u:=u) (by rw[m];exact t) (by rw[m];exact F) (by rw[m];exact g) (by rw[m];exact w) (by rw[←A];exact p)
 have e:vE (vE b i (τ i)) i ((vE b i (τ i) i).tick q)=b:=by
  funext j
  by_cases h:j=i
  ·subst h;rw[bX,bX,v]
  ·rw[dV _ _ h,dV _ _ h]
 rw[e] at B
 exact⟨B,v,f⟩
theorem cQ.lens {h:H}{v:V}{ws:List V}{b n:Nat}(o:cQ h v 1 ws b)(a:ws.length=n):bF v=some (aC n):=by
 unfold bF;rw[o.sv.len (n:=n) om om];rfl
theorem IT {F:Nat->V}{k c:Nat}{v:V}(h:c≠k):F1 F k v c=F c:=bL h
theorem Jg {N k:Nat}{F:Nat->V}(b:k<N)(a:H)(L:Nat)(v:V):dR (some (.cells false (rc N F))) a L k [v]=some (a.set L (some (.cells false (rc N (F1 F k v))))):=by
 rw[bP (by rw[jE];exact b),kX];rfl
def adU (h:H)(n tid L:Nat)(F:Nat->V)(τ:pG)(i:Nat)(x:List Nat):V->H->Prop:=λ_ h'=> ∃F' τ',rV h' n tid L F' τ'/\Jb n i x τ τ'/\Fx (WT n L F) h h'/\ ∀id,id<h.next->WT n L F' id->WT n L F id
def LY (h:H)(n tid L:Nat)(F:Nat->V)(τ:pG)(i:Nat):V->H->Prop:=λ_ h'=> ∃F' τ',rV h' n tid L F' τ'/\oT n i τ'/\(∀j,j<i->τ' j=τ j)/\(τ' i).gens=(τ i).gens/\Fx (WT n L F) h h'/\ ∀id,id<h.next->WT n L F' id->WT n L F id
def abQ (n i:Nat):Prop:= ∀(h:H) (tid L:Nat) (F:Nat->V) (τ:pG) (vx:V) (x:List Nat),rV h n tid L F τ->PV (WT n L F) h vx x->bC n x->Fix i x->oT n i τ->Ev T 193 [.ptr tid 0,vx,aC i] h (adU h n tid L F τ i x)
def Vh (n i:Nat):Prop:= ∀(h:H) (tid L:Nat) (F:Nat->V) (τ:pG),rV h n tid L F τ->CI n i τ->Ev T 230 [.ptr tid 0,aC i] h (LY h n tid L F τ i)
structure ClS (h:H)(n tid L:Nat)(F:Nat->V)(τ:pG)(i:Nat)(h':H)(F':Nat->V)(τ':pG)(k:Nat):Prop where
 R:rV h' n tid L F' τ'
 c:CI n i τ'
 hk:k<=(τ' i).orb.length
 done: ∀r∈(τ' i).orb.take k,(τ' i).tr r=(τ' i).gens.length
 low: ∀j,j<i->τ' j=τ j
 gens:(τ' i).gens=(τ i).gens
 fx:Fx (WT n L F) h h'
 wt: ∀id,id<h.next->WT n L F' id->WT n L F id
theorem abH {n j:Nat}{l:Lv}(V:SQ n j l)(a:j<n):l.orb.length<=n:=by
 have:=List.Nodup.length_le_of_subset V.nd (l₂:=List.range n) λx b=>Lk.2 (V.lt a b)
 simpa using this
theorem Wb (n i:Nat)(hn:n<=7)(hi:i<n)(A:i+1<n->abQ n (i+1)):Vh n i:=by
 intro h Q L F τ R c;refine cT rX rfl ?_;have cl:h.cell Q 1=some (.sl L 0 n (.kn n)):=by rw[H.aF R.t];rfl
 simp(disch:=omega)only[go_sem,rX,aD,cl];refine aI (λm N hh=> ∃(k:Nat) (F':Nat->V) (a0:pG),(∃g:Nat->V,N= [.ptr Q 0,aC i,.ptr L (i*194),aC k,g 4,g 5,g 6,g 7,g 8,g 9,g 10,g 11])/\ClS h n Q L F τ i hh F' a0 k/\m=n-k) n
  ⟨0,F,τ,aB rfl,⟨R,c,fR _,λr d=>by simp at d,λ_ _=>rfl,rfl,Fx.refl _ h,λ_ _ h=>h⟩,rfl⟩ ?_
 rintro m N G ⟨k,a9,o,⟨g,rfl⟩,S,rfl⟩;have co:G.cell L (i*194+1)=some (a9 (i*194+1)):=S.R.cell hi om;have oo:=S.R.orb i hi;have lo:=cQ.lens oo (by rw[aP,aN]);have d1:=abH S.c.jO hi;simp(disch:=omega)only[go_sem,co,lo]
 by_cases a1:(k:Int)<((o i).orb.length:Int)
 case neg=>
  rw[bE a1];simp(disch:=omega)only[go_sem];refine⟨a9,o,S.R,S.c.full λq hq=>S.done q ?_,S.low,S.gens,S.fx,S.wt⟩;rw[Lq om];exact hq
 rw[bN a1];have b:k<(o i).orb.length:=om
 obtain⟨id,e5,sh,d2,hc⟩:=(show SI G (a9 (i*194+1)) (zi (o i).orb) from oo.sv).open;rw[aN] at sh d2 hc;obtain⟨q,hq⟩:=exI ((o i).orb.getD k 0);have ck:G.cell id (e5+k)=some (aC q):=by rw[hc k b];congr 2;simp [zi,b,←hq]
 simp(disch:=omega)only[go_sem,co,sh.ixa,ck];have b4:q∈(o i).orb:=by rw[←hq,cL b];exact Bu b
 have e9:q<n:=S.c.jO.lt hi b4;clear sh d2 hc ck co lo oo d1 b4
 refine aI (λm N hh=> ∃(F':Nat->V) (a0:pG),(∃g:Nat->V,N= [.ptr Q 0,aC i,.ptr L (i*194),aC k,aC q,g 5,g 6,g 7,g 8,g 9,g 10,g 11])/\ClS h n Q L F τ i hh F' a0 k/\
   k<(a0 i).orb.length/\(a0 i).orb.getD k 0=q/\m=(a0 i).gens.length-(a0 i).tr q) ((o i).gens.length-(o i).tr q)
  ⟨a9,o,aB rfl,S,b,hq,rfl⟩ ?_
 clear a1 b hq S o a9;rintro m N K ⟨F2,a,⟨g2,rfl⟩,S,b,hq,rfl⟩;have R2:=S.R;have jO:=S.c.jO;have b4:q∈(a i).orb:=by rw[←hq,cL b];exact Bu b
 obtain⟨y,hy⟩:=jO.to b4;have Y:=jO.cX _ _ hy;have b6:K.cell L (i*194+130+q)=some (aC ((a i).tr q:Nat)):=by rw[R2.Ub hi om,R2.tr i q hi om]
 have cg:K.cell L (i*194)=some (F2 (i*194)):=by
  have:=R2.cell (c:=0) hi om;rwa [Nat.add_zero] at this
 obtain⟨vs,og,a5⟩:=R2.gens i hi;have lg:=cQ.lens og (aM.length a5);have d1:=abH jO hi;simp(disch:=omega)only[go_sem,b6,cg,lg]
 by_cases a1:(((a i).tr q:Nat):Int)<((a i).gens.length:Int)
 case neg=>
  rw[bE a1];simp(disch:=omega)only[go_sem];rw[dU k];have fb:Fr K (H.mk K.tr (K.next+12)):=(Fr.refl K).bH om;have e8:=jO.le q;refine⟨n-(k+1),om,k+1,F2,a,aB rfl,⟨R2.mono fb,S.c,b,λr d=>?_,S.low,S.gens,⟨lX S.fx.next fb.next,S.fx.get⟩,S.wt⟩,rfl⟩;rw[List.take_add_one,dF b,←cL b,hq] at d;rcases kT.1 d with d|d
  ·exact S.done r d
  ·simp at d;subst d;omega
 rw[bN a1];obtain⟨t,ht⟩:=exI ((a i).tr q);rw[ht] at a1 b6;have f0:(a i).gens.length<=1000000:=lX jO.many (lX (Nat.pow_le_pow_left hn n) (lX (Nat.pow_le_pow_right om hn) (by decide)));obtain⟨d8,d3,c8,c5,d4⟩:=og.sv.shape (a i).gens.length (by have:=aM.length a5;omega) om;obtain⟨vS,c7,pS⟩:=a5.at (i:=t) om;obtain⟨s,hs⟩:=exI ((a i).gens.getD t []);rw[hs] at pS
 have a4:(a i).gens[t]? =some s:=by
  rw[←hs,List.getD,dF om];rfl
 have Sp:=jO.gP s (EV a4);have cS:K.cell d8 (d3+t)=some vS:=by rw[d4 t (by have:=aM.length a5;omega)];exact c7
 have pT:PV (WT n L F2) K (F2 (i*194+2+q)) y:=by
  have:=R2.to i q hi om;rw[hy] at this;exact this
 have hN:i*194+194<=n*194:=om
 simp(disch:=omega)only[go_sem,b6,cg,lg,c8.ixa,cS,R2.l,Jg,Je,IT];have fb:Fr K (H.mk K.tr (K.next+12+13+11)):=(Fr.refl K).bH om
 obtain⟨h3,b9⟩: ∃h3,h3=(H.mk K.tr (K.next+12+13+11)).set L (some (.cells false (rc (n*194) (F1 F2 (i*194+130+q) (aC ((t:Int)+1)))))):=⟨_,rfl⟩
 rw[←b9];obtain⟨R3,f3,w3⟩:=(R2.mono fb).tick hi (q:=q) om (z:=(t:Int)+1) (by rw[ht]) b9;have c0:=(Fx.of (W:=WT n L F2) fb).trans f3 (λ_ _ h=>h);have c2:=PV.go pT c0 (λid _ h=>(w3 id).1 h);have d0:=PV.go pS c0 (λid _ h=>(w3 id).1 h);generalize F2 (i*194+2+q)=vt at pT c2;clear b9 pT pS b6 cg lg c8 c5 d4 cS c7 a5 og
 obtain⟨x,e4⟩: ∃x,x=F1 F2 (i*194+130+q) (aC ((t:Int)+1)):=⟨_,rfl⟩
 rw[←e4] at R3 w3 c2 d0
 obtain⟨J,w⟩: ∃J,J=vE a i ((a i).tick q):=⟨_,rfl⟩
 rw[←w] at R3;have e3:J i=(a i).tick q:=by rw[w];exact bX ..
 refine (mL mW.ok vt vS y s h3 (by rw[Y.len];omega) c2.si d0.si (λj hj=>by rw[Sp.len];exact Y.gW (by rw[←Y.len];exact hj))).mono ?_;rintro v O nw;have P:=Y.mul Sp;obtain⟨p,hp⟩:=exI ((aX y s).getD i 0);have f1:p<n:=by rw[←hp];exact P.gW hi
 have R4:=R3.mono nw.fr;have pv:=nw.pv (W:=WT n L x) (λB=>by have:=R3.Nl B;omega)
 have cp:O.cell h3.next i=some (aC p):=by
  rw[H.aF nw.get,Iq (by rw[P.len];exact hi),hp]
 have d9:O.cell L (i*194+2+p)=some (x (i*194+2+p)):=R4.Ub hi om;have f:=R4.to i p hi om;have ev:=nw.val;rw[P.len] at ev;have f4:Fx (WT n L F2) K O:=c0.trans (Fx.of (W:=WT n L F2) nw.fr) (λ_ _ h=>h);simp(disch:=omega)only[go_sem,ev,cp,d9];rw[←ev];have a3: ∀r∈(a i).orb.take k,r≠q:=λr d e=>DV jO.nd b (by rw[hq,←e];exact d)
 cases hpo:(a i).to p with
 |none=>
  have b0:x (i*194+2+p)= .aE:=by
   rw[e3] at f;have f:Slot _ _ _ ((a i).to p):=f;rw[hpo] at f;exact f
  simp(disch:=omega)only[go_sem,b0];refine (Bw zT.ok v n (aX y s) (H.mk O.tr (O.next+15)) om P (pv.mono ((Fr.refl O).bH om)).si).mono ?_;rintro vu h5 nu;have f5:Fr O h5:=((Fr.refl O).bH om:Fr O (H.mk O.tr (O.next+15))).trans nu.fr;have R5:=R4.mono f5;have c1:=pv.mono f5;have c3:=nu.pv (W:=WT n L x) (λB=>by have:=R4.Nl B;simp at this;omega);simp(disch:=omega)only[go_sem,R5.l,kL c1.dP.1 c1.dP.2,kL c3.dP.1 c3.dP.2,Jg,Je,IT]
  obtain⟨F6,c4⟩: ∃F6,F6=F1 (F1 x (i*194+2+p) v) (i*194+66+p) vu:=⟨_,rfl⟩
  obtain⟨h6,b2⟩: ∃h6,h6=(h5.set L (some (Ob.cells false (rc (n*194) (F1 x (i*194+2+p) v))))).set L (some (Ob.cells false (rc (n*194) (F1 (F1 x (i*194+2+p) v) (i*194+66+p) vu)))):=⟨_,rfl⟩
  rw[←b2];obtain⟨R6,f6,w6⟩:=R5.way hi (q:=p) om c1 c3 (h3:=h6) (by rw[b2];exact eH _) (λid G _=>by rw[b2,H.aH _ G,H.aH _ G]) (by rw[b2,H.aS]);have eO:x (i*194+1)=F6 (i*194+1):=by rw[c4,IT om,IT om]
  rw[←c4] at R6 w6
  obtain⟨a2,a7⟩: ∃a2,a2=vE J i {J i with to:=λr=>if r=p then some (aX y s) else (J i).to r}:=⟨_,rfl⟩
  rw[←a7] at R6;have e6:a2 i={J i with to:=λr=>if r=p then some (aX y s) else (J i).to r}:=by rw[a7];exact bX ..
  have b1:(a2 i).orb=(a i).orb:=by rw[e6,e3];rfl
  simp(disch:=omega)only[go_sem,bZ h6 (z:= aC 0) (v:= aC p) rfl rfl,eO]
  obtain⟨h7,b3⟩: ∃h7,h7=h6.new (.cells false [aC p]):=⟨_,rfl⟩
  have f7:Fr h6 h7:=by rw[b3];exact (Fr.refl h6).new _
  have n7:h7.next=h6.next+1:=by rw[b3];exact H.aU ..
  have g7:h7.get h6.next=some (.cells false [aC p]):=by rw[b3];exact H.aL ..
  rw[←b3];have R7:=R6.mono f7;have o7:=R7.orb i hi;rw[b1] at o7;obtain⟨h8,a8,p8⟩:=o7.push (bytes:=8) (SV.one om g7 (.kn 1)) (n:=(a i).orb.length) (m:=1) (by rw[aP,aN,uH]) rfl om om om
  have gL:h8.get L=some (.cells false (rc (n*194) F6)):=by
   rw[p8.old L (by have:=R7.ln;omega) (by have:=R7.ap (2*i+1) om;rw[Kv] at this;exact this)];exact R7.l
  simp(disch:=omega)only[go_sem,a8,gL,Jg]
  obtain⟨h9,d5⟩: ∃h9,h9=h8.set L (some (.cells false (rc (n*194) (F1 F6 (i*194+1) (.sl h7.next 0 ((a i).orb.length+1) (.un 1)))))):=⟨_,rfl⟩
  rw[←d5];obtain⟨R9,f9,w9⟩:=R7.TU hi (q:=p) (by rw[b1];exact p8) (.inl rfl) (by rw[b1]) d5;rw[b1] at R9
  have eT:vE a2 i {a2 i with orb:=(a i).orb++ [p]}=vE a i (((a i).tick q).reach p (aX y s)):=by
   funext j
   by_cases e:j=i
   ·subst e
    rw[bX,bX,e6,e3];rfl
   ·rw[dV _ _ e,dV _ _ e,a7,dV _ _ e,w,dV _ _ e]
  rw[eT] at R9;have c9:=S.c.found hi hy ht a4 hp hpo;have ei:vE a i (((a i).tick q).reach p (aX y s)) i=((a i).tick q).reach p (aX y s):=bX ..
  have W9: ∀id,id<K.next->WT n L (F1 F6 (i*194+1) (.sl h7.next 0 ((a i).orb.length+1) (.un 1))) id->WT n L F2 id:=λid G B=>
   (w3 id).1 ((w6 id).1 (w9 id (by have:=f4.next;have:=f5.next;have:=f6.next;have:=f7.next;omega) B))
  have b5:WT n L x=WT n L F2:=funext λid=>propext (w3 id)
  have e7:WT n L F6=WT n L F2:=(funext λid=>propext (w6 id)).trans b5;rw[b5] at f6;rw[e7] at f9;have d7:Fx (WT n L F2) K h9:=f4.trans ((Fx.of f5).trans (f6.trans ((Fx.of f7).trans f9 (λ_ _ h=>h)) (λ_ _ h=>h)) (λ_ _ h=>h)) (λ_ _ h=>h);refine⟨(a i).gens.length-(t+1),om,_,_,aB rfl,⟨R9,c9,?_,?_,λj hj=>(dV _ _ om).trans (S.low j hj),?_,S.fx.trans d7 λid G B=>S.wt id G B,λid G B=>S.wt id G (W9 id (by have:=S.fx.next;omega) B)⟩,?_,?_,?_⟩
  all_goals rw[ei]
  ·show k<=((a i).orb++ [p]).length
   rw[iA];omega
  ·intro r d
   have d:r∈((a i).orb++ [p]).take k:=d;rw[List.take_append_of_le_length om] at d;show (if r=q then (a i).tr q+1 else (a i).tr r)=(a i).gens.length;rw[bL (a3 r d)];exact S.done r d
  ·exact S.gens
  ·show k<((a i).orb++ [p]).length
   rw[iA];omega
  ·show ((a i).orb++ [p]).getD k 0=q
   rw[←hq,List.getD,List.getD,Ej b]
  ·show _=(a i).gens.length-(if q=q then (a i).tr q+1 else (a i).tr q)
   rw[bJ rfl,ht]
 |some u=>
  have U:=jO.cX _ _ hpo
  have b0:PV (WT n L x) O (x (i*194+2+p)) u:=by
   rw[e3] at f;have f:Slot _ _ _ ((a i).to p):=f;rw[hpo] at f;exact f
  have sn:=Ie b0 (bC.ne om U) false;have ct:O.cell Q 0=some (aC n):=by rw[H.aF R4.t];rfl
  have d6:O.cell L (i*194+66+p)=some (x (i*194+66+p)):=R4.Ub hi om
  have e2:PV (WT n L x) O (x (i*194+66+p)) (cY u):=by
   have:=R4.iv i p hi om;rw[e3] at this;have this:Slot _ _ _ (((a i).to p).map cY):=this;rw[hpo] at this;exact this
  simp(disch:=omega)only[go_sem,sn,ct]
  by_cases b8:(i:Int)+1<(n:Int)
  ·rw[bN b8]
   simp(disch:=omega)only[go_sem,d6];refine (mL mW.ok v _ (aX y s) (cY u) O (by rw[P.len];omega) pv.si e2.si (λj hj=>by rw[iR,U.len];exact P.gW (by rw[←P.len];exact hj))).mono ?_;rintro v2 h5 nu;have R5:=R4.mono nu.fr;have Z:=P.mul U.inv;have pz:=nu.pv (W:=WT n L x) (λB=>by have:=R4.Nl B;omega);obtain⟨_,b7,_⟩:=S.c.Qh hi hy (EV a4) (by rw[hp];exact hpo);simp(disch:=omega)only[go_sem];rw[dU i];refine (A om h5 Q L x J v2 _ R5 pz Z b7 ?_).mono ?_
   ·rw[w];exact S.c.up.ahK om
   rintro vv h6 ⟨F6,a2,R6,a6,f6,w6⟩;rw[w] at a6;obtain⟨c6,e6,l6⟩:=ahF S.c om hy ht a4 (by rw[hp];exact hpo) rfl a6;have b5:WT n L x=WT n L F2:=funext λid=>propext (w3 id)
   rw[b5] at f6 w6;have e0:Fx (WT n L F2) K h6:=f4.trans ((Fx.of nu.fr).trans f6 (λ_ _ h=>h)) (λ_ _ h=>h);simp(disch:=omega)only[go_sem];refine⟨(a i).gens.length-(t+1),om,_,_,aB rfl,⟨R6,c6,?_,?_,λj hj=>(l6 j hj).trans (S.low j hj),?_,S.fx.trans e0 λid G B=>S.wt id G B,λid G B=>S.wt id G (w6 id (by have:=S.fx.next;have:=f4.next;have:=nu.fr.next;omega) B)⟩,?_,?_,?_⟩
   all_goals rw[e6]
   ·exact Nat.le_of_lt b
   ·intro r d
    have d:r∈(a i).orb.take k:=d;show (if r=q then (a i).tr q+1 else (a i).tr r)=(a i).gens.length;rw[bL (a3 r d)];exact S.done r d
   ·exact S.gens
   ·exact b
   ·exact hq
   ·show _=(a i).gens.length-(if q=q then (a i).tr q+1 else (a i).tr q)
    rw[bJ rfl,ht]
  ·rw[bE b8]
   obtain⟨e1,b7,_⟩:=S.c.Qh hi hy (EV a4) (by rw[hp];exact hpo);have en:i+1=n:=om
   have c6:=S.c.tick hy ht a4 (by rw[hp];exact hpo) (by
    rw[en];rw[en] at b7
    exact vC.2 (b7.all e1))
   simp(disch:=omega)only[go_sem];rw[w] at R4;have e6:vE a i ((a i).tick q) i=(a i).tick q:=bX ..;refine⟨(a i).gens.length-(t+1),om,_,_,aB rfl,⟨R4,c6,?_,?_,λj hj=>(dV _ _ om).trans (S.low j hj),?_,S.fx.trans f4 λid G B=>S.wt id G B,λid G B=>S.wt id G ((w3 id).1 B)⟩,?_,?_,?_⟩
   all_goals rw[e6]
   ·exact Nat.le_of_lt b
   ·intro r d
    have d:r∈(a i).orb.take k:=d;show (if r=q then (a i).tr q+1 else (a i).tr r)=(a i).gens.length;rw[bL (a3 r d)];exact S.done r d
   ·exact S.gens
   ·exact b
   ·exact hq
   ·show _=(a i).gens.length-(if q=q then (a i).tr q+1 else (a i).tr q)
    rw[bJ rfl,ht]
def zF (τ:pG)(i m:Nat)(r:List Nat):pG:=λj=>if i<=j/\j<m then (τ j).more r else τ j
theorem CN (τ:pG)(i:Nat)(r:List Nat):zF τ i i r=τ:=by
 funext j;unfold zF;rw[bL om]
theorem DL (τ:pG){i m:Nat}(r:List Nat)(h:i<=m):vE (zF τ i m r) m ((zF τ i m r m).more r)=zF τ i (m+1) r:=by
 funext j
 by_cases e:j=m
 ·subst e
  rw[bX];unfold zF;rw[bL om,bJ om]
 ·rw[dV _ _ e]
  unfold zF
  by_cases a:i<=j/\j<m
  ·rw[bJ a,bJ om]
  ·rw[bL a,bL om]
theorem CW (τ:pG)(i k:Nat)(r:List Nat):zF τ i (k+1) r=push τ i k r:=by
 funext j;unfold zF push
 by_cases h:i<=j/\j<=k
 ·rw[bJ h,bJ om]
 ·rw[bL h,bL om]
theorem agP (a b c:Nat)(d:pF):dB (.sl a b c d) (.sl a b c d)=true:=by simp [dB]
theorem Ul (n b:Nat)(hn:n<=7)(hi:b<n)(C: ∀j,b<=j->j<n->Vh n j):abQ n b:=by
 intro h a L F τ vx x R hx X Fi t;refine cT uL rfl ?_;simp(disch:=omega)only[go_sem,uL,aD];refine (abP h n a L F τ vx x b om om R hx X om t).mono ?_;have N:=VY (n-b) b x om t X Fi;obtain⟨k,hk⟩:=exI ((Zx n τ (n-b) b x).1);obtain⟨r,hr⟩:=exI ((Zx n τ (n-b) b x).2);rw[hk,hr] at N ⊢;rintro _ p ⟨vr,rfl,B,Rr,f1⟩;have R1:=R.mono f1;have ct:p.cell a 0=some (aC n):=by rw[H.aF R1.t];rfl
 simp(disch:=omega)only[go_sem,ct]
 by_cases a1:(k:Int)=(n:Int)
 ·rw[bN a1]
  have e:k=n:=om
  subst e;simp(disch:=omega)only[go_sem];exact⟨F,τ,R1,Jb.none t hi (N.in t hi),Fx.of f1,λ_ _ h=>h⟩
 rw[bE a1];have o:k<n:=by have:=N.le;omega
 have a9:=N.ge;simp(disch:=omega)only[go_sem]
 refine aI (λw d O=> ∃(m:Nat) (P:Nat->V),(∃g:Nat->V,d= [.ptr a 0,g 1,aC b,aC k,vr,aC m,g 6,g 7,g 8,g 9])/\b<=m/\m<=k+1/\rV O n a L P (zF τ b m r)/\PV (WT n L P) O vr r/\
   Fx (WT n L F) h O/\(∀id,id<h.next->WT n L P id->WT n L F id)/\w=k+1-m) (k+1-b)
  ⟨b,F,aB rfl,eH _,om,by rw[CN];exact R1,B,Fx.of f1,λ_ _ h=>h,rfl⟩ ?_
 clear R1 ct B f1;rintro w d i ⟨m,F2,⟨g,rfl⟩,v,Q,A,B,f2,w2,rfl⟩;simp(disch:=omega)only[go_sem]
 by_cases f:(m:Int)<=(k:Int)
 ·rw[bN f]
  have y:m<n:=om
  have cl:i.cell a 1=some (.sl L 0 n (.kn n)):=by rw[H.aF A.t];rfl
  have cg:i.cell L (m*194)=some (F2 (m*194)):=by
   have:=A.cell (c:=0) y om;rwa [Nat.add_zero] at this
  have z:zF τ b m r m=τ m:=by unfold zF;rw[bL om]
  have ln:=A.ln;have tn:=A.tn;simp(disch:=omega)only[go_sem,cl,cg,bZ _ B.dP.1 B.dP.2]
  obtain⟨u,q⟩: ∃u:H,u=H.mk ((H.mk i.tr (i.next+14)).new (Ob.cells false [vr])).tr (i.next+19):=⟨_,rfl⟩
  rw[←q];have g3:u.get (i.next+14)=aY [vr]:=by rw[q];exact H.aL (H.mk i.tr (i.next+14)) _
  have n3:u.next=i.next+19:=by rw[q]
  have J:Fr i u:=⟨om,λid a8=>by rw[q];exact H.bD (H.mk i.tr (i.next+14)) (by simp;omega) _⟩
  have s:=A.mono J;have U:=B.mono J;obtain⟨vs,o3,K⟩:=s.gens m y;rw[z] at K;have jO:=(t m v y).1;have b0:(τ m).gens.length<=1000000:=lX jO.many (lX (Nat.pow_le_pow_left hn n) (lX (Nat.pow_le_pow_right om hn) (by decide)));obtain⟨Z,a4,p4⟩:=o3.push (bytes:=24) (SV.one om g3 (.kn 1)) (n:=(τ m).gens.length) (m:=1) (by have:=aM.length K;omega) rfl om om om;have gt:Z.get a=u.get a:=p4.old a om (λid a6 nn c e e2=>s.tw (.inr ⟨2*m,om,a6,nn,c,by rw[Gg,e2];exact e⟩))
  have gL:Z.get L=aY (rc (n*194) F2):=by
   rw[p4.old L om (by have:=s.ap (2*m) om;rw[Gg] at this;exact this)];exact s.l
  have a7:Z.cell a 1=some (.sl L 0 n (.kn n)):=by unfold H.cell;rw[gt,s.t];rfl
  have hN:m*194+194<=n*194:=om
  simp(disch:=omega)only[go_sem,a4,a7,agP,gL,Jg]
  obtain⟨h5,a3⟩: ∃h5,h5=Z.set L (aY (rc (n*194) (F1 F2 (m*194) (.sl u.next 0 ((τ m).gens.length+1) (.un 1))))):=⟨_,rfl⟩
  rw[←a3];obtain⟨R5,f5,w5⟩:=s.more y (by rw[z];exact K) U (by rw[z];exact p4) (by rw[z]) a3;rw[DL τ r v] at R5;rw[dU m];refine⟨k+1-(m+1),om,m+1,_,aB rfl,om,om,R5,PV.go U f5 w5,f2.trans ((Fx.of (W:=WT n L F2) J).trans f5 (λ_ _ h=>h)) (λid p G=>w2 id p G),λid p G=>w2 id p (w5 id (by have:=f2.next;omega) G),rfl⟩
 rw[bE f];have z:m=k+1:=om
 subst z;rw[CW] at A;simp(disch:=omega)only[go_sem];have a2:=Oh.start N t o
 refine aI (λw d O=> ∃(m:Nat) (P:Nat->V) (Y:pG),(∃g:Nat->V,d= [.ptr a 0,g 1,aC b,g 3,g 4,g 5,aC ((m:Int)- 1),g 7,g 8,g 9])/\b<=m/\m<=k+1/\rV O n a L P Y/\Oh n b k r τ Y m/\
   Fx (WT n L F) h O/\(∀id,id<h.next->WT n L P id->WT n L F id)/\w=m) (k+1)
  ⟨k+1,F2,_,aB (by rw[show ((k+1:Nat):Int)- 1=(k:Int) from om];rfl),om,om,A,a2,f2,w2,rfl⟩ ?_
 clear A a2 f2 w2 B f v Q;rintro w d u ⟨m,F3,a0,⟨g3,rfl⟩,v,Q,s,AI,J,w3,hm⟩;subst hm;simp(disch:=omega)only[go_sem]
 by_cases f:(b:Int)<=(w:Int)- 1
 ·rw[bN f]
  obtain⟨j,rfl⟩: ∃j,w=j+1:=⟨w- 1,om⟩
  have ci:=AI.ci N t o om om;simp(disch:=omega)only[go_sem];rw[show ((j+1:Nat):Int)- 1=(j:Int) from om];refine (C j om om u a L F3 a0 s ci).mono ?_;rintro _ Z ⟨F4,a5,R4,t4,l4,g4,f4,w4⟩;simp(disch:=omega)only[go_sem];refine⟨j,om,j,F4,a5,aB rfl,om,om,R4,AI.next om om l4 g4 t4,J.trans f4 (λid p G=>w3 id p G),λid p G=>w3 id p (w4 id (by have:=J.next;omega) G),rfl⟩
 rw[bE f];have z:w=b:=om
 rw[z] at AI;simp(disch:=omega)only[go_sem];exact⟨F3,a0,s,AI.done N t X o,J,w3⟩
theorem Vr (n:Nat)(b:n<=7): ∀d i,i+d=n->(i<n->abQ n i)/\(i<n->Vh n i)
 |0,i,h=>⟨λa=>om,λa=>om⟩
 |d+1,i,h=>by
  have f:=Vr n b d (i+1) om
  have c: ∀j,i<=j->j<n->Vh n j:=λj k a=>by
   by_cases e:j=i
   ·subst e;exact Wb n j b a λg=>f.1 g
   ·exact (Vr n b (n-j) j om).2 a
  exact⟨λa=>Ul n i b a c,λa=>c i (eH _) a⟩
termination_by d=>d
theorem afC (n:Nat)(a:n<=7)(b:0<n):abQ n 0:=(Vr n a n 0 om).1 b
end Go.Proofs.YtcdbmkidaecdiaaGreat
namespace Go.Pm
set_option maxRecDepth 100000
section
variable {x y:List Nat} {R:QC}
def Lt (x y:List Nat):Prop:= ∃k,k<x.length/\(∀j,j<k->x.getD j 0=y.getD j 0)/\x.getD k 0<y.getD k 0
def Le (x y:List Nat):Prop:=x=y∨Lt x y
theorem Lt.asymm (a:Lt x y)(b:Lt y x):False:=by
 obtain⟨k,_,c,e⟩:=a;obtain⟨m,_,d,f⟩:=b;rcases Nat.lt_trichotomy k m with h|h|h
 ·have:=d k h;omega
 ·subst h;omega
 ·have:=c m h;omega
theorem Le.antisymm (a:Le x y)(b:Le y x):x=y:=by
 rcases a with a|a
 ·exact a
 ·rcases b with b|b
  ·exact b.symm
  ·exact (a.asymm b).elim
def oH (x:List Nat):Nat->List Nat->Nat
 |b, []=>b
 |b,q::l=>oH x (if x.getD q 0<x.getD b 0 then q else b) l
theorem HH (x:List Nat): ∀(l:List Nat) (b:Nat),oH x b l∈b::l/\ ∀q∈b::l,x.getD (oH x b l) 0<=x.getD q 0
 | [],b=>⟨by simp [oH],λq d=>by simp at d;subst d;exact Nat.le_refl _⟩
 |q::l,b=>by
  have c:=HH x l (if x.getD q 0<x.getD b 0 then q else b);unfold oH;refine⟨?_,λr a=>?_⟩
  ·rcases List.mem_cons.1 c.1 with h|h
   ·rw[h];split<;>simp
   ·exact List.mem_cons_of_mem _ (List.mem_cons_of_mem _ h)
  ·have e:=c.2 _ (List.mem_cons_self ..)
   rcases List.mem_cons.1 a with rfl|a
   ·split at e<;>(split<;>omega)
   ·rcases List.mem_cons.1 a with rfl|a
    ·split at e<;>(split<;>omega)
    ·exact c.2 r (List.mem_cons_of_mem _ a)
def Ki (τ:pG):Nat->Nat->List Nat->List Nat
 |0,_,x=>x
 |d+1,k,x=>Ki τ d (k+1) (if oH x k (τ k).orb=k then x else aX (((τ k).to (oH x k (τ k).orb)).getD []) x)
section
variable {n:Nat} {τ:pG} {G:List Nat->Prop}
theorem WW: ∀(d k:Nat) (x:List Nat),k+d=n->oT n k τ->bC n x-> ∃h,S n τ k h/\Ki τ d k x=aX h x/\ ∀g,S n τ k g->Le (Ki τ d k x) (aX g x)
 |0,k,x,h,_,X=>by
  obtain rfl:k=n:=oq
  refine⟨bT k,vC.2 rfl,(eD X).symm,λg f=> .inl ?_⟩;rw[vC] at f;subst f;exact (eD X).symm
 |d+1,k,x,h,t,X=>by
  have a:k<n:=oq
  have L:=(t k (Nat.le_refl _) a).1;have l:=t.mono (Nat.le_succ k);obtain⟨N,J⟩:=HH x (τ k).orb k
  have A:oH x k (τ k).orb∈(τ k).orb:=by
   rcases List.mem_cons.1 N with h|h
   ·rw[h];exact L.base
   ·exact h
  obtain⟨y,c⟩:=L.to A;have Y:=L.cX _ y c
  have z:(if oH x k (τ k).orb=k then x else aX (((τ k).to (oH x k (τ k).orb)).getD []) x)=aX y x:=by
   split
   ·rename_i e
    rw[e,L.one] at c;cases c;exact (eD X).symm
   ·rw[c];rfl
  unfold Ki;rw[z];obtain⟨g,f,e,r⟩:=WW d (k+1) (aX y x) oq l (Y.mul X);have i:=l.cX a f;have s:S n τ k (aX g y):=(pY a).2 ⟨_,y,g,c,f,rfl⟩;refine⟨aX g y,s,by rw[e,aV i Y X],λu p=>?_⟩;have U:=t.cX oq p;obtain⟨v,m,w⟩:=t.sift a p;have b:=L.mem m;have V:=L.cX _ v m;have F:(aX u x).getD k 0=x.getD (u.getD k 0) 0:=cM (by rw[U.len];exact a)
  have K:(aX g (aX y x)).getD k 0=x.getD (oH x k (τ k).orb) 0:=by
   rw[cM (by rw[i.len];exact a),l.fix a f k oq,cM (by rw[Y.len];exact a),L.maps _ y c]
  have O:=J _ (List.mem_cons_of_mem _ b)
  by_cases q:x.getD (oH x k (τ k).orb) 0<x.getD (u.getD k 0) 0
  ·rw[e]
   refine .inr ⟨k,by rw[eV,i.len];exact a,λj B=>?_,by rw[F,K];exact q⟩;rw[cM (by rw[i.len];omega),l.fix a f j oq,cM (by rw[Y.len];omega),L.fix _ y c j B,cM (by rw[U.len];omega),t.fix oq p j B]
  ·have o:oH x k (τ k).orb=u.getD k 0:=X.inj (L.lt a A) (L.lt a b) oq
   rw[←o,c] at m;cases m;have:=r _ w;rwa [aV U Y.inv (Y.mul X),←aV Y.inv Y X,gG Y,eD X] at this
structure BD (n:Nat)(G:List Nat->Prop)(i p:Nat)(x:List Nat):Prop where
 mem:G x
 fix:Fix i x
 maps:x.getD i 0=p
 least: ∀y,G y->Fix i y->y.getD i 0=p->Le x y
theorem BD.uniq {i p:Nat}(a:BD n G i p x)(b:BD n G i p y):x=y:=
 (a.least y b.mem b.fix b.maps).antisymm (b.least x a.mem a.fix a.maps)
structure aZ (n:Nat)(G:List Nat->Prop)(O:zJ)(R:QC):Prop where
 lo:O.length=n
 lr:R.length=n
 asc: ∀i,i<n->(O.getD i []).Pairwise (· < ·)
 mem: ∀i,i<n-> ∀p,p∈O.getD i []↔ ∃x,G x/\Fix i x/\x.getD i 0=p
 rl: ∀i,i<n->(R.getD i []).length=(O.getD i []).length
 rep: ∀i,i<n-> ∀k,k<(O.getD i []).length->BD n G i ((O.getD i []).getD k 0) ((R.getD i []).getD k [])
theorem xC: ∀{a b:List Nat},a.Pairwise (· < ·)->b.Pairwise (· < ·)->(∀p,p∈a↔p∈b)->a=b
 | [], [],_,_,_=>rfl
 | [],y::b,_,_,h=>by have:=(h y).2 (by simp);simp at this
 |x::a, [],_,_,h=>by have:=(h x).1 (by simp);simp at this
 |x::a,y::b,ha,hb,h=>by
  obtain⟨i,k⟩:=List.pairwise_cons.1 ha;obtain⟨j,l⟩:=List.pairwise_cons.1 hb
  have e:x=y:=by
   have c:=(h x).1 (by simp);have f:=(h y).2 (by simp);rcases List.mem_cons.1 c with c|c
   ·exact c
   ·rcases List.mem_cons.1 f with f|f
    ·exact f.symm
    ·have:=j x c;have:=i y f;omega
  subst e;congr 1
  refine xC k l λp=>⟨λd=>?_,λd=>?_⟩
  ·rcases List.mem_cons.1 ((h p).1 (List.mem_cons_of_mem _ d)) with e|g
   ·subst e;have:=i p d;omega
   ·exact g
  ·rcases List.mem_cons.1 ((h p).2 (List.mem_cons_of_mem _ d)) with e|g
   ·subst e;have:=j p d;omega
   ·exact g
theorem Gk {α:Type}{d:α}{a b:List α}(e:a.length=b.length)(h: ∀i,i<a.length->a.getD i d=b.getD i d):a=b:=by
 refine List.ext_getElem e λi c f=>?_
 have:=h i c;simpa [List.getD,c,f] using this
theorem aZ.uniq {O c:zJ}{g:QC}(a:aZ n G O R)(b:aZ n G c g):O=c/\R=g:=by
 have e:O=c:=Gk (d:= []) (by rw[a.lo,b.lo]) λi hi=>by
  rw[a.lo] at hi;exact xC (a.asc i hi) (b.asc i hi) λp=>(a.mem i hi p).trans (b.mem i hi p).symm
 subst e;refine⟨rfl,Gk (d:= []) (by rw[a.lr,b.lr]) λi hi=>?_⟩;rw[a.lr] at hi;refine Gk (d:= []) (by rw[a.rl i hi,b.rl i hi]) λk f=>?_
 rw[a.rl i hi] at f;exact (a.rep i hi k f).uniq (b.rep i hi k f)
theorem aZ.congr {H:List Nat->Prop}{O:zJ}(a:aZ n G O R)(h: ∀x,G x↔H x):aZ n H O R:=by
 have:G=H:=funext λx=>propext (h x)
 exact this▸a
theorem oT.chain (t:oT n 0 τ){O:zJ}(K:O.length=n)(F:R.length=n)
  (l: ∀i,i<n->(O.getD i []).Pairwise (· < ·)) (mem: ∀i,i<n-> ∀p,p∈O.getD i []↔p∈(τ i).orb) (J: ∀i,i<n->(R.getD i []).length=(O.getD i []).length)
  (j: ∀i,i<n-> ∀k,k<(O.getD i []).length-> ∀y,(τ i).to ((O.getD i []).getD k 0)=some y->(R.getD i []).getD k []=Ki τ (n-(i+1)) (i+1) y):aZ n (S n τ 0) O R:=by
 refine⟨K,F,l,λi hi p=>?_,J,λi hi k m=>?_⟩
 ·have L:=(t i (Nat.zero_le _) hi).1
  have c:=t.mono (Nat.zero_le i)
  rw[mem i hi p]
  constructor
  ·intro q
   obtain⟨y,a⟩:=L.to q
   have A:S n τ i y:=(c.gen hi).2 (L.gen p y a)
   have:=(t.AJ (Nat.zero_le i) oq).1 A
   exact⟨y,this.1,this.2,L.maps p y a⟩
  ·rintro⟨x,d,r,rfl⟩
   obtain⟨y,a,_⟩:=c.sift hi ((t.AJ (Nat.zero_le i) oq).2 ⟨d,r⟩)
   exact L.mem a
 ·have L:=(t i (Nat.zero_le _) hi).1
  have c:=t.mono (Nat.zero_le i)
  have o:=t.mono (Nat.zero_le (i+1))
  have q:(O.getD i []).getD k 0∈O.getD i []:=by
   rw[cL m];exact List.getElem_mem m
  obtain⟨y,a⟩:=L.to ((mem i hi _).1 q)
  rw[j i hi k m y a]
  generalize (O.getD i []).getD k 0=p at a
  have Y:=L.cX p y a
  obtain⟨h,f,e,b⟩:=WW (n-(i+1)) (i+1) y oq o Y
  have H:=o.cX hi f
  have g:S n τ i (aX h y):=(pY hi).2 ⟨p,y,h,a,f,rfl⟩
  have u:=(t.AJ (Nat.zero_le i) oq).1 g
  rw[e] at b ⊢
  refine⟨u.1,u.2,?_,λz d r B=>?_⟩
  ·rw[cM (by rw[H.len];exact hi),o.fix hi f i oq,L.maps p y a]
  ·obtain⟨v,w,s⟩:=c.sift hi ((t.AJ (Nat.zero_le i) oq).2 ⟨d,r⟩)
   rw[B,a] at w
   cases w
   have Z:=t.cX (Nat.zero_le _) d
   have:=b _ s
   rwa [aV Z Y.inv Y,gG Y,cE Z] at this
theorem Jb.group {i:Nat}{d:pG}(a:Jb n i x τ d)(t:oT n i τ)(hi:i<n)(X:bC n x)(z:List Nat):Go.Pm.S n d i z↔cG n (λg=>Go.Pm.S n τ i g∨g=x) z:=by
 have L:=(t i (Nat.le_refl _) hi).1
 have e: ∀g,(Go.Pm.S n τ i g∨g=x)->bC n g:=λg b=>by
  rcases b with b|rfl
  ·exact t.cX oq b
  ·exact X
 rw[a.tw.gen hi];constructor
 ·intro h
  refine h.le (cG.dH e) λg b=>(a.new g b).mono λu c=>?_
  rcases c with c|c
  ·exact .inl ((t.gen hi).2 (cG.of L.gP c))
  ·exact .inr c
 ·intro h
  refine h.le (cG.dH (a.tw i (Nat.le_refl _) hi).1.gP) λg b=>?_
  rcases b with b|rfl
  ·exact ((t.gen hi).1 b).mono a.old
  ·exact a.has
end
end
section
variable {j:Nat} {y:List Nat}
abbrev rN:=Nat->Nat->Option (List Nat)
def ins (t:rN):Nat->Nat->List Nat->Option (Nat×List Nat)
 |0,_,_=>none
 |d+1,i,x=>if x.getD i 0=i then ins t d (i+1) x else
  match t i (x.getD i 0) with
  |none=>some (i,x)
  |some y=>ins t d (i+1) (aX x (cY y))
def dd:zJ->zJ
 | []=> []
 |a::l=>if a∈dd l then dd l else a::dd l
theorem Uy {a:List Nat}: ∀{l:zJ},a∈dd l↔a∈l
 | []=>Iff.rfl
 |b::l=>by
  unfold dd;have c:=Uy (a:=a) (l:=l);split
  ·rename_i h
   rw[c];constructor
   ·exact List.mem_cons_of_mem _
   ·intro d
    rcases List.mem_cons.1 d with rfl|d
    ·exact c.1 h
    ·exact d
  ·simp [c]
theorem Mx: ∀l:zJ,(dd l).Nodup
 | []=>List.nodup_nil
 |b::l=>by
  unfold dd;split
  ·exact Mx l
  ·rename_i h;exact List.nodup_cons.2 ⟨h,Mx l⟩
def fJ (n:Nat)(t:rN)(j:Nat):zJ:=(List.range n).flatMap λi=>if j<=i then (List.range n).filterMap λp=>t i p else []
theorem fP {n:Nat}{t:rN}:y∈fJ n t j↔ ∃i p,j<=i/\i<n/\p<n/\t i p=some y:=by
 simp only[fJ,List.mem_flatMap,List.mem_range];constructor
 ·rintro⟨i,hi,h⟩
  split at h
  ·rename_i b
   obtain⟨p,a,e⟩:=List.mem_filterMap.1 h;exact⟨i,p,b,hi,List.mem_range.1 a,e⟩
  ·simp at h
 ·rintro⟨i,p,b,hi,a,e⟩
  refine⟨i,hi,?_⟩;rw[if_pos b];exact List.mem_filterMap.2 ⟨p,List.mem_range.2 a,e⟩
def kF (n:Nat)(t:rN):pG:=λj=>
 {gens:=dd (fJ n t j)
  orb:=(List.range n).filter λp=>p==j||(t j p).isSome
  to:=λp=>if p=j then some (bT n) else t j p
  tr:=λq=>if q=j∨(t j q).isSome then (dd (fJ n t j)).length else 0}
structure oI (n:Nat)(t:rN):Prop where
 lt: ∀i p y,t i p=some y->i<n/\p<n/\p≠i
 cX: ∀i p y,t i p=some y->bC n y
 fix: ∀i p y,t i p=some y->Fix i y
 maps: ∀i p y,t i p=some y->y.getD i 0=p
def Jw (n:Nat)(t:rN):Prop:= ∀a b,a∈fJ n t 0->b∈fJ n t 0->ins t n 0 (aX a b)=none
section
variable {n:Nat} {t:rN}
theorem uQ {p:Nat}(T:oI n t)(b:j<n)(h:(kF n t j).to p=some y):bC n y/\Fix j y/\y.getD j 0=p/\(p=j/\y=bT n∨t j p=some y):=by
 have a:(if p=j then some (bT n) else t j p)=some y:=h;split at a
 ·rename_i e
  cases a;exact⟨bC.one n,Fix.one n j oq,by rw[e];exact fF b,.inl ⟨e,rfl⟩⟩
 ·exact⟨T.cX _ _ _ a,T.fix _ _ _ a,T.maps _ _ _ a,.inr a⟩
theorem OU (T:oI n t): ∀(d j:Nat) (x:List Nat),j+d=n->S n (kF n t) j x->bC n x/\Fix j x
 |0,j,x,h,hs=>by
  obtain rfl:j=n:=oq
  rw[vC] at hs;subst hs;exact⟨bC.one j,Fix.one j j (Nat.le_refl _)⟩
 |d+1,j,x,h,hs=>by
  obtain⟨p,y,g,a,b,rfl⟩:=(pY oq).1 hs;obtain⟨G,F⟩:=OU T d (j+1) g oq b;obtain⟨Y,F2,_⟩:=uQ T oq a;exact⟨G.mul Y,Fix.mul G oq (F.mono oq) F2⟩
theorem Qi (j:Nat)(a:j<n){x:List Nat}(X:bC n x)(h:S n (kF n t) (j+1) x):S n (kF n t) j x:=
 (pY a).2 ⟨j,bT n,x,by show (if j=j then some (bT n) else t j j)=_;rw[if_pos rfl],h,(cE X).symm⟩
theorem Ze: ∀(d j:Nat),j+d=n->S n (kF n t) j (bT n)
 |0,j,h=>by
         obtain rfl:j=n:=oq
         exact vC.2 rfl
 |d+1,j,h=>Qi j oq (bC.one n) (Ze d (j+1) oq)
theorem Oj (T:oI n t): ∀(d j:Nat) (x:List Nat),j+d=n->bC n x->Fix j x->ins t d j x=none->S n (kF n t) j x
 |0,j,x,h,X,F,_=>by
  obtain rfl:j=n:=oq
  exact vC.2 (F.all X)
 |d+1,j,x,h,X,F,hi=>by
  unfold ins at hi;split at hi
  ·rename_i e
   exact Qi j oq X (Oj T d (j+1) x oq X (F.succ e) hi)
  ·rename_i e
   split at hi
   ·cases hi
   ·rename_i y a
    have Y:=T.cX _ _ _ a;have F2:=T.fix _ _ _ a;refine (pY oq).2 ⟨x.getD j 0,y,aX x (cY y),?_,?_,by rw[aV X Y.inv Y,gG Y,cE X]⟩
    ·show (if x.getD j 0=j then some (bT n) else t j (x.getD j 0))=_
     rw[if_neg e];exact a
    ·refine Oj T d (j+1) _ oq (X.mul Y.inv) ((Fix.mul X oq F (Fix.inv Y oq F2)).succ ?_) hi
     rw[cM (by rw[X.len];omega)];have:=sW Y (show j<n by omega);rwa [T.maps _ _ _ a] at this
theorem Zy: ∀(k d j:Nat) (x:List Nat),Fix (j+k) x->ins t (d+k) j x=ins t d (j+k) x
 |0,_,_,_,_=>rfl
 |k+1,d,j,x,F=>by
  have e:ins t (d+k+1) j x=ins t (d+k) (j+1) x:=by
   show (if x.getD j 0=j then ins t (d+k) (j+1) x else _)=_;rw[if_pos (F j oq)]
  rw[show d+(k+1)=(d+k)+1 from rfl,e,Zy k d (j+1) x (by rw[show j+1+k=j+(k+1) from oq];exact F),show j+1+k=j+(k+1) from oq]
theorem VZ (T:oI n t)(c:Jw n t){a b:List Nat}(i:j<=n)(f:a∈fJ n t 0)(e:b∈fJ n t 0)(A:bC n a)(B:bC n b)(d:Fix j a)(g:Fix j b):S n (kF n t) j (aX a b):=by
 have F:=Fix.mul A i d g;have h:=c a b f e;rw[show n=(n-j)+j from oq,Zy j (n-j) 0 _ (by rw[Nat.zero_add];exact F),Nat.zero_add] at h;exact Oj T (n-j) j _ oq (A.mul B) F h
theorem aiM (T:oI n t)(h:y∈fJ n t j):S n (kF n t) j y:=by
 obtain⟨i,p,c,b,f,e⟩:=fP.1 h;have Y:=T.cX _ _ _ e
 have a:S n (kF n t) i y:=by
  refine (pY b).2 ⟨p,y,bT n,?_,Ze (n-(i+1)) (i+1) oq,(eD Y).symm⟩;show (if p=i then some (bT n) else t i p)=_;rw[if_neg (T.lt _ _ _ e).2.2];exact e
 have: ∀k,k<=i->S n (kF n t) (i-k) y:=by
  intro k
  induction k with
  |zero=>intro _;exact a
  |succ k ih=>
   intro d;refine Qi (i-(k+1)) oq Y ?_;rw[show i-(k+1)+1=i-k from oq];exact ih oq
 have:=this (i-j) oq;rwa [show i-(i-j)=j from oq] at this
theorem JK (T:oI n t)(c:Jw n t):oT n 0 (kF n t):=λj _ f=>by
 have d: ∀p,p∈(kF n t j).orb↔((kF n t j).to p).isSome:=by
  intro p;show p∈(List.range n).filter (λp=>p==j||(t j p).isSome)↔(if p=j then some (bT n) else t j p).isSome;rw[List.mem_filter,List.mem_range]
  by_cases e:p=j
  ·subst e;simp [f]
  ·simp only[beq_iff_eq,e,if_neg,Bool.or_eq_true,false_or]
   constructor
   ·exact λh=>h.2
   ·intro h
    obtain⟨y,G⟩:=Option.isSome_iff_exists.1 h;exact⟨(T.lt _ _ _ G).2.1,h⟩
 have a: ∀s,s∈(kF n t j).gens↔s∈fJ n t j:=λs=>Uy
 have b: ∀s,s∈fJ n t j->bC n s/\Fix j s/\s∈fJ n t 0:=λs l=>by
  obtain⟨i,p,v,r,o,e⟩:=fP.1 l;exact⟨T.cX _ _ _ e,(T.fix _ _ _ e).mono v,fP.2 ⟨i,p,Nat.zero_le _,r,o,e⟩⟩
 refine⟨⟨List.nodup_range.filter _,(d j).2 ?_,?_,d,λp y h=>(uQ T f h).1,λp y h=>(uQ T f h).2.1,λp y h=>(uQ T f h).2.2.1,λp y h=>?_,λs l=>(b s ((a s).1 l)).1,λs l=>(b s ((a s).1 l)).2.1,Mx _,λq=>?_,λq x=>?_⟩,λq y G k s W l=>?_,λq x=>?_,λh s l=>?_⟩
 ·show (if j=j then some (bT n) else t j j).isSome
  rw[if_pos rfl];rfl
 ·show (if j=j then some (bT n) else t j j)=_
  rw[if_pos rfl]
 ·rcases (uQ T f h).2.2.2 with ⟨_,rfl⟩|e
  ·exact .one
  ·refine cG.of (λg F=>(b g ((a g).1 F)).1) ((a y).2 (fP.2 ⟨j,p,Nat.le_refl _,f,(T.lt _ _ _ e).2.1,e⟩))
 ·show (if q=j∨(t j q).isSome then (dd (fJ n t j)).length else 0)<=_
  split
  ·exact Nat.le_refl _
  ·exact Nat.zero_le _
 ·show (if q=j∨(t j q).isSome then (dd (fJ n t j)).length else 0)=0
  rw[if_neg];rintro (e|e)
  ·exact x ((d q).2 (by show (if q=j then some (bT n) else t j q).isSome;rw[if_pos e];rfl))
  ·refine x ((d q).2 ?_)
   show (if q=j then some (bT n) else t j q).isSome;split
   ·rfl
   ·exact e
 ·--closure
  have w:s∈fJ n t j:=(a s).1 (List.mem_of_getElem? l);obtain⟨K,R,z⟩:=b s w;obtain⟨Y,P,Z,m⟩:=uQ T f G
  have O:S n (kF n t) j (aX y s):=by
   rcases m with ⟨_,rfl⟩|e
   ·rw[eD K];exact aiM T w
   ·exact VZ T c oq (fP.2 ⟨j,q,Nat.zero_le _,f,(T.lt _ _ _ e).2.1,e⟩) z Y K P R
  obtain⟨p,u,g,v,r,o⟩:=(pY f).1 O;obtain⟨U,fu,Q,_⟩:=uQ T f v;obtain⟨B,L⟩:=OU T (n-(j+1)) (j+1) g oq r
  have N:(aX y s).getD j 0=p:=by
   rw[o,cM (by rw[B.len];exact f),L j oq,Q]
  refine⟨u,by rw[N];exact v,?_⟩;rw[o,aV B U U.inv,fQ U,cE B];exact r
 ·show (if q=j∨(t j q).isSome then (dd (fJ n t j)).length else 0)=(dd (fJ n t j)).length
  rw[if_pos];have:=(d q).1 x;have J:(if q=j then some (bT n) else t j q).isSome:=this;split at J
  ·rename_i e;exact .inl e
  ·exact .inr J
 ·have A:s∈fJ n t (j+1):=Uy.1 l
  obtain⟨i,p,v,r,o,e⟩:=fP.1 A;exact cG.of (λg F=>(b g ((a g).1 F)).1) ((a s).2 (fP.2 ⟨i,p,oq,r,o,e⟩))
theorem DY (T:oI n t)(c:Jw n t)(a:0<n)(x:List Nat):S n (kF n t) 0 x↔cG n (· ∈fJ n t 0) x:=by
 rw[(JK T c).gen a];have:(λg=>g∈(kF n t 0).gens)=λg=>g∈fJ n t 0:=funext λg=>propext Uy
 rw[this]
def put (t:rN)(i p:Nat)(x:List Nat):rN:=λj q=>if j=i/\q=p then some x else t j q
def iX (t:rN)(n:Nat)(x:List Nat):rN:=match ins t n 0 x with
 |none=>t
 |some (i,r)=>put t i (r.getD i 0) r
theorem Bn (T:oI n t): ∀(d j:Nat) (x:List Nat) (i:Nat) (r:List Nat),j+d=n->bC n x->Fix j x->ins t d j x=some (i,r)->
  j<=i/\i<n/\bC n r/\Fix i r/\r.getD i 0≠i/\t i (r.getD i 0)=none/\ ∃w,cG n (· ∈fJ n t 0) w/\x=aX r w
 |0,_,_,_,_,_,_,_,h=>by cases h
 |d+1,j,x,i,r,h,X,F,hi=>by
  unfold ins at hi;split at hi
  ·rename_i e
   obtain⟨q,c⟩:=Bn T d (j+1) x i r oq X (F.succ e) hi;exact⟨oq,c⟩
  ·rename_i e
   split at hi
   ·rename_i u
    cases hi;exact⟨Nat.le_refl _,oq,X,F,e,u,bT n,.one,(cE X).symm⟩
   ·rename_i y a
    have Y:=T.cX _ _ _ a
    have m: ∀g,g∈fJ n t 0->bC n g:=λg s=>by
     obtain⟨_,_,_,_,_,e⟩:=fP.1 s;exact T.cX _ _ _ e
    obtain⟨q,c,k,v,o,l,w,f,p⟩:=Bn T d (j+1) _ i r oq (X.mul Y.inv) ((Fix.mul X oq F (Fix.inv Y oq (T.fix _ _ _ a))).succ (by
     rw[cM (by rw[X.len];omega)];have:=sW Y (show j<n by omega)
     rwa [T.maps _ _ _ a] at this)) hi
    have b:y∈fJ n t 0:=fP.2 ⟨j,_,Nat.zero_le _,oq,(T.lt _ _ _ a).2.1,a⟩;refine⟨oq,c,k,v,o,l,aX w y,f.mul b,?_⟩;rw[←aV k (f.cX m) Y,←p,aV X Y.inv Y,gG Y,cE X]
theorem xV (T:oI n t): ∀(d j:Nat) (x:List Nat),j+d=n->bC n x->Fix j x->ins t d j x=none->cG n (· ∈fJ n t 0) x
 |0,j,x,h,X,F,_=>by
  obtain rfl:j=n:=oq
  rw[F.all X];exact .one
 |d+1,j,x,h,X,F,hi=>by
  unfold ins at hi;split at hi
  ·rename_i e
   exact xV T d (j+1) x oq X (F.succ e) hi
  ·rename_i e
   split at hi
   ·cases hi
   ·rename_i y a
    have Y:=T.cX _ _ _ a
    have b:=xV T d (j+1) _ oq (X.mul Y.inv) ((Fix.mul X oq F (Fix.inv Y oq (T.fix _ _ _ a))).succ (by
     rw[cM (by rw[X.len];omega)];have:=sW Y (show j<n by omega)
     rwa [T.maps _ _ _ a] at this)) hi
    have:=b.mul (fP.2 ⟨j,_,Nat.zero_le _,oq,(T.lt _ _ _ a).2.1,a⟩);rwa [aV X Y.inv Y,gG Y,cE X] at this
def Sub (t t':rN):Prop:= ∀i p y,t i p=some y->t' i p=some y
theorem Fp {a:rN}(s:Sub t a): ∀(d j:Nat) (x:List Nat),ins t d j x=none->ins a d j x=none
 |0,_,_,_=>rfl
 |d+1,j,x,h=>by
  unfold ins at h ⊢;split at h
  ·rename_i e;rw[if_pos e];exact Fp s d _ _ h
  ·rename_i e
   rw[if_neg e];split at h
   ·cases h
   ·rename_i y b
    rw[s _ _ _ b];exact Fp s d _ _ h
theorem GK {i p:Nat}{x:List Nat}(h:t i p=none):Sub t (put t i p x):=λj q y a=>by
 unfold put;rw[if_neg (λe=>by rw[e.1,e.2,h] at a;cases a)];exact a
theorem Ux (T:oI n t): ∀(d j:Nat) (x:List Nat) (i:Nat) (r:List Nat),j+d=n->bC n x->Fix j x->ins t d j x=some (i,r)->ins (put t i (r.getD i 0) r) d j x=none
 |0,_,_,_,_,_,_,_,h=>by cases h
 |d+1,j,x,i,r,h,X,F,hi=>by
  obtain⟨m,l,g,o,f,c,_⟩:=Bn T (d+1) j x i r h X F hi;have sub:=GK (t:=t) (x:=r) c;unfold ins at hi ⊢;split at hi
  ·rename_i e;rw[if_pos e];exact Ux T d (j+1) x i r oq X (F.succ e) hi
  ·rename_i e
   rw[if_neg e];split at hi
   ·cases hi
    have:put t j (x.getD j 0) x j (x.getD j 0)=some x:=by unfold put;rw[if_pos ⟨rfl,rfl⟩]
    rw[this];simp only;rw[fQ X]
    have: ∀(d j:Nat),j+d=n-> ∀b:rN,ins b d j (bT n)=none:=by
     intro d
     induction d with
     |zero=>intro _ _ _;rfl
     |succ d ih=>intro j k b;unfold ins;rw[if_pos (fF oq)];exact ih (j+1) oq b
    exact this d (j+1) oq _
   ·rename_i y a
    have Y:=T.cX _ _ _ a;rw[sub _ _ _ a]
    exact Ux T d (j+1) _ i r oq (X.mul Y.inv) ((Fix.mul X oq F (Fix.inv Y oq (T.fix _ _ _ a))).succ (by
     rw[cM (by rw[X.len];omega)];have:=sW Y (show j<n by omega)
     rwa [T.maps _ _ _ a] at this)) hi
end
end
section
variable {x:List Nat}
section
variable {n:Nat} {t:rN}
theorem oI.LW (T:oI n t){j:Nat}: ∀g,g∈fJ n t j->bC n g:=λg a=>by
 obtain⟨_,_,_,_,_,e⟩:=fP.1 a;exact T.cX _ _ _ e
theorem Sub.refl (t:rN):Sub t t:=λ_ _ _ h=>h
theorem Sub.trans {a b c:rN}(x:Sub a b)(y:Sub b c):Sub a c:=λi p z h=>y i p z (x i p z h)
theorem oI.empty (n:Nat):oI n (λ_ _=>none):=⟨λ_ _ _ h=>(by cases h),λ_ _ _ h=>(by cases h),λ_ _ _ h=>(by cases h),λ_ _ _ h=>(by cases h)⟩
theorem acH (T:oI n t)(X:bC n x):oI n (iX t n x)/\Sub t (iX t n x)/\ins (iX t n x) n 0 x=none/\ ∀g,g∈fJ n (iX t n x) 0->cG n (λu=>u∈fJ n t 0∨u=x) g:=by
 unfold iX
 cases h:ins t n 0 x with
 |none=>exact⟨T,Sub.refl t,h,λg l=>cG.of (λu c=>by rcases c with c|rfl;exact T.LW u c;exact X) (.inl l)⟩
 |some q=>
  obtain⟨i,r⟩:=q;have m:Fix 0 x:=λk K=>oq
  obtain⟨L,p,f,s,A,z,w,o,F⟩:=Bn T n 0 x i r oq X m h
  have a: ∀j q y,put t i (r.getD i 0) r j q=some y->(j=i/\q=r.getD i 0/\y=r)∨t j q=some y:=λj q y b=>by
   unfold put at b;split at b
   ·rename_i e;cases b;exact .inl ⟨e.1,e.2,rfl⟩
   ·exact .inr b
  refine⟨⟨λj q y b=>?_,λj q y b=>?_,λj q y b=>?_,λj q y b=>?_⟩,GK z,Ux T n 0 x i r oq X m h,λg l=>?_⟩
  ·rcases a j q y b with ⟨rfl,rfl,rfl⟩|h
   ·exact⟨p,f.gW p,A⟩
   ·exact T.lt _ _ _ h
  ·rcases a j q y b with ⟨rfl,rfl,rfl⟩|h
   ·exact f
   ·exact T.cX _ _ _ h
  ·rcases a j q y b with ⟨rfl,rfl,rfl⟩|h
   ·exact s
   ·exact T.fix _ _ _ h
  ·rcases a j q y b with ⟨rfl,rfl,rfl⟩|h
   ·rfl
   ·exact T.maps _ _ _ h
  ·have d: ∀u,(u∈fJ n t 0∨u=x)->bC n u:=λu c=>by
    rcases c with c|rfl
    ·exact T.LW u c
    ·exact X
   obtain⟨j,q,v,J,G,e⟩:=fP.1 l;rcases a j q g e with ⟨_,_,rfl⟩|h
   ·have W:=o.cX T.LW
    have B:g=aX x (cY w):=by rw[F,aV f W W.inv,fQ W,cE f]
    rw[B];exact (cG.of d (.inr rfl)).app d ((o.mono λu c=>Or.inl c).inv d)
   ·exact cG.of d (.inl (fP.2 ⟨j,q,v,J,G,h⟩))
structure Ox (n:Nat)(L:List Nat->Prop)(t:rN):Prop where
 tab:oI n t
 gen: ∀g,g∈fJ n t 0->cG n L g
variable {L:List Nat->Prop}
theorem Ox.ins (a:Ox n L t)(c: ∀g,L g->bC n g)(d:cG n L x):Ox n L (iX t n x)/\Sub t (iX t n x)/\Go.Pm.ins (iX t n x) n 0 x=none:=by
 obtain⟨e,h,i,j⟩:=acH a.tab (d.cX c);refine⟨⟨e,λg f=>(j g f).le (cG.dH c) λu b=>?_⟩,h,i⟩;rcases b with b|rfl
 ·exact a.gen u b
 ·exact d
theorem Ox.group (a:Ox n L t)(b: ∀g,L g->bC n g)(e:0<n)(c:Jw n t)(hi: ∀g,L g->Go.Pm.ins t n 0 g=none)(x:List Nat):S n (kF n t) 0 x↔cG n L x:=by
 rw[DY a.tab c e];constructor
 ·exact λh=>h.le (cG.dH b) a.gen
 ·exact λh=>h.le (cG.dH a.tab.LW) λg d=>xV a.tab n 0 g oq (b g d) (λk f=>oq) (hi g d)
structure XC (n:Nat)(L:List Nat->Prop)(τ:pG):Prop where
 tw:oT n 0 τ
 group: ∀x,S n τ 0 x↔cG n L x
theorem XC.start (a:0<n):XC n (λ_=>False) (PE n):=by
 refine⟨PR n,λx=>?_⟩;rw[(PR n).gen a];have:(λg=>g∈(PE n 0).gens)=λ_=>False:=funext λg=>propext ⟨λh=>(by cases h),λh=>h.elim⟩
 rw[this]
theorem XC.add {τ d:pG}(a:XC n L τ)(j:0<n)(e: ∀g,L g->bC n g)(X:bC n x)(b:Jb n 0 x τ d):XC n (λg=>L g∨g=x) d:=by
 refine⟨b.tw,λz=>?_⟩
 have f: ∀g,(L g∨g=x)->bC n g:=λg c=>by
  rcases c with c|rfl
  ·exact e g c
  ·exact X
 rw[b.group a.tw j X z];constructor
 ·intro h
  refine h.le (cG.dH f) λg c=>?_
  rcases c with c|rfl
  ·exact ((a.group g).1 c).mono λu i=> .inl i
  ·exact cG.of f (.inr rfl)
 ·intro h
  refine h.mono λg c=>?_
  rcases c with c|rfl
  ·exact .inl ((a.group g).2 (cG.of e c))
  ·exact .inr rfl
theorem XC.congr {M:List Nat->Prop}{τ:pG}(a:XC n L τ)(h: ∀g,L g↔M g):XC n M τ:=by
 have:L=M:=funext λg=>propext (h g)
 exact this▸a
end
def BK (n:Nat)(R:QC):List Nat->Prop:=cG n λg=>g∈R.flatten
def Valid (n:Nat)(O:zJ)(R:QC):Prop:=(∀g∈R.flatten,bC n g)/\aZ n (BK n R) O R
theorem Valid.iff {n:Nat}{O a:zJ}{R b:QC}(d: ∀g∈R.flatten,bC n g)(c:aZ n (BK n R) a b):Valid n O R↔O=a/\R=b:=by
 constructor
 ·rintro⟨_,h⟩;exact h.uniq c
 ·rintro⟨rfl,rfl⟩;exact⟨d,c⟩
theorem Valid.dH {n:Nat}{O:zJ}{R:QC}(v:Valid n O R):iJ n (BK n R):=cG.dH v.1
end
end Go.Pm
namespace Go.Proofs.YtcdbmkidaecdiaaGreat
open Go Go.Ay Go.Pm
set_option maxRecDepth 100000
def Lo (c:Nat):V:=if c<130 then .aE else aC 0
def lv0:Lv:=⟨[], [],λ_=>none,λ_=>0⟩
theorem ZH: [V.aE,V.aE,V.aE,V.aE,V.aE,V.aE,V.aE,V.aE,V.aE,V.aE,V.aE,V.aE,V.aE,V.aE,V.aE,V.aE,V.aE,V.aE,V.aE,V.aE,V.aE,V.aE,V.aE,V.aE,V.aE,V.aE,V.aE,V.aE,V.aE,V.aE,V.aE,V.aE,V.aE,V.aE,V.aE,V.aE,V.aE,V.aE,V.aE,V.aE,V.aE,V.aE,V.aE,V.aE,V.aE,V.aE,V.aE,V.aE,V.aE,V.aE,V.aE,V.aE,V.aE,V.aE,V.aE,V.aE,V.aE,V.aE,V.aE,V.aE,V.aE,V.aE,V.aE,V.aE,V.aE,V.aE,V.aE,V.aE,V.aE,V.aE,V.aE,V.aE,V.aE,V.aE,V.aE,V.aE,V.aE,V.aE,V.aE,V.aE,V.aE,V.aE,V.aE,V.aE,V.aE,V.aE,V.aE,V.aE,V.aE,V.aE,V.aE,V.aE,V.aE,V.aE,V.aE,V.aE,V.aE,V.aE,V.aE,V.aE,V.aE,V.aE,V.aE,V.aE,V.aE,V.aE,V.aE,V.aE,V.aE,V.aE,V.aE,V.aE,V.aE,V.aE,V.aE,V.aE,V.aE,V.aE,V.aE,V.aE,V.aE,V.aE,V.aE,V.aE,V.aE,V.aE,V.aE,V.aE,V.aE,V.aE,(aC 0),(aC 0),(aC 0),(aC 0),(aC 0),(aC 0),(aC 0),(aC 0),(aC 0),(aC 0),(aC 0),(aC 0),(aC 0),(aC 0),(aC 0),(aC 0),(aC 0),(aC 0),(aC 0),(aC 0),(aC 0),(aC 0),(aC 0),(aC 0),(aC 0),(aC 0),(aC 0),(aC 0),(aC 0),(aC 0),(aC 0),(aC 0),(aC 0),(aC 0),(aC 0),(aC 0),(aC 0),(aC 0),(aC 0),(aC 0),(aC 0),(aC 0),(aC 0),(aC 0),(aC 0),(aC 0),(aC 0),(aC 0),(aC 0),(aC 0),(aC 0),(aC 0),(aC 0),(aC 0),(aC 0),(aC 0),(aC 0),(aC 0),(aC 0),(aC 0),(aC 0),(aC 0),(aC 0),(aC 0)]=rc 194 Lo:=rfl
theorem NP (n:Nat):dC (rc 194 Lo) (n*194)=rc (n*194) λc=>Lo (c%194):=by
 refine List.ext_getElem (by simp [dC,jE]) λi a b=>?_
 simp [dC,rc];rw[List.getElem?_range (Nat.mod_lt _ om)];rfl
def VM (n i:Nat):pG:=λj=>if j<i then PE n j else lv0
theorem rV.congr {h:H}{n c L:Nat}{F:Nat->V}{τ f:pG}(R:rV h n c L F τ)(e: ∀j,j<n->τ j=f j):rV h n c L F f:=
 ⟨R.t,R.l,R.tn,R.ln,R.tw,λj p a d=>by rw[←e j a];exact R.to j p a d,λj p a d=>by rw[←e j a];exact R.iv j p a d,λj p a d=>by rw[←e j a];exact R.tr j p a d,
  λj b=>by rw[←e j b];exact R.gens j b,λj b=>by rw[←e j b];exact R.orb j b,R.IF,R.ap⟩
theorem Xx (n:Nat)(h:H)(h0:0<n)(hn:n<=7):
  Ev T 192 [aC n] h (λv h'=> ∃tid L F,v= .ptr tid 0/\rV h' n tid L F (PE n)/\Fr h h'/\ ∀id,WT n L F id->h.next<=id):=by
 refine cT xB rfl ?_
 have hm:Iv h 194 3632 (rc 194 Lo) (aC n) (aC n)=some (.sl h.next 0 n (.kn n),h.new (.cells false (rc (n*194) λc=>Lo (c%194)))):=by
  rw[tC om (Int.le_refl _) om om,OM,NP]
 obtain⟨w,K⟩: ∃w:Nat->V,w=λc=>Lo (c%194):=⟨_,rfl⟩
 obtain⟨L,Q⟩:=exI h.next
 rw[Q,←K] at hm
 simp(disch:=omega)only[go_sem,xB,aD,ZH,hm,QN (z1:= aC 0) (z2:= .aE) (v:= aC n) (u:= .sl L 0 n (.kn n)) rfl rfl rfl rfl,vW _ (v:= aC n) (u:= .sl L 0 n (.kn n)) rfl rfl,Q]
 obtain⟨d,m⟩: ∃d,d=(h.new (.cells false (rc (n*194) w))).new (.cells false [aC n,.sl L 0 n (.kn n)]):=⟨_,rfl⟩
 rw[←m]
 have g1:d.get L=some (.cells false (rc (n*194) w)):=by rw[m,H.bD _ (by rw[H.aU];omega),←Q,H.aL]
 have g2:d.get (L+1)=some (.cells false [aC n,.sl L 0 n (.kn n)]):=by
  rw[m];have:=H.aL (h.new (.cells false (rc (n*194) w))) (.cells false [aC n,.sl L 0 n (.kn n)]);rwa [H.aU,Q] at this
 have n2:d.next=L+2:=by rw[m,H.aU,H.aU,Q]
 have f2:Fr h d:=by rw[m];exact ((Fr.refl h).new _).new _
 clear m hm
 have s0: ∀s,s<2*n->tU w s= .aE:=λs _=>by
  unfold tU Lo at*;rw[K];simp only;rw[bJ om]
 have w0: ∀id,WT n L w id->id=L:=λid x=>by
  rcases x with e|⟨s,hs,a4,len,c,e⟩
  ·exact e
  ·rw[s0 s hs] at e;cases e
 have z0: ∀j c,c<194->w (j*194+c)=Lo c:=λj c hc=>by
  rw[K];simp only;rw[Nat.mul_comm,Nat.mul_add_mod,Nat.mod_eq_of_lt hc]
 have z1: ∀j b c,b+c<194->w (j*194+b+c)=Lo (b+c):=λj b c hc=>by rw[Nat.add_assoc];exact z0 j (b+c) hc
 have R:rV d n (L+1) L w (VM n 0):=by
  refine⟨g2,g1,om,om,λx=>by have:=w0 _ x;omega,λj p a d=>?_,λj p a d=>?_,λj p a d=>?_,λj hj=>⟨[],?_,trivial⟩,λj hj=>?_,λs s' a d _=>?_,λs a=>?_⟩
  ·rw[z1 j 2 p om];unfold Lo;rw[bJ om];rfl
  ·rw[z1 j 66 p om];unfold Lo;rw[bJ om];rfl
  ·rw[z1 j 130 p om];unfold Lo;rw[bL om];rfl
  ·have:=z0 j 0 om
   rw[Nat.add_zero] at this;rw[this];exact cQ.aE ..
  ·rw[z0 j 1 om];exact cQ.aE ..
  ·rw[s0 s a];intro i o n c e;cases e
  ·rw[s0 s a];exact cZ.aE _
 have a3:d.cell (L+1) 1=some (.sl L 0 n (.kn n)):=by rw[H.aF g2];rfl
 simp(disch:=omega)only[go_sem,a3]
 refine aI (λk' J hh=> ∃(i:Nat) (F:Nat->V),(∃g:Nat->V,J= [aC n,g 1,.ptr (L+1) 0,g 3,g 4,aC n,aC i,g 7])/\i<=n/\rV hh n (L+1) L F (VM n i)/\Fr h hh/\(∀id,WT n L F id->h.next<=id)/\k'=n-i) n
  ⟨0,w,aB rfl,fR _,R,f2,λid x=>by rw[w0 id x];omega,rfl⟩ ?_
 clear R g1 g2 n2 f2 s0 w0 z0 z1
 rintro k' J h3 ⟨i,F,⟨g,rfl⟩,hi,R,f,x,rfl⟩
 simp(disch:=omega)only[go_sem]
 by_cases P:(i:Int)<(n:Int)
 ·rw[bN P]
  have O:i<n:=om
  have cl:h3.cell (L+1) 1=some (.sl L 0 n (.kn n)):=by rw[H.aF R.t];rfl
  have ln:=R.ln
  have hN:i*194+194<=n*194:=om
  have e0:VM n i i=lv0:=by unfold VM;rw[bL om]
  simp(disch:=omega)only[go_sem,cl,bZ h3 (z:= aC 0) (v:= aC i) rfl rfl,R.l,Jg]
  obtain⟨B,A⟩: ∃B,B=(h3.new (.cells false [aC i])).set L (some (.cells false (rc (n*194) (F1 F (i*194+1) (.sl h3.next 0 1 (.kn 1)))))):=⟨_,rfl⟩
  rw[←A]
  have p4:uV h3 (F (i*194+1)) 0 1 1 [] [aC i] (h3.new (.cells false [aC i])):=⟨H.aL ..,H.aU ..,λk hk _=>H.bD h3 hk _⟩
  obtain⟨U,f4,w4⟩:=R.TU O (q:=i) (v:= .sl h3.next 0 1 (.kn 1)) (by rw[e0];exact p4) (.inr rfl) (by rw[e0];rfl) A
  obtain⟨G,a1⟩: ∃G,G=F1 F (i*194+1) (.sl h3.next 0 1 (.kn 1)):=⟨_,rfl⟩
  rw[←a1] at U w4
  have n4:B.next=h3.next+1:=by rw[A,H.cH,H.aU]
  have Y: ∀id,WT n L G id->h.next<=id:=λid a=>by
   by_cases d:id<h3.next
   ·exact x id (w4 id d a)
   ·have:=f.next;omega
  have a2:Fr h B:=⟨lX f.next f4.next,λid a=>(f4.get id (jB a f.next) λd=>by have:=x id d;omega).trans (f.get id a)⟩
  clear A
  generalize N:vE (VM n i) i {VM n i i with orb:=(VM n i i).orb++ [i]}=y at U
  have e4:y i={lv0 with orb:= [i]}:=by rw[←N,bX,e0];rfl
  refine (Uv uP.ok n (H.mk B.tr (h3.next+1+16)) om).mono ?_
  rintro va h5 na
  simp(disch:=omega)only[go_sem]
  refine (Uv uP.ok n h5 om).mono ?_
  rintro vb h6 Z
  have f5:Fr B h5:=((Fr.refl B).bH om:Fr B (H.mk B.tr (h3.next+1+16))).trans na.fr
  have R6:=U.mono (f5.trans Z.fr)
  have pa:=(na.pv (W:=WT n L G) (λa=>by have:=U.Nl a;simp at this;omega)).mono Z.fr
  have pb:=Z.pv (W:=WT n L G) (λa=>by have:=U.Nl a;have:=f5.next;omega)
  have a0:PV (WT n L G) h6 vb (cY (bT n)):=by rw[nY];exact pb
  simp(disch:=omega)only[go_sem,R6.l,kL pa.dP.1 pa.dP.2,kL pb.dP.1 pb.dP.2,Jg]
  obtain⟨R7,f7,w7⟩:=R6.way O (q:=i) om pa a0 (h3:=(h6.set L (some (Ob.cells false (rc (n*194) (F1 G (i*194+2+i) va))))).set L (some (Ob.cells false (rc (n*194) (F1 (F1 G (i*194+2+i) va) (i*194+66+i) vb))))) (eH _) (λid a _=>by rw[H.aH _ a,H.aH _ a]) (by rw[H.aS])
  have eT:vE y i {y i with to:=λr=>if r=i then some (bT n) else (y i).to r}=VM n (i+1):=by
   funext j
   by_cases e:j=i
   ·subst e
    rw[bX,e4];unfold VM;rw[bJ om]
    rfl
   ·rw[dV _ _ e,←N,dV _ _ e]
    unfold VM
    by_cases e2:j<i
    ·rw[bJ e2,bJ om]
    ·rw[bL e2,bL om]
  rw[eT] at R7
  have f6:=a2.trans (f5.trans Z.fr)
  rw[dU i]
  refine⟨n-(i+1),om,i+1,_,aB rfl,om,R7,⟨lX f6.next f7.next,λid a=>(f7.get id (jB a f6.next) λd=>by have:=Y id d;omega).trans (f6.get id a)⟩,λid a=>Y id ((w7 id).1 a),rfl⟩
 rw[bE P]
 obtain rfl:i=n:=om
 simp(disch:=omega)only[go_sem]
 have eT:rV h3 i (L+1) L F (PE i):=R.congr λj hj=>by unfold VM;rw[bJ hj]
 exact⟨L+1,L,F,rfl,eT,f,λid a=>by have:=x id a;omega⟩
abbrev SP (h:H)(v:V)(l:LN):Prop:=SR h v (l.map zi)
theorem Ae {h:H}{ws:List V}{l:LN}(a:aM (SI h) ws (l.map zi)){i:Nat}(hi:i<l.length):SI h (ws.getD i .undef) (zi (l.getD i [])):=by
 have:=Vy a (i:=i) (by simpa using hi);rwa [show (l.map zi).getD i []=zi (l.getD i []) by simp [List.getD,hi]] at this
theorem Wv {W:Nat->Prop}{h:H}{b:Nat}{v:V}{l:List Int}(s:SI h v l)(d:h.next<=b)(a: ∀id,W id->b<=id):Mf W v:=by
 cases v with
 |sl id off len cap=>exact λc=>by have:=s.in _ _ _ _ rfl;have:=a id c;omega
 |_=>trivial
theorem Sa {l:LN}{i:Nat}(hi:i<l.length)(g:List Nat):g∈l.take (i+1)↔g∈l.take i∨g=l.getD i []:=by
 rw[List.take_add_one,dF hi,kT];simp [List.getD,hi]
theorem Ym (n:Nat)(o:V)(l:LN)(h:H)(p:0<n)(B:n<=7)(hl:l.length<1000000)(N:SP h o l)(z: ∀g∈l,bC n g):
  Ev T 141 [aC n,o] h (λv h'=> ∃tid L F τ,v= .ptr tid 0/\rV h' n tid L F τ/\XC n (· ∈l) τ/\Fr h h'/\ ∀id,WT n L F id->h.next<=id):=by
 refine cT Dh rfl ?_
 simp(disch:=omega)only[go_sem,Dh,aD]
 refine (Xx n h p B).mono ?_
 rintro _ e ⟨tid,L,F,rfl,R,f,c⟩
 have J:=N.lens
 rw[iN] at J
 obtain⟨id,s,y,G,d,r,x,j⟩:=N.open
 rw[iN] at G d r x
 simp(disch:=omega)only[go_sem,J]
 refine aI (λK b P=> ∃(i:Nat) (F:Nat->V) (τ:pG),(∃g:Nat->V,b= [aC n,o,g 2,.ptr tid 0,g 4,o,aC (l.length:Int),aC i,g 8])/\i<=l.length/\rV P n tid L F τ/\XC n (· ∈l.take i) τ/\Fr h P/\(∀id,WT n L F id->h.next<=id)/\K=l.length-i) l.length
  ⟨0,F,PE n,aB rfl,fR _,R,(XC.start p).congr (by simp),f,c,rfl⟩ ?_
 clear R f c F
 rintro K b q ⟨i,F,τ,⟨g,rfl⟩,hi,R,t,f,c,rfl⟩
 simp(disch:=omega)only[go_sem]
 by_cases m:(i:Int)<(l.length:Int)
 ·rw[bN m]
  have a:i<l.length:=om
  have ci:q.cell id (s+i)=some (y.getD i .undef):=by rw[f.cell (d om),x i a]
  have O:=Ae j a
  have pv:PV (WT n L F) q (y.getD i .undef) (l.getD i []):=⟨O.mono f,Wv O (eH _) c⟩
  have X:bC n (l.getD i []):=z _ (by simp [List.getD,a])
  simp(disch:=omega)only[go_sem,G.ixa,ci]
  refine (afC n B p q tid L F τ _ _ R pv X (λk hk=>om) t.tw).mono ?_
  rintro vv h3 ⟨Z,w,Y,W,A,Q⟩
  have U:=(t.add p (λg hg=>z g (List.mem_of_mem_take hg)) X W).congr λg=>(Sa a g).symm
  simp(disch:=omega)only[go_sem]
  rw[dU i]
  refine⟨l.length-(i+1),om,i+1,Z,w,aB rfl,om,Y,U,⟨lX f.next A.next,λid e=>(A.get id (jB e f.next) λu=>by have:=c id u;omega).trans (f.get id e)⟩,λid e=>?_,rfl⟩
  by_cases u:id<q.next
  ·exact c id (Q id u e)
  ·have:=f.next;omega
 rw[bE m]
 obtain rfl:i=l.length:=om
 simp(disch:=omega)only[go_sem]
 exact⟨tid,L,F,τ,rfl,R,t.congr λg=>by rw[List.take_length],f,c⟩
theorem Sz (x:List Nat)(l:List Nat){i:Nat}(hi:i<l.length)(b:Nat):oH x b (l.drop i)=oH x (if x.getD (l.getD i 0) 0<x.getD b 0 then l.getD i 0 else b) (l.drop (i+1)):=by
 rw[BT hi,cL hi];rfl
theorem UK (h:H)(n l L:Nat)(F:Nat->V)(τ:pG)(vx:V)(x:List Nat)(i:Nat)(hn:n<=7)(R:rV h n l L F τ)(hx:PV (WT n L F) h vx x)(X:bC n x)(b0:i<n)(t:oT n (i+1) τ):
  Ev T 196 [.ptr l 0,vx,aC i] h (λv h'=>PV (WT n L F) h' v (Ki τ (n-(i+1)) (i+1) x)/\bC n (Ki τ (n-(i+1)) (i+1) x)/\Fr h h'):=by
 refine cT rT rfl ?_
 simp(disch:=omega)only[go_sem,rT,aD]
 rw[dU i]
 refine aI (λk' d hh=> ∃(k:Nat) (y:List Nat) (P:V),(∃g:Nat->V,d= [.ptr l 0,P,g 2,g 3,aC k,g 5,g 6,g 7,g 8,g 9,g 10,g 11,g 12,g 13])/\i<k/\k<=n/\Ki τ (n-k) k y=Ki τ (n-(i+1)) (i+1) x/\
   PV (WT n L F) hh P y/\bC n y/\Fr h hh/\k'=n-k) (n-(i+1))
  ⟨i+1,x,vx,aB rfl,om,om,rfl,hx,X,Fr.refl h,rfl⟩ ?_
 rintro k' d K ⟨k,y,P,⟨g,rfl⟩,a9,b1,o,hy,Y,f,rfl⟩
 have R2:=R.mono f
 have ct:K.cell l 0=some (aC n):=by rw[H.aF R2.t];rfl
 have cl:K.cell l 1=some (.sl L 0 n (.kn n)):=by rw[H.aF R2.t];rfl
 simp(disch:=omega)only[go_sem,ct,cl]
 by_cases a1:(k:Int)<(n:Int)
 case neg=>
  rw[bE a1];obtain rfl:k=n:=om
  rw[Nat.sub_self] at o;simp(disch:=omega)only[go_sem];rw[←o];exact⟨hy,Y,f⟩
 have c:k<n:=om
 rw[bN a1]
 have co:K.cell L (k*194+1)=some (F (k*194+1)):=R2.cell c om
 have oo:=R2.orb k c
 have lo:=cQ.lens oo (by rw[aP,aN])
 have jO:=(t k om c).1
 have b2:=abH jO c
 simp(disch:=omega)only[go_sem,cl,co,lo]
 obtain⟨id,a7,sh,Q,hc⟩:=(show SI K (F (k*194+1)) (zi (τ k).orb) from oo.sv).open
 rw[aN] at sh Q hc
 obtain⟨a0,z,a2,p,G⟩:=hy.si.open
 rw[aN,Y.len] at a2 p G
 refine aI (λm' d hh=> ∃(m b:Nat),(∃g:Nat->V,d= [.ptr l 0,P,g 2,g 3,aC k,aC b,g 6,g 7,F (k*194+1),aC ((τ k).orb.length:Int),aC m,g 11,g 12,g 13])/\m<=(τ k).orb.length/\b<n/\b∈k::(τ k).orb/\
   oH y b ((τ k).orb.drop m)=oH y k (τ k).orb/\Fr K hh/\m'=(τ k).orb.length-m) (τ k).orb.length
  ⟨0,k,aB rfl,fR _,c,Co ..,rfl,Fr.refl K,rfl⟩ ?_
 rintro m' d s ⟨m,b,⟨g3,rfl⟩,hm,hb,a3,a,B,rfl⟩
 simp(disch:=omega)only[go_sem]
 by_cases A:(m:Int)<((τ k).orb.length:Int)
 ·rw[bN A]
  have r:m<(τ k).orb.length:=om
  rw[Sz _ _ r] at a
  have cq:s.cell id (a7+m)=some (aC ((τ k).orb.getD m 0:Nat)):=by rw[B.cell (Q om),hc m r];congr 2;simp [zi,r]
  have J:(τ k).orb.getD m 0∈(τ k).orb:=by rw[cL r];exact Bu r
  have w:=jO.lt c J
  generalize (τ k).orb.getD m 0=q at cq J w a
  have c1:s.cell a0 (z+q)=some (aC (y.getD q 0:Nat)):=by rw[B.cell (p om),G q w];congr 2;simp [zi,Y.len,w]
  have c2:s.cell a0 (z+b)=some (aC (y.getD b 0:Nat)):=by rw[B.cell (p om),G b hb];congr 2;simp [zi,Y.len,hb]
  simp(disch:=omega)only[go_sem,sh.ixa,cq,a2.ixa,c1,c2]
  have fb:Fr K (H.mk s.tr (s.next+9)):=B.bH om
  by_cases W:((y.getD q 0:Nat):Int)<((y.getD b 0:Nat):Int)
  ·rw[bN W]
   rw[bJ om] at a
   simp(disch:=omega)only[go_sem]
   rw[dU m]
   exact⟨(τ k).orb.length-(m+1),om,m+1,q,aB rfl,om,w,Cu _ J,a,fb,rfl⟩
  ·rw[bE W]
   rw[bL om] at a
   simp(disch:=omega)only[go_sem]
   rw[dU m]
   exact⟨(τ k).orb.length-(m+1),om,m+1,b,aB rfl,om,hb,a3,a,fb,rfl⟩
 rw[bE A]
 have em:m=(τ k).orb.length:=om
 rw[em,List.drop_length] at a
 have a:b=oH y k (τ k).orb:=a
 have N:n-k=(n-(k+1))+1:=om
 rw[N] at o
 have o:Ki τ (n-(k+1)) (k+1) (if oH y k (τ k).orb=k then y else aX (((τ k).to (oH y k (τ k).orb)).getD []) y)=Ki τ (n-(i+1)) (i+1) x:=o
 rw[←a] at o
 have R3:=R2.mono B
 have Z:=hy.mono B
 simp(disch:=omega)only[go_sem]
 by_cases O:b=k
 ·rw[bJ O] at o
  have e0:decide ((b:Int)≠(k:Int))=false:=bE om
  simp(disch:=omega)only[go_sem,e0]
  rw[dU k]
  exact⟨n-(k+1),om,k+1,y,P,aB rfl,om,om,o,Z,Y,f.trans B,rfl⟩
 rw[bL O] at o
 have e0:decide ((b:Int)≠(k:Int))=true:=bN om
 have a4:s.cell l 1=some (.sl L 0 n (.kn n)):=by rw[H.aF R3.t];rfl
 have a8:b∈(τ k).orb:=by
  rcases Gr.1 a3 with e|e
  ·exact absurd e O
  ·exact e
 obtain⟨u,hu⟩:=jO.to a8
 have U:=jO.cX _ _ hu
 have a5:s.cell L (k*194+2+b)=some (F (k*194+2+b)):=R3.Ub c om
 have a6:PV (WT n L F) s (F (k*194+2+b)) u:=by
  have:=R3.to k b c om;rw[hu] at this;exact this
 rw[hu] at o
 simp(disch:=omega)only[go_sem,e0,a4,a5]
 refine (mL mW.ok _ P u y s (by rw[U.len];omega) a6.si Z.si (λj hj=>by rw[Y.len];exact U.gW (by rw[←U.len];exact hj))).mono ?_
 rintro v h4 nw
 simp(disch:=omega)only[go_sem]
 rw[dU k]
 exact⟨n-(k+1),om,k+1,_,v,aB rfl,om,om,o,nw.pv (λhw=>by have:=R3.Nl hw;omega),U.mul Y,(f.trans B).trans nw.fr,rfl⟩
end Go.Proofs.YtcdbmkidaecdiaaGreat
namespace Go.Proofs.YtcdbmkidaecdiaaGreat
open Go Go.Ay Go.Sort
set_option maxRecDepth 100000
section
variable {h:H} {S N i j a:Nat} {d:Array Int} {lt:Int->Int->Bool}
structure dK (h:H)(S N:Nat)(d:Array Int):Prop where
 get:h.get S=aY (ints d.toList)
 size:d.size=N
 lt:S<h.next
theorem dK.rd (A:dK h S N d)(hi:i<N):h.cell S i=some (aC d[i]!):=by
 have b:i<d.size:=by rw[A.size];exact hi
 rw[H.aF A.get];simp [ints,b]
theorem dK.fr {h':H}(A:dK h S N d)(f:Fr h h'):dK h' S N d:=⟨by rw[f.get _ A.lt];exact A.get,A.size,jB A.lt f.next⟩
theorem bW (hi:i<d.size)(b:H)(S:Nat)(x:Int):dR (aY (ints d.toList)) b S i [aC x]=some (b.set S (aY (ints (d.setIfInBounds i x).toList))):=by
 rw[Sk (by simpa using hi),Array.toList_setIfInBounds]
theorem bU {y:Int}(hi:i<d.size)(b:H)(S:Nat)(x:Int):dR (aY (ints (d.setIfInBounds j y).toList)) b S i [aC x]=some (b.set S (aY (ints ((d.setIfInBounds j y).setIfInBounds i x).toList))):=
 bW (by simpa using hi) b S x
theorem dK.swap {h2:H}(A:dK h S N d){nx:Nat}(b:h.next<=nx)(e:h2=((H.mk h.tr nx).set S (aY (ints (d.setIfInBounds i d[j]!).toList))).set S (aY (ints ((d.setIfInBounds i d[j]!).setIfInBounds j d[i]!).toList))):dK h2 S N (swp d i j)/\Fx (· =S) h h2:=by
 subst e;refine⟨⟨?_,?_,jB A.lt b⟩,⟨b,λid _ c=>?_⟩⟩
 ·rw[H.aS];rfl
 ·have:=A.size;simp [swp,this]
 ·rw[H.aH _ c,H.aH _ c];rfl
theorem Br (a:Int)(h:H):Ev T 198 [aC a] h (λv h'=>v= .bool false/\h'=h):=by
 refine cT mP rfl ?_;have e:decide (a≠a)=false:=bE om;simp(disch:=omega)only[go_sem,mP,aD,e]
theorem fZ (a b:Int)(h:H):Ev T 144 [aC a,aC b] h (λv h'=>v= .bool (ltInt a b)/\Fr h h'):=by
 refine cT Aj rfl ?_;simp(disch:=omega)only[go_sem,Aj,aD];refine (Br a h).mono ?_;rintro _ c ⟨rfl,rfl⟩;simp(disch:=omega)only[go_sem];exact⟨rfl,Fr.refl _⟩
theorem fS {a b c:H}(x:Fx (· =S) a b)(y:Fx (· =S) b c):Fx (· =S) a c:=x.trans y λ_ _ h=>h
theorem CR (b:a<j+1)(h2:lt d[j+1]! d[j]! =true):insInner lt a (j+1) d=insInner lt a j (swp d (j+1) j):=by
 rw[insInner,bJ (by simp [b,h2])]
theorem FZ (h2:lt d[j+1]! d[j]! =false):insInner lt a (j+1) d=d:=by
 rw[insInner,bL (by simp [h2])]
theorem FQ (h:j<=a):insInner lt a j d=d:=by
 cases j with
 |zero=>rfl
 |succ j=>rw[insInner,bL (by simp;omega)]
theorem yT (h:H)(S N a b:Nat)(d:Array Int)(w:pF)(Z:N<1000000)(A:dK h S N d)(U:b<=N)(Q:a<=b):
  Ev T 234 [.sl S 0 N w,aC a,aC b] h (λ_ h'=>dK h' S N (insertionSort ltInt d a b)/\Fx (· =S) h h'):=by
 refine cT iK rfl ?_
 simp(disch:=omega)only[go_sem,iK,aD]
 rw[dU a]
 refine aI (λr c t=> ∃(i:Nat) (e:Array Int),(∃g:Nat->V,c= [.sl S 0 N w,aC a,aC b,aC i,g 4,g 5,g 6])/\a<i/\i<=b+1/\dK t S N e/\insOuter ltInt a b i e=insertionSort ltInt d a b/\Fx (· =S) h t/\r=b+1-i) (b+1-(a+1))
  ⟨a+1,d,aB rfl,om,om,A,rfl,Fx.refl _ h,rfl⟩ ?_
 clear A
 rintro r c Y ⟨i,e,⟨g,rfl⟩,B,O,A,l,F,rfl⟩
 simp(disch:=omega)only[go_sem]
 by_cases s:(i:Int)<(b:Int)
 case neg=>
  rw[bE s];simp(disch:=omega)only[go_sem];rw[insOuter,bL om] at l;rw[←l];exact⟨A,F⟩
 rw[bN s]
 rw[insOuter,bJ om] at l
 simp(disch:=omega)only[go_sem]
 refine aI (λr c t=> ∃(j:Nat) (f:Array Int),(∃g:Nat->V,c= [.sl S 0 N w,aC a,aC b,aC i,aC j,g 5,g 6])/\a<=j/\j<=i/\dK t S N f/\insInner ltInt a j f=insInner ltInt a i e/\Fx (· =S) h t/\r=j) i
  ⟨i,e,aB rfl,om,om,A,rfl,F,rfl⟩ ?_
 clear A F
 rintro r c o ⟨j,f,⟨g2,rfl⟩,G,J,A,n,F,hk⟩
 have sz:=A.size
 by_cases p:(a:Int)<(j:Int)
 ·obtain⟨m,rfl⟩: ∃m,j=m+1:=⟨j- 1,om⟩
  have P:=A.rd (i:=m+1) om
  have K:=A.rd (i:=m) om
  have u:=bN p
  have x:((m+1:Nat):Int)- 1=(m:Int):=om
  simp(disch:=omega)only[go_sem,u,x,P,K]
  refine (fZ _ _ _).mono ?_
  rintro _ z ⟨rfl,v⟩
  have k:Fr o z:=Fr.trans ((Fr.refl o).bH om) v
  have q:=A.fr k
  have R:=q.rd (i:=m+1) om
  have L:=q.rd (i:=m) om
  cases hl:ltInt f[m+1]! f[m]! with
  |false=>
   rw[FZ hl] at n;simp(disch:=omega)only[go_sem,hl];rw[dU i];rw[←n] at l;exact⟨b+1-(i+1),om,i+1,f,aB rfl,om,om,q,l,fS F (Fx.of k),rfl⟩
  |true=>
   rw[CR om hl] at n;simp(disch:=omega)only[go_sem,hl,x,R,L,q.get,bW,bU];have W:=q.swap (i:=m+1) (j:=m) (nx:=z.next+18) om rfl;exact⟨m,om,m,_,aB rfl,om,om,W.1,n,fS (fS F (Fx.of k)) W.2,rfl⟩
 ·have u:=bE p
  rw[FQ om] at n
  simp(disch:=omega)only[go_sem,u]
  rw[dU i]
  rw[←n] at l
  have y:Fr o (H.mk o.tr (o.next+15)):=(Fr.refl o).bH om
  exact⟨b+1-(i+1),om,i+1,f,aB rfl,om,om,A.fr y,l,fS F (Fx.of y),rfl⟩
end
def CO (lt:Int->Int->Bool)(hi first root:Nat)(d:Array Int):Nat:=if 2*root+1+1<hi/\lt d[first+(2*root+1)]! d[first+(2*root+1)+1]! =true then 2*root+2 else 2*root+1
theorem Fw {lt:Int->Int->Bool}(hi first a:Nat)(d:Array Int):siftDown lt hi first a d=if 2*a+1≥hi then d else
  if lt d[first+a]! d[first+CO lt hi first a d]! =true then siftDown lt hi first (CO lt hi first a d) (swp d (first+a) (first+CO lt hi first a d)) else d:=by
 rw[siftDown]
 unfold CO
 by_cases b:2*a+1≥hi
 ·rw[dif_pos b,bJ b]
 ·rw[dif_neg b,bL b]
  by_cases c:2*a+1+1<hi/\lt d[first+(2*a+1)]! d[first+(2*a+1)+1]! =true
  ·rw[bJ (by simpa using c),bJ c]
   cases h3:lt d[first+a]! d[first+(2*a+2)]!
   ·simp
   ·simp [show 2*a+2<hi by omega]
  ·rw[bL (by simpa using c),bL c]
   cases h3:lt d[first+a]! d[first+(2*a+1)]! <;>simp
theorem rM  (h:H)(S N u hi first:Nat)(d:Array Int)(Y:pF)(hN:N<1000000)(A:dK h S N d)(hb:first+hi<=N)(L:u<=hi):
  Ev T 257 [.sl S 0 N Y,aC u,aC hi,aC first] h (λ_ h'=>dK h' S N (siftDown ltInt hi first u d)/\Fx (· =S) h h'):=by
 refine cT jV rfl ?_
 simp(disch:=omega)only[go_sem,jV,aD]
 refine aI (λU s Z=> ∃(r:Nat) (e:Array Int),(∃g:Nat->V,s= [.sl S 0 N Y,aC u,aC hi,aC first,aC r,g 5,g 6,g 7,g 8])/\r<=hi/\dK Z S N e/\siftDown ltInt hi first r e=siftDown ltInt hi first u d/\Fx (· =S) h Z/\U=hi-r) (hi-u)
  ⟨u,d,aB rfl,L,A,rfl,Fx.refl _ h,rfl⟩ ?_
 clear A
 rintro U s o ⟨r,e,⟨g,rfl⟩,hr,A,a,F,rfl⟩
 have Q:2*(r:Int)+1=((2*r+1:Nat):Int):=om
 by_cases w:(hi:Int)<=((2*r+1:Nat):Int)
 ·have J:=bN w
  simp(disch:=omega)only[go_sem,Q,J]
  rw[Fw,bJ om] at a
  rw[←a]
  exact⟨A,F⟩
 have J:=bE w
 rw[Fw,bL om] at a
 have O:((2*r+1:Nat):Int)+1=((2*r+2:Nat):Int):=om
 have c:(first:Int)+(r:Int)=((first+r:Nat):Int):=om
 have k:(first:Int)+((2*r+1:Nat):Int)=((first+(2*r+1):Nat):Int):=om
 have z:(first:Int)+((2*r+2:Nat):Int)=((first+(2*r+2):Nat):Int):=om
 have R:((first+(2*r+1):Nat):Int)+1=((first+(2*r+1)+1:Nat):Int):=om
 have sz:=A.size
 by_cases x:((2*r+2:Nat):Int)<(hi:Int)
 ·have K:=bN x
  have n:=A.rd (i:=first+(2*r+1)) om
  have G:=A.rd (i:=first+(2*r+1)+1) om
  simp(disch:=omega)only[go_sem,Q,J,O,K,k,R,n,G]
  refine (fZ _ _ _).mono ?_
  rintro _ B ⟨rfl,P⟩
  have y:Fr o B:=Fr.trans ((Fr.refl o).bH om) P
  have v:=A.fr y
  have m:=v.rd (i:=first+r) om
  have n:=v.rd (i:=first+(2*r+1)) om
  have G:=v.rd (i:=first+(2*r+2)) om
  cases hl:ltInt e[first+(2*r+1)]! e[first+(2*r+1)+1]! with
  |false=>
   have l:CO ltInt hi first r e=2*r+1:=bL (by rw[hl];simp)
   rw[l] at a;simp(disch:=omega)only[go_sem,hl,c,k,m,n];refine (fZ _ _ _).mono ?_;rintro _ q ⟨rfl,f⟩;have p:Fr B q:=Fr.trans ((Fr.refl B).bH om) f;have b:=v.fr p;have m:=b.rd (i:=first+r) om;have n:=b.rd (i:=first+(2*r+1)) om;have t:=fS (fS F (Fx.of y)) (Fx.of p)
   cases hl2:ltInt e[first+r]! e[first+(2*r+1)]! with
   |false=>
    rw[bL (by rw[hl2];simp)] at a;simp(disch:=omega)only[go_sem,hl2];rw[←a];exact⟨b,t⟩
   |true=>
    rw[bJ hl2] at a;simp(disch:=omega)only[go_sem,hl2,c,k,m,n,b.get,bW,bU];have W:=b.swap (i:=first+r) (j:=first+(2*r+1)) (nx:=q.next+24) om rfl;exact⟨hi-(2*r+1),om,2*r+1,_,aB rfl,om,W.1,a,fS t W.2,rfl⟩
  |true=>
   have l:CO ltInt hi first r e=2*r+2:=bJ ⟨om,hl⟩
   rw[l] at a;simp(disch:=omega)only[go_sem,hl,O,c,z,m,G];refine (fZ _ _ _).mono ?_;rintro _ q ⟨rfl,f⟩;have p:Fr B q:=Fr.trans ((Fr.refl B).bH om) f;have b:=v.fr p;have m:=b.rd (i:=first+r) om;have G:=b.rd (i:=first+(2*r+2)) om;have t:=fS (fS F (Fx.of y)) (Fx.of p)
   cases hl2:ltInt e[first+r]! e[first+(2*r+2)]! with
   |false=>
    rw[bL (by rw[hl2];simp)] at a;simp(disch:=omega)only[go_sem,hl2];rw[←a];exact⟨b,t⟩
   |true=>
    rw[bJ hl2] at a;simp(disch:=omega)only[go_sem,hl2,c,z,m,G,b.get,bW,bU];have W:=b.swap (i:=first+r) (j:=first+(2*r+2)) (nx:=q.next+24) om rfl;exact⟨hi-(2*r+2),om,2*r+2,_,aB rfl,om,W.1,a,fS t W.2,rfl⟩
 ·have K:=bE x
  have l:CO ltInt hi first r e=2*r+1:=bL om
  rw[l] at a
  have y:Fr o (H.mk o.tr (o.next+20)):=(Fr.refl o).bH om
  have v:=A.fr y
  have m:=A.rd (i:=first+r) om
  have n:=A.rd (i:=first+(2*r+1)) om
  simp(disch:=omega)only[go_sem,Q,J,O,K,c,k,m,n]
  refine (fZ _ _ _).mono ?_
  rintro _ q ⟨rfl,f⟩
  have p:Fr o q:=Fr.trans ((Fr.refl o).bH om) f
  have b:=A.fr p
  have m:=b.rd (i:=first+r) om
  have n:=b.rd (i:=first+(2*r+1)) om
  have t:=fS F (Fx.of p)
  cases hl2:ltInt e[first+r]! e[first+(2*r+1)]! with
  |false=>
   rw[bL (by rw[hl2];simp)] at a;simp(disch:=omega)only[go_sem,hl2];rw[←a];exact⟨b,t⟩
  |true=>
   rw[bJ hl2] at a;simp(disch:=omega)only[go_sem,hl2,c,k,m,n,b.get,bW,bU];have W:=b.swap (i:=first+r) (j:=first+(2*r+1)) (nx:=q.next+24) om rfl;exact⟨hi-(2*r+1),om,2*r+1,_,aB rfl,om,W.1,a,fS t W.2,rfl⟩
theorem Bg  (h:H)(S N a b:Nat)(d:Array Int)(r:pF)(y:N<1000000)(A:dK h S N d)(hb:b<=N)(Z:a<=b):
  Ev T 235 [.sl S 0 N r,aC a,aC b] h (λ_ h'=>dK h' S N (heapSort ltInt d a b)/\Fx (· =S) h h'):=by
 refine cT jX rfl ?_
 obtain⟨n,L⟩:=exI (b-a)
 have R:(b:Int)-(a:Int)=(n:Int):=om
 have B:((n:Int)- 1).tdiv 2=(((n- 1)/2+1:Nat):Int)- 1:=by
  by_cases O:n=0
  ·subst O;decide
  ·rw[Int.tdiv_eq_ediv_of_nonneg om];omega
 simp(disch:=omega)only[go_sem,jX,aD,R,B]
 refine aI (λf c t=> ∃(k:Nat) (e:Array Int),(∃g:Nat->V,c= [.sl S 0 N r,aC a,aC b,aC a,aC 0,aC n,aC ((k:Int)- 1),g 7,g 8,g 9])/\k<=n+1/\(k=1∨k<=n)/\dK t S N e/\heapBuild ltInt n a k e=heapBuild ltInt n a ((n- 1)/2+1) d/\Fx (· =S) h t/\f=k) ((n- 1)/2+1)
  ⟨(n- 1)/2+1,d,aB rfl,om,om,A,rfl,Fx.refl _ h,rfl⟩ ?_
 clear A
 rintro f c G ⟨k,e,⟨g,rfl⟩,s,w,A,v,F,x⟩
 subst x
 by_cases l:(0:Int)<=(f:Int)- 1
 ·have o:=bN l
  obtain⟨m,rfl⟩: ∃m,f=m+1:=⟨f- 1,om⟩
  have p:((m+1:Nat):Int)- 1=(m:Int):=om
  rw[p] at o
  rw[p]
  simp(disch:=omega)only[go_sem,o]
  refine (rM G S N m n a e r y A om om).mono ?_
  rintro _ z ⟨J,F2⟩
  simp(disch:=omega)only[go_sem]
  exact⟨m,om,m,_,aB rfl,om,om,J,v,fS F F2,rfl⟩
 have o:=bE l
 obtain rfl:f=0:=om
 have v:e=heapBuild ltInt n a ((n- 1)/2+1) d:=v
 simp(disch:=omega)only[go_sem,o]
 refine aI (λf c t=> ∃(k:Nat) (q:Array Int),(∃g:Nat->V,c= [.sl S 0 N r,aC a,aC b,aC a,aC 0,aC n,g 6,aC ((k:Int)- 1),g 8,g 9])/\k<=n/\dK t S N q/\heapPop ltInt a k q=heapPop ltInt a n e/\Fx (· =S) h t/\f=k) n
  ⟨n,e,aB rfl,om,A,rfl,F,rfl⟩ ?_
 clear A F l o s w
 rintro f c z ⟨k,q,⟨g,rfl⟩,s,A,u,F,x⟩
 subst x
 have sz:=A.size
 by_cases l:(0:Int)<=(f:Int)- 1
 ·have o:=bN l
  obtain⟨m,rfl⟩: ∃m,f=m+1:=⟨f- 1,om⟩
  have p:((m+1:Nat):Int)- 1=(m:Int):=om
  rw[p] at o
  rw[p]
  have U:(a:Int)+(m:Int)=((a+m:Nat):Int):=om
  have Q:=A.rd (i:=a+m) om
  have c2:=A.rd (i:=a) om
  simp(disch:=omega)only[go_sem,o,U,Q,c2,A.get,bW,bU]
  have W:=A.swap (i:=a) (j:=a+m) (nx:=z.next+20) om rfl
  have Y:=rM _ S N 0 m a _ r y W.1 om om
  refine Y.mono ?_
  rintro _ h3 ⟨K,P⟩
  simp(disch:=omega)only[go_sem]
  exact⟨m,om,m,_,aB rfl,om,K,u,fS (fS F W.2) P,rfl⟩
 have o:=bE l
 obtain rfl:f=0:=om
 simp(disch:=omega)only[go_sem,o]
 have u:q=heapPop ltInt a n e:=u
 have:heapSort ltInt d a b=q:=by unfold heapSort;rw[L,u,v]
 rw[this]
 exact⟨A,F⟩
def ZB (op:BinOp)(k:IntKind)(x y:V):Option V:=match x,y with
 | .int j a,.int _ b=>if j=k then Dz op k a b else none
 |_,_=>none
theorem Hl (ρ:X->V)(h:H)(op:BinOp)(k:IntKind)(x y:X):cK ρ h (.shf op k x y)=(ZB op k (ρ x) (ρ y)).map (·,h):=by
 simp only[cK,ZB];cases ρ x<;>cases ρ y<;>try rfl
 simp only;split<;>rfl
theorem Ar (op:BinOp)(k j:IntKind)(a b:Int):ZB op k (.int k a) (.int j b)=Dz op k a b:=by simp [ZB]
theorem Xz (n:Int):0<=IntKind.u64.wrap n/\IntKind.u64.wrap n<18446744073709551616:=by
 unfold IntKind.wrap;simp only[IntKind.bits,IntKind.signed];have:=Int.emod_nonneg n (show (18446744073709551616:Int)≠0 by omega);have:=Int.emod_lt_of_pos n (show (0:Int)<18446744073709551616 by omega);simp;omega
theorem eS {n:Int}(a:0<=n)(h2:n<18446744073709551616):IntKind.u64.wrap n=n:=by
 unfold IntKind.wrap;simp only[IntKind.bits,IntKind.signed];have:n%18446744073709551616=n:=Int.emod_eq_of_lt a h2;simp;exact this
theorem xY {n:Int}(a:0<=n)(h2:n<256):IntKind.u8.wrap n=n:=by
 unfold IntKind.wrap;simp only[IntKind.bits,IntKind.signed];have:n%256=n:=Int.emod_eq_of_lt a h2;simp;exact this
theorem IC (a b:Int)(c:0<=b): ∃y,Dz .shl .u64 a b=some (.int .u64 y)/\0<=y/\y<18446744073709551616:=by
 unfold Dz;rw[bL om];exact⟨_,rfl,Xz _⟩
theorem acS (a b:Int)(c:0<=b): ∃y,Dz .shr .u64 a b=some (.int .u64 y):=by
 unfold Dz;rw[bL om];exact⟨_,rfl⟩
theorem MF {x:Nat}:Dz .shr .u64 (x:Int) 8=some (.int .u64 ((x/256:Nat):Int)):=by
 unfold Dz;rw[bL om];simp only;congr 2;show Int.fdiv (x:Int) 256=_;rw[Int.fdiv_eq_ediv_of_nonneg _ om];rfl
theorem Wx (a b:Int): ∃y,arith .xor .u64 a b=some (.int .u64 y)/\0<=y/\y<18446744073709551616:=⟨_,rfl,Xz _⟩
theorem GN (a:Int)(b:Nat)(c:b<18446744073709551616): ∃y:Nat,arith .and .u64 a (b:Int)=some (.int .u64 (y:Int))/\y<=b:=by
 refine⟨(BitVec.ofInt 64 a&&&BitVec.ofInt 64 (b:Int)).toNat,?_,?_⟩
 ·rw[KX]
  congr 2;show IntKind.u64.wrap (((BitVec.ofInt 64 a&&&BitVec.ofInt 64 (b:Int)).toNat:Nat):Int)=_;have:=(BitVec.ofInt 64 a&&&BitVec.ofInt 64 (b:Int)).isLt;generalize (BitVec.ofInt 64 a&&&BitVec.ofInt 64 (b:Int)).toNat=w at*;exact eS om om
 ·rw[BitVec.toNat_and]
  have:(BitVec.ofInt 64 (b:Int)).toNat=b:=by
   simp [BitVec.toNat_ofInt];omega
  rw[this];exact Nat.and_le_right
theorem VV: ∀z,z<256->([0,1,2,2,3,3,3,3,4,4,4,4,4,4,4,4,5,5,5,5,5,5,5,5,5,5,5,5,5,5,5,5,6,6,6,6,6,6,6,6,6,6,6,6,6,6,6,6,6,6,6,6,6,6,6,6,6,6,6,6,6,6,6,6,7,7,7,7,7,7,7,7,7,7,7,7,7,7,7,7,7,7,7,7,7,7,7,7,7,7,7,7,7,7,7,7,7,7,7,7,7,7,7,7,7,7,7,7,7,7,7,7,7,7,7,7,7,7,7,7,7,7,7,7,7,7,7,7,8,8,8,8,8,8,8,8,8,8,8,8,8,8,8,8,8,8,8,8,8,8,8,8,8,8,8,8,8,8,8,8,8,8,8,8,8,8,8,8,8,8,8,8,8,8,8,8,8,8,8,8,8,8,8,8,8,8,8,8,8,8,8,8,8,8,8,8,8,8,8,8,8,8,8,8,8,8,8,8,8,8,8,8,8,8,8,8,8,8,8,8,8,8,8,8,8,8,8,8,8,8,8,8,8,8,8,8,8,8,8,8,8,8,8,8,8,8,8,8,8,8,8,8,8,8,8,8][z]? :Option Nat)=some (bitsLen z):=by decide+kernel
theorem IP {z:Nat}(b:z<256):aaN (.str [0,1,2,2,3,3,3,3,4,4,4,4,4,4,4,4,5,5,5,5,5,5,5,5,5,5,5,5,5,5,5,5,6,6,6,6,6,6,6,6,6,6,6,6,6,6,6,6,6,6,6,6,6,6,6,6,6,6,6,6,6,6,6,6,7,7,7,7,7,7,7,7,7,7,7,7,7,7,7,7,7,7,7,7,7,7,7,7,7,7,7,7,7,7,7,7,7,7,7,7,7,7,7,7,7,7,7,7,7,7,7,7,7,7,7,7,7,7,7,7,7,7,7,7,7,7,7,7,8,8,8,8,8,8,8,8,8,8,8,8,8,8,8,8,8,8,8,8,8,8,8,8,8,8,8,8,8,8,8,8,8,8,8,8,8,8,8,8,8,8,8,8,8,8,8,8,8,8,8,8,8,8,8,8,8,8,8,8,8,8,8,8,8,8,8,8,8,8,8,8,8,8,8,8,8,8,8,8,8,8,8,8,8,8,8,8,8,8,8,8,8,8,8,8,8,8,8,8,8,8,8,8,8,8,8,8,8,8,8,8,8,8,8,8,8,8,8,8,8,8,8,8,8,8,8,8]) (.int .u8 (z:Int))=some (.int .u8 ((bitsLen z:Nat):Int)):=by
 have c:bitsLen z<=8:=(bitsLen_le_iff z 8).2 om;have a:=VV z b;generalize ([0,1,2,2,3,3,3,3,4,4,4,4,4,4,4,4,5,5,5,5,5,5,5,5,5,5,5,5,5,5,5,5,6,6,6,6,6,6,6,6,6,6,6,6,6,6,6,6,6,6,6,6,6,6,6,6,6,6,6,6,6,6,6,6,7,7,7,7,7,7,7,7,7,7,7,7,7,7,7,7,7,7,7,7,7,7,7,7,7,7,7,7,7,7,7,7,7,7,7,7,7,7,7,7,7,7,7,7,7,7,7,7,7,7,7,7,7,7,7,7,7,7,7,7,7,7,7,7,8,8,8,8,8,8,8,8,8,8,8,8,8,8,8,8,8,8,8,8,8,8,8,8,8,8,8,8,8,8,8,8,8,8,8,8,8,8,8,8,8,8,8,8,8,8,8,8,8,8,8,8,8,8,8,8,8,8,8,8,8,8,8,8,8,8,8,8,8,8,8,8,8,8,8,8,8,8,8,8,8,8,8,8,8,8,8,8,8,8,8,8,8,8,8,8,8,8,8,8,8,8,8,8,8,8,8,8,8,8,8,8,8,8,8,8,8,8,8,8,8,8,8,8,8,8,8,8]:List Nat)=l at*;unfold aaN;simp only;rw[bJ om,OM,a];simp only[Option.map_some];rw[Nat.mod_eq_of_lt om]
theorem TY {x:Nat}(h:256<=x):bitsLen x=8+bitsLen (x/256):=by
 apply Nat.le_antisymm
 ·rw[bitsLen_le_iff,Nat.pow_add]
  have:=lt_two_pow_bitsLen (x/256);omega
 ·have b:=lt_two_pow_bitsLen x
  have d: ¬bitsLen x<=8:=λc=>by rw[bitsLen_le_iff] at c;omega
  obtain⟨k,a⟩: ∃k,bitsLen x=8+k:=⟨bitsLen x- 8,om⟩
  rw[a,Nat.pow_add] at b;have:bitsLen (x/256)<=k:=(bitsLen_le_iff _ _).2 om;omega
theorem OV (x:Nat)(h:H)(g:x<65536):Ev T 177 [.int .u64 (x:Int)] h (λv h'=>v= aC (bitsLen x:Nat)/\h'=h):=by
 refine cT nU rfl ?_;have c:decide ((4294967296:Int)<=(x:Int))=false:=bE om;have b:decide ((65536:Int)<=(x:Int))=false:=bE om
 by_cases e:256<=x
 ·have a:decide ((256:Int)<=(x:Int))=true:=bN om
  have f:=TY e;have d:bitsLen (x/256)<=8:=(bitsLen_le_iff _ 8).2 om;simp(disch:=omega)only[go_sem,nU,aD,c,b,a,Hl,Ar,MF,HJ,IP,xY];exact⟨by congr 1;omega,trivial⟩
 ·have a:decide ((256:Int)<=(x:Int))=false:=bE om
  have d:bitsLen x<=8:=(bitsLen_le_iff _ 8).2 om;simp(disch:=omega)only[go_sem,nU,aD,c,b,a,HJ,IP,xY];exact⟨by congr 1;omega,trivial⟩
theorem EL (x:Nat)(h:H)(a:x<65536):Ev T 128 [.int .u64 (x:Int)] h (λv h'=>v= aC (bitsLen x:Nat)/\h'=h):=by
 refine cT yW rfl ?_;simp(disch:=omega)only[go_sem,yW,aD];refine (OV x h a).mono ?_;rintro _ _ ⟨rfl,rfl⟩;simp(disch:=omega)only[go_sem]
theorem JJ (n:Nat)(h:H)(d:n<65536):Ev T 212 [aC n] h (λv h'=>v= .int .u64 ((2^bitsLen n:Nat):Int)/\h'=h):=by
 refine cT mY rfl ?_;have b:bitsLen n<=16:=(bitsLen_le_iff _ 16).2 om;have c:2^bitsLen n<=2^16:=Nat.pow_le_pow_right om b;obtain⟨m,a⟩:=exI (2^bitsLen n);rw[a] at c ⊢
 have f:Dz .shl .u64 1 ((bitsLen n:Nat):Int)=some (.int .u64 (m:Int)):=by
  unfold Dz;rw[bL om];simp only[OM,IntKind.bits];rw[Nat.min_eq_left om];have e:(1:Int)*2^bitsLen n=(m:Int):=by rw[Int.one_mul,←a];push_cast;rfl
  rw[e,eS om om]
 simp(disch:=omega)only[go_sem,mY,aD,eS (n:=(n:Int)) om om];refine (EL n h d).mono ?_;rintro _ _ ⟨rfl,rfl⟩;simp(disch:=omega)only[go_sem,Hl,Ar,f]
theorem IJ (R:Nat)(x:Int)(h:H)(k:h.get R=some (.cells false [.int .u64 x]))(s:R<h.next):
  Ev T 213 [.ptr R 0] h (λv h'=> ∃y,v= .int .u64 y/\h'.get R=some (.cells false [.int .u64 y])/\Fx (· =R) h h'):=by
 refine cT nV rfl ?_
 have m:h.cell R 0=some (.int .u64 x):=by rw[H.aF k];rfl
 obtain⟨q,c,_⟩:=IC x 13 om
 obtain⟨l,e,_⟩:=Wx x q
 obtain⟨p,g⟩:=acS l 7 om
 obtain⟨j,b,_⟩:=Wx l p
 obtain⟨n,i,_⟩:=IC j 17 om
 obtain⟨r,f,_⟩:=Wx j n
 have o: ∀(u w:Int) (a:H),dR (some (.cells false [.int .u64 u])) a R 0 [.int .u64 w]=some (a.set R (some (.cells false [.int .u64 w]))):=λu w a=>bP (by simp) a R _
 simp(disch:=omega)only[go_sem,nV,aD,m,Hl,Ar,c,e,g,b,i,f,k,o]
 exact⟨r,rfl,rfl,⟨by simp only[H.cH];omega,λid _ d=>by
  rw[H.aH _ d,H.qB,H.aH _ d,H.qB,H.aH _ d,H.qB]⟩⟩
theorem dK.LK  {h h':H}{S N R:Nat}{d:Array Int}(A:dK h S N d)(f:Fx (· =R) h h')(a:R≠S):dK h' S N d:=⟨by rw[f.get S A.lt (λe=>a e.symm)];exact A.get,A.size,jB A.lt f.next⟩
theorem Et  (h:H)(S N a b:Nat)(d:Array Int)(n:pF)(v:N<1000000)(A:dK h S N d)(x:b<=N)(t:a<b):
  Ev T 238 [.sl S 0 N n,aC a,aC b] h (λ_ h'=>dK h' S N (reverseRange d a b)/\Fx (· =S) h h'):=by
 refine cT iT rfl ?_
 have u:(b:Int)- 1=((b- 1:Nat):Int):=om
 simp(disch:=omega)only[go_sem,iT,aD,u]
 refine aI (λc f o=> ∃(i j:Nat) (e:Array Int),(∃g:Nat->V,f= [.sl S 0 N n,aC a,aC b,aC i,aC j,g 5])/\j<b/\i<=b/\dK o S N e/\reverseLoop i j e=reverseLoop a (b- 1) d/\Fx (· =S) h o/\c=j) (b- 1)
  ⟨a,b- 1,d,aB rfl,om,om,A,rfl,Fx.refl _ h,rfl⟩ ?_
 clear A
 rintro c f r ⟨i,j,e,⟨g,rfl⟩,w,hi,A,k,F,p⟩
 subst p
 have sz:=A.size
 rw[reverseLoop] at k
 by_cases l:(i:Int)<(c:Int)
 ·have m:=bN l
  rw[bJ om] at k
  have s:=A.rd (i:=i) om
  have q:=A.rd (i:=c) om
  simp(disch:=omega)only[go_sem,m,s,q,A.get,bW,bU]
  have W:=A.swap (i:=i) (j:=c) (nx:=r.next+16) om rfl
  rw[show (i:Int)+1=((i+1:Nat):Int) from om,show (c:Int)- 1=((c- 1:Nat):Int) from om]
  exact⟨c- 1,om,i+1,c- 1,_,aB rfl,om,om,W.1,k,fS F W.2,rfl⟩
 have m:=bE l
 rw[bL om] at k
 simp(disch:=omega)only[go_sem,m]
 unfold reverseRange
 rw[←k]
 exact⟨A,F⟩
theorem Ou (n:Nat){k:Int}{m:Nat}(a:k=(m:Int)):(n:Int).tdiv k=((n/m:Nat):Int):=by
 rw[a,Int.tdiv_eq_ediv_of_nonneg om];rfl
theorem Qc  (h:H)(S N a b:Nat)(d:Array Int)(cp:pF)(hN:N<60000)(A:dK h S N d)(hb:b<=N)(a1:a<=b):
  Ev T 236 [.sl S 0 N cp,aC a,aC b] h (λ_ h'=> ∃e,dK h' S N e/\PermIn a b d e/\Fx (· =S) h h'):=by
 refine cT eZ rfl ?_
 obtain⟨n,hn⟩:=exI (b-a)
 have en:(b:Int)-(a:Int)=(n:Int):=om
 by_cases h8:(8:Int)<=(n:Int)
 case neg=>
  have Z:=bE h8;simp(disch:=omega)only[go_sem,eZ,aD,en,Z];exact⟨d,A,permIn_refl d a b,Fx.refl _ h⟩
 have Z:=bN h8
 have J:=Ou n (k:=4) (m:=4) rfl
 obtain⟨q,hq⟩:=exI (n/4)
 rw[hq] at J
 have ei:(a:Int)+(q:Int)*2- 1=((a+q*2- 1:Nat):Int):=om
 have ej:(a:Int)+(q:Int)*2+1=((a+q*2+1:Nat):Int):=om
 have hp:=two_pow_bitsLen_le (show 0<n by omega)
 have Q:=lt_two_pow_bitsLen n
 obtain⟨m,hm⟩:=exI (2^bitsLen n)
 rw[hm] at hp Q
 obtain⟨R,hR⟩:=exI h.next
 have a0:R≠S:=by have:=A.lt;omega
 have P: ∀c:H,dR (aY [.int .u64 0]) c R 0 [.int .u64 (n:Int)]=some (c.set R (aY [.int .u64 (n:Int)])):=λc=>bP (by simp) c R _
 have z:(h.new (.cells false [.int .u64 0])).get R=aY [.int .u64 0]:=by rw[←hR,H.aL]
 simp(disch:=omega)only[go_sem,eZ,aD,en,Z,hR,eS (n:=(n:Int)) om om,z,P]
 obtain⟨o,f⟩: ∃o,o=(h.new (.cells false [.int .u64 0])).set R (aY [.int .u64 (n:Int)]):=⟨_,rfl⟩
 rw[←f]
 have g1:o.get R=aY [.int .u64 (n:Int)]:=by rw[f,H.aS]
 have n1:o.next=R+1:=by rw[f,H.cH,H.aU,hR]
 have f1:Fr h o:=by rw[f];exact ((Fr.refl h).new _).set om _
 clear f
 refine (JJ n o om).mono ?_
 rintro _ a2 ⟨rfl,c⟩
 rw[c,hm]
 simp(disch:=omega)only[go_sem,J,ei]
 refine aI (λk' p c=> ∃(i:Nat) (e:Array Int) (x:Int),(∃g:Nat->V,p= [.sl S 0 N cp,aC a,aC b,aC n,.ptr R 0,.int .u64 (m:Int),aC i,g 7,g 8,g 9,g 10])/\a<=i/\i<=a+q*2+2/\dK c S N e/\PermIn a b d e/\c.get R=aY [.int .u64 x]/\R<c.next/\Fx (· =S) h c/\k'=a+q*2+2-i) (a+q*2+2-(a+q*2- 1))
  ⟨a+q*2- 1,d,_,aB rfl,om,om,A.fr f1,permIn_refl d a b,g1,om,Fx.of f1,rfl⟩ ?_
 clear A g1 n1 f1 c o
 rintro k' p o ⟨i,e,x,⟨g,rfl⟩,r,a3,A,Y,gR,nR,F,rfl⟩
 by_cases t:(i:Int)<=((a+q*2+1:Nat):Int)
 case neg=>
  have L:=bE t;simp(disch:=omega)only[go_sem,J,ej,L];exact⟨e,A,Y,F⟩
 have L:=bN t
 simp(disch:=omega)only[go_sem,J,ej,L]
 refine (IJ R x o gR nR).mono ?_
 rintro _ G ⟨y,rfl,s,F2⟩
 have l:=A.LK F2 a0
 obtain⟨w,hw,a4⟩:=GN y (m- 1) om
 have em:(m:Int)- 1=((m- 1:Nat):Int):=om
 have sz:=l.size
 have u:Fx (· =S) h G:=⟨lX F.next F2.next,λid h3 h4=>(F2.get id (jB h3 F.next) (λe=>by have:id=R:=e;omega)).trans (F.get id h3 h4)⟩
 have B:R<G.next:=jB nR F2.next
 by_cases v:(n:Int)<=(w:Int)
 ·have K:=bN v
  have e3:(w:Int)-(n:Int)=((w-n:Nat):Int):=om
  have O:(a:Int)+((w-n:Nat):Int)=((a+(w-n):Nat):Int):=om
  have c1:=l.rd (i:=i) om
  have U:=l.rd (i:=a+(w-n)) om
  simp(disch:=omega)only[go_sem,em,eS (n:=((m- 1:Nat):Int)) om om,hw,K,e3,O,c1,U,l.get,bW,bU]
  have W:=l.swap (i:=i) (j:=a+(w-n)) (nx:=G.next+20) om rfl
  rw[dU i]
  refine⟨a+q*2+2-(i+1),om,i+1,_,y,aB rfl,om,om,W.1,permIn_trans _ _ _ a b Y (swp_permIn e a b i (a+(w-n)) r om om om om),?_,jB B W.2.next,fS u W.2,rfl⟩
  exact s
 ·have K:=bE v
  have O:(a:Int)+(w:Int)=((a+w:Nat):Int):=om
  have c1:=l.rd (i:=i) om
  have U:=l.rd (i:=a+w) om
  simp(disch:=omega)only[go_sem,em,eS (n:=((m- 1:Nat):Int)) om om,hw,K,O,c1,U,l.get,bW,bU]
  have W:=l.swap (i:=i) (j:=a+w) (nx:=G.next+20) om rfl
  rw[dU i]
  refine⟨a+q*2+2-(i+1),om,i+1,_,y,aB rfl,om,om,W.1,permIn_trans _ _ _ a b Y (swp_permIn e a b i (a+w) r om om om om),?_,jB B W.2.next,fS u W.2,rfl⟩
  exact s
structure FW (h h':H)(R:Nat):Prop where
 get: ∃s,h'.get R=aY [aC s]
 fx:Fx (· =R) h h'
theorem FW.trans {a b c:H}{R:Nat}(x:FW a b R)(y:FW b c R):FW a c R:=⟨y.get,x.fx.trans y.fx λ_ _ h=>h⟩
theorem qE  (h:H)(S N a b R:Nat)(d:Array Int)(m:pF)(q:N<1000000)(A:dK h S N d)(u:a<N)(r:b<N)(t:R≠S)(g:R<h.next)(s:Int)(o:h.get R=aY [aC s]):
  Ev T 263 [.sl S 0 N m,aC a,aC b,.ptr R 0] h (λv h'=>(v= .tup [aC a,aC b]∨v= .tup [aC b,aC a])/\FW h h' R):=by
 refine cT kV rfl ?_
 have n:=A.rd (i:=a) om
 have p:=A.rd (i:=b) om
 simp(disch:=omega)only[go_sem,kV,aD,n,p]
 refine (fZ _ _ _).mono ?_
 rintro _ e ⟨rfl,k⟩
 have j:Fr h e:=Fr.trans ((Fr.refl h).bH om) k
 have c:e.get R=aY [aC s]:=by rw[j.get R g];exact o
 cases hl:ltInt d[b]! d[a]! with
 |false=>
  simp(disch:=omega)only[go_sem,hl];exact⟨.inl trivial,⟨s,c⟩,Fx.of j⟩
 |true=>
  have cR:e.cell R 0=some (aC s):=by rw[H.aF c];rfl
  have l: ∀(w:Int) (f:H),dR (aY [aC s]) f R 0 [aC w]=some (f.set R (aY [aC w])):=λw f=>bP (by simp) f R _
  simp(disch:=omega)only[go_sem,hl,cR,c,l];exact⟨.inr trivial,⟨_,by rw[H.aS]⟩,(Fx.of (W:=(· =R)) j).trans (Fx.set e (W:=(· =R)) rfl _) (λ_ _ h=>h)⟩
theorem wM  (h:H)(S N a b c R:Nat)(d:Array Int)(l:pF)(r:N<1000000)(A:dK h S N d)(u:a<N)(o:b<N)(B:c<N)(g:R≠S)(f:R<h.next)(s:Int)(gR:h.get R=aY [aC s]):
  Ev T 259 [.sl S 0 N l,aC a,aC b,aC c,.ptr R 0] h (λv h'=>(∃m,v= aC (m:Nat)/\(m=a∨m=b∨m=c))/\FW h h' R):=by
 refine cT lJ rfl ?_
 simp(disch:=omega)only[go_sem,lJ,aD]
 refine (qE h S N a b R d l r A u o g f s gR).mono ?_
 rintro O Q ⟨p,k⟩
 obtain⟨z,i,rfl,q,e,L⟩: ∃x y,O= .tup [aC (x:Nat),aC (y:Nat)]/\x<N/\y<N/\((x=a∨x=b)/\(y=a∨y=b)):=by
  rcases p with rfl|rfl
  ·exact⟨a,b,rfl,u,o,.inl rfl,.inr rfl⟩
  ·exact⟨b,a,rfl,o,u,.inr rfl,.inl rfl⟩
 have F:=A.LK k.fx g
 obtain⟨s1,Z⟩:=k.get
 have K:=jB f k.fx.next
 simp(disch:=omega)only[go_sem]
 refine (qE Q S N i c R d l r F e B g K s1 Z).mono ?_
 rintro v2 h2 ⟨t,j⟩
 obtain⟨G,y2,rfl,n,J⟩: ∃x y,v2= .tup [aC (x:Nat),aC (y:Nat)]/\x<N/\(x=i∨x=c):=by
  rcases t with rfl|rfl
  ·exact⟨i,c,rfl,e,.inl rfl⟩
  ·exact⟨c,i,rfl,B,.inr rfl⟩
 have U:=F.LK j.fx g
 obtain⟨Y,g2⟩:=j.get
 have W:=jB K j.fx.next
 simp(disch:=omega)only[go_sem]
 refine (qE h2 S N z G R d l r U q n g W Y g2).mono ?_
 rintro v3 h3 ⟨w,P⟩
 have C:=(k.trans j).trans P
 rcases w with rfl|rfl
 ·simp(disch:=omega)only[go_sem]
  exact⟨⟨G,rfl,om⟩,C⟩
 ·simp(disch:=omega)only[go_sem]
  exact⟨⟨z,rfl,om⟩,C⟩
theorem mS  (h:H)(S N a R:Nat)(d:Array Int)(c:pF)(g:N<1000000)(A:dK h S N d)(n:0<a)(l:a+1<N)(e:R≠S)(b:R<h.next)(s:Int)(i:h.get R=aY [aC s]):
  Ev T 258 [.sl S 0 N c,aC a,.ptr R 0] h (λv h'=>(∃m,v= aC (m:Nat)/\(m=a- 1∨m=a∨m=a+1))/\FW h h' R):=by
 refine cT iF rfl ?_
 have k:(a:Int)- 1=((a- 1:Nat):Int):=om
 have j:(a:Int)+1=((a+1:Nat):Int):=om
 simp(disch:=omega)only[go_sem,iF,aD,k,j]
 refine (wM h S N (a- 1) a (a+1) R d c g A om om om e b s i).mono ?_
 rintro _ o ⟨⟨m,rfl,f⟩,C⟩
 simp(disch:=omega)only[go_sem]
 exact⟨⟨m,rfl,f⟩,C⟩
theorem Ov  (h:H)(S N a b:Nat)(d:Array Int)(B:pF)(P:N<1000000)(A:dK h S N d)(hb:b<=N)(a0:a<b):
  Ev T 237 [.sl S 0 N B,aC a,aC b] h (λv h'=> ∃(p:Nat) (t:Int),v= .tup [aC p,aC t]/\a<=p/\p<b/\Fr h h'):=by
 refine cT dQ rfl ?_
 obtain⟨n,hn⟩:=exI (b-a)
 have en:(b:Int)-(a:Int)=(n:Int):=om
 have U:=Ou n (k:=4) (m:=4) rfl
 obtain⟨q,hq⟩:=exI (n/4)
 rw[hq] at U
 have ei:(a:Int)+(q:Int)*1=((a+q:Nat):Int):=om
 have ej:(a:Int)+(q:Int)*2=((a+q*2:Nat):Int):=om
 have ek:(a:Int)+(q:Int)*3=((a+q*3:Nat):Int):=om
 obtain⟨R,K⟩:=exI h.next
 have c:R≠S:=by have:=A.lt;omega
 obtain⟨l,f⟩: ∃l,l=h.new (.cells false [aC 0]):=⟨_,rfl⟩
 have g1:l.get R=aY [aC 0]:=by rw[f,←K,H.aL]
 have n1:l.next=R+1:=by rw[f,H.aU,K]
 have f1:Fr h l:=by rw[f];exact (Fr.refl h).new _
 have A1:=A.fr f1
 have J: ∀(p:Nat) (g:H),a<=p->p<b->Fx (· =R) l g->a<=p/\p<b/\Fr h g:=λp g x1 x2 x3=>⟨x1,x2,lX f1.next x3.next,λid W=>(x3.get id om (λe=>by have:id=R:=e;omega)).trans (f1.get id W)⟩
 by_cases h8:(8:Int)<=(n:Int)
 case neg=>
  have Q:=bE h8;simp(disch:=omega)only[go_sem,dQ,aD,en,U,ei,ej,ek,Q];rw[←f];have cR:l.cell R 0=some (aC 0):=by rw[H.aF g1];rfl
  simp(disch:=omega)only[go_sem,K,cR];refine bA (λ_=>?_) (λhc=>(hc (by trivial)).elim);simp(disch:=omega)only[go_sem];exact⟨a+q*2,1,rfl,J _ _ om om (Fx.refl _ _)⟩
 have Q:=bN h8
 have r: ∀(i j k:Nat) (g:H) (G:Int),a<=i->i<b->a<=j->j<b->a<=k->k<b->dK g S N d->g.get R=aY [aC G]->R<g.next->Fx (· =R) l g->
   Ev T 259 [.sl S 0 N B,aC i,aC j,aC k,.ptr R 0] g (λv h'=> ∃p o,v= aC (p:Nat)/\a<=p/\p<b/\h'.get R=aY [aC o]/\Fr h h'):=by
  intro i j k g G i1 i2 j1 j2 k1 k2 O Z n2 F2
  refine (wM g S N i j k R d B P O om om om c n2 G Z).mono ?_
  rintro _ w ⟨⟨p,rfl,hp⟩,⟨o,y⟩,L⟩
  exact⟨p,o,rfl,om,om,y,(J p w om om (F2.trans L λ_ _ h=>h)).2.2⟩
 by_cases F:(50:Int)<=(n:Int)
 case neg=>
  have x:=bE F;simp(disch:=omega)only[go_sem,dQ,aD,en,U,ei,ej,ek,Q,x];rw[←f];simp(disch:=omega)only[go_sem,K];refine (r (a+q) (a+q*2) (a+q*3) l 0 om om om om om om A1 g1 om (Fx.refl _ _)).mono ?_;rintro _ w ⟨p,o,rfl,u,z,y,s⟩;have cR:w.cell R 0=some (aC o):=by rw[H.aF y];rfl
  simp(disch:=omega)only[go_sem,cR];refine bA (λ_=>?_) (λ_=>?_)
  ·simp(disch:=omega)only[go_sem]
   exact⟨p,1,rfl,u,z,s⟩
  ·simp(disch:=omega)only[go_sem]
   refine bA (λ_=>?_) (λ_=>?_)
   ·simp(disch:=omega)only[go_sem]
    exact⟨p,2,rfl,u,z,s⟩
   ·simp(disch:=omega)only[go_sem]
    exact⟨p,0,rfl,u,z,s⟩
 have x:=bN F
 simp(disch:=omega)only[go_sem,dQ,aD,en,U,ei,ej,ek,Q,x]
 rw[←f]
 simp(disch:=omega)only[go_sem,K]
 refine (mS l S N (a+q) R d B P A1 om om c om 0 g1).mono ?_
 rintro _ g ⟨⟨i,rfl,hi⟩,⟨G,Z⟩,F2⟩
 have O:=A1.LK F2 c
 have n2:=F2.next
 simp(disch:=omega)only[go_sem]
 refine (mS g S N (a+q*2) R d B P O om om c om G Z).mono ?_
 rintro _ w ⟨⟨j,rfl,hj⟩,⟨o,y⟩,L⟩
 have A3:=O.LK L c
 have n3:=L.next
 simp(disch:=omega)only[go_sem]
 refine (mS w S N (a+q*3) R d B P A3 om om c om o y).mono ?_
 rintro _ h4 ⟨⟨k,rfl,hk⟩,⟨s4,g4⟩,Y⟩
 have A4:=A3.LK Y c
 have n4:=Y.next
 simp(disch:=omega)only[go_sem]
 refine (r i j k h4 s4 om om om om om om A4 g4 om ((F2.trans L λ_ _ h=>h).trans Y λ_ _ h=>h)).mono ?_
 rintro _ w ⟨p,o,rfl,u,z,y,s⟩
 have cR:w.cell R 0=some (aC o):=by rw[H.aF y];rfl
 simp(disch:=omega)only[go_sem,cR]
 refine bA (λ_=>?_) (λ_=>?_)
 ·simp(disch:=omega)only[go_sem]
  exact⟨p,1,rfl,u,z,s⟩
 ·simp(disch:=omega)only[go_sem]
  refine bA (λ_=>?_) (λ_=>?_)
  ·simp(disch:=omega)only[go_sem]
   exact⟨p,2,rfl,u,z,s⟩
  ·simp(disch:=omega)only[go_sem]
   exact⟨p,0,rfl,u,z,s⟩
section
variable {lt:Int->Int->Bool} {j b:Nat} {d:Array Int}
theorem UA (h:lt d[j+1]! d[j]! =true):shiftDown lt (j+1) d=shiftDown lt j (swp d (j+1) j):=by rw[shiftDown,bL (by simp [h])]
theorem QH (h:lt d[j+1]! d[j]! =false):shiftDown lt (j+1) d=d:=by rw[shiftDown,bJ (by simp [h])]
theorem WV (a:j<b)(h:lt d[j]! d[j- 1]! =true):shiftUp lt b j d=shiftUp lt b (j+1) (swp d j (j- 1)):=by rw[shiftUp,bJ a,bL (by simp [h])]
theorem UD (a:j<b)(h:lt d[j]! d[j- 1]! =false):shiftUp lt b j d=d:=by rw[shiftUp,bJ a,bJ (by simp [h])]
theorem UY {i:Nat}(hi:i<b)(h:lt d[i]! d[i- 1]! =false):scanSorted lt d b i=scanSorted lt d b (i+1):=by rw[scanSorted,bJ (by simp [h,hi])]
theorem Yf {i:Nat}(h: ¬(i<b/\lt d[i]! d[i- 1]! =false)):scanSorted lt d b i=i:=by rw[scanSorted,bL (by simpa using h)]
theorem Wn (lt:Int->Int->Bool)(a b s i:Nat)(d:Array Int):partialIns lt a b (s+1) i d=if scanSorted lt d b i=b then (d,true) else if b-a<50 then (d,false) else
  partialIns lt a b s (scanSorted lt d b i) (if b-scanSorted lt d b i≥2 then shiftUp lt b (scanSorted lt d b i+1) (if scanSorted lt d b i-a≥2 then shiftDown lt (scanSorted lt d b i- 1) (swp d (scanSorted lt d b i) (scanSorted lt d b i- 1)) else swp d (scanSorted lt d b i) (scanSorted lt d b i- 1)) else
   (if scanSorted lt d b i-a≥2 then shiftDown lt (scanSorted lt d b i- 1) (swp d (scanSorted lt d b i) (scanSorted lt d b i- 1)) else swp d (scanSorted lt d b i) (scanSorted lt d b i- 1))):=by rw[partialIns]
theorem Dy (h:H)(S N a b:Nat)(d:Array Int)(Z:pF)(hN:N<1000000)(A:dK h S N d)(hb:b<=N)(b7:a<b):
  Ev T 239 [.sl S 0 N Z,aC a,aC b] h (λv h'=>v= .bool (partialInsertionSort ltInt d a b).2/\dK h' S N (partialInsertionSort ltInt d a b).1/\Fx (· =S) h h'):=by
 refine cT fN rfl ?_
 simp(disch:=omega)only[go_sem,fN,aD]
 rw[dU a]
 refine aI (λf c p=> ∃(s i:Nat) (e:Array Int),(∃g:Nat->V,c= [.sl S 0 N Z,aC a,aC b,g 3,aC i,aC (5-(s:Int)),g 6,g 7,g 8,g 9,g 10,g 11,g 12,g 13,g 14,g 15,g 16,g 17])/\s<=5/\a<i/\i<=b/\dK p S N e/\partialIns ltInt a b s i e=partialInsertionSort ltInt d a b/\Fx (· =S) h p/\f=s) 5
  ⟨5,a+1,d,aB rfl,om,om,om,A,rfl,Fx.refl _ h,rfl⟩ ?_
 clear A
 rintro f c O ⟨s,i,e,⟨g,rfl⟩,hs,a9,b2,A,k,F,hk⟩
 subst hk
 by_cases G:(5:Int)-(f:Int)<5
 case neg=>
  have l:=bE G;obtain rfl:f=0:=om
  simp(disch:=omega)only[go_sem,l];have k:(e,false)=partialInsertionSort ltInt d a b:=k;rw[←k];exact⟨rfl,A,F⟩
 have l:=bN G
 obtain⟨s,rfl⟩: ∃s,f=s+1:=⟨f- 1,om⟩
 simp(disch:=omega)only[go_sem,l]
 rw[Wn] at k
 refine aI (λf c p=> ∃(m:Nat),(∃g:Nat->V,c= [.sl S 0 N Z,aC a,aC b,g 3,aC m,aC (5-((s+1:Nat):Int)),g 6,g 7,g 8,g 9,g 10,g 11,g 12,g 13,g 14,g 15,g 16,g 17])/\a<m/\m<=b/\dK p S N e/\scanSorted ltInt e b m=scanSorted ltInt e b i/\Fx (· =S) h p/\f=b-m) (b-i)
  ⟨i,aB rfl,a9,b2,A,rfl,F,rfl⟩ ?_
 clear A F G l
 rintro f c u ⟨m,⟨g,rfl⟩,b6,b5,A,Y,F,rfl⟩
 have sz:=A.size
 have L:(m:Int)- 1=((m- 1:Nat):Int):=om
 have a2:(m:Int)+1=((m+1:Nat):Int):=om
 by_cases a8:(m:Int)<(b:Int)
 case neg=>
  have l:=bE a8;have em:m=b:=om
  rw[Yf om] at Y;rw[←Y,bJ em] at k;have e2:decide ((m:Int)=(b:Int))=true:=bN om;simp(disch:=omega)only[go_sem,l,e2];rw[←k];exact⟨rfl,A.fr ((Fr.refl u).bH om),fS F (Fx.of ((Fr.refl u).bH om))⟩
 have l:=bN a8
 have o:=A.rd (i:=m) om
 have n:=A.rd (i:=m- 1) om
 simp(disch:=omega)only[go_sem,l,L,o,n]
 refine (fZ _ _ _).mono ?_
 rintro _ h3 ⟨rfl,a1⟩
 have z:Fr u h3:=Fr.trans ((Fr.refl u).bH om) a1
 have K:=A.fr z
 have F3:=fS F (Fx.of z)
 cases hl:ltInt e[m]! e[m- 1]! with
 |false=>
  rw[UY om hl] at Y;simp(disch:=omega)only[go_sem,hl,a2];exact⟨b-(m+1),om,m+1,aB rfl,om,om,K,Y,F3,rfl⟩
 |true=>
  rw[Yf (by rw[hl];simp)] at Y;rw[←Y,bL om] at k;have e2:decide ((m:Int)=(b:Int))=false:=bE om
  by_cases a3:(b:Int)-(a:Int)<50
  ·have B:=bN a3
   rw[bJ om] at k;simp(disch:=omega)only[go_sem,hl,e2,B];rw[←k];exact⟨rfl,K,F3⟩
  have B:=bE a3;rw[bL om] at k;have o:=K.rd (i:=m) om;have n:=K.rd (i:=m- 1) om;simp(disch:=omega)only[go_sem,hl,e2,B,L,o,n,K.get,bW,bU];have W:=K.swap (i:=m) (j:=m- 1) (nx:=h3.next+18) om rfl
  obtain⟨h4,a7⟩: ∃h4,h4=((H.mk h3.tr (h3.next+18)).set S (aY (ints (e.setIfInBounds m e[m- 1]!).toList))).set S (aY (ints ((e.setIfInBounds m e[m- 1]!).setIfInBounds (m- 1) e[m]!).toList)):=⟨_,rfl⟩
  rw[←a7] at W ⊢;obtain⟨A4,F4⟩:=W;have w:=fS F3 F4;clear a7 F4 K F3 z a1 o n;obtain⟨U,a0⟩:=exI (swp e m (m- 1));rw[a0] at A4 k;refine mZ (λvs Q=> ∃P,(∃g:Nat->V,vs= [.sl S 0 N Z,aC a,aC b,g 3,aC m,aC (5-((s+1:Nat):Int)),g 6,g 7,g 8,g 9,g 10,g 11,g 12,g 13,g 14,g 15,g 16,g 17])/\dK Q S N P/\P=(if m-a≥2 then shiftDown ltInt (m- 1) U else U)/\Fx (· =S) h Q) ?_ ?_
  ·refine bA (λu=>?_) (λu=>?_)
   ·simp(disch:=omega)only[go_sem,L]
    refine aI (λf c p=> ∃(j:Nat) (x:Array Int),(∃g:Nat->V,c= [.sl S 0 N Z,aC a,aC b,g 3,aC m,aC (5-((s+1:Nat):Int)),aC j,g 7,g 8,g 9,g 10,g 11,g 12,g 13,g 14,g 15,g 16,g 17])/\j<b/\dK p S N x/\shiftDown ltInt j x=shiftDown ltInt (m- 1) U/\Fx (· =S) h p/\f=j) (m- 1)
     ⟨m- 1,U,aB rfl,om,A4,rfl,w,rfl⟩ ?_
    rintro f c Q ⟨j,x,⟨g,rfl⟩,hj,t,J,F5,hk⟩;subst hk;have b8:=t.size
    by_cases O:(1:Int)<=(f:Int)
    ·have l:=bN O
     obtain⟨q,rfl⟩: ∃q,f=q+1:=⟨f- 1,om⟩
     have a6:((q+1:Nat):Int)- 1=(q:Int):=om
     have o:=t.rd (i:=q+1) om;have n:=t.rd (i:=q) om;simp(disch:=omega)only[go_sem,l,a6,o,n];refine (fZ _ _ _).mono ?_;rintro _ h6 ⟨rfl,b0⟩;have f6:Fr Q h6:=Fr.trans ((Fr.refl Q).bH om) b0;have r:=t.fr f6;have F6:=fS F5 (Fx.of f6)
     cases hl:ltInt x[q+1]! x[q]! with
     |false=>
      rw[QH hl] at J;simp(disch:=omega)only[go_sem,hl];exact .inl ⟨x,aB rfl,r,by rw[bJ om,←J],F6⟩
     |true=>
      rw[UA hl] at J;have o:=r.rd (i:=q+1) om;have n:=r.rd (i:=q) om;simp(disch:=omega)only[go_sem,hl,a6,o,n,r.get,bW,bU];have W:=r.swap (i:=q+1) (j:=q) (nx:=h6.next+18) om rfl;exact⟨q,om,q,_,aB rfl,om,W.1,J,fS F6 W.2,rfl⟩
    ·have l:=bE O
     obtain rfl:f=0:=om
     simp(disch:=omega)only[go_sem,l];have J:x=shiftDown ltInt (m- 1) U:=J;exact .inl ⟨x,aB rfl,t,by rw[bJ om,←J],F5⟩
   ·simp(disch:=omega)only[go_sem]
    exact .inl ⟨U,aB rfl,A4,by rw[bL om],w⟩
  ·rintro c Q ⟨P,⟨g,rfl⟩,t,a4,F5⟩
   rw[←a4] at k;clear A4 w a4 a0;simp(disch:=omega)only[go_sem];have y:(5:Int)-((s+1:Nat):Int)+1=5-(s:Int):=om
   refine bA (λu=>?_) (λu=>?_)
   ·rw[bJ om] at k
    simp(disch:=omega)only[go_sem,a2];refine aI (λf c p=> ∃(j:Nat) (x:Array Int),(∃g:Nat->V,c= [.sl S 0 N Z,aC a,aC b,g 3,aC m,aC (5-((s+1:Nat):Int)),g 6,aC j,g 8,g 9,g 10,g 11,g 12,g 13,g 14,g 15,g 16,g 17])/\0<j/\j<=b/\dK p S N x/\shiftUp ltInt b j x=shiftUp ltInt b (m+1) P/\Fx (· =S) h p/\f=b-j) (b-(m+1))
     ⟨m+1,P,aB rfl,om,om,t,rfl,F5,rfl⟩ ?_
    rintro f c h6 ⟨j,x,⟨g,rfl⟩,b9,hj,r,R,F6,rfl⟩;have b4:=r.size
    by_cases O:(j:Int)<(b:Int)
    ·have l:=bN O
     have a5:(j:Int)- 1=((j- 1:Nat):Int):=om
     have b1:(j:Int)+1=((j+1:Nat):Int):=om
     have o:=r.rd (i:=j) om;have n:=r.rd (i:=j- 1) om;simp(disch:=omega)only[go_sem,l,a5,o,n];refine (fZ _ _ _).mono ?_;rintro _ h7 ⟨rfl,b3⟩;have f7:Fr h6 h7:=Fr.trans ((Fr.refl h6).bH om) b3;have A7:=r.fr f7;have F7:=fS F6 (Fx.of f7)
     cases hl:ltInt x[j]! x[j- 1]! with
     |false=>
      rw[UD om hl] at R;rw[←R] at k;simp(disch:=omega)only[go_sem,hl,y];exact⟨s,om,s,m,x,aB rfl,om,om,om,A7,k,F7,rfl⟩
     |true=>
      rw[WV om hl] at R;have o:=A7.rd (i:=j) om;have n:=A7.rd (i:=j- 1) om;simp(disch:=omega)only[go_sem,hl,a5,b1,o,n,A7.get,bW,bU];have W:=A7.swap (i:=j) (j:=j- 1) (nx:=h7.next+18) om rfl;exact⟨b-(j+1),om,j+1,_,aB rfl,om,om,W.1,R,fS F7 W.2,rfl⟩
    ·have l:=bE O
     rw[shiftUp,bL om] at R;rw[←R] at k;simp(disch:=omega)only[go_sem,l,y];exact⟨s,om,s,m,x,aB rfl,om,om,om,r,k,F6,rfl⟩
   ·rw[bL om] at k
    simp(disch:=omega)only[go_sem,y];exact⟨s,om,s,m,P,aB rfl,om,om,om,t,k,F5,rfl⟩
end
section
variable {p:Int->Bool} {d:Array Int} {j i:Nat}
theorem Ez (a:i<=j)(h2:p d[i]! =true):scanUp p d j i=scanUp p d j (i+1):=by rw[scanUp,bJ (by simp [a,h2])]
theorem qV (h: ¬(i<=j/\p d[i]! =true)):scanUp p d j i=i:=by rw[scanUp,bL (by simpa using h)]
theorem Pw (a:i<=j+1)(h2:p d[j+1]! =true):scanDown p d i (j+1)=scanDown p d i j:=by rw[scanDown,bJ (by simp [a,h2])]
theorem xF (h: ¬(i<=j/\p d[j]! =true)):scanDown p d i j=j:=by
 cases j with
 |zero=>rfl
 |succ j=>rw[scanDown,bL (by simpa using h)]
theorem pP (p:Int->Bool)(d:Array Int)(j i:Nat):scanUp p d j i<=max i (j+1):=by
 obtain⟨n,a⟩:=exI (j+1-i)
 induction n generalizing i with
 |zero=>rw[qV (λh=>by have:=h.1;omega)];omega
 |succ n ih=>
  by_cases h:i<=j/\p d[i]! =true
  ·rw[Ez h.1 h.2]
   have:=ih (i+1) om;omega
  ·rw[qV h];omega
theorem yP (h:H)(S N a b pv:Nat)(d:Array Int)(cp:pF)(hN:N<1000000)(A:dK h S N d)(hb:b<=N)(b7:a<=pv)(c0:pv<b):
  Ev T 241 [.sl S 0 N cp,aC a,aC b,aC pv] h (λv h'=>v= .tup [aC ((partition ltInt d a b pv).1:Nat),.bool (partition ltInt d a b pv).2.1]/\dK h' S N (partition ltInt d a b pv).2.2/\Fx (· =S) h h'):=by
 refine cT jN rfl ?_
 have sz:=A.size
 have O:=A.rd (i:=a) om
 have L:=A.rd (i:=pv) om
 simp(disch:=omega)only[go_sem,jN,aD,O,L,A.get,bW,bU]
 have W:=A.swap (i:=a) (j:=pv) (nx:=h.next+16) om rfl
 obtain⟨h1,a8⟩: ∃h1,h1=((H.mk h.tr (h.next+16)).set S (aY (ints (d.setIfInBounds a d[pv]!).toList))).set S (aY (ints ((d.setIfInBounds a d[pv]!).setIfInBounds pv d[a]!).toList)):=⟨_,rfl⟩
 rw[←a8] at W ⊢
 obtain⟨A1,F1⟩:=W
 obtain⟨e,he⟩:=exI (swp d a pv)
 rw[he] at A1
 clear a8 O L A
 have eb:(b:Int)- 1=((b- 1:Nat):Int):=om
 have ea:(a:Int)+1=((a+1:Nat):Int):=om
 have hP:partition ltInt d a b pv=if scanUp (λx=>ltInt x e[a]!) e (b- 1) (a+1)>scanDown (λx=>!ltInt x e[a]!) e (scanUp (λx=>ltInt x e[a]!) e (b- 1) (a+1)) (b- 1) then
   (scanDown (λx=>!ltInt x e[a]!) e (scanUp (λx=>ltInt x e[a]!) e (b- 1) (a+1)) (b- 1),true,swp e (scanDown (λx=>!ltInt x e[a]!) e (scanUp (λx=>ltInt x e[a]!) e (b- 1) (a+1)) (b- 1)) a) else
   ((partLoop ltInt a (scanUp (λx=>ltInt x e[a]!) e (b- 1) (a+1)+1) (scanDown (λx=>!ltInt x e[a]!) e (scanUp (λx=>ltInt x e[a]!) e (b- 1) (a+1)) (b- 1)- 1) (swp e (scanUp (λx=>ltInt x e[a]!) e (b- 1) (a+1)) (scanDown (λx=>!ltInt x e[a]!) e (scanUp (λx=>ltInt x e[a]!) e (b- 1) (a+1)) (b- 1)))).1,false,
    swp (partLoop ltInt a (scanUp (λx=>ltInt x e[a]!) e (b- 1) (a+1)+1) (scanDown (λx=>!ltInt x e[a]!) e (scanUp (λx=>ltInt x e[a]!) e (b- 1) (a+1)) (b- 1)- 1) (swp e (scanUp (λx=>ltInt x e[a]!) e (b- 1) (a+1)) (scanDown (λx=>!ltInt x e[a]!) e (scanUp (λx=>ltInt x e[a]!) e (b- 1) (a+1)) (b- 1)))).2 (partLoop ltInt a (scanUp (λx=>ltInt x e[a]!) e (b- 1) (a+1)+1) (scanDown (λx=>!ltInt x e[a]!) e (scanUp (λx=>ltInt x e[a]!) e (b- 1) (a+1)) (b- 1)- 1) (swp e (scanUp (λx=>ltInt x e[a]!) e (b- 1) (a+1)) (scanDown (λx=>!ltInt x e[a]!) e (scanUp (λx=>ltInt x e[a]!) e (b- 1) (a+1)) (b- 1)))).1 a):=by
  rw[←he];rfl
 obtain⟨R,b0⟩:=exI (partition ltInt d a b pv)
 rw[b0] at hP
 rw[b0]
 simp(disch:=omega)only[go_sem,ea,eb]
 refine bQ (λJ c=>(∃g:Nat->V,J= [.sl S 0 N cp,aC a,aC b,aC pv,g 4,g 5,aC (scanUp (λx=>ltInt x e[a]!) e (b- 1) (a+1):Nat),aC ((b- 1):Nat),g 8,g 9,g 10,g 11,g 12,g 13])/\dK c S N e/\Fx (· =S) h c) ?_ ?_
 ·refine aI (λG J c=> ∃(k:Nat),(∃g:Nat->V,J= [.sl S 0 N cp,aC a,aC b,aC pv,g 4,g 5,aC (k:Nat),aC ((b- 1):Nat),g 8,g 9,g 10,g 11,g 12,g 13])/\(a+1)<=k/\k<=N+2/\dK c S N e/\scanUp (λx=>ltInt x e[a]!) e (b- 1) k=scanUp (λx=>ltInt x e[a]!) e (b- 1) (a+1)/\Fx (· =S) h c/\G=(b- 1)+1-k) ((b- 1)+1-(a+1))
   ⟨(a+1),aB rfl,om,om,A1,rfl,F1,rfl⟩ ?_
  rintro G l K ⟨k,⟨g,rfl⟩,a6,b4,z,n,Y,rfl⟩
  by_cases f:(k:Int)<=(((b- 1):Nat):Int)
  ·have q:decide ((k:Int)<=(((b- 1):Nat):Int))=true:=bN f
   have eK:(k:Int)+1=((k+1:Nat):Int):=om
   have a5:=z.size
   have O:=z.rd (i:=k) om
   have L:=z.rd (i:=a) om
   simp(disch:=omega)only[go_sem,q,O,L]
   refine (fZ _ _ _).mono ?_
   rintro _ P ⟨rfl,B⟩
   have t:Fr K P:=Fr.trans ((Fr.refl K).bH om) B
   have s:=z.fr t
   have y:=fS Y (Fx.of t)
   cases hl:ltInt e[k]! e[a]! with
   |false=>
    rw[qV (λc=>by have:=c.2;simp [hl] at this)] at n;simp(disch:=omega)only[go_sem,hl];exact⟨by rw[←n];exact aB rfl,s,y⟩
   |true=>
    rw[Ez om (by simp [hl])] at n;simp(disch:=omega)only[go_sem,hl,eK];exact⟨(b- 1)+1-(k+1),om,k+1,aB rfl,om,om,s,n,y,rfl⟩
  ·have q:decide ((k:Int)<=(((b- 1):Nat):Int))=false:=bE f
   rw[qV (λc=>f (by have:=c.1;omega))] at n
   simp(disch:=omega)only[go_sem,q]
   exact⟨by rw[←n];exact aB rfl,z.fr ((Fr.refl K).bH om),fS Y (Fx.of ((Fr.refl K).bH om))⟩
 ·rintro l h9 ⟨⟨g,rfl⟩,A9,F9⟩
  have a2:=scanUp_ge (λx=>ltInt x e[a]!) e (b- 1) (a+1)
  have a1:=pP (λx=>ltInt x e[a]!) e (b- 1) (a+1)
  obtain⟨o,Z⟩: ∃x,scanUp (λx=>ltInt x e[a]!) e (b- 1) (a+1)=x:=⟨_,rfl⟩
  rw[Z] at a2 a1
  rw[Z]
  simp(disch:=omega)only[go_sem]
  refine bQ (λJ c=>(∃g:Nat->V,J= [.sl S 0 N cp,aC a,aC b,aC pv,g 4,g 5,aC (o:Nat),aC (scanDown (λx=>!ltInt x e[a]!) e o (b- 1):Nat),g 8,g 9,g 10,g 11,g 12,g 13])/\dK c S N e/\Fx (· =S) h c) ?_ ?_
  ·refine aI (λG J c=> ∃(k:Nat),(∃g:Nat->V,J= [.sl S 0 N cp,aC a,aC b,aC pv,g 4,g 5,aC (o:Nat),aC (k:Nat),g 8,g 9,g 10,g 11,g 12,g 13])/\k<=(b- 1)/\dK c S N e/\scanDown (λx=>!ltInt x e[a]!) e o k=scanDown (λx=>!ltInt x e[a]!) e o (b- 1)/\Fx (· =S) h c/\G=k) (b- 1)
    ⟨(b- 1),aB rfl,om,A9,rfl,F9,rfl⟩ ?_
   rintro G l K ⟨k,⟨g,rfl⟩,a6,z,n,Y,a3⟩
   subst a3
   by_cases f:((o:Nat):Int)<=(G:Int)
   ·have q:=bN f
    obtain⟨k,rfl⟩: ∃k,G=k+1:=⟨G- 1,om⟩
    have eK:((k+1:Nat):Int)- 1=(k:Int):=om
    have a5:=z.size
    have O:=z.rd (i:=k+1) om
    have L:=z.rd (i:=a) om
    simp(disch:=omega)only[go_sem,q,O,L]
    refine (fZ _ _ _).mono ?_
    rintro _ P ⟨rfl,B⟩
    have t:Fr K P:=Fr.trans ((Fr.refl K).bH om) B
    have s:=z.fr t
    have y:=fS Y (Fx.of t)
    cases hl:ltInt e[k+1]! e[a]! with
    |true=>
     rw[xF (λc=>by have:=c.2;simp [hl] at this)] at n;simp(disch:=omega)only[go_sem,hl];exact⟨by rw[←n];exact aB rfl,s,y⟩
    |false=>
     rw[Pw om (by simp [hl])] at n;simp(disch:=omega)only[go_sem,hl,eK];exact⟨k,om,k,aB rfl,om,s,n,y,rfl⟩
   ·have q:=bE f
    rw[xF (λc=>f (by have:=c.1;omega))] at n
    simp(disch:=omega)only[go_sem,q]
    exact⟨by rw[←n];exact aB rfl,z.fr ((Fr.refl K).bH om),fS Y (Fx.of ((Fr.refl K).bH om))⟩
  ·rintro l h2 ⟨⟨g,rfl⟩,A2,F2⟩
   have a0:=scanDown_le (λx=>!ltInt x e[a]!) e o (b- 1)
   obtain⟨F,a4⟩: ∃x,scanDown (λx=>!ltInt x e[a]!) e o (b- 1)=x:=⟨_,rfl⟩
   rw[a4] at a0
   rw[a4]
   rw[Z,a4] at hP
   have b5:=A2.size
   by_cases Q:(F:Int)<(o:Int)
   ·have q:=bN Q
    rw[bJ om] at hP
    have O:=A2.rd (i:=F) om
    have L:=A2.rd (i:=a) om
    simp(disch:=omega)only[go_sem,q,O,L,A2.get,bW,bU]
    have W:=A2.swap (i:=F) (j:=a) (nx:=h2.next+16) om rfl
    rw[hP]
    exact⟨rfl,W.1,fS F2 W.2⟩
   have q:=bE Q
   rw[bL om] at hP
   have O:=A2.rd (i:=o) om
   have L:=A2.rd (i:=F) om
   simp(disch:=omega)only[go_sem,q,O,L,A2.get,bW,bU]
   have W:=A2.swap (i:=o) (j:=F) (nx:=h2.next+16) om rfl
   obtain⟨h3,a9⟩: ∃h3,h3=((H.mk h2.tr (h2.next+16)).set S (aY (ints (e.setIfInBounds o e[F]!).toList))).set S (aY (ints ((e.setIfInBounds o e[F]!).setIfInBounds F e[o]!).toList)):=⟨_,rfl⟩
   rw[←a9] at W ⊢
   obtain⟨A3,b3⟩:=W
   have F3:=fS F2 b3
   have b2:o<=F:=om
   obtain⟨e0,a7⟩:=exI (swp e o F)
   rw[a7] at A3 hP
   clear a9 O L A2 A9 F9 A1 F1 he Q q
   have ei:(o:Int)+1=((o+1:Nat):Int):=om
   have ej:(F:Int)- 1=((F- 1:Nat):Int):=om
   simp(disch:=omega)only[go_sem,ei,ej]
   refine bQ (λJ c=>(∃g:Nat->V,J= [.sl S 0 N cp,aC a,aC b,aC pv,g 4,g 5,g 6,aC (((partLoop ltInt a (o+1) (F- 1) e0).1:Nat):Int),g 8,g 9,g 10,g 11,g 12,g 13])/\dK c S N (partLoop ltInt a (o+1) (F- 1) e0).2/\(partLoop ltInt a (o+1) (F- 1) e0).1<b/\Fx (· =S) h c) ?_ ?_
   ·refine aI (λG J c=> ∃(i j:Nat) (e:Array Int),(∃g:Nat->V,J= [.sl S 0 N cp,aC a,aC b,aC pv,g 4,g 5,aC i,aC j,g 8,g 9,g 10,g 11,g 12,g 13])/\a<i/\i<=b+1/\j<b/\dK c S N e/\partLoop ltInt a i j e=partLoop ltInt a (o+1) (F- 1) e0/\Fx (· =S) h c/\G=j) (F- 1)
     ⟨o+1,F- 1,e0,aB rfl,om,om,om,A3,rfl,F3,rfl⟩ ?_
    obtain⟨R2,b1⟩:=exI (partLoop ltInt a (o+1) (F- 1) e0)
    rw[b1]
    clear hP b1 Z a4 a7 ei ej a0 a2 a1 F3 b3 A3 b5 h3 b2
    clear o F
    rintro G l h3 ⟨i,j,e,⟨g,rfl⟩,b6,Z,hj,A3,hL,F3,a3⟩
    rw[partLoop_eq] at hL
    simp(disch:=omega)only[go_sem]
    refine bQ (λJ c=>(∃g:Nat->V,J= [.sl S 0 N cp,aC a,aC b,aC pv,g 4,g 5,aC (scanUp (λx=>ltInt x e[a]!) e j i:Nat),aC (j:Nat),g 8,g 9,g 10,g 11,g 12,g 13])/\dK c S N e/\Fx (· =S) h c) ?_ ?_
    ·refine aI (λG J c=> ∃(k:Nat),(∃g:Nat->V,J= [.sl S 0 N cp,aC a,aC b,aC pv,g 4,g 5,aC (k:Nat),aC (j:Nat),g 8,g 9,g 10,g 11,g 12,g 13])/\i<=k/\k<=N+2/\dK c S N e/\scanUp (λx=>ltInt x e[a]!) e j k=scanUp (λx=>ltInt x e[a]!) e j i/\Fx (· =S) h c/\G=j+1-k) (j+1-i)
      ⟨i,aB rfl,om,om,A3,rfl,F3,rfl⟩ ?_
     rintro G l K ⟨k,⟨g,rfl⟩,a6,b4,z,n,Y,rfl⟩
     by_cases f:(k:Int)<=((j:Nat):Int)
     ·have q:=bN f
      have eK:(k:Int)+1=((k+1:Nat):Int):=om
      have a5:=z.size
      have O:=z.rd (i:=k) om
      have L:=z.rd (i:=a) om
      simp(disch:=omega)only[go_sem,q,O,L]
      refine (fZ _ _ _).mono ?_
      rintro _ P ⟨rfl,B⟩
      have t:Fr K P:=Fr.trans ((Fr.refl K).bH om) B
      have s:=z.fr t
      have y:=fS Y (Fx.of t)
      cases hl:ltInt e[k]! e[a]! with
      |false=>
       rw[qV (λc=>by have:=c.2;simp [hl] at this)] at n;simp(disch:=omega)only[go_sem,hl];exact⟨by rw[←n];exact aB rfl,s,y⟩
      |true=>
       rw[Ez om (by simp [hl])] at n;simp(disch:=omega)only[go_sem,hl,eK];exact⟨j+1-(k+1),om,k+1,aB rfl,om,om,s,n,y,rfl⟩
     ·have q:=bE f
      rw[qV (λc=>f (by have:=c.1;omega))] at n
      simp(disch:=omega)only[go_sem,q]
      exact⟨by rw[←n];exact aB rfl,z.fr ((Fr.refl K).bH om),fS Y (Fx.of ((Fr.refl K).bH om))⟩
    ·rintro l h9 ⟨⟨g,rfl⟩,A9,F9⟩
     have a2:=scanUp_ge (λx=>ltInt x e[a]!) e j i
     have a1:=pP (λx=>ltInt x e[a]!) e j i
     obtain⟨u,hu⟩: ∃x,scanUp (λx=>ltInt x e[a]!) e j i=x:=⟨_,rfl⟩
     rw[hu] at a2 a1
     rw[hu]
     simp(disch:=omega)only[go_sem]
     refine bQ (λJ c=>(∃g:Nat->V,J= [.sl S 0 N cp,aC a,aC b,aC pv,g 4,g 5,aC (u:Nat),aC (scanDown (λx=>!ltInt x e[a]!) e u j:Nat),g 8,g 9,g 10,g 11,g 12,g 13])/\dK c S N e/\Fx (· =S) h c) ?_ ?_
     ·refine aI (λG J c=> ∃(k:Nat),(∃g:Nat->V,J= [.sl S 0 N cp,aC a,aC b,aC pv,g 4,g 5,aC (u:Nat),aC (k:Nat),g 8,g 9,g 10,g 11,g 12,g 13])/\k<=j/\dK c S N e/\scanDown (λx=>!ltInt x e[a]!) e u k=scanDown (λx=>!ltInt x e[a]!) e u j/\Fx (· =S) h c/\G=k) j
       ⟨j,aB rfl,om,A9,rfl,F9,rfl⟩ ?_
      rintro G l K ⟨k,⟨g,rfl⟩,a6,z,n,Y,a3⟩
      subst a3
      by_cases f:((u:Nat):Int)<=(G:Int)
      ·have q:=bN f
       obtain⟨k,rfl⟩: ∃k,G=k+1:=⟨G- 1,om⟩
       have eK:((k+1:Nat):Int)- 1=(k:Int):=om
       have a5:=z.size
       have O:=z.rd (i:=k+1) om
       have L:=z.rd (i:=a) om
       simp(disch:=omega)only[go_sem,q,O,L]
       refine (fZ _ _ _).mono ?_
       rintro _ P ⟨rfl,B⟩
       have t:Fr K P:=Fr.trans ((Fr.refl K).bH om) B
       have s:=z.fr t
       have y:=fS Y (Fx.of t)
       cases hl:ltInt e[k+1]! e[a]! with
       |true=>
        rw[xF (λc=>by have:=c.2;simp [hl] at this)] at n;simp(disch:=omega)only[go_sem,hl];exact⟨by rw[←n];exact aB rfl,s,y⟩
       |false=>
        rw[Pw om (by simp [hl])] at n;simp(disch:=omega)only[go_sem,hl,eK];exact⟨k,om,k,aB rfl,om,s,n,y,rfl⟩
      ·have q:=bE f
       rw[xF (λc=>f (by have:=c.1;omega))] at n
       simp(disch:=omega)only[go_sem,q]
       exact⟨by rw[←n];exact aB rfl,z.fr ((Fr.refl K).bH om),fS Y (Fx.of ((Fr.refl K).bH om))⟩
     ·rintro l h4 ⟨⟨g,rfl⟩,A4,F4⟩
      have a0:=scanDown_le (λx=>!ltInt x e[a]!) e u j
      obtain⟨w,hw⟩: ∃x,scanDown (λx=>!ltInt x e[a]!) e u j=x:=⟨_,rfl⟩
      rw[hw] at a0
      rw[hw]
      rw[hu,hw] at hL
      have b8:=A4.size
      by_cases Q:(w:Int)<(u:Int)
      ·have q:=bN Q
       rw[bJ om] at hL
       simp(disch:=omega)only[go_sem,q]
       rw[←hL]
       exact⟨aB rfl,A4,om,F4⟩
      have q:=bE Q
      rw[bL om] at hL
      have O:=A4.rd (i:=u) om
      have L:=A4.rd (i:=w) om
      have ei:(u:Int)+1=((u+1:Nat):Int):=om
      have ej:(w:Int)- 1=((w- 1:Nat):Int):=om
      simp(disch:=omega)only[go_sem,q,O,L,A4.get,bW,bU,ei,ej]
      have W:=A4.swap (i:=u) (j:=w) (nx:=h4.next+16) om rfl
      exact⟨w- 1,om,u+1,w- 1,_,aB rfl,om,om,om,W.1,hL,fS F4 W.2,rfl⟩
   ·rintro l h5 ⟨⟨g,rfl⟩,A5,U,F5⟩
    generalize partLoop ltInt a (o+1) (F- 1) e0=r at hP A5 U
    obtain⟨m,e5⟩:=r
    have U:m<b:=U
    have A5:dK h5 S N e5:=A5
    have b9:=A5.size
    have O:=A5.rd (i:=m) om
    have L:=A5.rd (i:=a) om
    simp(disch:=omega)only[go_sem,O,L,A5.get,bW,bU]
    have W:=A5.swap (i:=m) (j:=a) (nx:=h5.next+16) om rfl
    rw[hP]
    exact⟨rfl,W.1,fS F5 W.2⟩
theorem Ja (h:H)(S N a b pv:Nat)(d:Array Int)(J:pF)(hN:N<1000000)(A:dK h S N d)(hb:b<=N)(a6:a<=pv)(a9:pv<b):
  Ev T 240 [.sl S 0 N J,aC a,aC b,aC pv] h (λv h'=>v= aC ((partitionEqual ltInt d a b pv).1:Nat)/\dK h' S N (partitionEqual ltInt d a b pv).2/\Fx (· =S) h h'):=by
 refine cT iE rfl ?_
 have sz:=A.size
 have G:=A.rd (i:=a) om
 have F:=A.rd (i:=pv) om
 simp(disch:=omega)only[go_sem,iE,aD,G,F,A.get,bW,bU]
 have W:=A.swap (i:=a) (j:=pv) (nx:=h.next+16) om rfl
 obtain⟨h1,P⟩: ∃h1,h1=((H.mk h.tr (h.next+16)).set S (aY (ints (d.setIfInBounds a d[pv]!).toList))).set S (aY (ints ((d.setIfInBounds a d[pv]!).setIfInBounds pv d[a]!).toList)):=⟨_,rfl⟩
 rw[←P] at W ⊢
 obtain⟨A1,F1⟩:=W
 have eb:(b:Int)- 1=((b- 1:Nat):Int):=om
 have ea:(a:Int)+1=((a+1:Nat):Int):=om
 unfold partitionEqual
 obtain⟨O,he⟩: ∃e,swp d a pv=e:=⟨_,rfl⟩
 rw[he] at A1 ⊢
 clear P G F A
 simp(disch:=omega)only[go_sem,ea,eb]
 refine bQ (λn c=>(∃g:Nat->V,n= [.sl S 0 N J,aC a,aC b,aC pv,g 4,aC (((partEqLoop ltInt a (a+1) (b- 1) O).1:Nat):Int),g 6,g 7,g 8,g 9])/\dK c S N (partEqLoop ltInt a (a+1) (b- 1) O).2/\Fx (· =S) h c) ?_ ?_
 ·refine aI (λz n c=> ∃(i j:Nat) (e:Array Int),(∃g:Nat->V,n= [.sl S 0 N J,aC a,aC b,aC pv,g 4,aC i,aC j,g 7,g 8,g 9])/\a<i/\i<=b+1/\j<b/\dK c S N e/\partEqLoop ltInt a i j e=partEqLoop ltInt a (a+1) (b- 1) O/\Fx (· =S) h c/\z=j) (b- 1)
   ⟨a+1,b- 1,O,aB rfl,om,om,om,A1,rfl,F1,rfl⟩ ?_
  obtain⟨R2,Q⟩:=exI (partEqLoop ltInt a (a+1) (b- 1) O)
  rw[Q]
  clear Q F1 A1 h1 he O
  rintro z f h3 ⟨i,j,e,⟨g,rfl⟩,a5,b0,hj,A3,L,F3,R⟩
  rw[partEqLoop_eq] at L
  simp(disch:=omega)only[go_sem]
  refine bQ (λn c=>(∃g:Nat->V,n= [.sl S 0 N J,aC a,aC b,aC pv,g 4,aC (scanUp (λx=>!ltInt e[a]! x) e j i:Nat),aC (j:Nat),g 7,g 8,g 9])/\dK c S N e/\Fx (· =S) h c) ?_ ?_
  ·refine aI (λz n c=> ∃(k:Nat),(∃g:Nat->V,n= [.sl S 0 N J,aC a,aC b,aC pv,g 4,aC (k:Nat),aC (j:Nat),g 7,g 8,g 9])/\i<=k/\k<=N+2/\dK c S N e/\scanUp (λx=>!ltInt e[a]! x) e j k=scanUp (λx=>!ltInt e[a]! x) e j i/\Fx (· =S) h c/\z=j+1-k) (j+1-i)
    ⟨i,aB rfl,om,om,A3,rfl,F3,rfl⟩ ?_
   rintro z f B ⟨k,⟨g,rfl⟩,a4,a8,t,m,Y,rfl⟩
   by_cases l:(k:Int)<=((j:Nat):Int)
   ·have o:=bN l
    have eK:(k:Int)+1=((k+1:Nat):Int):=om
    have a3:=t.size
    have G:=t.rd (i:=k) om
    have F:=t.rd (i:=a) om
    simp(disch:=omega)only[go_sem,o,G,F]
    refine (fZ _ _ _).mono ?_
    rintro _ K ⟨rfl,y⟩
    have r:Fr B K:=Fr.trans ((Fr.refl B).bH om) y
    have q:=t.fr r
    have s:=fS Y (Fx.of r)
    cases hl:ltInt e[a]! e[k]! with
    |true=>
     rw[qV (λc=>by have:=c.2;simp [hl] at this)] at m;simp(disch:=omega)only[go_sem,hl];exact⟨by rw[←m];exact aB rfl,q,s⟩
    |false=>
     rw[Ez om (by simp [hl])] at m;simp(disch:=omega)only[go_sem,hl,eK];exact⟨j+1-(k+1),om,k+1,aB rfl,om,om,q,m,s,rfl⟩
   ·have o:=bE l
    rw[qV (λc=>l (by have:=c.1;omega))] at m
    simp(disch:=omega)only[go_sem,o]
    exact⟨by rw[←m];exact aB rfl,t.fr ((Fr.refl B).bH om),fS Y (Fx.of ((Fr.refl B).bH om))⟩
  ·rintro f h9 ⟨⟨g,rfl⟩,A9,F9⟩
   have a2:=scanUp_ge (λx=>!ltInt e[a]! x) e j i
   have a1:=pP (λx=>!ltInt e[a]! x) e j i
   obtain⟨u,hu⟩: ∃x,scanUp (λx=>!ltInt e[a]! x) e j i=x:=⟨_,rfl⟩
   rw[hu] at a2 a1
   rw[hu]
   simp(disch:=omega)only[go_sem]
   refine bQ (λn c=>(∃g:Nat->V,n= [.sl S 0 N J,aC a,aC b,aC pv,g 4,aC (u:Nat),aC (scanDown (λx=>ltInt e[a]! x) e u j:Nat),g 7,g 8,g 9])/\dK c S N e/\Fx (· =S) h c) ?_ ?_
   ·refine aI (λz n c=> ∃(k:Nat),(∃g:Nat->V,n= [.sl S 0 N J,aC a,aC b,aC pv,g 4,aC (u:Nat),aC (k:Nat),g 7,g 8,g 9])/\k<=j/\dK c S N e/\scanDown (λx=>ltInt e[a]! x) e u k=scanDown (λx=>ltInt e[a]! x) e u j/\Fx (· =S) h c/\z=k) j
     ⟨j,aB rfl,om,A9,rfl,F9,rfl⟩ ?_
    rintro z f B ⟨k,⟨g,rfl⟩,a4,t,m,Y,R⟩
    subst R
    by_cases l:((u:Nat):Int)<=(z:Int)
    ·have o:=bN l
     obtain⟨k,rfl⟩: ∃k,z=k+1:=⟨z- 1,om⟩
     have eK:((k+1:Nat):Int)- 1=(k:Int):=om
     have a3:=t.size
     have G:=t.rd (i:=k+1) om
     have F:=t.rd (i:=a) om
     simp(disch:=omega)only[go_sem,o,G,F]
     refine (fZ _ _ _).mono ?_
     rintro _ K ⟨rfl,y⟩
     have r:Fr B K:=Fr.trans ((Fr.refl B).bH om) y
     have q:=t.fr r
     have s:=fS Y (Fx.of r)
     cases hl:ltInt e[a]! e[k+1]! with
     |false=>
      rw[xF (λc=>by have:=c.2;simp [hl] at this)] at m;simp(disch:=omega)only[go_sem,hl];exact⟨by rw[←m];exact aB rfl,q,s⟩
     |true=>
      rw[Pw om (by simp [hl])] at m;simp(disch:=omega)only[go_sem,hl,eK];exact⟨k,om,k,aB rfl,om,q,m,s,rfl⟩
    ·have o:=bE l
     rw[xF (λc=>l (by have:=c.1;omega))] at m
     simp(disch:=omega)only[go_sem,o]
     exact⟨by rw[←m];exact aB rfl,t.fr ((Fr.refl B).bH om),fS Y (Fx.of ((Fr.refl B).bH om))⟩
   ·rintro f h4 ⟨⟨g,rfl⟩,A4,F4⟩
    have a0:=scanDown_le (λx=>ltInt e[a]! x) e u j
    obtain⟨w,Z⟩: ∃x,scanDown (λx=>ltInt e[a]! x) e u j=x:=⟨_,rfl⟩
    rw[Z] at a0
    rw[Z]
    rw[hu,Z] at L
    have a7:=A4.size
    by_cases U:(w:Int)<(u:Int)
    ·have o:=bN U
     rw[bJ om] at L
     simp(disch:=omega)only[go_sem,o]
     rw[←L]
     exact⟨aB rfl,A4,F4⟩
    have o:=bE U
    rw[bL om] at L
    have G:=A4.rd (i:=u) om
    have F:=A4.rd (i:=w) om
    have ei:(u:Int)+1=((u+1:Nat):Int):=om
    have ej:(w:Int)- 1=((w- 1:Nat):Int):=om
    simp(disch:=omega)only[go_sem,o,G,F,A4.get,bW,bU,ei,ej]
    have W:=A4.swap (i:=u) (j:=w) (nx:=h4.next+16) om rfl
    exact⟨w- 1,om,u+1,w- 1,_,aB rfl,om,om,om,W.1,L,fS F4 W.2,rfl⟩
 ·rintro f h5 ⟨⟨g,rfl⟩,A5,F5⟩
  simp(disch:=omega)only[go_sem]
  exact⟨A5,F5⟩
end
def DN  (n:Nat):Prop:= ∀(h:H) (S N a b:Nat) (lim:Int) (d:Array Int) (cp:pF),N<60000->dK h S N d->a<=b->b<=N->b-a<=n->0<=lim->lim<1000000->Below ltInt a b d->
 Ev T 197 [.sl S 0 N cp,aC a,aC b,aC lim] h (λ_ h'=> ∃e,dK h' S N e/\PermIn a b d e/\SortedIn ltInt a b e/\Fx (· =S) h h')
theorem ED  (n:Nat)(ih: ∀m,m<n->DN m):DN n:=by
 intro h S N a b b0 d o hN A a7 a5 hn q s hB;refine cT kI rfl ?_;simp(disch:=omega)only[go_sem,kI,aD]
 refine aI (λk' w P=> ∃(c f:Nat) (Z:Int) (G wp:Bool) (e:Array Int),(∃g:Nat->V,w= [.sl S 0 N o,aC (c:Int),aC (f:Int),aC Z,.bool G,.bool wp,g 6,g 7,g 8,g 9,g 10,g 11,g 12,g 13,g 14,g 15,g 16,g 17,g 18,g 19,g 20,g 21,g 22])/\c<=f/\f<=N/\a<=c/\f<=b/\0<=Z/\Z<1000000/\Below ltInt c f e/\dK P S N e/\Fx (· =S) h P/\
   (∀R,PermIn c f e R->SortedIn ltInt c f R->PermIn a b d R/\SortedIn ltInt a b R)/\k'=f-c) (b-a)
  ⟨a,b,b0,true,true,d,aB rfl,a7,a5,eH _,eH _,q,s,hB,A,Fx.refl _ h,λR h1 h2=>⟨h1,h2⟩,rfl⟩ ?_
 clear A hB q s;rintro k' w h1 ⟨c,f,Z,G,wp,e,⟨g,rfl⟩,u,j,a9,a4,q,s,hB,A,F,K,rfl⟩;obtain⟨m,hm⟩:=exI (f-c);have em:(f:Int)-(c:Int)=(m:Int):=om
 have ez: ∀{x:Array Int} {hx:H},dK hx S N x->f<=x.size:=λA=>by rw[A.size];exact j
 by_cases a3:(m:Int)<=12
 ·have U:=bN a3
  simp(disch:=omega)only[go_sem,em,U];refine (yT h1 S N c f e o om A j u).mono ?_;rintro _ h2 ⟨A2,F2⟩;obtain⟨p1,p2⟩:=insertionSort_holds swo_ltInt e c f u (ez A);obtain⟨Y,q2⟩:=K _ p1 p2;simp(disch:=omega)only[go_sem];exact⟨_,A2,Y,q2,fS F F2⟩
 have U:=bE a3
 by_cases hl:Z=0
 ·have z:=bN hl
  simp(disch:=omega)only[go_sem,em,U,z];refine (Bg h1 S N c f e o om A j u).mono ?_;rintro _ h2 ⟨A2,F2⟩;obtain⟨p1,p2⟩:=heapSort_holds swo_ltInt e c f u (ez A);obtain⟨Y,q2⟩:=K _ p1 p2;simp(disch:=omega)only[go_sem];exact⟨_,A2,Y,q2,fS F F2⟩
 have z:=bE hl;simp(disch:=omega)only[go_sem,em,U,z];refine mZ (λQ P=> ∃(z:Array Int) (y:Int) (g:Nat->V),Q= [.sl S 0 N o,aC (c:Int),aC (f:Int),aC y,.bool G,.bool wp,aC m,g 7,g 8,g 9,g 10,g 11,g 12,g 13,g 14,g 15,g 16,g 17,g 18,g 19,g 20,g 21,g 22]/\0<=y/\y<1000000/\dK P S N z/\PermIn c f e z/\Fx (· =S) h P) ?_ ?_
 ·cases G with
  |true=>
   simp(disch:=omega)only[go_sem];exact .inl ⟨e,Z,_,(aB rfl: ∃g:Nat->V,_= [.sl S 0 N o,aC (c:Int),aC (f:Int),aC Z,.bool true,.bool wp,aC m,g 7,g 8,g 9,g 10,g 11,g 12,g 13,g 14,g 15,g 16,g 17,g 18,g 19,g 20,g 21,g 22]).choose_spec,q,s,A,permIn_refl e c f,F⟩
  |false=>
   simp(disch:=omega)only[go_sem];refine (Qc h1 S N c f e o hN A j u).mono ?_;rintro _ h2 ⟨z,A2,p2,F2⟩;simp(disch:=omega)only[go_sem];exact .inl ⟨z,Z- 1,_,(aB rfl: ∃g:Nat->V,_= [.sl S 0 N o,aC (c:Int),aC (f:Int),aC (Z- 1),.bool false,.bool wp,aC m,g 7,g 8,g 9,g 10,g 11,g 12,g 13,g 14,g 15,g 16,g 17,g 18,g 19,g 20,g 21,g 22]).choose_spec,om,om,A2,p2,fS F F2⟩
 clear A F q s hl z g;rintro w h2 ⟨z,y,g,rfl,q,s,A,P2,F⟩;have B2:=hB.perm (by rw[←P2.1];exact ez A) P2;simp(disch:=omega)only[go_sem];refine (Ov h2 S N c f z o om A j om).mono ?_;rintro _ h3 ⟨p,t,rfl,O,J,f3⟩;have A3:=A.fr f3;have F3:=fS F (Fx.of f3);clear A F;simp(disch:=omega)only[go_sem];refine mZ (λQ P=> ∃(e3:Array Int) (p2:Nat) (t2:Int) (g:Nat->V),Q= [.sl S 0 N o,aC (c:Int),aC (f:Int),aC y,.bool G,.bool wp,aC m,aC p2,aC t2,g 9,g 10,g 11,g 12,g 13,g 14,g 15,g 16,g 17,g 18,g 19,g 20,g 21,g 22]/\c<=p2/\p2<f/\dK P S N e3/\PermIn c f z e3/\Fx (· =S) h P) ?_ ?_
 ·refine bA (λht=>?_) (λht=>?_)
  ·simp(disch:=omega)only[go_sem]
   refine (Et h3 S N c f z o om A3 j om).mono ?_;rintro _ h4 ⟨A4,F4⟩;have W:(f:Int)- 1-((p:Int)-(c:Int))=(((f- 1)-(p-c):Nat):Int):=om
   simp(disch:=omega)only[go_sem,W];exact .inl ⟨_,(f- 1)-(p-c),1,_,(aB rfl: ∃g:Nat->V,_= [.sl S 0 N o,aC (c:Int),aC (f:Int),aC y,.bool G,.bool wp,aC m,aC ((f- 1)-(p-c):Nat),aC 1,g 9,g 10,g 11,g 12,g 13,g 14,g 15,g 16,g 17,g 18,g 19,g 20,g 21,g 22]).choose_spec,om,om,A4,reverseRange_holds z c f u (ez A3),fS F3 F4⟩
  ·simp(disch:=omega)only[go_sem]
   exact .inl ⟨z,p,t,_,(aB rfl: ∃g:Nat->V,_= [.sl S 0 N o,aC (c:Int),aC (f:Int),aC y,.bool G,.bool wp,aC m,aC p,aC t,g 9,g 10,g 11,g 12,g 13,g 14,g 15,g 16,g 17,g 18,g 19,g 20,g 21,g 22]).choose_spec,O,J,A3,permIn_refl z c f,F3⟩
 have a0:=ez A3;clear A3 F3 O J f3 p t g;rintro w h4 ⟨e3,p,t,g,rfl,O,J,A,P3,F⟩;have B3:=B2.perm a0 P3;have a1:=permIn_trans _ _ _ c f P2 P3;have a6:f<=z.size:=a0;clear a0 B2 hB;refine Gw (λQ P=> ∃(B:Array Int) (g:Nat->V),Q= [.sl S 0 N o,aC (c:Int),aC (f:Int),aC y,.bool G,.bool wp,aC m,aC p,g 8,g 9,g 10,g 11,g 12,g 13,g 14,g 15,g 16,g 17,g 18,g 19,g 20,g 21,g 22]/\dK P S N B/\PermIn c f e B/\Below ltInt c f B/\Fx (· =S) h P) ?_ ?_
 ·have skip: ∀(Q:List V),(∃g:Nat->V,Q= [.sl S 0 N o,aC (c:Int),aC (f:Int),aC y,.bool G,.bool wp,aC m,aC p,g 8,g 9,g 10,g 11,g 12,g 13,g 14,g 15,g 16,g 17,g 18,g 19,g 20,g 21,g 22])-> ∃(B:Array Int) (g:Nat->V),Q= [.sl S 0 N o,aC (c:Int),aC (f:Int),aC y,.bool G,.bool wp,aC m,aC p,g 8,g 9,g 10,g 11,g 12,g 13,g 14,g 15,g 16,g 17,g 18,g 19,g 20,g 21,g 22]/\dK h4 S N B/\PermIn c f e B/\Below ltInt c f B/\Fx (· =S) h h4:=λQ ⟨g,hv⟩=>⟨e3,g,hv,A,a1,B3,F⟩
  have run: ∀g:Nat->V,Ev T 239 [.sl S 0 N o,aC (c:Int),aC (f:Int)] h4 (λv h'=> ∃r:Array Int×Bool,v= .bool r.2/\dK h' S N r.1/\Fx (· =S) h4 h'/\PermIn c f e3 r.1/\(r.2=true->SortedIn ltInt c f r.1)):=λ_=>by
   refine (Dy h4 S N c f e3 o om A j om).mono ?_;rintro v h5 ⟨hv,A5,F5⟩;obtain⟨Y,q2⟩:=partialInsertionSort_holds swo_ltInt e3 c f om (ez A) B3;exact⟨_,hv,A5,F5,Y,q2⟩
  cases G with
  |false=>
   simp(disch:=omega)only[go_sem];exact .inl (skip _ (aB rfl))
  |true=>cases wp with
   |false=>
    simp(disch:=omega)only[go_sem]
    exact .inl (skip _ (aB rfl))
   |true=>
    simp(disch:=omega)only[go_sem]
    refine bA (λht=>?_) (λht=>?_)
    ·simp(disch:=omega)only[go_sem]
     refine (run g).mono ?_
     rintro v h5 ⟨⟨W,r5⟩,rfl,A5,F5,Y,q2⟩
     have A5:dK h5 S N W:=A5
     have Y:PermIn c f e3 W:=Y
     have P5:=permIn_trans _ _ _ c f a1 Y
     cases r5 with
     |false=>
      simp(disch:=omega)only[go_sem];exact .inl ⟨W,_,(aB rfl: ∃g:Nat->V,_= [.sl S 0 N o,aC (c:Int),aC (f:Int),aC y,.bool true,.bool true,aC m,aC p,g 8,g 9,g 10,g 11,g 12,g 13,g 14,g 15,g 16,g 17,g 18,g 19,g 20,g 21,g 22]).choose_spec,A5,P5,B3.perm (ez A) Y,fS F F5⟩
     |true=>
      obtain⟨w1,w2⟩:=K _ P5 (q2 rfl);simp(disch:=omega)only[go_sem];exact .inr ⟨by simp,W,A5,w1,w2,fS F F5⟩
    ·simp(disch:=omega)only[go_sem]
     exact .inl (skip _ (aB rfl))
 clear A P3 a1 B3 F P2 a6 e3 z;rintro w h5 ⟨B,g,rfl,A,P4,B4,F⟩;have a2:=ez A;refine Gw (λQ P=> ∃(g:Nat->V),Q= [.sl S 0 N o,aC (c:Int),aC (f:Int),aC y,.bool G,.bool wp,aC m,aC p,g 8,g 9,g 10,g 11,g 12,g 13,g 14,g 15,g 16,g 17,g 18,g 19,g 20,g 21,g 22]/\dK P S N B/\Fx (· =S) h P) ?_ ?_
 ·by_cases h0:(0:Int)<(c:Int)
  case neg=>
   have U:=bE h0;simp(disch:=omega)only[go_sem,U];exact .inl ⟨_,(aB rfl: ∃g:Nat->V,_= [.sl S 0 N o,aC (c:Int),aC (f:Int),aC y,.bool G,.bool wp,aC m,aC p,g 8,g 9,g 10,g 11,g 12,g 13,g 14,g 15,g 16,g 17,g 18,g 19,g 20,g 21,g 22]).choose_spec,A.fr ((Fr.refl h5).bH om),fS F (Fx.of ((Fr.refl h5).bH om))⟩
  have U:=bN h0;have ea:(c:Int)- 1=((c- 1:Nat):Int):=om
  have c1:=A.rd (i:=c- 1) om;have c2:=A.rd (i:=p) om;simp(disch:=omega)only[go_sem,U,ea,c1,c2];refine (fZ _ _ _).mono ?_;rintro _ h6 ⟨rfl,a8⟩;have f6:Fr h5 h6:=Fr.trans ((Fr.refl h5).bH om) a8;have A6:=A.fr f6;have F6:=fS F (Fx.of f6)
  cases hl:ltInt B[c- 1]! B[p]! with
  |true=>
   simp(disch:=omega)only[go_sem,hl];exact .inl ⟨_,(aB rfl: ∃g:Nat->V,_= [.sl S 0 N o,aC (c:Int),aC (f:Int),aC y,.bool G,.bool wp,aC m,aC p,g 8,g 9,g 10,g 11,g 12,g 13,g 14,g 15,g 16,g 17,g 18,g 19,g 20,g 21,g 22]).choose_spec,A6,F6⟩
  |false=>
   obtain⟨w1,w2,w3,w4,w5⟩:=round_eq swo_ltInt (partitionEqual_holds ltInt) om O J a2 B4 hl (Prod.eta (partitionEqual ltInt B c f p)).symm;simp(disch:=omega)only[go_sem,hl];refine (Ja h6 S N c f p B o om A6 j O J).mono ?_;rintro _ h7 ⟨rfl,A7,F7⟩;simp(disch:=omega)only[go_sem];refine .inr ⟨by simp,f-(partitionEqual ltInt B c f p).1,om,(partitionEqual ltInt B c f p).1,f,y,G,wp,_,aB rfl,w2,j,om,a4,q,s,w4,A7,fS F6 F7,λR r1 r2=>?_,rfl⟩;obtain⟨t1,t2⟩:=w5 R r1 r2;exact K R (permIn_trans _ _ _ c f P4 t1) t2
 clear A F;rintro w h6 ⟨g,rfl,A,F⟩;have e8:=Ou m (k:=8) (m:=8) rfl;simp(disch:=omega)only[go_sem];refine (yP h6 S N c f p B o om A j O J).mono ?_;obtain⟨r,hr⟩:=exI (partition ltInt B c f p);rw[hr];obtain⟨l,ap,W⟩:=r;obtain⟨w1,w2,w3,w4,w5,w6,w7⟩:=round_part swo_ltInt (partition_holds ltInt) O J a2 B4 hr;rintro _ h7 ⟨rfl,A7,F7⟩;have A7:dK h7 S N W:=A7;have F7:=fS F F7;have el:(l:Int)-(c:Int)=((l-c:Nat):Int):=om
 have er:(f:Int)-(l:Int)=((f-l:Nat):Int):=om
 have U:(l:Int)+1=((l+1:Nat):Int):=om
 simp(disch:=omega)only[go_sem,el,er,e8];refine bA (λht=>?_) (λht=>?_)
 ·simp(disch:=omega)only[go_sem]
  refine (ih (l-c) om h7 S N c l y W o hN A7 w1 om (eH _) q s w4).mono ?_;rintro _ h8 ⟨L,A8,p8,s8,F8⟩;obtain⟨u1,u2⟩:=w6 L p8 s8;simp(disch:=omega)only[go_sem,U];refine⟨f-(l+1),om,l+1,f,y,_,ap,L,aB rfl,om,j,om,a4,q,s,u1,A8,fS F7 F8,λR r1 r2=>?_,rfl⟩;obtain⟨t1,t2⟩:=u2 R r1 r2;exact K R (permIn_trans _ _ _ c f P4 t1) t2
 ·simp(disch:=omega)only[go_sem,U]
  refine (ih (f-(l+1)) om h7 S N (l+1) f y W o hN A7 om j (eH _) q s w5).mono ?_;rintro _ h8 ⟨L,A8,p8,s8,F8⟩;obtain⟨u1,u2⟩:=w7 L p8 s8;simp(disch:=omega)only[go_sem];refine⟨l-c,om,c,l,y,_,ap,L,aB rfl,om,om,a9,om,q,s,u1,A8,fS F7 F8,λR r1 r2=>?_,rfl⟩;obtain⟨t1,t2⟩:=u2 R r1 r2;exact K R (permIn_trans _ _ _ c f P4 t1) t2
theorem Ui  (n:Nat):DN n:=by
 induction n using Nat.strongRecOn with
 |_ n ih=>exact ED n  ih
theorem DH (h:H)(S N:Nat)(d:Array Int)(a:pF)(f:N<60000)(A:dK h S N d):
  Ev T 143 [.sl S 0 N a] h (λ_ h'=> ∃e,dK h' S N e/\PermIn 0 N d e/\SortedIn ltInt 0 N e/\Fx (· =S) h h'):=by
 refine cT oY rfl ?_
 have i:bitsLen N<=16:=(bitsLen_le_iff _ 16).2 om
 simp(disch:=omega)only[go_sem,oY,aD,eS (n:=(N:Int)) om om]
 refine (EL N h om).mono ?_
 rintro _ b ⟨rfl,g⟩
 subst g
 simp(disch:=omega)only[go_sem]
 refine (Ui N b S N 0 N _ d a f A om om om om om (.inl rfl)).mono ?_
 rintro _ j ⟨e,c,p,s,F⟩
 simp(disch:=omega)only[go_sem]
 exact⟨e,c,p,s,F⟩
theorem Pj {l:List Int}{N:Nat}(f:l.length=N){e:Array Int}(k:PermIn 0 N l.toArray e)(n:SortedIn ltInt 0 N e):e.toList.Perm l/\e.toList.Pairwise (· <= ·):=by
 obtain⟨p,r,g⟩:=k;have a:e.size=N:=by rw[p];simpa using f
 refine⟨?_,?_⟩
 ·have o:(e.extract 0 N).toList=e.toList:=by rw[←a];simp
  have m:(l.toArray.extract 0 N).toList=l:=by rw[←f];simp
  rwa [o,m] at g
 ·rw[OP]
  intro i j hi c d;have b:j<N:=by simpa [a] using c
  have:=n i j (fR _) d b;unfold ltInt at this;have q:e[i]! =e.toList[i]:=by simp at hi;simp [hi]
  have h:e[j]! =e.toList[j]:=by simp at c;simp [c]
  rw[q,h] at this;simpa using this
theorem Ma (h:H)(S:Nat)(l:List Int)(a:pF)(b:l.length<60000)(c:h.get S=aY (ints l))(f:S<h.next):
  Ev T 143 [.sl S 0 l.length a] h (λ_ h'=> ∃l',h'.get S=aY (ints l')/\l'.Perm l/\l'.Pairwise (· <= ·)/\Fx (· =S) h h'):=by
 refine (DH h S l.length l.toArray a b ⟨c,by simp,f⟩).mono ?_
 rintro _ h' ⟨e,A,p,s,F⟩
 obtain⟨g,d⟩:=Pj rfl p s
 exact⟨e.toList,A.get,g,d,F⟩
theorem Xw {a b:List Int}(h:a.Perm b)(d:a.Pairwise (· <= ·))(c:b.Pairwise (· <= ·)):a=b:=
 h.eq_of_pairwise (λ_ _ _ _ e f=>Int.le_antisymm e f) d c
end Go.Proofs.YtcdbmkidaecdiaaGreat
namespace Go.Proofs.YtcdbmkidaecdiaaGreat
open Go Go.Ay Go.Pm
set_option maxRecDepth 100000
theorem ET (id b:Nat)(d:V)(l:List Int)(h:H)(G:l.length<1000000)(J:Nat->H->Prop)(D:H->Prop)(k:J 0 h)
  (m: ∀i hh,J i hh->hh.get b=aY [d]/\SI hh d l)
  (z: ∀i hh,i<l.length->J i hh->Ey T id [aC (l.getD i 0)] hh (λv h'=>v= .bool true/\J (i+1) h'∨v= .bool false/\D h')):
  Ev T 232 [.yl id,.ptr b 0] h (λ_ h'=>J l.length h'∨D h'):=by
 refine cT mB rfl ?_
 obtain⟨q,A⟩:=m 0 h k
 have x:h.cell b 0=some d:=by rw[H.aF q];rfl
 have s:=A.lens
 simp(disch:=omega)only[go_sem,mB,aD,x,s]
 refine aI (λn a hh=> ∃(i:Nat),(∃g:Nat->V,a= [.yl id,.ptr b 0,g 2,d,aC (l.length:Int),aC i,g 6,g 7])/\i<=l.length/\J i hh/\n=l.length-i) l.length
  ⟨0,aB rfl,fR _,k,rfl⟩ ?_
 rintro n a o ⟨i,⟨g,rfl⟩,hi,f,rfl⟩
 by_cases c:(i:Int)<(l.length:Int)
 ·have e:=bN c
  obtain⟨B,y⟩:=m i o f
  obtain⟨t,w,r,u,p⟩:=y.open
  have ci:=p i om
  simp(disch:=omega)only[go_sem,e,r.ixa,ci]
  refine (z i o om f).mono ?_
  rintro v F (⟨rfl,j⟩|⟨rfl,j⟩)
  ·simp(disch:=omega)only[go_sem]
   rw[dU i]
   exact⟨l.length-(i+1),om,i+1,aB rfl,om,j,rfl⟩
  ·simp(disch:=omega)only[go_sem]
   exact .inr j
 have e:=bE c
 obtain rfl:i=l.length:=om
 simp(disch:=omega)only[go_sem,e]
 exact .inl f
theorem EY (b:Nat)(W:V)(l:List Int)(h:H)(hn:l.length<100000)(hb:h.get b=aY [W])(J:b<h.next)(hv:SI h W l):
  Ev T 231 [.fn 232 [] [.ptr b 0]] h (λv h'=>cQ h' v 1 (ints l) h.next/\(v= .aE∨ ∃id cap,v= .sl id 0 l.length cap/\h.next<=id/\id<h'.next/\h'.get id=aY (ints l))/\Fr h h'):=by
 refine cT qY rfl ?_
 simp(disch:=omega)only[go_sem,qY,aD]
 refine Ev.mono (Q:=λv h'=>cQ h' v 1 (ints l) h.next/\(v= .aE∨ ∃id cap,v= .sl id 0 l.length cap/\h.next<=id/\id<h'.next/\h'.get id=aY (ints l))/\Fr h h') ?_ (λv h' hv=>by simp(disch:=omega)only[go_sem];exact hv)
 refine cT lH rfl ?_
 simp(disch:=omega)only[go_sem,lH,aD,kW (x:= .aE) rfl rfl]
 obtain⟨B,P⟩:=exI h.next
 obtain⟨t,p⟩: ∃t,t=h.new (.cells false [.aE]):=⟨_,rfl⟩
 have g1:t.get B=aY [.aE]:=by rw[p,←P,H.aL]
 have n1:t.next=B+1:=by rw[p,H.aU,P]
 have f1:Fr h t:=by rw[p];exact (Fr.refl h).new _
 rw[←p,P]
 refine⟨rfl,?_⟩
 refine uT λr q=>?_
 refine (ET (B+1) b W l _ om (λi d=>d.get (B+1)=some (.loop r)/\B+1<d.next/\Fr h d/\ ∃g,d.get B=aY [g]/\cQ d g 1 (ints (l.take i)) (B+2)/\(g= .aE∨ ∃id cap,g= .sl id 0 i cap/\B+2<=id/\id<d.next/\d.get id=aY (ints (l.take i)))) (λ_=>False) ?_ ?_ ?_).mono ?_
 ·have e:=H.aL t (.loop r)
  rw[n1] at e
  refine⟨e,by rw[H.aU];omega,f1.new _,.aE,by rw[H.bD t om];exact g1,cQ.aE _ _ _,.inl rfl⟩
 ·rintro i d ⟨_,_,f,_⟩
  exact⟨by rw[f.get b J];exact hb,hv.mono f⟩
 ·rintro i d hi ⟨gr,nr,f,g,G,y,N⟩
  have iB:r.st= .ready:=by rw[q]
  have K:r.pend=none:=by rw[q]
  refine tE gr (by rw[q];rfl) iB λu g2 U o2=>?_
  rw[congrArg dY.assign q,congrArg dY.vars q,congrArg dY.pars q]
  simp(disch:=omega)only[go_sem,List.zip_cons_cons,List.zip_nil_left]
  rw[congrArg dY.body q]
  have O:u.cell B 0=some g:=by unfold H.cell;rw[o2 B om,G];rfl
  simp(disch:=omega)only[go_sem,O,bZ u (z:= aC 0) (v:= aC (l.getD i 0)) rfl rfl,U]
  obtain⟨a,o⟩: ∃a,a=u.new (.cells false [aC (l.getD i 0)]):=⟨_,rfl⟩
  have g3:a.get d.next=aY [aC (l.getD i 0)]:=by rw[o,←U,H.aL]
  have n3:a.next=d.next+1:=by rw[o,H.aU,U]
  have R: ∀k,k<d.next->k≠B+1->a.get k=d.get k:=λk j w=>by rw[o,H.bD u om,o2 k w]
  have r3:a.get (B+1)=some (.loop (oV r)):=by rw[o,H.bD u om,g2]
  rw[←o]
  have L:cQ a g 1 (ints (l.take i)) (B+2):=y.mono om λid F n c e j w=>R id w om
  have Z:(l.take i).length=i:=by rw[Cq];omega
  obtain⟨j,a4,A⟩:=L.push (bytes:=8) (SV.one om g3 (.kn 1)) (n:=i) (m:=1) (by rw[aP,Z,uH]) rfl om om om
  have Y: ∀k,k<B+2->cZ g k:=λk hk id F n c e e2=>by
   have:=(y.in _ _ _ _ e).2.1;omega
  have g4:j.get B=aY [g]:=by rw[A.old B om (Y B om),R B om om];exact G
  have r4:j.get (B+1)=some (.loop (oV r)):=by rw[A.old (B+1) om (Y (B+1) om)];exact r3
  have pt:dR (aY [g]) j B 0 [.sl a.next 0 (i+1) (.un 1)]=some (j.set B (aY [.sl a.next 0 (i+1) (.un 1)])):=bP (by simp) j B _
  simp(disch:=omega)only[go_sem,a4,g4,pt]
  refine oP iB K (by rw[H.aH j om];exact r4) (.inl ⟨rfl,?_⟩)
  have et:ints (l.take (i+1))=ints (l.take i)++ [aC (l.getD i 0)]:=by
   rw[←List.take_append_getElem hi,uW];simp [ints,List.getD,hi]
  have n4:=A.next
  have g5:((j.set B (aY [.sl a.next 0 (i+1) (.un 1)])).set (B+1) (some (.loop r))).get a.next=aY (ints (l.take (i+1))):=by
   rw[H.aH _ om,H.aH _ om,A.get,et]
  refine⟨by rw[H.aS],by simp only[H.cH];omega,⟨by simp only[H.cH];have:=f.next;omega,λid s=>?_⟩,_,by rw[H.aH _ om,H.aS],?_,.inr ⟨a.next,_,rfl,om,by simp only[H.cH];omega,g5⟩⟩
  ·rw[H.aH _ om,H.aH _ om,A.old id (by have:=f.next;omega) (Y id om),R id (by have:=f.next;omega) om]
   exact f.get id s
  ·exact .inr ⟨a.next,i+1,_, [],rfl,by rw[aP,Cq];omega,.inl rfl,om,by simp only[H.cH];omega,by rw[tD];exact g5⟩
 ·rintro _ u (⟨gr,nr,f,g,G,y,N⟩|h)
  case inr=>exact h.elim
  refine⟨r,gr,by rw[q];simp,?_⟩
  have O:(u.set (B+1) (some (.loop {r with st:= .out}))).cell B 0=some g:=by unfold H.cell;rw[H.aH _ om,G];rfl
  have en:r.pend.getD .norm= .norm:=by rw[q];rfl
  rw[en]
  simp(disch:=omega)only[go_sem,O]
  rw[List.take_length] at y N
  refine⟨?_,?_,⟨by simp only[H.cH];have:=f.next;omega,λid s=>by rw[H.aH _ om];exact f.get id s⟩⟩
  ·refine (y.mono (by simp only[H.cH];omega) λid F n c e j w=>H.aH _ om _).le om
  ·rcases N with rfl|⟨id,cap,rfl,a,j,w⟩
   ·exact .inl rfl
   ·exact .inr ⟨id,cap,rfl,om,j,by rw[H.aH _ om];exact w⟩
theorem LA (b:Nat)(f:V)(l:List Int)(h:H)(w:0<l.length)(y:l.length<50000)(m:h.get b=aY [f])(c:b<h.next)(q:SI h f l):
  Ev T 194 [.fn 232 [] [.ptr b 0]] h (λv h'=> ∃id cap l',v= .sl id 0 l.length cap/\h.next<=id/\id<h'.next/\h'.get id=aY (ints l')/\l'.Perm l/\l'.Pairwise (· <= ·)/\Fr h h'):=by
 refine cT rZ rfl ?_
 simp(disch:=omega)only[go_sem,rZ,aD]
 refine (EY b f l h om m c q).mono ?_
 rintro v p ⟨r,j,d⟩
 rcases j with rfl|⟨id,cap,rfl,t,i,u⟩
 ·exfalso
  rcases r with ⟨_,e⟩|⟨_,_,_,_,e,_⟩
  ·have:=congrArg List.length e
   rw[aP,List.length_nil] at this
   omega
  ·cases e
 simp(disch:=omega)only[go_sem]
 refine (Ma p id l cap om u i).mono ?_
 rintro _ x ⟨l',s,n,o,a⟩
 simp(disch:=omega)only[go_sem]
 exact⟨id,cap,l',rfl,t,jB i a.next,s,n,o,lX d.next a.next,λk g=>(a.get k (jB g d.next) (λe=>by have:k=id:=e;omega)).trans (d.get k g)⟩
section
variable {v vO vR:V} {b C D n:Nat} {r O:LN} {wsO wsR:List V}
structure zH (h h':H)(v:V)(l:List Int):Prop where
 ex: ∃id cap,v= .sl id 0 l.length cap/\h.next<=id/\id<h'.next/\h'.get id=aY (ints l)/\(cap= .un 1∨cap= .kn l.length)
 fr:Fr h h'
theorem zH.pv {h h':H}{l:List Nat}(f:zH h h' v (zi l)){W:Nat->Prop}(c: ∀id,W id->id<h.next):PV W h' v l:=by
 obtain⟨id,a,rfl,i,d,g,_⟩:=f.ex;exact⟨SV.all (by rw[aP,uH]) d g _,λe=>by have:=c id e;omega⟩
theorem zH.si {h h':H}{l:List Int}(f:zH h h' v l):SI h' v l:=by
 obtain⟨id,d,rfl,e,c,a,_⟩:=f.ex;exact SV.all (by rw[aP,uH]) c a _
theorem zH.own {h h':H}{l:List Int}(f:zH h h' v l):cQ h' v 1 (ints l) h.next:=by
 obtain⟨id,a,rfl,c,d,g,i⟩:=f.ex;exact .inr ⟨id,l.length,a, [],rfl,by rw[aP,uH],by rcases i with e|e;exact .inl e;exact .inr ⟨e,rfl⟩,c,d,by rw[tD];exact g⟩
theorem Pf (u:V)(l:List Int)(h:H)(p:0<l.length)(F:l.length<1000000)(j:SI h u l):
  Ev T 138 [u] h (λv h'=>zH h h' v l):=by
 refine cT kP rfl ?_
 have t:Fj false u=some (.bool false):=by
  rcases j with ⟨_,e⟩|⟨id,d,len,x,y,z,rfl,_⟩
  ·have:=congrArg List.length e
   rw[aP,List.length_nil] at this;omega
  ·rfl
 simp(disch:=omega)only[go_sem,kP,aD,t]
 have k:Fr h (h.new (.cells false [])):=(Fr.refl h).new _
 have w:cQ (h.new (.cells false [])) (.sl h.next 0 0 (.kn 0)) 1 [] 0:=cQ.new h 1 0 0 [] rfl (fR _)
 obtain⟨B,g,f⟩:=w.push (bytes:=8) (j.mono k) (n:=0) (m:=l.length) rfl (by rw[aP,uH]) om p om
 have o:(h.new (.cells false [])).next=h.next+1:=H.aU ..
 rw[o] at g
 have s:=f.next
 have i:=f.get
 rw[o] at s i
 simp(disch:=omega)only[go_sem,g]
 refine⟨⟨h.next+1,_,rfl,om,om,i,.inl rfl⟩,om,λid a=>?_⟩
 rw[f.old id om (λq d n c e A=>by cases e;omega)]
 exact k.get id a
def Ys (v:V):Prop:= ∀id off len cap,v= .sl id off len cap->cap= .un 1∨ ∃c,cap= .kn c/\len<=c
theorem cQ.GF {h:H}{ws:List V}(o:cQ h v 1 ws b):Ys v:=by
 rintro id a len c rfl;rcases o with ⟨e,_⟩|⟨_,_,_,_,e,_,d,_⟩
 ·cases e
 ·cases e
  rcases d with e|⟨e,_⟩
  ·exact .inl e
  ·exact .inr ⟨_,e,eH _⟩
def SRR (h:H)(v:V)(R:List (List (List Int))):Prop:= ∃ws,SV h v 1 ws/\aM (SR h) ws R/\ ∀w∈ws,Ys w
theorem SRR.mono {h h':H}{R:List (List (List Int))}(s:SRR h v R)(f:Fr h h'):SRR h' v R:=by
 obtain⟨c,s,a,k⟩:=s;exact⟨c,s.mono f,a.mono λ_ _ x=>x.mono f,k⟩
def Ig (h:H)(v:V)(d:Int)(O:List (List Int))(R:List (List (List Int))):Prop:= ∃vO vR,v= .agg [aC d,vO,vR]/\SR h vO O/\SRR h vR R
theorem Ig.mono {h h':H}{d:Int}{O:List (List Int)}{R:List (List (List Int))}(s:Ig h v d O R)(f:Fr h h'):Ig h' v d O R:=by
 obtain⟨vO,vR,e,a,c⟩:=s;exact⟨vO,vR,e,a.mono f,c.mono f⟩
def PL (W:Nat->Prop)(h:H)(v:V)(r:LN):Prop:= ∃ws,SV h v 1 ws/\Mf W v/\dW W h ws r/\Ys v
section
variable {W W':Nat->Prop} {h h' hh:H}
theorem PL.go (p:PL W h v r)(f:Fx W h h')(c: ∀id,id<h.next->W' id->W id):PL W' h' v r:=by
 obtain⟨d,s,o,a,k⟩:=p;exact⟨d,s.fx o f,o.iP s c,dW.go a f c,k⟩
theorem PL.sp (p:PL W h v r):SP h v r:=by
 obtain⟨c,s,o,a,_⟩:=p;refine⟨c,s,?_⟩;have d:=aM.length a
 exact aM.kH (by simpa using d) λi hi e=>by
  have:=(aM.get a i hi om).si;simpa using this
def Dg (W:Nat->Prop)(v:V):Prop:= ∀id off n c,v= .sl id off n c->W id
structure yC (h hh:H)(C D:Nat)(W:Nat->Prop)(n:Nat)(O:LN)(R:fM)(vO vR:V)(wsO wsR:List V):Prop where
 get:hh.get C=aY [aC n,vO,vR]
 oO:cQ hh vO 1 wsO h.next
 oR:cQ hh vR 1 wsR h.next
 aO:dW W hh wsO O
 aR:aM (PL W hh) wsR R
 bO:Dg W vO
 bR:Dg W vR
 pO:cZ vO C
 pR:cZ vR C
 qO:cZ vO D
 qR:cZ vR D
 d:W D
 cd:C≠D
 IF:Dis vO vR
 wb: ∀id,W id->id<hh.next
 low: ∀id,id<h.next->W id
 hC:h.next<=C
 hD:h.next<=D
 c:W C
 fr:Fr h hh
theorem yC.start (g:h.next<=C)(c:C<hh.next)(i:h.next<=D)(a:D<hh.next)(d:C≠D)(f:Fr h hh)(j:hh.get C=aY [aC n,.aE,.aE]):yC h hh C D (λid=>id=C∨id=D∨id<h.next) n [] [] .aE .aE [] []:=
 ⟨j,cQ.aE _ _ _,cQ.aE _ _ _,trivial,trivial,λ_ _ _ _ e=>(by cases e),λ_ _ _ _ e=>(by cases e),cZ.aE _,cZ.aE _,cZ.aE _,cZ.aE _,.inr (.inl rfl),d,λ_ _ _ _ e=>(by cases e),λid e=>by rcases e with rfl|rfl|e;exact c;exact a;exact jB e f.next,λid e=> .inr (.inr e),g,i,.inl rfl,f⟩
theorem yC.mono {R:fM}(A:yC h hh C D W n O R vO vR wsO wsR){h2:H}(f:Fr hh h2):yC h h2 C D W n O R vO vR wsO wsR:=
 ⟨by rw[f.get C (A.wb C A.c)];exact A.get,A.oO.fr f,A.oR.fr f,dW.go A.aO (Fx.of f) (λ_ _ h=>h),A.aR.mono λ_ _ x=>x.go (Fx.of f) (λ_ _ h=>h),A.bO,A.bR,A.pO,A.pR,A.qO,A.qR,A.d,A.cd,A.IF,λid h=>jB (A.wb id h) f.next,A.low,A.hC,A.hD,A.c,A.fr.trans f⟩
theorem yC.step {R:fM}(A:yC h hh C D W n O R vO vR wsO wsR){v4 v5:V}{o:List Nat}(B:PV W hh v4 o)(K:PL W hh v5 r)
  {h6:H} {a k1 k2:Nat} (ha:hh.next<=a) (Q:hh.next<=b) (w:a≠b) (y:a<h6.next) (t:b<h6.next) (L:wsO.length+1=k1) (N:wsR.length+1=k2)
  (J:h6.get C=aY [aC n,.sl a 0 k1 (.un 1),.sl b 0 k2 (.un 1)]) (z:h6.get a=aY (wsO++ [v4])) (G:h6.get b=aY (wsR++ [v5]))
  (p: ∀k,k<hh.next->k≠C->cZ vO k->cZ vR k->h6.get k=hh.get k):
  yC h h6 C D (λid=>W id∨id=a∨id=b) n (O++ [o]) (R++ [r]) (.sl a 0 k1 (.un 1)) (.sl b 0 k2 (.un 1)) (wsO++ [v4]) (wsR++ [v5]):=by
 have s:Fx W hh h6:=⟨om,λid g j=>p id g (λe=>j (e▸A.c)) (λl f n c e m=>j (m▸A.bO _ _ _ _ e)) (λl f n c e m=>j (m▸A.bR _ _ _ _ e))⟩
 have q: ∀id,id<hh.next->(W id∨id=a∨id=b)->W id:=λid g j=>by
  rcases j with j|j|j
  ·exact j
  ·omega
  ·omega
 have cn:=A.wb C A.c
 have Z:=A.wb D A.d
 have fn:=A.fr.next
 refine⟨J,.inr ⟨a,k1,_, [],rfl,by rw[iA];simp;omega,.inl rfl,om,y,by rw[tD];exact z⟩,.inr ⟨b,k2,_, [],rfl,by rw[iA];simp;omega,.inl rfl,om,t,by rw[tD];exact G⟩,
  (dW.go A.aO s q).append (dW.one (PV.go B s q)),(A.aR.mono λ_ _ x=>x.go s q).append ⟨K.go s q,trivial⟩,λid f n c e=>by cases e;exact .inr (.inl rfl),λid f n c e=>by cases e;exact .inr (.inr rfl),
  cZ.sl om,cZ.sl om,cZ.sl om,cZ.sl om,.inl A.d,A.cd,λi o n c e i' o' Y U F=>by cases e;cases F;exact w,λid g=>?_,λid g=> .inl (A.low id g),A.hC,A.hD,.inl A.c,⟨om,λid u=>?_⟩⟩
 ·rcases g with g|g|g
  ·have:=A.wb id g;omega
  ·omega
  ·omega
 ·have P:=A.hC
  rw[p id om om (λl f n c e m=>by have:=(A.oO.in _ _ _ _ e).2.1;omega) (λl f n c e m=>by have:=(A.oR.in _ _ _ _ e).2.1;omega)]
  exact A.fr.get id u
theorem yC.box {R:fM}(A:yC h hh C D W n O R vO vR wsO wsR){h3:H}{o:Option Ob}(e:h3=hh.set D o):yC h h3 C D W n O R vO vR wsO wsR:=by
 subst e;have f:Fx W hh (hh.set D o):=Fx.set hh A.d o;have i:=A.wb D A.d
 refine⟨by rw[H.aH hh A.cd];exact A.get,A.oO.mono (eH _) λid a m c e _ _=>H.aH hh (λg=>A.qO _ _ _ _ e g.symm) o,A.oR.mono (eH _) λid a m c e _ _=>H.aH hh (λg=>A.qR _ _ _ _ e g.symm) o,
  dW.go A.aO f (λ_ _ h=>h),A.aR.mono λ_ _ x=>x.go f (λ_ _ h=>h),A.bO,A.bR,A.pO,A.pR,A.qO,A.qR,A.d,A.cd,A.IF,A.wb,A.low,A.hC,A.hD,A.c,?_⟩
 exact A.fr.set A.hD o
end
def OL (W:Nat->Prop)(h:H)(v:V)(n:Nat)(O:LN)(R:fM):Prop:= ∃vO vR wsO wsR,v= .agg [aC n,vO,vR]/\SV h vO 1 wsO/\Mf W vO/\dW W h wsO O/\SV h vR 1 wsR/\Mf W vR/\aM (PL W h) wsR R
section
variable {W W':Nat->Prop} {h h' hh:H}
theorem OL.go {R:fM}(c:OL W h v n O R)(f:Fx W h h')(a: ∀id,id<h.next->W' id->W id):OL W' h' v n O R:=by
 obtain⟨vO,vR,wsO,wsR,e,d,j,l,i,g,k⟩:=c;exact⟨vO,vR,wsO,wsR,e,d.fx j f,j.iP d a,dW.go l f a,i.fx g f,g.iP i a,k.mono λ_ _ x=>x.go f a⟩
theorem OL.mono {R:fM}(c:OL W h v n O R)(f:Fr h h'):OL W h' v n O R:=c.go (Fx.of f) λ_ _ h=>h
theorem OL.ch {R:fM}(c:OL W h v n O R):Ig h v (n:Int) (O.map zi) (R.map (List.map zi)):=by
 obtain⟨vO,vR,wsO,wsR,e,l,p,f,m,o,d⟩:=c;refine⟨vO,vR,e,⟨wsO,l,?_⟩,⟨wsR,m,?_,λw j=>?_⟩⟩
 ·have a:=aM.length f
  exact aM.kH (by simpa using a) λi hi g=>by
   have:=(aM.get f i hi om).si;simpa using this
 ·have a:=aM.length d
  exact aM.kH (by simpa using a) λi hi g=>by
   have:=(aM.get d i hi om).sp;simpa using this
 ·obtain⟨i,hi,rfl⟩:=wV.1 j
  have a:=aM.length d;obtain⟨_,_,_,_,k⟩:=aM.get d i hi om;exact k
theorem GA {sz:Nat}{ws:List V}(o:cQ h v sz ws b):Mf (λid=>id<b) v:=by
 cases v with
 |sl id off m c=>exact λe=>by have:=(o.in _ _ _ _ rfl).2.1;omega
 |_=>trivial
theorem yC.chw {R:fM}(A:yC h hh C D W n O R vO vR wsO wsR):OL (λid=>id<h.next) hh (.agg [aC n,vO,vR]) n O R:=
 ⟨vO,vR,wsO,wsR,rfl,A.oO.sv,GA A.oO,dW.iP A.aO λid _ h=>A.low id h,A.oR.sv,GA A.oR,A.aR.mono λ_ _ x=>x.go (Fx.refl _ _) λid _ h=>A.low id h⟩
end
theorem Vu {h:H}{O:List (List Int)}(s:SR h v O):v.one=true:=by
 obtain⟨_,t,_⟩:=s;exact t.cF.2.1
theorem Rd {h:H}{O:List (List (List Int))}(s:SRR h v O):v.one=true:=by
 obtain⟨_,t,_⟩:=s;exact t.cF.2.1
end
def ChL (τ:pG)(n j:Nat)(o:List Nat)(r:LN):Prop:=o.Pairwise (· < ·)/\(∀p,p∈o↔p∈(τ j).orb)/\r.length=o.length/\ ∀k,k<o.length-> ∀y,(τ j).to (o.getD k 0)=some y->r.getD k []=Ki τ (n-(j+1)) (j+1) y
theorem ZE {l:List Int}{a:List Nat}(h:l.Perm (zi a)): ∃q,l=zi q/\q.Perm a:=by
 refine⟨l.map Int.toNat,?_,?_⟩
 ·unfold zi
  rw[List.map_map];refine (List.map_id l).symm.trans (Wd λx b=>?_);have:=h.mem_iff.1 b;obtain⟨k,_,rfl⟩:=vF.1 this;simp
 ·have:=h.map Int.toNat
  have e:(zi a).map Int.toNat=a:=by
   unfold zi;rw[List.map_map];exact (Wd λx _=>by simp).trans (List.map_id a)
  rwa [e] at this
theorem agL {q:List Nat}(h:(zi q).Pairwise (· <= ·))(nd:q.Nodup):q.Pairwise (· < ·):=by
 unfold zi at h;rw[List.pairwise_map] at h;rw[nPN] at nd;exact (h.and nd).imp λ⟨a,h2⟩=>om
theorem JQ (u:V)(b:u.cells= [u])(a:u.one=true)(h:H):Ev T 195 [u] h (λv h'=>v= .fn 232 [] [.ptr h.next 0]/\h'.get h.next=aY [u]/\h'.next=h.next+1/\Fr h h'):=by
 refine cT mX rfl ?_;simp(disch:=omega)only[go_sem,mX,aD,kW b a];exact (Fr.refl h).new _
theorem lZ {α:Type}{a:List α}{x:α}{j:Nat}{d:α}(h:j<a.length):(a++ [x]).getD j d=a.getD j d:=by
 rw[List.getD,List.getD,Ej h]
theorem jU {α:Type}{a:List α}{x d:α}:(a++ [x]).getD a.length d=x:=by
 rw[List.getD,Eb (eH _),Nat.sub_self];rfl
theorem Su (h:H)(n s L:Nat)(F:Nat->V)(τ:pG)(hn:n<=7)(R:rV h n s L F τ)(t:oT n 0 τ):
  Ev T 142 [.ptr s 0] h (λv h'=> ∃O R',OL (λid=>id<h.next) h' v n O R'/\aZ n (S n τ 0) O R'/\Fr h h'):=by
 refine cT rY rfl ?_
 obtain⟨B,hB⟩:=exI h.next
 have tn:=R.tn
 have ln:=R.ln
 have ct:h.cell s 0=some (aC n):=by rw[H.aF R.t];rfl
 have bl:rK [aC 0,.aE,.aE] [(0,1,aC n)]=some (.agg [aC n,.aE,.aE]):=by
  have e1:putAt [aC 0,.aE,.aE] 0 [aC n]=some [aC n,.aE,.aE]:=by simp [putAt]
  simp [rK,gZ,e1,V.cells,V.one]
 obtain⟨U,a3⟩: ∃U,U=(h.new (.cells false [aC 0,.aE,.aE])).new (.cells false [aC 0,.aE,.aE]):=⟨_,rfl⟩
 have n1:U.next=B+2:=by rw[a3,H.aU,H.aU,hB]
 have g1:U.get (B+1)=aY [aC 0,.aE,.aE]:=by
  rw[a3];have:=H.aL (h.new (.cells false [aC 0,.aE,.aE])) (.cells false [aC 0,.aE,.aE]);rwa [H.aU,hB] at this
 have g0:U.get B=aY [aC 0,.aE,.aE]:=by rw[a3,H.bD _ (by rw[H.aU,hB];omega),←hB,H.aL]
 have f1:Fr h U:=by rw[a3];exact ((Fr.refl h).new _).new _
 have e6:U.cell s 0=some (aC n):=by rw[f1.cell tn];exact ct
 simp(disch:=omega)only[go_sem,rY,aD,hB,ct,bl]
 rw[←a3]
 simp(disch:=omega)only[go_sem,bI U (B+1) 0 (v:= aC n) (u:= .aE) (w:= .aE) rfl rfl rfl,g1,bG]
 obtain⟨l,a2⟩: ∃l,l=U.set (B+1) (aY [aC n,.aE,.aE]):=⟨_,rfl⟩
 have n2:l.next=B+2:=by rw[a2];exact n1
 have f2:Fr h l:=by rw[a2];exact f1.set om _
 have g2:l.get (B+1)=aY [aC n,.aE,.aE]:=by rw[a2,H.aS]
 have d7:l.get B=aY [aC 0,.aE,.aE]:=by rw[a2,H.aH _ om];exact g0
 have d6:U.cell s 1=some (.sl L 0 n (.kn n)):=by rw[H.aF (R.mono f1).t];rfl
 rw[←a2]
 simp(disch:=omega)only[go_sem,d6]
 clear a3 a2 f1 g0 g1 e6 d6 n1 U
 refine aI (λk' a1 J=> ∃(i:Nat) (W:Nat->Prop) (O:LN) (R':fM) (vO N:V) (c9 b9:List V),(∃g:Nat->V,a1= [.ptr s 0,.ptr B 0,.ptr (B+1) 0,g 3,g 4,g 5,g 6,aC n,aC i,g 9,g 10,g 11,g 12,g 13])/\i<=n/\yC h J (B+1) B W n O R' vO N c9 b9/\
   J.get B=aY [aC 0,.aE,.aE]/\O.length=i/\R'.length=i/\(∀j,j<i->ChL τ n j (O.getD j []) (R'.getD j []))/\k'=n-i) n
  ⟨0,_, [], [],_,_,_,_,aB rfl,fR _,yC.start om om om om om f2 g2,d7,rfl,rfl,λj hj=>om,rfl⟩ ?_
 clear f2 g2 d7 n2 l
 rintro k' a1 l ⟨i,W,O,R',vO,N,c9,b9,⟨g,rfl⟩,hi,A,gB,lO,lR,hC,rfl⟩
 by_cases d1:(i:Int)<(n:Int)
 case neg=>
  have e1:=bE d1;obtain rfl:i=n:=om
  have hr:=aG A.get;have nB:=A.fr.next;simp(disch:=omega)only[go_sem,e1,hr,bI l B 0 (v:= aC i) (u:=vO) (w:=N) rfl (SV.cF A.oO.sv).2.1 (SV.cF A.oR.sv).2.1,gB,bG];have i1:=aG (h:=l.set B (aY [aC i,vO,N])) (H.aS ..);have fB:Fx (· =B) l (l.set B (aY [aC i,vO,N])):=Fx.set l (W:=(· =B)) rfl _;simp(disch:=omega)only[go_sem,i1]
  obtain⟨h3,c2⟩: ∃h3,h3=l.set B (aY [aC i,vO,N]):=⟨_,rfl⟩
  rw[←c2] at fB ⊢;have A3:=A.box c2;refine⟨O,R',by rw[←hB];exact A3.chw,?_,A3.fr⟩;have X:=t.chain (O:=O) (R:=R') lO lR (λj hj=>(hC j hj).1) (λj hj=>(hC j hj).2.1) (λj hj=>(hC j hj).2.2.1) (λj hj=>(hC j hj).2.2.2);exact X
 have e1:=bN d1
 have Q:i<n:=om
 have R2:=R.mono A.fr
 have cl:l.cell s 1=some (.sl L 0 n (.kn n)):=by rw[H.aF R2.t];rfl
 have co:l.cell L (i*194+1)=some (F (i*194+1)):=R2.cell Q om
 have oo:=R2.orb i Q
 obtain⟨jO,_⟩:=t i (fR _) Q
 have j1:=abH jO Q
 have d3:0<(τ i).orb.length:=KH jO.base
 simp(disch:=omega)only[go_sem,e1,cl,co]
 refine (JQ (F (i*194+1)) (SV.cF oo.sv).1 (SV.cF oo.sv).2.1 l).mono ?_
 rintro _ h3 ⟨rfl,g3,n3,f3⟩
 simp(disch:=omega)only[go_sem]
 have d0:SI h3 (F (i*194+1)) (zi (τ i).orb):=(show SI l _ _ from oo.sv).mono f3
 refine (LA l.next _ (zi (τ i).orb) h3 (by rw[aN];exact d3) (by rw[aN];omega) g3 om d0).mono ?_
 rintro _ h4 ⟨P,cp,l',rfl,j2,c3,gP,pm,d8,f4⟩
 obtain⟨q,rfl,b7⟩:=ZE pm
 have c8:=agL d8 (b7.nodup_iff.2 jO.nd)
 have lq:q.length=(τ i).orb.length:=b7.length_eq
 have b3: ∀p,p∈q↔p∈(τ i).orb:=λp=>b7.mem_iff
 rw[aN,←lq]
 have A4:=A.mono (f3.trans f4)
 have pq:PV W h4 (.sl P 0 q.length cp) q:=⟨SV.all (by rw[aP,aN,uH]) c3 gP _,λhw=>by have:=A.wb P hw;omega⟩
 have g9:h4.get B=aY [aC 0,.aE,.aE]:=by rw[(f3.trans f4).get B (A.wb B A.d)];exact gB
 clear A gB g3 d0 oo co cl R2 pm d8
 simp(disch:=omega)only[go_sem]
 refine bQ (λvs J=> ∃(vr:V) (r:LN),(∃g:Nat->V,vs= [.ptr s 0,.ptr B 0,.ptr (B+1) 0,aC i,.sl P 0 q.length cp,vr,g 6,aC n,aC i,g 9,g 10,g 11,g 12,g 13])/\PL W J vr r/\ChL τ n i q r/\Fr h4 J) ?_ ?_
 ·refine aI (λk' vs J=> ∃(k:Nat) (vr:V) (ws:List V) (r:LN) (W':Nat->Prop),(∃g:Nat->V,vs= [.ptr s 0,.ptr B 0,.ptr (B+1) 0,aC i,.sl P 0 q.length cp,vr,g 6,aC n,aC i,g 9,.sl P 0 q.length cp,aC (q.length:Int),aC k,g 13])/\k<=q.length/\cQ J vr 1 ws h4.next/\dW W' J ws r/\Dg W' vr/\(∀id,W id->W' id)/\(∀id,W' id->id<J.next/\(W id∨h4.next<=id))/\r.length=k/\
    (∀j,j<k-> ∀y,(τ i).to (q.getD j 0)=some y->r.getD j []=Ki τ (n-(i+1)) (i+1) y)/\Fr h4 J/\k'=q.length-k) q.length
   ⟨0,.aE, [], [],W,aB rfl,fR _,cQ.aE _ _ _,trivial,λ_ _ _ _ e=>(by cases e),λ_ h=>h,λid h=>⟨A4.wb id h,.inl h⟩,rfl,λj hj=>om,Fr.refl _,rfl⟩ ?_
  rintro k' a1 f ⟨k,vr,ws,r,W',⟨g,rfl⟩,hk,ow,b6,i2,d4,c5,lr,hr,f5,rfl⟩
  by_cases b4:(k:Int)<(q.length:Int)
  case neg=>
   have e2:=bE b4;obtain rfl:k=q.length:=om
   simp(disch:=omega)only[go_sem,e2];refine⟨vr,r,aB rfl,⟨ws,ow.sv,?_,b6.iP (λid _ h=>d4 id h),cQ.GF ow⟩,⟨c8,b3,lr,hr⟩,f5⟩
   cases vr with
   |sl id b2 m c=>exact λh=>by have:=(ow.in _ _ _ _ rfl).2.1;have:=A4.wb id h;omega
   |_=>trivial
  have e2:=bN b4
  have b5:k<q.length:=om
  obtain⟨p,hp⟩:=exI (q.getD k 0)
  have c1:=pq.mono f5
  have ck:f.cell P k=some (aC p):=by
   rw[H.aF (by rw[f5.get P c3];exact gP),Iq b5,hp]
  have c6:p∈(τ i).orb:=(b3 p).1 (by rw[←hp,cL b5];exact Bu b5)
  have i8:=jO.lt Q c6
  obtain⟨y,hy⟩:=jO.to c6
  have Y:=jO.cX _ _ hy
  have R5:=R.mono (A4.fr.trans f5)
  have cl:f.cell s 1=some (.sl L 0 n (.kn n)):=by rw[H.aF R5.t];rfl
  have e9:f.cell L (i*194+2+p)=some (F (i*194+2+p)):=R5.Ub Q om
  have i3:PV (WT n L F) f (F (i*194+2+p)) y:=by
   have:=R5.to i p Q om;rw[hy] at this;exact this
  simp(disch:=omega)only[go_sem,e2,ck,cl,e9]
  refine (UK f n s L F τ _ y i hn R5 i3 Y Q (t.mono om)).mono ?_
  rintro v6 h6 ⟨p6,Q6,f6⟩
  simp(disch:=omega)only[go_sem]
  refine (Pf v6 _ h6 (by rw[aN,Q6.len];omega) (by rw[aN,Q6.len];omega) p6.si).mono ?_
  rintro v7 h7 c7
  have f7:=c7.fr
  have p7:PV W' h7 v7 (Ki τ (n-(i+1)) (i+1) y):=c7.pv λid h=>jB (c5 id h).1 f6.next
  simp(disch:=omega)only[go_sem,bZ h7 (z:= .aE) p7.dP.1 p7.dP.2]
  obtain⟨Z,K⟩: ∃Z,Z=h7.new (.cells false [v7]):=⟨_,rfl⟩
  have g8:Z.get h7.next=aY [v7]:=by rw[K,H.aL]
  have n8:Z.next=h7.next+1:=by rw[K,H.aU]
  have f8:Fr h7 Z:=by rw[K];exact (Fr.refl h7).new _
  rw[←K]
  have b0:=(f6.trans f7).trans f8
  have h0:=ow.fr b0
  have j0:=aM.length b6
  obtain⟨h9,a9,p9⟩:=h0.push (bytes:=24) (SV.one om g8 (.kn 1)) (n:=k) (m:=1) om rfl om om om
  simp(disch:=omega)only[go_sem,a9]
  rw[dU k]
  have n9:=p9.next
  have f9:Fx W' Z h9:=p9.fx i2
  have e5:=b0.next
  have d2: ∀id,id<Z.next->(W' id∨id=Z.next)->W' id:=λid U l=>by
   rcases l with l|l
   ·exact l
   ·omega
  refine⟨q.length-(k+1),om,k+1,_,_,r++ [Ki τ (n-(i+1)) (i+1) y],λid=>W' id∨id=Z.next,aB rfl,om,p9.own om rfl (by have:=f5.next;omega),?_,λid b2 m c e=>by cases e;exact .inr rfl,λid h=> .inl (d4 id h),λid h=>?_,by rw[iA,lr];rfl,λj hj z hz=>?_,?_,rfl⟩
  ·exact (dW.go (dW.go b6 (Fx.of b0) (λ_ _ h=>h)) f9 d2).append (dW.one (PV.go (p7.mono f8) f9 d2))
  ·rcases h with h|h
   ·have:=c5 id h;exact⟨om,this.2⟩
   ·have:=f5.next;exact⟨om,.inr om⟩
  ·by_cases e:j=k
   ·subst e
    rw[hp,hy] at hz
    cases hz
    rw[←lr,jU]
   ·rw[lZ om]
    exact hr j om z hz
  ·refine⟨by have:=f5.next;omega,λid b1=>?_⟩
   rw[p9.old id (by have:=f5.next;omega) (λg4 b2 m c e e2=>by have:=(ow.in _ _ _ _ e).2.1;omega),b0.get id (by have:=f5.next;omega)]
   exact f5.get id b1
 rintro a1 f ⟨vr,r,⟨g,rfl⟩,pl,e8,f5⟩
 have G:=A4.mono f5
 have c1:=pq.mono f5
 have g5:f.get B=aY [aC 0,.aE,.aE]:=by rw[f5.get B (A4.wb B A4.d)];exact g9
 have cO:f.cell (B+1) 1=some vO:=by rw[H.aF G.get];rfl
 have cR:f.cell (B+1) 2=some N:=by rw[H.aF G.get];rfl
 obtain⟨ws,b8,e3,e7,g7⟩:=pl
 have pl:PL W f vr r:=⟨ws,b8,e3,e7,g7⟩
 have j4:=G.fr.next
 have c4:=G.wb _ G.c
 simp(disch:=omega)only[go_sem,cO,cR,bZ _ (z:= .aE) (v:= .sl P 0 q.length cp) rfl rfl]
 obtain⟨h6,a8⟩: ∃h6:H,h6=H.mk ((H.mk f.tr (f.next+3)).new (Ob.cells false [.sl P 0 q.length cp])).tr (f.next+14):=⟨_,rfl⟩
 rw[←a8]
 have g6:h6.get (f.next+3)=aY [.sl P 0 q.length cp]:=by rw[a8];exact H.aL (H.mk f.tr (f.next+3)) _
 have n6:h6.next=f.next+14:=by rw[a8]
 have o6: ∀k,k≠f.next+3->h6.get k=f.get k:=λk hk=>by rw[a8];exact H.bD (H.mk f.tr (f.next+3)) (by simpa using hk) _
 have f6:Fr f h6:=⟨om,λid b1=>o6 id om⟩
 have i9:=aM.length G.aO
 have i7:=aM.length G.aR
 obtain⟨h7,a7,p7⟩:=(G.oO.fr f6).push (bytes:=24) (SV.one om g6 (.kn 1)) (n:=i) (m:=1) om rfl om om om
 have n7:=p7.next
 have a4: ∀k,k<f.next->cZ vO k->h7.get k=f.get k:=λk U l=>by rw[p7.old k om l,o6 k om]
 have i4:h7.cell (B+1) 2=some N:=by unfold H.cell;rw[a4 (B+1) c4 G.pO,G.get];rfl
 have eR:dB N N=true:=G.oR.sv.dB
 have d5:vr.cells= [vr]/\vr.one=true:=⟨(SV.cF b8).1,(SV.cF b8).2.1⟩
 simp(disch:=omega)only[go_sem,a7,i4,eR,bZ _ (z:= .aE) d5.1 d5.2]
 obtain⟨Z,K⟩: ∃Z:H,Z=H.mk ((H.mk h7.tr (f.next+8)).new (Ob.cells false [vr])).tr h7.next:=⟨_,rfl⟩
 rw[←K]
 have g8:Z.get (f.next+8)=aY [vr]:=by rw[K];exact H.aL (H.mk h7.tr (f.next+8)) _
 have n8:Z.next=h7.next:=by rw[K]
 have o8: ∀k,k≠f.next+8->Z.get k=h7.get k:=λk hk=>by rw[K];exact H.bD (H.mk h7.tr (f.next+8)) (by simpa using hk) _
 have d9:cQ Z N 1 b9 h.next:=G.oR.mono om λid b2 m c e _ b1=>by
  rw[o8 id om,a4 id b1 (λg4 i6 n' c' e' e2=>G.IF _ _ _ _ e' _ _ _ _ e e2.symm)]
 obtain⟨h9,a9,p9⟩:=d9.push (bytes:=24) (SV.one om g8 (.kn 1)) (n:=i) (m:=1) om rfl om om om
 have n9:=p9.next
 have i0: ∀k,f.next<=k->cZ N k:=λk hk id b2 m c e e2=>by have:=(G.oR.in _ _ _ _ e).1;omega
 have a6: ∀k,k<f.next->cZ vO k->cZ N k->h9.get k=f.get k:=λk U l h3=>by rw[p9.old k om h3,o8 k om,a4 k U l]
 have i5:h9.get (B+1)=aY [aC n,vO,N]:=by rw[a6 _ c4 G.pO G.pR];exact G.get
 have e0: ∀(J:H) (x:V),dR (aY [aC n,vO,N]) J (B+1) 1 [x]=some (J.set (B+1) (aY [aC n,x,N])):=λJ x=>bP (by simp) J _ x
 have f0: ∀(J:H) (x y:V),dR (aY [aC n,x,N]) J (B+1) 2 [y]=some (J.set (B+1) (aY [aC n,x,y])):=λJ x y=>bP (by simp) J _ y
 simp(disch:=omega)only[go_sem,a9,i5,e0,f0]
 rw[dU i]
 obtain⟨ha,hb⟩:h6.next=f.next+14/\Z.next=f.next+15:=⟨n6,om⟩
 rw[ha,hb]
 obtain⟨a5,a0⟩: ∃a5,a5=(h9.set (B+1) (aY [aC n,.sl (f.next+14) 0 (i+1) (.un 1),N])).set (B+1) (aY [aC n,.sl (f.next+14) 0 (i+1) (.un 1),.sl (f.next+15) 0 (i+1) (.un 1)]):=⟨_,rfl⟩
 rw[←a0]
 have c0: ∀k,k≠B+1->a5.get k=h9.get k:=λk hk=>by rw[a0,H.aH _ hk,H.aH _ hk]
 have j3:a5.next=f.next+16:=by rw[a0];show h9.next=_;omega
 have e4:=G.step (v4:= .sl P 0 q.length cp) (v5:=vr) (o:=q) (r:=r) (h6:=a5) (a:=f.next+14) (b:=f.next+15) (k1:=i+1) (k2:=i+1) c1 pl om om om om om om om (by rw[a0,H.aS])
  (by rw[c0 _ om,p9.old _ om (i0 _ om),o8 _ om,←ha];exact p7.get) (by rw[c0 _ om,←hb];exact p9.get) (λk U l h3 h4=>by rw[c0 k l];exact a6 k U h3 h4)
 refine⟨n-(i+1),om,i+1,_,_,_,_,_,_,_,aB rfl,om,e4,?_,by rw[iA,lO];rfl,by rw[iA,lR];rfl,λj hj=>?_,rfl⟩
 ·rw[a6 B (G.wb B G.d) G.qO G.qR];exact g5
 ·by_cases e:j=i
  ·subst e
   have e1:(O++ [q]).getD j []=q:=by rw[←lO];exact jU
   have e2:(R'++ [r]).getD j []=r:=by rw[←lR];exact jU
   rw[e1,e2]
   exact e8
  ·rw[lZ om,lZ om]
   exact hC j om
end Go.Proofs.YtcdbmkidaecdiaaGreat
namespace Go.Ay
set_option maxRecDepth 100000
def sm:Nat->(Nat->Int)->Int
 |0,_=>0
 |n+1,f=>sm n f+f n
def ab (x:Int):Int:=if x<0 then -x else x
end Go.Ay
namespace Go.Proofs.YtcdbmkidaecdiaaGreat
open Go Go.Ay
set_option maxRecDepth 100000
section
variable {h h' a:H} {l:List Int} {u:V} {b x:Nat}
def RT (h:H)(l:List Int)(v:V)(h':H):Prop:=cQ h' v 1 (ints l) h.next/\Fr h h'/\(0<l.length-> ∃id,v= .sl id 0 l.length (.un 1)/\h.next<=id/\id<h'.next/\h'.get id=aY (ints l))
theorem abW {v:V}(f:SI h v l)(k:l.length<1000000): ∃v' h',yE (h.new (.cells false [])) 1 8 (.sl h.next 0 0 (.kn 0)) v=some (v',h')/\RT h l v' h':=by
 obtain⟨v',h',e,a⟩:=(cQ.new h 1 0 h.next [] rfl (eH _)).app (bytes:=8) (n:=0) (by rw[H.aU];omega) (SV.mono f ((Fr.refl h).new _)) (m:=l.length) rfl (by rw[aP,uH]) om om;refine⟨v',h',e,a.own,a.fr h ((Fr.refl h).new _) (eH _),λj=>?_⟩;rcases a.cF with ⟨c,_⟩|⟨id,c,d,g,i⟩
 ·omega
 ·exact⟨id,by rw[c,Nat.zero_add],d,g,i⟩
theorem EN (v:V)(l:List Int)(h:H)(f:SI h v l)(d:l.length<1000000):Ev T 150 [v] h (RT h l):=by
 refine cT Cw rfl ?_;simp only[Cw,aD,go_sem];obtain⟨g,h',e,c⟩:=abW f d;simp only[e,go_sem];exact c
theorem PQ (n d:Nat):(n:Int).tmod (d:Int)=((n%d:Nat):Int):=rfl
theorem Nt {a b:List Int}(d:a.length=b.length)(h: ∀j,j<a.length->a.getD j 0=b.getD j 0):a=b:=by
 apply List.ext_getElem d;intro i c e;have:=h i c;rw[UT,dF c,UT,dF e] at this;exact this
theorem Ue {g:Nat}(r:T g=some jS.fn)(s B:V)(a b:List Int)(h:H)(A:SI h s a)(G:SI h B b)(U:a.length<1000000)(R:b.length<1000000):Ev T g [s,B] h (λv h'=>v= .bool (decide (a=b))/\Fr h h'):=by
 refine Kg r rfl ?_;obtain⟨id,W,y,w,P⟩:=A.open;obtain⟨Z,F,q,o,t⟩:=G.open;simp (disch:=first|omega|(simp only[Qn];(try omega);done)|fail) only[go_sem,jS,aD,A.lens,G.lens];refine bA (λm=>?_) (λp=>?_)
 ·simp (disch:=first|omega|(simp only[Qn];(try omega);done)|fail) only[go_sem]
  have:a≠b:=λe=>m (by rw[e])
  exact⟨by rw[bE this],Fr.refl h⟩
 have p:a.length=b.length:=om
 simp (disch:=first|omega|(simp only[Qn];(try omega);done)|fail) only[go_sem,A.lens];refine aI (λk f O=> ∃(i:Nat) (N K J:V),f= [s,B,.bool false,N,.bool (decide ((a.length:Int)≠(b.length:Int))),aC (a.length:Int),aC i,K,J]/\i<=a.length/\(∀j,j<i->a.getD j 0=b.getD j 0)/\Fr h O/\k=a.length-i) a.length
  ⟨0,_,_,_,rfl,fR _,λj L=>om,Fr.refl h,rfl⟩ ?_
 rintro k f O ⟨i,N,K,J,rfl,hi,d,c,rfl⟩;simp (disch:=first|omega|(simp only[Qn];(try omega);done)|fail) only[go_sem];refine bA (λa0=>?_) (λQ=>?_)
 ·have z:=Fv c w P
  have n:=Fv c o t;simp (disch:=first|omega|(simp only[Qn];(try omega);done)|fail) only[go_sem,y.ixa,q.ixa,z,n,OM];refine bA (λm=>?_) (λY=>?_)
  ·simp (disch:=first|omega|(simp only[Qn];(try omega);done)|fail) only[go_sem]
   have:a≠b:=λe=>m (by rw[e])
   exact⟨by rw[bE this],c.bH om⟩
  ·simp (disch:=first|omega|(simp only[Qn];(try omega);done)|fail) only[go_sem]
   rw[dU i];refine⟨a.length-(i+1),om,i+1,_,_,_,rfl,om,λj L=>?_,c.bH om,rfl⟩
   by_cases h3:j=i
   ·rw[h3];exact Decidable.byContradiction Y
   ·exact d j om
 ·simp (disch:=first|omega|(simp only[Qn];(try omega);done)|fail) only[go_sem]
  have:a=b:=Nt p λj L=>d j om
  exact⟨by rw[bN this],c⟩
theorem AD (e d:V)(a b:List Int)(h:H)(i:SI h e a)(g:SI h d b)(f:a.length<1000000)(c:b.length<1000000):Ev T 105 [e,d] h (λv h'=>v= .bool (decide (a=b))/\Fr h h'):=Ue jS.ok e d a b h i g f c
theorem IB (r z:V)(a b:List Int)(h:H)(q:SI h r a)(B:SI h z b)(N:a.length<1000000)(L:b.length<1000000):Ev T 97 [r,z] h (λv h'=>v= .bool (decide (a=b))/\Fr h h'):=by
 refine cT Ac rfl ?_;obtain⟨id,O,w,t,J⟩:=q.open;obtain⟨Q,A,p,n,s⟩:=B.open;simp (disch:=first|omega|(simp only[Qn];(try omega);done)|fail) only[go_sem,Ac,aD,q.lens,B.lens];refine bA (λg=>?_) (λo=>?_)
 ·simp (disch:=first|omega|(simp only[Qn];(try omega);done)|fail) only[go_sem]
  have:a≠b:=λe=>g (by rw[e])
  exact⟨by rw[bE this],Fr.refl h⟩
 have o:a.length=b.length:=om
 simp (disch:=first|omega|(simp only[Qn];(try omega);done)|fail) only[go_sem,q.lens];refine aI (λk f G=> ∃(i:Nat) (U Z Y:V),f= [r,z,.bool false,aC i,U,Z,Y]/\i<=a.length/\(∀j,j<i->a.getD j 0=b.getD j 0)/\Fr h G/\k=a.length-i) a.length
  ⟨0,_,_,_,rfl,fR _,λj F=>om,Fr.refl h,rfl⟩ ?_
 rintro k f G ⟨i,x3,x7,x8,rfl,hi,d,c,rfl⟩;simp (disch:=first|omega|(simp only[Qn];(try omega);done)|fail) only[go_sem,q.lens];refine bA (λW=>?_) (λK=>?_)
 ·have y:=Fv c t J
  have m:=Fv c n s;simp (disch:=first|omega|(simp only[Qn];(try omega);done)|fail) only[go_sem,w.ixa,p.ixa,y,m,OM];refine bA (λg=>?_) (λP=>?_)
  ·simp (disch:=first|omega|(simp only[Qn];(try omega);done)|fail) only[go_sem]
   have:a≠b:=λe=>g (by rw[e])
   exact⟨by rw[bE this],c.bH om⟩
  ·simp (disch:=first|omega|(simp only[Qn];(try omega);done)|fail) only[go_sem]
   rw[dU i];refine⟨a.length-(i+1),om,i+1,_,_,_,rfl,om,λj F=>?_,c.bH om,rfl⟩
   by_cases R:j=i
   ·rw[R];exact Decidable.byContradiction P
   ·exact d j om
 ·simp (disch:=first|omega|(simp only[Qn];(try omega);done)|fail) only[go_sem]
  have:a=b:=Nt o λj F=>d j om
  exact⟨by rw[bN this],c⟩
def Frs (u:V)(b:Nat):Prop:= ∀id off n c,u= .sl id off n c->b<=id
theorem Frs.ne {id off n:Nat}{c:pF}(f:Frs u b)(h:id<b):u≠ .sl id off n c:=λe=>by have:=f _ _ _ _ e;omega
theorem Frs.le {g:Nat}(f:Frs u b)(h:g<=b):Frs u g:=λid d n c e=>lX h (f id d n c e)
theorem Frs.own {v:V}{sz:Nat}{ws:List V}(o:cQ h v sz ws b):Frs v b:=λid f n c e=>by
 rcases o with ⟨d,_⟩|⟨g,_,_,_,d,_,_,i,_⟩
 ·rw[d] at e;cases e
 ·rw[d] at e;cases e;exact i
structure BV (x:Nat)(h h':H):Prop where
 next:h.next<=h'.next
 get: ∀id,id<h.next->id≠x->h'.get id=h.get id
theorem BV.refl (x:Nat)(h:H):BV x h h:=⟨eH _,λ_ _ _=>rfl⟩
theorem BV.of (f:Fr h h'):BV x h h':=⟨f.next,λid c _=>f.get id c⟩
theorem BV.trans {b c:H}(f:BV x a b)(g:BV x b c):BV x a c:=⟨lX f.next g.next,λid d e=>(g.get id (jB d f.next) e).trans (f.get id d e)⟩
theorem BV.set {b:H}(f:BV x a b)(o:Option Ob):BV x a (b.set x o):=⟨f.next,λid c d=>(H.aH b d o).trans (f.get id c d)⟩
theorem BV.fr {b c:H}(f:Fr a b)(e:a.next<=x)(g:BV x b c):Fr a c:=⟨lX f.next g.next,λid d=>(g.get id (jB d f.next) om).trans (f.get id d)⟩
theorem SI.fx {e:Nat}(s:SI h u l)(m:Frs u e)(r:x<e)(f:BV x h h'):SI h' u l:=by
 rcases s with s|⟨id,c,len,d,j,k,rfl,n,g,q,o,i⟩
 ·exact .inl s
 ·have p:=m _ _ _ _ rfl
  exact .inr ⟨id,c,len,d,j,k,rfl,n,jB g f.next,by rw[f.get id g om];exact q,o,i⟩
def Tk (h:H)(x:Nat)(l:List Int):Prop:= ∃vl,∃a:Nat,h.get x=aY [vl,aC a]/\SI h vl l/\(∀id off len c,vl= .sl id off len c->id<x)/\a<=l.length/\x<h.next
theorem Tk.mono (t:Tk h x l)(f:Fr h h'):Tk h' x l:=by
 obtain⟨g,a,d,e,i,j,c⟩:=t;exact⟨g,a,(f.get x c).trans d,e.mono f,i,j,jB c f.next⟩
theorem Tk.low (t:Tk h x l)(i:h.next<=h'.next)(g: ∀id,id<=x->h'.get id=h.get id):Tk h' x l:=by
 obtain⟨v,a,s,y,f,z,q⟩:=t;refine⟨v,a,(g x (eH _)).trans s,?_,f,z,jB q i⟩;rcases y with j|⟨id,c,len,d,m,p,e,n,k,r,o,w⟩
 ·exact .inl j
 ·have:=f _ _ _ _ e
  exact .inr ⟨id,c,len,d,m,p,e,n,jB k i,(g id om).trans r,o,w⟩
theorem Tk.set {y:Nat}(t:Tk h x l)(c:h.next<=y)(o:Option Ob):Tk (h.set y o) x l:=t.mono ((Fr.refl h).set c o)
def aiT (n:Nat):Nat->Nat->Nat
 |0,_=>n
 |f+1,d=>if d*d<=n then (if n%d=0 then d else aiT n f (d+1)) else n
def ajB (n:Nat):Nat:=aiT n 1000 2
def cX (n:Int):Bool:=decide (1<n)&&(decide (n<1000000)&&decide (ajB n.toNat=n.toNat))
end
end Go.Proofs.YtcdbmkidaecdiaaGreat
namespace Go.Proofs.YtcdbmkidaecdiaaGreat
open Go Go.Ay Go.Pm
set_option maxRecDepth 100000
theorem vP {g:Nat}(s:T g=some eP.fn)(f:Nat)(o r:V)(a b:List V)(e:Nat->Bool)(h:H)(K:SV h o 1 a)(B:SV h r 1 b)(Q:a.length<1000000)(P:b.length<1000000)
  (Z:a.length=b.length-> ∀i,i<a.length-> ∀hh,Fr h hh->Ev T f [a.getD i .undef,b.getD i .undef] hh (λv h'=>v= .bool (e i)/\Fr hh h')):
  Ev T g [o,r,.fn f [] []] h (λv h'=>v= .bool (decide (a.length=b.length/\ ∀i,i<a.length->e i=true))/\Fr h h'):=by
 refine Kg s rfl ?_
 have L:bF o=some (aC (a.length:Int)):=by unfold bF;rw[K.len (n:=a.length) om om];rfl
 have R:bF r=some (aC (b.length:Int)):=by unfold bF;rw[B.len (n:=b.length) om om];rfl
 obtain⟨id,y,U,u,N⟩:=K.shape a.length om om
 obtain⟨A,l,x,m,w⟩:=B.shape b.length om om
 simp(disch:=omega)only[go_sem,eP,aD,L,R]
 refine bA (λz=>?_) (λk=>?_)
 ·simp(disch:=omega)only[go_sem]
  exact⟨by rw[bE (λh=>z om)],Fr.refl h⟩
 have k:a.length=b.length:=om
 simp(disch:=omega)only[go_sem,L]
 refine aI (λJ d hh=> ∃(i:Nat),(∃g:Nat->V,d= [o,r,.fn f [] [],g 3,g 4,g 5,g 6,g 7,o,aC (a.length:Int),aC i,g 11,g 12])/\i<=a.length/\(∀j,j<i->e j=true)/\Fr h hh/\J=a.length-i) a.length
  ⟨0,aB rfl,fR _,λj W=>om,Fr.refl h,rfl⟩ ?_
 rintro J d hh ⟨i,⟨g,rfl⟩,hi,p,F,rfl⟩
 by_cases q:(i:Int)<(a.length:Int)
 ·have t:=bN q
  have c:i<a.length:=om
  have Y:hh.cell id (y+i)=some (a.getD i .undef):=by rw[F.cell (u om),N i c,List.getD,dF c];rfl
  have c2:hh.cell A (l+i)=some (b.getD i .undef):=by rw[F.cell (m om),w i om,List.getD,dF om];rfl
  simp(disch:=omega)only[go_sem,t,U.ixa,x.ixa,Y,c2]
  refine (Z k i c hh F).mono ?_
  rintro _ h2 ⟨rfl,G⟩
  cases he:e i with
  |true=>
   simp(disch:=omega)only[go_sem];rw[dU i];refine⟨a.length-(i+1),om,i+1,aB rfl,om,λj W=>?_,F.trans G,rfl⟩
   by_cases O:j=i
   ·rw[O];exact he
   ·exact p j om
  |false=>
   simp(disch:=omega)only[go_sem];exact⟨by rw[bE (λh=>by have:=h.2 i c;rw[he] at this;cases this)],F.trans G⟩
 have t:=bE q
 obtain rfl:i=a.length:=om
 simp(disch:=omega)only[go_sem,t]
 exact⟨by rw[bN ⟨k,p⟩],F⟩
theorem gE {α β:Type}{R:α->β->Prop}{c:List α}{b:List β}(a:aM R c b){i:Nat}(hi:i<b.length)(d:α)(e:β):R (c.getD i d) (b.getD i e):=by
 have f:=a.length;rw[List.getD,dF om,List.getD,dF hi];exact a.get i om hi
theorem vJ {α:Type}[DecidableEq α]{a b:List α}(d:α):decide (a=b)=decide (a.length=b.length/\ ∀i,i<a.length->decide (a.getD i d=b.getD i d)=true):=by
 congr 1;rw[eq_iff_iff];constructor
 ·rintro rfl;exact⟨rfl,λi _=>by simp⟩
 ·rintro⟨h1,h2⟩
  exact Gk (d:=d) h1 λi hi=>by simpa using h2 i hi
def lK (R:List (List (List Int))):Prop:=R.length<1000000/\ ∀i,i<R.length->(R.getD i []).length<1000000
def sQ (R:List (List (List Int))):Prop:=R.length<1000000/\ ∀i,i<R.length->(R.getD i []).length<1000000/\ ∀k,k<(R.getD i []).length->((R.getD i []).getD k []).length<1000000
def jK (O:List (List Int)):Prop:=O.length<1000000/\ ∀i,i<O.length->(O.getD i []).length<1000000
theorem TG (va vb:V)(d n:Int)(O q:List (List Int))(R A:List (List (List Int)))(h:H)(ha:Ig h va d O R)(hb:Ig h vb n q A)(so:jK O)(p:jK q)(sr:sQ R)(m:sQ A):
  Ev T 178 [va,vb] h (λv h'=>v= .bool (decide (d=n/\O=q/\R=A))/\Fr h h'):=by
 obtain⟨B,z,rfl,sO,sR⟩:=ha
 obtain⟨g,c,rfl,Y,a1⟩:=hb
 refine cT Hk rfl ?_
 obtain⟨wO,tO,aO⟩:=sO
 obtain⟨Z,r,s⟩:=Y
 obtain⟨wR,tR,aR,_⟩:=sR
 obtain⟨a2,x,o,_⟩:=a1
 have lO:=aO.length
 have t:=s.length
 have lR:=aR.length
 have y:=o.length
 simp(disch:=omega)only[go_sem,Hk,aD,aQ h (v:= aC d) (u:=B) (w:=z) rfl tO.cF.2.1 tR.cF.2.1]
 obtain⟨a,l⟩: ∃a,a=h.new (.cells false [aC d,B,z]):=⟨_,rfl⟩
 have g1:a.get h.next=some (.cells false [aC d,B,z]):=by rw[l,H.aL]
 have n1:a.next=h.next+1:=by rw[l,H.aU]
 have f1:Fr h a:=by rw[l];exact (Fr.refl h).new _
 rw[←l]
 simp(disch:=omega)only[go_sem,aQ a (v:= aC n) (u:=g) (w:=c) rfl r.cF.2.1 x.cF.2.1]
 obtain⟨b,j⟩: ∃b,b=a.new (.cells false [aC n,g,c]):=⟨_,rfl⟩
 have g2:b.get a.next=some (.cells false [aC n,g,c]):=by rw[j,H.aL]
 have n2:b.next=a.next+1:=by rw[j,H.aU]
 have f2:Fr a b:=by rw[j];exact (Fr.refl a).new _
 rw[←j]
 have ga: ∀e,Fr b e-> ∀i,e.cell h.next i= [aC d,B,z][i]? :=λe f i=>by rw[H.aF (by rw[f.get _ om,f2.get _ om];exact g1)]
 have gb: ∀e,Fr b e-> ∀i,e.cell a.next i= [aC n,g,c][i]? :=λe f i=>by rw[H.aF (by rw[f.get _ om];exact g2)]
 have F2:=f1.trans f2
 by_cases L:d=n
 case neg=>
  have U:=bE L;simp(disch:=omega)only[go_sem,H.aF g1,ga b (Fr.refl _),gb b (Fr.refl _),U];exact⟨by rw[bE (λh=>L h.1)],F2⟩
 have U:=bN L
 simp(disch:=omega)only[go_sem,H.aF g1,ga b (Fr.refl _),gb b (Fr.refl _),U]
 refine (vP eP.ok 105 B g wO Z (λi=>decide (O.getD i []=q.getD i [])) b (tO.mono F2) (r.mono F2) (by rw[lO];exact so.1) (by rw[t];exact p.1) (λhl i hi e f=>?_)).mono ?_
 ·exact AD _ _ _ _ e ((gE aO om _ _).mono (F2.trans f)) ((gE s om _ _).mono (F2.trans f)) (so.2 i om) (p.2 i om)
 rw[lO,t,←vJ]
 rintro _ W ⟨rfl,K⟩
 by_cases J:O=q
 case neg=>
  rw[bE J];simp(disch:=omega)only[go_sem];exact⟨by rw[bE (λh=>J h.2.1)],F2.trans K⟩
 rw[bN J]
 simp(disch:=omega)only[go_sem,ga W K,gb W K]
 have F:=F2.trans K
 refine (vP gO.ok 218 z c wR a2 (λi=>decide (R.getD i []=A.getD i [])) W (tR.mono F) (x.mono F) (by rw[lR];exact sr.1) (by rw[y];exact m.1) (λhl i hi e f=>?_)).mono ?_
 ·refine cT Bm rfl ?_
  simp(disch:=omega)only[go_sem,Bm,aD]
  obtain⟨ws,s1,s2⟩:=(gE aR (i:=i) om .undef []).mono (F.trans f)
  obtain⟨Q,a0,G⟩:=(gE o (i:=i) om .undef []).mono (F.trans f)
  have k1:=s2.length
  have k2:=G.length
  refine (vP fO.ok 220 _ _ ws Q (λk=>decide ((R.getD i []).getD k []=(A.getD i []).getD k [])) e s1 a0 (by rw[k1];exact (sr.2 i om).1) (by rw[k2];exact (m.2 i om).1) (λa3 k hk h4 N=>?_)).mono ?_
  ·refine cT xG rfl ?_
   simp(disch:=omega)only[go_sem,xG,aD]
   refine (Ue sL.ok _ _ _ _ h4 ((gE s2 om _ _).mono N) ((gE G om _ _).mono N) ((sr.2 i om).2 k om) ((m.2 i om).2 k om)).mono ?_
   rintro _ h5 ⟨rfl,P⟩
   simp(disch:=omega)only[go_sem]
   exact P
  rw[k1,k2,←vJ]
  rintro _ h5 ⟨rfl,P⟩
  simp(disch:=omega)only[go_sem]
  exact P
 rw[lR,y,←vJ]
 rintro _ h4 ⟨rfl,N⟩
 simp(disch:=omega)only[go_sem]
 refine⟨?_,F.trans N⟩
 congr 2
 rw[eq_iff_iff]
 exact⟨λh=>⟨L,J,h⟩,λh=>h.2.2⟩
section
variable {i:Nat} {a:List Int}
def mC (a:List Int):Bool:=decide a.Nodup&&a.all λx=>decide (0<=x)&&decide (x<(a.length:Int))
def Sb (a:List Int):Int:=if a.length<1∨64<a.length then 2 else if mC a=true then 0 else 3
structure PI (a:List Int)(i:Nat):Prop where
 nd:(a.take i).Nodup
 rg: ∀x∈a.take i,0<=x/\x<(a.length:Int)
theorem Yn {l:List Int}(hi:i<l.length):l.take (i+1)=l.take i++ [l.getD i 0]:=by
 rw[List.take_add_one,dF hi];simp [List.getD,hi]
theorem PI.zero (a:List Int):PI a 0:=⟨by simp,λx b=>by simp at b⟩
theorem PI.succ (p:PI a i)(hi:i<a.length)(f:0<=a.getD i 0)(d:a.getD i 0<(a.length:Int))(h2:a.getD i 0∉a.take i):PI a (i+1):=by
 refine⟨?_,λx b=>?_⟩
 ·rw[Yn hi,List.nodup_append]
  exact⟨p.nd,by simp,λx b y g=>by
   have e:y=a.getD i 0:=by simpa using g
   intro c;rw[c,e] at b
   exact h2 b⟩
 ·rw[Yn hi] at b
  rcases kT.1 b with b|b
  ·exact p.rg x b
  ·simp at b;subst b;exact⟨f,d⟩
theorem PI.all (p:PI a a.length):mC a=true:=by
 have e:a.take a.length=a:=List.take_length;unfold mC;simp only[vV,decide_eq_true_eq,Lw];exact⟨e▸p.nd,λx b=>p.rg x (by rw[e];exact b)⟩
theorem Ce (hi:i<a.length)(h:a.getD i 0<0∨(a.length:Int)<=a.getD i 0∨a.getD i 0∈a.take i):mC a=false:=by
 cases e:mC a with
 |false=>rfl
 |true=>
  exfalso;unfold mC at e;simp only[vV,decide_eq_true_eq,Lw] at e;obtain⟨c,d⟩:=e
  have f:a.getD i 0∈a:=by
   have:a.getD i 0=a[i]:=by simp [List.getD,hi]
   rw[this];exact Bu hi
  have:=d _ f;rcases h with h|h|h
  ·omega
  ·omega
  ·have b:(a.take (i+1)).Nodup:=c.sublist (List.take_sublist _ _)
   rw[Yn hi,List.nodup_append] at b;exact b.2.2 _ h _ (by simp) rfl
theorem JE: [V.bool false,.bool false,.bool false,.bool false,.bool false,.bool false,.bool false,.bool false,.bool false,.bool false,.bool false,.bool false,.bool false,.bool false,.bool false,.bool false,
 .bool false,.bool false,.bool false,.bool false,.bool false,.bool false,.bool false,.bool false,.bool false,.bool false,.bool false,.bool false,.bool false,.bool false,.bool false,.bool false,
 .bool false,.bool false,.bool false,.bool false,.bool false,.bool false,.bool false,.bool false,.bool false,.bool false,.bool false,.bool false,.bool false,.bool false,.bool false,.bool false,
 .bool false,.bool false,.bool false,.bool false,.bool false,.bool false,.bool false,.bool false,.bool false,.bool false,.bool false,.bool false,.bool false,.bool false,.bool false,.bool false]=rc 64 (λ_=> .bool false):=rfl
theorem vH (u:V)(a:List Int)(h:H)(Z:a.length<1000000)(P:SI h u a):
  Ev T 140 [u] h (λv h'=>v= aC (Sb a)/\Fr h h'):=by
 refine cT sS rfl ?_
 have l:=P.lens
 obtain⟨id,off,w,z,U⟩:=P.open
 by_cases J:a.length<1
 ·have y:decide ((a.length:Int)<1)=true:=bN om
  simp(disch:=omega)only[go_sem,sS,aD,l,y]
  exact⟨by unfold Sb;rw[bJ (.inl J)],Fr.refl h⟩
 have y:decide ((a.length:Int)<1)=false:=bE om
 by_cases W:64<a.length
 ·have B:decide ((64:Int)<(a.length:Int))=true:=bN om
  simp(disch:=omega)only[go_sem,sS,aD,l,y,B]
  exact⟨by unfold Sb;rw[bJ (.inr W)],Fr.refl h⟩
 have B:decide ((64:Int)<(a.length:Int))=false:=bE om
 have s:Sb a=if mC a=true then 0 else 3:=by unfold Sb;rw[bL om]
 simp(disch:=omega)only[go_sem,sS,aD,l,y,B,JE]
 have m:Fr h (h.new (.cells false (rc 64 λ_=>V.bool false))):=(Fr.refl h).new _
 have d:(h.new (.cells false (rc 64 λ_=>V.bool false))).get h.next=some (.cells false (rc 64 λ_=>V.bool false)):=H.aL ..
 have n:(h.new (.cells false (rc 64 λ_=>V.bool false))).next=h.next+1:=H.aU ..
 generalize h.new (.cells false (rc 64 λ_=>V.bool false))=J at*
 obtain⟨S,O⟩:=exI h.next
 rw[O] at d n
 rw[O]
 refine aI (λN c R=> ∃(i:Nat),(∃j:Nat->V,c= [u,aC 0,.ptr S 0,j 3,j 4,u,aC (a.length:Int),aC i,j 8,j 9])/\i<=a.length/\PI a i/\
   R.get S=some (.cells false (rc 64 λj=> .bool ((a.take i).contains (j:Int))))/\Fr h R/\N=a.length-i) a.length
  ⟨0,aB rfl,fR _,PI.zero a,by rw[d];rfl,m,rfl⟩ ?_
 clear d m n
 rintro N c Q ⟨i,⟨Y,rfl⟩,hi,p,K,F,rfl⟩
 simp(disch:=omega)only[go_sem]
 by_cases q:(i:Int)<(a.length:Int)
 ·rw[bN q]
  have b:i<a.length:=om
  have ci:Q.cell id (off+i)=some (aC (a.getD i 0)):=by rw[F.cell (z om),U i b]
  generalize g:a.getD i 0=x at ci
  by_cases f:x<0
  ·have o:=bN f
   simp(disch:=omega)only[go_sem,w.ixa,ci,o]
   refine⟨?_,F⟩
   rw[s,Ce b (.inl (by rw[g];exact f))];rfl
  have o:=bE f
  by_cases A:(a.length:Int)<=x
  ·have r:decide ((a.length:Int)<=x)=true:=bN om
   simp(disch:=omega)only[go_sem,w.ixa,ci,o,r,l]
   refine⟨?_,F⟩
   rw[s,Ce b (.inr (.inl (by rw[g];exact A)))];rfl
  have r:decide ((a.length:Int)<=x)=false:=bE om
  obtain⟨k,rfl⟩: ∃k:Nat,x=(k:Int):=⟨x.toNat,om⟩
  have L:k<64:=om
  have t:=qF K L
  cases hm:(a.take i).contains (k:Int) with
  |true=>
   rw[hm] at t;simp(disch:=omega)only[go_sem,w.ixa,ci,o,r,l,t];refine⟨?_,F⟩;rw[s,Ce b (.inr (.inr (by rw[g];simpa using hm)))];rfl
  |false=>
   rw[hm] at t;have G:=bP (vs:=rc 64 λj=> .bool ((a.take i).contains (j:Int))) (off:=k) (by rw[jE];exact L) Q S (.bool true);rw[kX] at G;simp(disch:=omega)only[go_sem,w.ixa,ci,o,r,l,t,K,G];rw[dU i];refine⟨a.length-(i+1),om,i+1,aB rfl,om,p.succ b (by rw[g];omega) (by rw[g];omega) (by rw[g];simpa using hm),?_,F.set om _,rfl⟩;congr 2;refine dA λj hj=>?_
   rw[Yn b,g]
   by_cases e:j=k
   ·subst e;rw[bJ rfl];simp
   ·rw[bL e]
    congr 1;rw[Qk];simp only[List.contains_iff_mem,kT,List.mem_singleton];constructor
    ·exact .inl
    ·rintro (h|h)
     ·exact h
     ·omega
 rw[bE q]
 obtain rfl:i=a.length:=om
 simp(disch:=omega)only[go_sem]
 refine⟨?_,F⟩
 rw[s,p.all];rfl
end
theorem Sg (a:H)(c:Nat)(b:c<=100000):Iv a 1 1 [.bool false] (aC c) (aC c)=some (.sl a.next 0 c (.kn c),a.new (.cells false (rc c λ_=> .bool false))):=by
 rw[tC om (Int.le_refl _) om om,OM,uH];congr 4;refine List.ext_getElem (by simp [dC,rc]) λi _ _=>?_
 simp [dC,Nat.mod_one,rc]
theorem adA (u:V)(a:List Int)(h:H)(R:a.length<=1000)(K:SI h u a):
  Ev T 129 [u,aC (a.length:Int)] h (λv h'=>v= .bool (mC a)/\Fr h h'):=by
 refine cT Pd rfl ?_
 have t:=K.lens
 obtain⟨id,off,s,w,O⟩:=K.open
 simp(disch:=omega)only[go_sem,Pd,aD,t]
 rw[bE (show ¬((a.length:Int)≠(a.length:Int)) by omega)]
 simp(disch:=omega)only[go_sem,Sg _ a.length om]
 have l:Fr h (h.new (.cells false (rc a.length λ_=>V.bool false))):=(Fr.refl h).new _
 have d:(h.new (.cells false (rc a.length λ_=>V.bool false))).get h.next=some (.cells false (rc a.length λ_=>V.bool false)):=H.aL ..
 have m:(h.new (.cells false (rc a.length λ_=>V.bool false))).next=h.next+1:=H.aU ..
 generalize h.new (.cells false (rc a.length λ_=>V.bool false))=Q at*
 obtain⟨S,G⟩:=exI h.next
 rw[G] at d m
 rw[G]
 refine aI (λB c N=> ∃(i:Nat),(∃j:Nat->V,c= [u,aC (a.length:Int),j 2,.sl S 0 a.length (.kn a.length),aC i,j 5,j 6,j 7])/\i<=a.length/\PI a i/\
   N.get S=some (.cells false (rc a.length λj=> .bool ((a.take i).contains (j:Int))))/\Fr h N/\B=a.length-i) a.length
  ⟨0,aB rfl,fR _,PI.zero a,by rw[d];rfl,l,rfl⟩ ?_
 clear d l m
 rintro B c L ⟨i,⟨P,rfl⟩,hi,o,J,F,rfl⟩
 simp(disch:=omega)only[go_sem]
 by_cases p:(i:Int)<(a.length:Int)
 ·rw[bN p]
  have b:i<a.length:=om
  have ci:L.cell id (off+i)=some (aC (a.getD i 0)):=by rw[F.cell (w om),O i b]
  generalize g:a.getD i 0=x at ci
  by_cases f:x<0
  ·have n:=bN f
   simp(disch:=omega)only[go_sem,s.ixa,ci,n]
   refine⟨?_,F⟩
   rw[Ce b (.inl (by rw[g];exact f))]
  have n:=bE f
  by_cases y:(a.length:Int)<=x
  ·have q:decide ((a.length:Int)<=x)=true:=bN om
   simp(disch:=omega)only[go_sem,s.ixa,ci,n,q,t]
   refine⟨?_,F⟩
   rw[Ce b (.inr (.inl (by rw[g];exact y)))]
  have q:decide ((a.length:Int)<=x)=false:=bE om
  obtain⟨k,rfl⟩: ∃k:Nat,x=(k:Int):=⟨x.toNat,om⟩
  have A:k<a.length:=om
  have r:=qF J A
  cases hm:(a.take i).contains (k:Int) with
  |true=>
   rw[hm] at r;simp(disch:=omega)only[go_sem,s.ixa,ci,n,q,t,r];refine⟨?_,F⟩;rw[Ce b (.inr (.inr (by rw[g];simpa using hm)))]
  |false=>
   rw[hm] at r;have z:=bP (vs:=rc a.length λj=> .bool ((a.take i).contains (j:Int))) (off:=k) (by rw[jE];exact A) L S (.bool true);rw[kX] at z;simp(disch:=omega)only[go_sem,s.ixa,ci,n,q,t,r,J,z];rw[dU i];refine⟨a.length-(i+1),om,i+1,aB rfl,om,o.succ b (by rw[g];omega) (by rw[g];omega) (by rw[g];simpa using hm),?_,F.set om _,rfl⟩;congr 2;refine dA λj U=>?_
   rw[Yn b,g]
   by_cases e:j=k
   ·subst e;rw[bJ rfl];simp
   ·rw[bL e]
    congr 1;rw[Qk];simp only[List.contains_iff_mem,kT,List.mem_singleton];constructor
    ·exact .inl
    ·rintro (h|h)
     ·exact h
     ·omega
 rw[bE p]
 obtain rfl:i=a.length:=om
 simp(disch:=omega)only[go_sem]
 refine⟨?_,F⟩
 rw[o.all]
theorem sN (u:V)(a:List Int)(h:H)(k:a.length<1000000)(g:SI h u a):
  Ev T 85 [u] h (λv h'=>v= aC (Sb a)/\Fr h h'):=by
 refine cT qQ rfl ?_
 have c:=g.lens
 by_cases j:a.length<1
 ·have b:decide ((a.length:Int)<1)=true:=bN om
  simp(disch:=omega)only[go_sem,qQ,aD,c,b]
  exact⟨by unfold Sb;rw[bJ (.inl j)],Fr.refl h⟩
 have b:decide ((a.length:Int)<1)=false:=bE om
 by_cases i:64<a.length
 ·have d:decide ((64:Int)<(a.length:Int))=true:=bN om
  simp(disch:=omega)only[go_sem,qQ,aD,c,b,d]
  exact⟨by unfold Sb;rw[bJ (.inr i)],Fr.refl h⟩
 have d:decide ((64:Int)<(a.length:Int))=false:=bE om
 have f:Sb a=if mC a=true then 0 else 3:=by unfold Sb;rw[bL om]
 simp(disch:=omega)only[go_sem,qQ,aD,c,b,d]
 refine (adA u a h om g).mono ?_
 rintro _ i ⟨rfl,F⟩
 cases e:mC a with
 |true=>
  simp(disch:=omega)only[go_sem];exact⟨by rw[f,e];rfl,F⟩
 |false=>
  simp(disch:=omega)only[go_sem];exact⟨by rw[f,e];rfl,F⟩
theorem Kb {a:List Int}(h:mC a=true):a=zi (a.map Int.toNat)/\bC a.length (a.map Int.toNat):=by
 unfold mC at h;simp only[vV,decide_eq_true_eq,Lw] at h;obtain⟨f,c⟩:=h
 have e:a=zi (a.map Int.toNat):=by
  unfold zi;rw[List.map_map];refine (List.map_id a).symm.trans (Wd λx b=>?_);have:=(c x b).1
  show x=((x.toNat:Nat):Int)
  omega
 refine⟨e,by simp,?_,λx b=>?_⟩
 ·rw[nPN,List.pairwise_map]
  rw[nPN] at f;refine f.imp_of_mem λ{x y} b d g i=>?_
  have:=(c x b).1;have:=(c y d).1;omega
 ·obtain⟨y,d,rfl⟩:=vF.1 b
  have:=c y d;omega
theorem BR {n:Nat}{l:List Nat}(L:bC n l):mC (zi l)=true:=by
 unfold mC;simp only[vV,decide_eq_true_eq,Lw];refine⟨?_,λx c=>?_⟩
 ·unfold zi
  have:=L.nd;rw[nPN] at this ⊢;rw[List.pairwise_map];exact this.imp λa e=>a om
 ·obtain⟨k,b,rfl⟩:=vF.1 c
  have:=L.lt k b;rw[aN,L.len];omega
def yV:List Nat->List Nat->Bool
 |x::a,y::b=>if x=y then yV a b else decide (x<y)
 |a,b=>decide (a.length<b.length)
theorem BE: ∀{a b:List Nat} {i:Nat},(∀j,j<i->a.getD j 0=b.getD j 0)->i<a.length->i<b.length->a.getD i 0≠b.getD i 0->yV a b=decide (a.getD i 0<b.getD i 0)
 | [],_,i,_,h,_,_=>by simp at h
 |_::_, [],i,_,_,h,_=>by simp at h
 |x::a,y::b,0,_,_,_,hne=>by
  have:x≠y:=by simpa using hne
  simp [yV,this]
 |x::a,y::b,i+1,h,h1,h2,hne=>by
  have e:x=y:=by simpa using h 0 om
  unfold yV;rw[bJ e,BE (a:=a) (b:=b) (i:=i) (λj c=>by simpa using h (j+1) om) (by simpa using h1) (by simpa using h2) (by simpa using hne)];simp
theorem Mv: ∀a:List Nat,yV a a=false
 | []=>by simp [yV]
 |x::a=>by unfold yV;rw[bJ rfl];exact Mv a
theorem Bz {a b:List Nat}(m:a.length=b.length):yV a b=true↔Lt a b:=by
 by_cases h: ∃i,i<a.length/\a.getD i 0≠b.getD i 0
 ·have n: ∃i,(i<a.length/\a.getD i 0≠b.getD i 0)/\ ∀j,j<i-> ¬(j<a.length/\a.getD j 0≠b.getD j 0):=by
   obtain⟨i,hi⟩:=h
   induction i using Nat.strongRecOn with
   |_ i ih=>
    by_cases g: ∃j,j<i/\j<a.length/\a.getD j 0≠b.getD j 0
    ·obtain⟨j,d,f⟩:=g;exact ih j d f
    ·exact⟨i,hi,λj d f=>g ⟨j,d,f⟩⟩
  obtain⟨i,⟨d,f⟩,o⟩:=n;have c: ∀j,j<i->a.getD j 0=b.getD j 0:=λj g=>Kh λl=>o j g ⟨om,l⟩
  rw[BE c d om f,decide_eq_true_eq];constructor
  ·intro h;exact⟨i,d,c,h⟩
  ·rintro⟨k,h4,h5,h6⟩
   rcases Nat.lt_trichotomy i k with h|h|h
   ·exact absurd (h5 i h) f
   ·subst h;exact h6
   ·have:=c k h;omega
 ·have e:a=b:=yM m λi hi=>Kh λl=>h ⟨i,hi,l⟩
  subst e;rw[Mv];constructor
  ·intro h;cases h
  ·exact λh=>(h.asymm h).elim
section
variable {n:Nat} {O:List (List Int)}
theorem HY (d:Int)(a b:V)(e:a.one=true)(c:b.one=true)(h:H):Ev T 146 [.agg [aC d,a,b]] h (λv h'=>v= .fn 199 [] [.ptr h.next 0]/\h'.get h.next=aY [aC d,a,b]/\h'.next=h.next+1/\Fr h h'):=by
 refine cT Hd rfl ?_;simp(disch:=omega)only[go_sem,Hd,aD,aQ h (v:= aC d) (u:=a) (w:=b) rfl e c];exact (Fr.refl h).new _
theorem Xp (id b:Nat)(d:Int)(w c:V)(ws:List V)(h:H)(L:ws.length<1000000)(J:Nat->H->Prop)(D:H->Prop)(p:J 0 h)
  (q: ∀i hh,J i hh->hh.get b=aY [aC d,w,c]/\SV hh c 1 ws)
  (B: ∀i hh,i<ws.length->J i hh->Ey T id [aC i,ws.getD i .undef] hh (λv h'=>v= .bool true/\J (i+1) h'∨v= .bool false/\D h')):
  Ev T 199 [.yl id,.ptr b 0] h (λ_ h'=>J ws.length h'∨D h'):=by
 refine cT Bk rfl ?_
 obtain⟨t,F⟩:=q 0 h p
 have z:h.cell b 2=some c:=by rw[H.aF t];rfl
 have x:bF c=some (aC (ws.length:Int)):=by unfold bF;rw[F.len (n:=ws.length) om om];rfl
 simp(disch:=omega)only[go_sem,Bk,aD,z,x]
 refine aI (λr a hh=> ∃(i:Nat),(∃g:Nat->V,a= [.yl id,.ptr b 0,g 2,g 3,c,aC (ws.length:Int),aC i,g 7,g 8])/\i<=ws.length/\J i hh/\r=ws.length-i) ws.length
  ⟨0,aB rfl,fR _,p,rfl⟩ ?_
 rintro r a m ⟨i,⟨g,rfl⟩,hi,k,rfl⟩
 by_cases e:(i:Int)<(ws.length:Int)
 ·have j:=bN e
  obtain⟨G,A⟩:=q i m k
  obtain⟨f,l,u,y,s⟩:=A.shape ws.length om om
  have ci:m.cell f (l+i)=some (ws.getD i .undef):=by rw[s i om,List.getD,dF om];rfl
  simp(disch:=omega)only[go_sem,j,u.ixa,ci]
  refine (B i m om k).mono ?_
  rintro v K (⟨rfl,o⟩|⟨rfl,o⟩)
  ·simp(disch:=omega)only[go_sem]
   rw[dU i]
   exact⟨ws.length-(i+1),om,i+1,aB rfl,om,o,rfl⟩
  ·simp(disch:=omega)only[go_sem]
   exact .inr o
 have j:=bE e
 obtain rfl:i=ws.length:=om
 simp(disch:=omega)only[go_sem,j]
 exact .inl k
structure OT (n:Nat)(O:List (List Int))(R:List (List (List Int))):Prop where
 lo:O.length=n
 lr:R.length=n
 row: ∀i,i<n->(R.getD i []).length=(O.getD i []).length/\(R.getD i []).length<=n-i
 perm: ∀i,i<n-> ∀x∈R.getD i [],x.length=n/\mC x=true
def CU (d:Int)(O:List (List Int))(R:List (List (List Int))):Prop:= ∃(n:Nat) (O':LN) (R':fM),d=(n:Int)/\1<=n/\n<=64/\O=O'.map zi/\R=R'.map (List.map zi)/\Valid n O' R'
open Classical in
noncomputable def jL (d:Int)(O:List (List Int))(R:List (List (List Int))):Int:=if d<1∨64<d then 2 else if CU d O R then 0 else 3
theorem Vf {a b:List Nat}(h:zi a=zi b):a=b:=by
 have:=congrArg (List.map Int.toNat) h
 have e: ∀a:List Nat,(zi a).map Int.toNat=a:=λa=>by
  unfold zi;rw[List.map_map];exact (Wd λx _=>by simp).trans (List.map_id a)
 rwa [e,e] at this
theorem map_inj {α β:Type}{f:α->β}(c: ∀x y,f x=f y->x=y): ∀{a b:List α},a.map f=b.map f->a=b
 | [], [],_=>rfl
 | [],_::_,h=>by cases h
 |_::_, [],h=>by cases h
 |x::a,y::b,h=>by
  simp only[List.map_cons,List.cons.injEq] at h;rw[c x y h.1,map_inj c h.2]
theorem lQ {i:Nat}{G:List Nat->Prop}(b: ∀x,G x->bC n x){o:List Nat}(hi:i<n)(a:o.Pairwise (· < ·))(mem: ∀p,p∈o↔ ∃x,G x/\Fix i x/\x.getD i 0=p):o.length<=n-i:=by
 have nd:o.Nodup:=by rw[nPN];exact a.imp λh e=>om
 have:=List.Nodup.length_le_of_subset nd (l₂:=(List.range (n-i)).map (· +i)) λp c=>by
  obtain⟨x,f,d,rfl⟩:=(mem p).1 c;have X:=b x f;have g:=X.gW hi
  have k:i<=x.getD i 0:=Kh λl=>by
   have:=X.inj hi (j:=x.getD i 0) om (by rw[d (x.getD i 0) om]);omega
  exact vF.2 ⟨x.getD i 0-i,Lk.2 om,om⟩
 simpa using this
theorem CU.frm {R:List (List (List Int))}(c:CU (n:Int) O R):OT n O R:=by
 obtain⟨m,d,b,e,p,q,rfl,rfl,h,v⟩:=c;obtain rfl:n=m:=om
 have g: ∀i,i<n->(b.map (List.map zi)).getD i []=(b.getD i []).map zi/\(d.map zi).getD i []=zi (d.getD i [])/\ ∀x∈b.getD i [],x∈b.flatten:=λi hi=>by
  have o:=v.lr;have r:=v.lo;refine⟨by simp [List.getD,show i<b.length by omega],by simp [List.getD,show i<d.length by omega],λx a=>?_⟩;rw[List.getD,dF om] at a;exact List.mem_flatten.2 ⟨_,Bu om,a⟩
 refine⟨by rw[iN];exact v.lo,by rw[iN];exact v.lr,λi hi=>?_,λi hi x a=>?_⟩
 ·obtain⟨f,j,_⟩:=g i hi
  rw[f,j,iN,aN,v.rl i hi];exact⟨rfl,lQ (λx a=>cG.cX h a) hi (v.asc i hi) (v.mem i hi)⟩
 ·obtain⟨f,_,k⟩:=g i hi
  rw[f] at a;obtain⟨y,l,rfl⟩:=vF.1 a;have Y:=h y (k y l);exact⟨by rw[aN];exact Y.len,BR Y⟩
theorem OT.nat {R:List (List (List Int))}(f:OT n O R): ∃R':fM,R=R'.map (List.map zi)/\ ∀g∈R'.flatten,bC n g:=by
 have c: ∀x,(∃i,i<n/\x∈R.getD i [])->x=zi (x.map Int.toNat)/\bC n (x.map Int.toNat):=λx ⟨i,hi,a⟩=>by
  obtain⟨k,l⟩:=f.perm i hi x a;obtain⟨j,h⟩:=Kb l;rw[k] at h;exact⟨j,h⟩
 have mem: ∀r∈R,∀x∈r,∃i,i<n/\x∈R.getD i []:=λr b x a=>by
  obtain⟨i,hi,rfl⟩:=wV.1 b;have:=f.lr;exact⟨i,om,by rw[List.getD,dF hi];exact a⟩
 refine⟨R.map (List.map (List.map Int.toNat)),?_,λg e=>?_⟩
 ·rw[List.map_map]
  refine (List.map_id R).symm.trans (Wd λr b=>?_);show r=(r.map (List.map Int.toNat)).map zi;rw[List.map_map];refine (List.map_id r).symm.trans (Wd λx a=>(c x (mem r b x a)).1)
 ·obtain⟨m,d,e⟩:=List.mem_flatten.1 e
  obtain⟨r,b,rfl⟩:=vF.1 d;obtain⟨x,a,rfl⟩:=vF.1 e;exact (c x (mem r b x a)).2
theorem CU.iff {d:fM}(k:1<=n)(h2:n<=64)(j: ∀g∈d.flatten,bC n g){f:LN}{i:fM}(c:aZ n (BK n d) f i):
  CU (n:Int) O (d.map (List.map zi))↔O=f.map zi/\d.map (List.map zi)=i.map (List.map zi):=by
 have inj: ∀a b:LN,a.map zi=b.map zi->a=b:=λa b h=>map_inj (λ_ _=>Vf) h
 constructor
 ·rintro⟨m,O3,R3,e,_,_,rfl,e3,v⟩
  obtain rfl:n=m:=om
  have:=map_inj inj e3
  subst this
  obtain⟨l,o⟩:=(Valid.iff j c).1 v
  subst l o
  exact⟨rfl,rfl⟩
 ·rintro⟨rfl,e⟩
  have:=map_inj inj e
  subst this
  exact⟨n,f,d,rfl,k,h2,rfl,rfl,(Valid.iff j c).2 ⟨rfl,rfl⟩⟩
end
end Go.Proofs.YtcdbmkidaecdiaaGreat
