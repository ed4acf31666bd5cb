/- Texts of the claim. -/
import Derived.Test.YtcdbmkidaecdiaaGreatP6ktoU10
import Derived.Test.YtcdbmkidaecdiaaGreatP5ptoP6j
set_option maxHeartbeats 64000000
namespace Go.Proofs.YtcdbmkidaecdiaaGreat
open Go Go.Ay Go.Pm
set_option maxRecDepth 100000
theorem GC.one {W:Nat->Prop}{h:H}{b a:V}{d:Int}{n:Nat}{O:LN}{R:jI}{G:List Nat->Prop}(g:GC W h (.agg [aC d,b,a]) n O R G):d=(n:Int)/\b.one=true/\a.one=true:=by
 obtain⟨_,_,_,_,e,f,_,_,c,_,_⟩:=g.cw;cases e;exact⟨rfl,(SV.cK f).2.1,(SV.cK c).2.1⟩
theorem GC.shape {W:Nat->Prop}{h:H}{a:V}{n:Nat}{O:LN}{R:jI}{G:List Nat->Prop}(g:GC W h a n O R G): ∃vO vR,a= .agg [aC n,vO,vR]/\vO.one=true/\vR.one=true:=by
 obtain⟨vO,vR,_,_,e,c,_,_,b,_,_⟩:=g.cw;exact⟨vO,vR,e,(SV.cK c).2.1,(SV.cK b).2.1⟩
theorem QF {W W':Nat->Prop}(p q:V)(n:Nat)(O Q:LN)(R R':jI)(G G':List Nat->Prop)(h:H)(t:GC W h p n O R G)(y:GC W' h q n Q R' G'):
  Ev T 121 [p,q] h (λv h'=>v= aC 0/\Fr h h'):=by
 obtain⟨i,m,rfl,P,oR⟩:=t.shape
 obtain⟨d,k,rfl,F,J⟩:=y.shape
 refine cV zO rfl ?_
 obtain⟨B,o⟩:=exI h.next
 obtain⟨A,e1,z,L,o1,f1⟩:=dF o [aC n,i,m]
 obtain⟨c,e2,n2,N,Z,U⟩:=dF z [aC n,d,k]
 have F2:=f1.trans U
 have r: ∀a,Fr c a->a.get B=aZ [aC n,i,m]:=λa f=>by rw[f.get B om,Z B om];exact L
 have x: ∀a,Fr c a->a.get (B+1)=aZ [aC n,d,k]:=λa f=>by rw[f.get (B+1) om];exact N
 have r2:=Fr.refl c
 simp(disch:=omega)only[go_sem,zO,aD,bM h (v:= aC n) (u:=i) (w:=m) rfl P oR,o,e1,bM A (v:= aC n) (u:=d) (w:=k) rfl F J,z,e2,aI (r c r2)]
 refine ((t.mono F2).check).mono ?_
 rintro _ K ⟨rfl,j⟩
 simp(disch:=omega)only[go_sem]
 refine aW (λl=>(l rfl).elim) (λ_=>?_)
 simp(disch:=omega)only[go_sem,aI (x K j)]
 refine ((y.mono (F2.trans j)).check).mono ?_
 rintro _ s ⟨rfl,f4⟩
 have b:=j.trans f4
 simp(disch:=omega)only[go_sem]
 refine aW (λl=>(l rfl).elim) (λ_=>?_)
 have Y:decide ((n:Int)≠(n:Int))=false:=bH (λh=>h rfl)
 simp(disch:=omega)only[go_sem,H.aF (r s b),H.aF (x s b),Y]
 exact F2.trans b
def NB (A B:LN):LN:=A.flatMap λp=>B.map (jE p)
theorem GP {A B:LN}{x:List Nat}:x∈NB A B↔ ∃p,p∈A/\ ∃q,q∈B/\x=jE p q:=by
 unfold NB;simp only[List.mem_flatMap,uF];exact⟨λ⟨p,hp,q,hq,e⟩=>⟨p,hp,q,hq,e.symm⟩,λ⟨p,hp,q,hq,e⟩=>⟨p,hp,q,hq,e.symm⟩⟩
theorem Uk (A B:LN):(NB A B).length=A.length*B.length:=by
 induction A with
 |nil=>simp [NB]
 |cons a A ih=>
  unfold NB at ih ⊢;rw[List.flatMap_cons,jZ,ih,jV,List.length_cons,Nat.succ_mul,Nat.add_comm]
def IP (A B:LN)(i k:Nat):LN:=NB (A.take i) B++(B.take k).map (jE (A.getD i []))
theorem QV (A B:LN){i k:Nat}(a:k<B.length):IP A B i (k+1)=IP A B i k++ [jE (A.getD i []) (B.getD k [])]:=by
 unfold IP;rw[cE [] a,List.map_append,←Ll];rfl
theorem XS (A B:LN){i:Nat}(hi:i<A.length):IP A B i B.length=IP A B (i+1) 0:=by
 unfold IP;rw[List.take_length,List.take_zero,List.map_nil,vF,cE [] hi];unfold NB;rw[List.flatMap_append];simp
theorem abO (A B:LN):IP A B A.length 0=NB A B:=by
 unfold IP;rw[List.take_length,List.take_zero,List.map_nil,vF]
theorem abL {A B:LN}{i k:Nat}(hi:i<=A.length)(a:k<=B.length):(IP A B i k).length<=(A.length+1)*B.length:=by
 unfold IP;rw[jZ,Uk,Fj,jV,Fj,Nat.min_eq_left hi,Nat.min_eq_left a,Nat.succ_mul];have:=Nat.mul_le_mul_right B.length hi;omega
section
variable {h:H} {v:V} {ws:List V} {b k n:Nat} {x y:List Nat} {A S Q:LN}
def KD (h:H)(v:V)(ws:List V)(b:Nat):Prop:= ∃id cap rest,v= .sl id 0 ws.length cap/\b<=id/\id<h.next/\h.get id=aZ (ws++rest)/\(cap= .un 1∨cap= .kn 1/\ws.length+rest.length=1)
theorem KD.sv (t:KD h v ws b):SV h v 1 ws:=by
 obtain⟨id,a,c,rfl,i,f,d,_⟩:=t;exact .inr ⟨id,0,_,a,false,_,rfl,(uW _).symm,f,d,by rw[jZ];omega,by rw[List.drop_zero,uW,List.take_left' rfl]⟩
theorem KD.zA {h':H}(t:KD h v ws b)(l:h.next<=h'.next)(j: ∀id,dO v id->h'.get id=h.get id):KD h' v ws b:=by
 obtain⟨id,c,a,e,d,m,f,i⟩:=t;exact⟨id,c,a,e,d,om,by rw[j id ⟨_,_,_,e⟩];exact f,i⟩
theorem KD.in (t:KD h v ws b){id:Nat}(f:dO v id):b<=id/\id<h.next:=by
 obtain⟨i,d,a,rfl,c,j,_⟩:=t;obtain⟨_,_,_,e⟩:=f;cases e;exact⟨c,j⟩
theorem KD.pop (t:KD h v ws b)(q:ws.length=k+1):
  ∃v',xT 1 v none (some (aC k)) none=some v'/\KD h v' (ws.take k) b/\ ∀id,dO v' id->dO v id:=by
 obtain⟨id,o,a,rfl,d,l,f,m⟩:=t
 have c:(ws.take k).length=k:=by rw[Fj];omega
 have j:ws++a=ws.take k++(ws.drop k++a):=by rw[←Ll,List.take_append_drop]
 rcases m with rfl|⟨rfl,p⟩
 ·refine⟨_,anJ om om,⟨id,_,ws.drop k++a,by rw[c,NK],d,l,by rw[f,j],.inl rfl⟩,λi ⟨_,_,_,e⟩=>by cases e;exact⟨_,_,_,rfl⟩⟩
 ·refine⟨_,anN om om,⟨id,_,ws.drop k++a,by rw[c,NK],d,l,by rw[f,j],.inr ⟨rfl,by rw[c,jZ,AQ];omega⟩⟩,λi ⟨_,_,_,e⟩=>by cases e;exact⟨_,_,_,rfl⟩⟩
theorem KD.push {y:V}{S:Nat}{c:Kh}(t:KD h v ws b)(q:SV h (.sl S 0 1 c) 1 [y])(J:b<=h.next)(N:ws.length<1000000):
  ∃v' h',xQ h 1 24 v (.sl S 0 1 c)=some (v',h')/\KD h' v' (ws++ [y]) b/\(∀k,k<h.next-> ¬dO v k->h'.get k=h.get k)/\h.next<=h'.next/\h'.next<=h.next+1/\ ∀k,dO v' k->dO v k∨k=h.next:=by
 have w:xQ h 1 24 v (.sl S 0 1 c)=Ay.yB h 1 24 v 1 [y]:=by
  simp only[xQ,q.len (n:=1) rfl om,q.slice]
 rw[w]
 have p:=t.sv
 have f:=p.len (n:=ws.length) om om
 have m:=p.slice
 obtain⟨id,i,d,rfl,r,F,o,G⟩:=t
 unfold Ay.yB
 simp only[f,m]
 rw[bI om,bF ⟨om,om⟩]
 have a: ∀g:H,g.next=h.next->(∀k,k<h.next->k≠id->g.get k=h.get k)-> ∃v' h',some (V.sl h.next 0 (ws.length+1) (.un 1),g.new (.cells false (ws++ [y])))=some (v',h')/\KD h' v' (ws++ [y]) b/\(∀k,k<h.next-> ¬dO (.sl id 0 ws.length i) k->h'.get k=h.get k)/\h.next<=h'.next/\h'.next<=h.next+1/\ ∀k,dO v' k->dO (.sl id 0 ws.length i) k∨k=h.next:=by
  intro g L B;refine⟨_,_,rfl,⟨h.next,_, [],by rw[jZ];rfl,J,by rw[H.aU];omega,by rw[←L,H.aL,vF],.inl rfl⟩,λk j l=>?_,by rw[H.aU];omega,by rw[H.aU];omega,λk ⟨_,_,_,e⟩=>by cases e;exact .inr rfl⟩;rw[H.bG g om];exact B k j (λe=>l ⟨_,_,_,by rw[e]⟩)
 rcases G with rfl|⟨rfl,s⟩
 ·simp only[o,if_true]
  exact a (h.set id none) rfl (λk _ j=>H.aG h j none)
 ·simp only
  by_cases e:ws.length+1<=1
  ·rw[bF e]
   have K:ws= []:=WJ om
   subst K
   obtain⟨z,rfl⟩: ∃z,d= [z]:=List.length_eq_one_iff.1 (by simpa using s)
   have u:h.put id (0+([]:List V).length*1) [y]=some (h.set id (aZ [y])):=by
    simp [H.put,o,putAt]
   rw[u]
   refine⟨_,_,rfl,⟨id,_, [],rfl,r,F,by rw[H.aS];rfl,.inr ⟨rfl,rfl⟩⟩,λk j l=>H.aG h (λe=>l ⟨0,0,.kn 1,by rw[e];rfl⟩) _,fM _,Nat.le_succ _,λk ⟨_,_,_,e⟩=>by cases e;exact .inl ⟨_,_,_,rfl⟩⟩
  ·rw[bI e]
   exact a h rfl (λ_ _ _=>rfl)
def anS (n:Nat):LN:=(Eo n n).filter (anH n)
theorem amB (X:bE n x):x∈anS n:=by
 unfold anS;rw[CH];refine⟨X.yJ,?_⟩;unfold anH;simp only[vN,beq_iff_eq,Kv,Qf];exact⟨⟨X.len,X.nd⟩,X.lt⟩
theorem vQ (c:n<=5){l:LN}(nd:l.Nodup)(d: ∀x∈l,bE n x):l.length<=120:=by
 have h: ∀n,n<=5->(anS n).length<=120:=by decide+kernel
 exact mT (List.Nodup.length_le_of_subset nd λx a=>amB (d x a)) (h n c)
theorem aiN {n:Nat}(a:A.Pairwise Lt):A.Nodup:=a.imp λh e=>by rw[e] at h;exact h.irrefl
def DX (A:LN)(k:Nat)(y:List Nat):LN:=A.take k++y::A.drop k
theorem oL {z:List Nat}:z∈DX A k y↔z=y∨z∈A:=by
 unfold DX;rw[pH,zH];constructor
 ·rintro (h|h|h)
  ·exact .inr (List.mem_of_mem_take h)
  ·exact .inl h
  ·exact .inr (List.mem_of_mem_drop h)
 ·rintro (h|h)
  ·exact .inr (.inl h)
  ·rw[←List.take_append_drop k A,pH] at h
   rcases h with h|h
   ·exact .inl h
   ·exact .inr (.inr h)
theorem Oa:(DX A k y).length=A.length+1:=by
 unfold DX;rw[jZ,List.length_cons,Fj,AQ];omega
theorem RY {a b:List Nat}(A:bE n a)(B:bE n b)(s: ¬Lt a b)(h2:a≠b):Lt b a:=by
 have h: ∃i,i<n/\a.getD i 0≠b.getD i 0:=Jg λh=>h2 (yC (by rw[A.len,B.len]) λi hi=>Jg λd=>h ⟨i,by rw[←A.len];exact hi,d⟩)
 obtain⟨i,hi,c⟩:=h
 have t: ∃i,(i<n/\a.getD i 0≠b.getD i 0)/\ ∀j,j<i-> ¬(j<n/\a.getD j 0≠b.getD j 0):=by
  revert hi c
  induction i using Nat.strongRecOn with
  |ind i ih=>
   intro hi c
   by_cases h: ∃j,j<i/\j<n/\a.getD j 0≠b.getD j 0
   ·obtain⟨j,d,f,u⟩:=h
    exact ih j d f u
   ·exact⟨i,⟨hi,c⟩,λj l o=>h ⟨j,l,o⟩⟩
 obtain⟨k,⟨q,p⟩,m⟩:=t;have r: ∀j,j<k->a.getD j 0=b.getD j 0:=λj l=>Jg λd=>m j l ⟨om,d⟩
 rcases Nat.lt_or_gt_of_ne p with f|f
 ·exact (s ⟨k,by rw[A.len];exact q,r,f⟩).elim
 ·exact⟨k,by rw[B.len];exact q,λj l=>(r j l).symm,f⟩
theorem NQ (m: ∀x∈A,bE n x)(Y:bE n y)(f:A.Pairwise Lt)(p:Plc A y k)(r:y∉A):(DX A k y).Pairwise Lt:=by
 unfold DX;rw[List.pairwise_append];have at': ∀{z:List Nat},z∈A.take k-> ∃i,i<k/\i<A.length/\A.getD i []=z:=λh=>(Ox (d:= [])).1 h
 have t: ∀{z:List Nat},z∈A.drop k-> ∃i,k<=i/\i<A.length/\A.getD i []=z:=λh=>by
  obtain⟨q,s,e⟩:=zF.1 h;rw[AQ] at s;rw[List.getElem_drop] at e;exact⟨k+q,om,om,by rw[List.getD,dD om,←e];rfl⟩
 have o: ∀z∈A.take k,Lt z y:=λz a=>by
  obtain⟨i,j,c,rfl⟩:=at' a;exact (Cb (by rw[(m _ (bD c)).len,Y.len])).1 (p.lo i j)
 have hi: ∀z∈A.drop k,Lt y z:=λz a=>by
  obtain⟨i,j,c,rfl⟩:=t a;have Z:=m _ (bD (d:= []) c);refine RY Z Y (λh=>?_) (λe=>r (by rw[←e];exact bD c));have:=p.hi i j c;rw[(Cb (by rw[Z.len,Y.len])).2 h] at this;cases this
 refine⟨f.sublist (List.take_sublist k A),List.pairwise_cons.2 ⟨hi,f.sublist (List.drop_sublist k A)⟩,λz a w l=>?_⟩;rcases zH.1 l with rfl|l
 ·exact o z a
 ·have Z:=m z (List.mem_of_mem_take a)
  exact Lt.trans (by rw[Z.len,Y.len]) (o z a) (hi w l)
structure ElJ (n:Nat)(S A Q:LN):Prop where
 asc:A.Pairwise Lt
 gen: ∀x∈A,bX n (· ∈S) x
 one:bL n∈A
 sub: ∀x∈Q,x∈A
 cl: ∀x∈A,x∉Q-> ∀g∈S,aX x g∈A
theorem ElJ.start (n:Nat)(S:LN):ElJ n S [bL n] [bL n]:=
 ⟨List.pairwise_singleton _ _,λx a=>by simp at a;subst a;exact .one,by simp,λx a=>a,λx a h=>absurd a h⟩
theorem ElJ.done (j:ElJ n S A []):dW (bX n (· ∈S)) A:=by
 refine⟨j.asc,λx=>⟨j.gen x,λh=>?_⟩⟩
 induction h with
 |one=>exact j.one
 |mul _ hg ih=>exact j.cl _ ih List.not_mem_nil _ hg
structure WQ (n:Nat)(S:LN)(x:List Nat)(i:Nat)(A Q:LN):Prop where
 asc:A.Pairwise Lt
 gen: ∀x∈A,bX n (· ∈S) x
 one:bL n∈A
 sub: ∀x∈Q,x∈A
 mem:x∈A
 cl: ∀z∈A,z∉Q->z=x∨ ∀g∈S,aX z g∈A
 dn: ∀j,j<i->aX x (S.getD j [])∈A
theorem WQ.start (j:ElJ n S A (Q++ [x])):WQ n S x 0 A Q:=
 ⟨j.asc,j.gen,j.one,λz a=>j.sub z (by simp [a]),j.sub x (by simp),λz a c=>by
  by_cases e:z=x
  ·exact .inl e
  ·exact .inr (j.cl z a (by simp [c,e])),λj d=>om⟩
theorem WQ.done (j:WQ n S x S.length A Q):ElJ n S A Q:=
 ⟨j.asc,j.gen,j.one,j.sub,λz c d g a=>by
  rcases j.cl z c d with rfl|h
  ·obtain⟨i,hi,e⟩:=zF.1 a
   have:=j.dn i hi;rwa [List.getD,dD hi,Option.getD_some,e] at this
  ·exact h g a⟩
theorem WQ.skip {i:Nat}(j:WQ n S x i A Q)(h:aX x (S.getD i [])∈A):WQ n S x (i+1) A Q:=
 ⟨j.asc,j.gen,j.one,j.sub,j.mem,j.cl,λk a=>by
  by_cases e:k=i
  ·rw[e];exact h
  ·exact j.dn k om⟩
theorem WQ.step {i:Nat}(j:WQ n S x i A Q)(f: ∀g∈S,bE n g)(hi:i<S.length)(h:aX x (S.getD i [])∉A)(p:Plc A (aX x (S.getD i [])) k):WQ n S x (i+1) (DX A k (aX x (S.getD i []))) (Q++ [aX x (S.getD i [])]):=by
 have m:=j.gen x j.mem;have d:bX n (· ∈S) (aX x (S.getD i [])):=m.mul (bD hi);obtain⟨y,l⟩:=exI (aX x (S.getD i []));rw[l] at d h p ⊢;refine⟨NQ (λz a=>(j.gen z a).cU f) (d.cU f) j.asc p h,λz a=>?_,oL.2 (.inr j.one),λz a=>?_,oL.2 (.inr j.mem),λz a c=>?_,λq c=>?_⟩
 ·rcases oL.1 a with rfl|a
  ·exact d
  ·exact j.gen z a
 ·rcases pH.1 a with a|a
  ·exact oL.2 (.inr (j.sub z a))
  ·simp at a;exact oL.2 (.inl a)
 ·rcases oL.1 a with rfl|a
  ·exact absurd (by simp) c
  ·rcases j.cl z a (λh=>c (by simp [h])) with e|o
   ·exact .inl e
   ·exact .inr λg r=>oL.2 (.inr (o g r))
 ·by_cases e:q=i
  ·rw[e,l];exact oL.2 (.inl rfl)
  ·exact oL.2 (.inr (j.dn q om))
theorem alW {A:List V}(a:k<=A.length)(z y:V):(((A++ [z]).take (k+1)++A.drop k).set k y)=A.take k++y::A.drop k:=by
 have c:(A++ [z]).take (k+1)=A.take k++ [(A++ [z]).getD k .undef]:=by
  rw[cE .undef (by rw[jZ];simp;omega),List.take_append_of_le_length a]
 rw[c,Ll,List.set_append_right _ _ (by rw[Fj];omega),Fj,Nat.min_eq_left a,Nat.sub_self]
 rfl
theorem fW.DX {W:Nat->Prop}{c:List V}(p:fW W h c A)(q:PV W h v y)(j:k<=A.length):fW W h (c.take k++v::c.drop k) (Go.Proofs.YtcdbmkidaecdiaaGreat.DX A k y):=by
 have i:=aM.length p
 have t: ∀(k:Nat) (c:List V) (A:LN),fW W h c A->fW W h (c.take k) (A.take k)/\fW W h (c.drop k) (A.drop k):=by
  intro k
  induction k with
  |zero=>intro c A p;exact⟨trivial,p⟩
  |succ k ih=>
   intro c A p
   cases c with
   |nil=>cases A with
    |nil=>exact⟨trivial,trivial⟩
    |cons=>exact p.elim
   |cons a c=>cases A with
    |nil=>exact p.elim
    |cons b A=>
     obtain⟨d,f⟩:=ih c A p.2
     exact⟨⟨p.1,d⟩,f⟩
 obtain⟨d,f⟩:=t k c A p;exact d.append ⟨q,f⟩
theorem KD.own (t:KD h v ws b)(l:0<ws.length):cY h v 1 ws b:=by
 obtain⟨id,d,a,rfl,f,j,i,c⟩:=t;refine .inr ⟨id,ws.length,d,a,rfl,(uW _).symm,?_,f,j,i⟩;rcases c with c|⟨rfl,m⟩
 ·exact .inl c
 ·have e:ws.length=1:=om
  exact .inr ⟨by rw[e],WJ om⟩
theorem anT {Q m:Nat}(a:k<=m):xT 1 (.sl Q 0 (m+1) (.un 1)) (some (aC k)) none none=some (.sl Q k (m+1-k) (.un 1)):=by
 simp only[xT,oG];rw[bF ⟨om,om⟩];simp only[if_true,NK];rw[bF om,Nat.zero_add,uW]
theorem amV {Q m:Nat}(a:k<=m):xT 1 (.sl Q 0 (m+1) (.un 1)) (some (aC ((k:Int)+1))) none none=some (.sl Q (if k<m then k+1 else 0) (m-k) (.un 1)):=by
 simp only[xT,oG];rw[bF ⟨om,om⟩];have e:((k:Int)+1).toNat=k+1:=om
 simp only[if_true,e]
 by_cases h:k<m
 ·rw[bF om,bF h]
  simp only[Option.some.injEq,V.sl.injEq,true_and,and_true];omega
 ·rw[bI om,bI h]
  simp only[Option.some.injEq,V.sl.injEq,true_and,and_true];omega
theorem amZ {Q:Nat}{z:V}(m:k<=ws.length)(c:h.get Q=aZ (ws++ [z])):
  ZO h 1 (.sl Q (if k<ws.length then k+1 else 0) (ws.length-k) (.un 1)) (.sl Q k (ws.length+1-k) (.un 1))=some (aC (ws.length-k:Nat),h.set Q (aZ ((ws++ [z]).take (k+1)++ws.drop k))):=by
 have i:sW (.sl Q (if k<ws.length then k+1 else 0) (ws.length-k) (.un 1))=some (ws.length-k):=rfl
 have o:sW (.sl Q k (ws.length+1-k) (.un 1))=some (ws.length+1-k):=rfl
 have j:min (ws.length+1-k) (ws.length-k)=ws.length-k:=om
 have d:h.row Q k (ws.length-k)=some (ws.drop k):=by
  unfold H.row;rw[c];show sub (ws++ [z]) k (ws.length-k)=_;unfold sub;rw[bF (by rw[jZ];omega),List.drop_append_of_le_length m,List.take_left' (by rw[AQ])]
 have f:h.put Q (if k<ws.length then k+1 else 0) (ws.drop k)=some (h.set Q (aZ ((ws++ [z]).take (k+1)++ws.drop k))):=by
  unfold H.put;rw[c];show (putAt (ws++ [z]) _ (ws.drop k)).map _=_;unfold putAt;have a:(ws++ [z]).length=ws.length+1:=by simp
  by_cases h:k<ws.length
  ·rw[bF h,bF (by rw[a,AQ];omega),AQ,show (ws++ [z]).drop _= [] from List.drop_eq_nil_of_le (by rw[a];omega),vF];rfl
  ·have e:k=ws.length:=om
   rw[bI h,bF (by rw[a,AQ];omega),e,List.drop_length,vF,vF];have l:(ws++ [z]).take (ws.length+1)=ws++ [z]:=Tn (by rw[a];omega);rw[l];simp
 simp only[ZO,i,o,j,uW,d,f]
structure ESt (h hh:H)(va vt:V)(A Q:LN):Prop where
 ex: ∃wa wt,KD hh va wa h.next/\KD hh vt wt h.next/\fW (λq=>dO va q∨dO vt q) hh wa A/\fW (λq=>dO va q∨dO vt q) hh wt Q
 IQ: ∀q,dO va q-> ¬dO vt q
 fr:Fr h hh
theorem alN (mo n:Nat)(vl:V)(S:LN)(h:H)(n0:1<=n)(n5:n<=5)(hS: ∀g∈S,bE n g)(hl:S.length<=4096)(j9: ∀A:LN,A.Nodup->(∀x∈A,bX n (· ∈S) x)->A.length<=mo)(hv:SP h vl S):
  Ev T 33 [aC n,vl,aC mo] h (λv h'=> ∃A,dW (bX n (· ∈S)) A/\A.length<=120/\SP h' v A/\Fr h h'):=by
 refine cV Pl rfl ?_
 have lv:=hv.lens
 rw[jV] at lv
 obtain⟨id,off,ws,sh,e3,i1,hc,e7⟩:=hv.open
 rw[jV] at sh e3 i1 hc
 simp(disch:=omega)only[go_sem,Pl,aD]
 refine (aaW n h om).mono ?_
 rintro v1 h1 ⟨s1,f1,l1⟩
 obtain⟨B,hB⟩:=exI h1.next
 obtain⟨G,e2,n2,g2,o2,f2⟩:=dF hB [v1]
 simp(disch:=omega)only[go_sem,cT _ (z:= .aE) (Jy s1).1 (Jy s1).2,hB,e2]
 refine (aaW n G om).mono ?_
 rintro v3 h3 ⟨s3,f3,l3⟩
 obtain⟨C,hC⟩:=exI h3.next
 obtain⟨h4,e4,n4,g4,o4,f4⟩:=dF hC [v3]
 have k1:=f1.next
 have k3:=f3.next
 have F4:=((f1.trans f2).trans f3).trans f4
 have W: ∀{v:V} {hh:H},SI hh v (zi (bL n))->Fr hh h4->(∀id off len j3,v= .sl id off len j3->id≠B/\id≠C)->PV (λq=>dO (.sl B 0 1 (.kn 1)) q∨dO (.sl C 0 1 (.kn 1)) q) h4 v (bL n):=λ{v hh} s f i7=>by
  refine⟨s.mono f,?_⟩
  cases v with
  |sl i o m c=>
   have:=i7 _ _ _ _ rfl;rintro (⟨_,_,_,e⟩|⟨_,_,_,e⟩)
   ·cases e;omega
   ·cases e;omega
  |_=>trivial
 have g3:ESt h h4 (.sl B 0 1 (.kn 1)) (.sl C 0 1 (.kn 1)) [bL n] [bL n]:=by
  refine⟨⟨[v1], [v3],⟨B,_, [],rfl,om,om,by rw[o4 B om,f3.get B om];exact g2,.inr ⟨rfl,rfl⟩⟩,⟨C,_, [],rfl,om,om,g4,.inr ⟨rfl,rfl⟩⟩,fW.one (W s1 ((f2.trans f3).trans f4) λi o m c e=>?_),fW.one (W s3 f4 λi o m c e=>?_)⟩,λq ⟨_,_,_,e⟩ ⟨_,_,_,e2⟩=>by cases e;cases e2;omega,F4⟩
  ·have:=SV.in s1 _ _ _ _ e;omega
  ·have:=SV.in s3 _ _ _ _ e;have:=l3 _ _ _ _ e;omega
 simp(disch:=omega)only[go_sem,cT _ (z:= .aE) (Jy s3).1 (Jy s3).2,hC,e4]
 refine aH (λk' F hh=> ∃(A Q:LN) (d l:V),(∃g:Nat->V,F= [aC n,vl,aC mo,g 3,d,l,g 6,g 7,g 8,g 9,g 10,g 11,g 12,g 13,g 14])/\ElJ n S A Q/\ESt h hh d l A Q/\Q.length<=A.length/\k'=1000- 2*A.length+Q.length) _
  ⟨_,_,_,_,aB rfl,ElJ.start n S,g3,fM _,rfl⟩ ?_
 clear g3 W g2 g4 o2 o4 e2 e4 s1 s3 l1 l3 F4 f1 f2 f3 f4 k1 k3 n2 n4 hB hC
 rintro k' F h5 ⟨A,Q,d,l,⟨g,rfl⟩,J,st,k7,rfl⟩
 have AP: ∀x∈A,bE n x:=λx hx=>(J.gen x hx).cU hS
 have la:=vQ n5 (aiN J.asc (n:=n)) AP
 obtain⟨⟨u,wt,ta,tt,pa,pt⟩,IQ,fr⟩:=st
 have a8:=aM.length pa
 have c7:=aM.length pt
 have a4:bT l=some (aC (Q.length:Int)):=by unfold bT;rw[SV.len tt.sv (n:=Q.length) om om];rfl
 by_cases w:(0:Int)<(Q.length:Int)
 case neg=>
  have d1:=bH w;have e0:Q= []:=WJ om;simp(disch:=omega)only[go_sem,a4,d1];subst e0;exact⟨A,J.done,la,fW.sp' ta.sv pa,fr⟩
 have d1:=bP w
 obtain⟨m,hm⟩: ∃m,Q.length=m+1:=⟨Q.length- 1,om⟩
 have em:(Q.length:Int)- 1=(m:Int):=om
 obtain⟨_,m1,k4,c4,c5⟩:=fW.open tt.sv pt
 obtain⟨_,cx,px⟩:=c5 m om
 obtain⟨x,hx⟩:=exI (Q.getD m [])
 rw[hx] at px
 generalize wt.getD m .undef=vx at cx px
 obtain⟨L,b6,c6,O⟩:=tt.pop (k:=m) om
 have hQ:Q=Q.take m++ [x]:=by
  rw[←hx,←cE [] om,Tn om]
 have c3:fW (λq=>dO d q∨dO L q) h5 (wt.take m) (Q.take m):=by
  have t: ∀(k:Nat) (u:List V) (A:LN),fW (λq=>dO d q∨dO l q) h5 u A->fW (λq=>dO d q∨dO l q) h5 (u.take k) (A.take k):=by
   intro k
   induction k with
   |zero=>intro u A p;exact trivial
   |succ k ih=>
    intro u A p
    cases u with
    |nil=>cases A with
     |nil=>exact trivial
     |cons=>exact p.elim
    |cons a u=>cases A with
     |nil=>exact p.elim
     |cons b A=>exact⟨p.1,ih u A p.2⟩
  exact fW.lH (t m wt Q pt) λq _ hw=>hw.imp (λh=>h) (O q)
 have b9:ESt h h5 d L A (Q.take m):=⟨⟨u,wt.take m,ta,c6,fW.lH pa λq _ hw=>hw.imp (λh=>h) (O q),c3⟩,λq h1 G=>IQ q h1 (O q G),fr⟩
 have b4:PV (λq=>dO d q∨dO L q) h5 vx x:=PV.lH px λq _ hw=>hw.imp (λh=>h) (O q)
 have J':WQ n S x 0 A (Q.take m):=WQ.start (by rw[←hQ];exact J)
 have m3:(Q.take m).length=m:=by rw[Fj];omega
 simp(disch:=omega)only[go_sem,a4,d1,em,c4.ixa,cx,b6]
 refine xE (λvs hh=> ∃(r R:LN) (d l:V),(∃g:Nat->V,vs= [aC n,vl,aC mo,g 3,d,l,g 6,g 7,g 8,g 9,g 10,g 11,g 12,g 13,g 14])/\ElJ n S r R/\ESt h hh d l r R/\R.length<=r.length/\1000- 2*r.length+R.length<1000- 2*A.length+Q.length) ?_ ?_
 ·refine aH (λk' F hh=> ∃(i:Nat) (r R:LN) (d l:V),(∃g:Nat->V,F= [aC n,vl,aC mo,g 3,d,l,vx,aC i,g 8,g 9,g 10,g 11,g 12,g 13,g 14])/\i<=S.length/\WQ n S x i r R/\ESt h hh d l r R/\PV (λq=>dO d q∨dO l q) hh vx x/\R.length+A.length+1=r.length+Q.length/\A.length<=r.length/\k'=S.length-i) S.length
   ⟨0,A,Q.take m,d,L,aB rfl,iJ _,J',b9,b4,om,fM _,rfl⟩ ?_
  clear b9 b4 J' c3 c6 O b6 IQ fr pa pt ta tt a8 c7 a4 cx px c5 c4 L g
  rintro k' F h6 ⟨i,r,R,d,l,⟨g,rfl⟩,hi,J,st,px,f0,c0,rfl⟩
  have b8: ∀x∈r,bE n x:=λx hx=>(J.gen x hx).cU hS
  have l4:=vQ n5 (aiN J.asc (n:=n)) b8
  by_cases f6:(i:Int)<(S.length:Int)
  case neg=>
   have d2:=bH f6;obtain rfl:i=S.length:=om
   simp(disch:=omega)only[go_sem,lv,d2];exact⟨r,R,d,l,aB rfl,J.done,st,om,om⟩
  have d2:=bP f6
  have a1:i<S.length:=om
  obtain⟨⟨u,wt,ta,tt,pa,pt⟩,IQ,fr⟩:=st
  have a8:=aM.length pa
  have c7:=aM.length pt
  have cg:h6.cell id (off+i)=some (ws.getD i .undef):=by rw[fr.cell (e3 om),hc i a1]
  have sg:=(Ml e7 a1).mono fr
  have Gp:bE n (S.getD i []):=hS _ (bD a1)
  generalize ws.getD i .undef=vg at cg sg
  have X:bE n x:=b8 x J.mem
  simp(disch:=omega)only[go_sem,lv,d2,sh.ixa,cg]
  refine (Lj vx vg x _ h6 (by rw[X.len];omega) px.si sg (λj hj=>by rw[Gp.len];exact X.iN (by rw[←X.len];exact hj))).mono ?_
  rintro vy h7 ⟨sy,f7,l7⟩
  obtain⟨y,hy⟩:=exI (aX x (S.getD i []))
  have Y:bE n y:=by rw[←hy];exact X.mul Gp
  rw[hy] at sy
  have b7:=ta.zA f7.next λq w=>f7.get q (ta.in w).2
  have d9:=tt.zA f7.next λq w=>f7.get q (tt.in w).2
  have d7:=fW.fx pa (Fx.of f7:Fx (λq=>dO d q∨dO l q) h6 h7)
  have j5:=fW.fx pt (Fx.of f7:Fx (λq=>dO d q∨dO l q) h6 h7)
  have i2:=PV.mono px f7
  have d8: ∀q,(dO d q∨dO l q)->q<h6.next:=λq w=>w.elim (λh=>(ta.in h).2) (λh=>(tt.in h).2)
  have j7:PV (λq=>dO d q∨dO l q) h7 vy y:=PV.fresh sy l7 d8
  simp(disch:=omega)only[go_sem]
  refine (anB d vy n r y h7 om om b8 Y J.asc (fW.sp' b7.sv d7) sy).mono ?_
  rintro _ h8 ⟨k,rfl,pk,_,f8⟩
  have a9:=b7.zA f8.next λq w=>f8.get q (b7.in w).2
  have U:=d9.zA f8.next λq w=>f8.get q (d9.in w).2
  have e5:=fW.fx d7 (Fx.of f8:Fx (λq=>dO d q∨dO l q) h7 h8)
  have g1:=fW.fx j5 (Fx.of f8:Fx (λq=>dO d q∨dO l q) h7 h8)
  have e8:=PV.mono i2 f8
  have j0:=PV.mono j7 f8
  have b5:=(fr.trans f7).trans f8
  by_cases a5:y∈r
  ·have d3:=bP a5
   simp(disch:=omega)only[go_sem,d3]
   rw[eJ i]
   exact⟨S.length-(i+1),om,i+1,r,R,d,l,aB rfl,om,J.skip (by rw[hy];exact a5),⟨⟨u,wt,a9,U,e5,g1⟩,IQ,b5⟩,e8,f0,c0,rfl⟩
  have d3:=bH a5
  have J2:=J.step hS a1 (by rw[hy];exact a5) (by rw[hy];exact pk)
  rw[hy] at J2
  have i9:=vQ n5 (aiN J2.asc (n:=n)) (λx hx=>(J2.gen x hx).cU hS)
  rw[Oa] at i9
  have i4:bT d=some (aC (r.length:Int)):=by unfold bT;rw[SV.len a9.sv (n:=r.length) om om];rfl
  have i6:=j9 _ (aiN J2.asc (n:=n)) J2.gen
  rw[Oa] at i6
  have d4:decide ((mo:Int)<=(r.length:Int))=false:=bH om
  have l6:0<r.length:=HJ J.one
  obtain⟨N,hN⟩:=exI h8.next
  obtain⟨h9,e9,n9,g9,o9,f9⟩:=dF hN [.aE]
  have j2:=(a9.own om).fr f9
  obtain⟨a0,c9,c2⟩:=j2.push (bytes:=24) (SV.one om g9 (.kn 1)) (n:=r.length) (m:=1) om rfl om om om
  have m2:=c2.next
  rw[n9] at c9
  have hk:=pk.le
  have g8:a0.get (N+1)=aZ (u++ [.aE]):=by rw[←n9];exact c2.get
  obtain⟨hb,j1,k9,d0⟩: ∃hb:H,H.mk a0.tr (a0.next+8)=hb/\hb.next=a0.next+8/\ ∀q,hb.get q=a0.get q:=⟨_,rfl,rfl,λ_=>rfl⟩
  have cp:=amZ (k:=k) om ((d0 (N+1)).trans g8)
  rw[a8] at cp
  obtain⟨c8,j8,k8,j6,i3⟩:=pJ hb (N+1) ((u++ [V.aE]).take (k+1)++u.drop k)
  rw[j8] at cp
  have d5:decide ((k:Int)<0)=false:=bH om
  have d6:decide (((r.length+1:Nat):Int)<=(k:Int))=false:=bH om
  have k2:((u++ [V.aE]).take (k+1)++u.drop k).length=r.length+1:=by
   rw[jZ,Fj,jZ,AQ];simp;omega
  have c1:=bN (vs:=(u++ [V.aE]).take (k+1)++u.drop k) (off:=k) om c8 (N+1) vy
  rw[alW om] at c1
  obtain⟨a6,i8,l0,g5,k0⟩:=pJ c8 (N+1) (u.take k++vy::u.drop k)
  rw[i8] at c1
  have a2:=Jy sy
  have fT: ∀q,q<N-> ¬dO d q->a6.get q=h8.get q:=λq h1 G=>by
   rw[k0 q om,i3 q om,d0,c2.old q om (λi o m c e e2=>G ⟨o,m,c,e2▸e⟩),o9 q om]
  have k5:a6.next=N+10:=om
  have b2:=U.zA (h':=a6) om λq w=>fT q (by have:=(U.in w).2;omega) (λh=>IQ q h w)
  obtain⟨P,hP⟩:=exI a6.next
  obtain⟨l5,i0,l2,h0,m0,a3⟩:=dF hP [vy]
  have f5:=b2.zA a3.next λq w=>a3.get q (b2.in w).2
  have l8:=b5.next
  obtain⟨e6,a7,i5,g0,Z,l9,k6,b0⟩:=f5.push (S:=P) (c:= .kn 1) (SV.one om h0 (.kn 1)) om om
  simp(disch:=omega)only[go_sem,d3,i4,d4,cT _ (z:= .aE) (v:= .aE) rfl rfl,hN,e9,c9,amV hk,anT hk,j1,cp,d5,d6,j6,lG a2.1 a2.2,c1,cT _ (z:= .aE) a2.1 a2.2,hP,i0,i5]
  rw[eJ i]
  have e1: ∀q,dO l q->q<N:=λq w=>by have:=(U.in w).2;omega
  have K: ∀q,q<N-> ¬dO d q-> ¬dO l q->a7.get q=h8.get q:=λq h1 G h3=>by
   rw[Z q om h3,a3.get q om];exact fT q h1 G
  have xx:Fx (λq=>dO d q∨dO l q) h8 a7:=⟨om,λq h1 G=>K q om (λh=>G (.inl h)) (λh=>G (.inr h))⟩
  have ww: ∀q,q<h8.next->(dO (.sl (N+1) 0 (r.length+1) (.un 1)) q∨dO e6 q)->dO d q∨dO l q:=λq h1 G=>by
   rcases G with ⟨_,_,_,e⟩|G
   ·cases e;omega
   ·rcases b0 q G with h3|h3
    ·exact .inr h3
    ·omega
  have g6:a7.get (N+1)=aZ (u.take k++vy::u.drop k):=by
   rw[Z (N+1) om (λh=>by have:=e1 _ h;omega),a3.get (N+1) om];exact g5
  have b1:PV (λq=>dO (.sl (N+1) 0 (r.length+1) (.un 1)) q∨dO e6 q) a7 vy y:=PV.go j0 xx ww
  have b3:=fW.DX (fW.go e5 xx ww) b1 (k:=k) om
  have g7:(u.take k++vy::u.drop k).length=r.length+1:=by rw[aM.length b3,Oa]
  refine⟨S.length-(i+1),om,i+1,_,_,_,_,aB rfl,om,J2,⟨⟨_,_,⟨N+1,_, [],by rw[g7],om,om,by rw[vF];exact g6,.inl rfl⟩,g0,b3,(fW.go g1 xx ww).append (fW.one b1)⟩,λq ⟨_,_,_,e⟩ G=>?_,⟨om,λq w=>?_⟩⟩,PV.go e8 xx ww,by rw[Oa,jZ];simp;omega,by rw[Oa];omega,rfl⟩
  ·cases e
   rcases b0 _ G with h3|h3
   ·have:=e1 _ h3;omega
   ·omega
  ·rw[K q om (λh=>by have:=(a9.in h).1;omega) (λh=>by have:=(U.in h).1;omega)]
   exact b5.get q w
 clear b9 b4 J' c3 c6 O b6 IQ fr pa pt ta tt a8 c7 a4 cx px c5 c4 L g
 rintro F h6 ⟨r,R,d,l,⟨g,rfl⟩,J,st,c0,j4⟩
 simp(disch:=omega)only[go_sem]
 exact⟨_,j4,r,R,d,l,aB rfl,J,st,c0,rfl⟩
theorem ajJ (n:Nat)(a:V)(S:LN)(h:H)(l:1<=n)(c:n<=5)(d: ∀g∈S,bE n g)(m:S.length<=4096)(f:SP h a S):
  Ev T 33 [aC n,a,aC 120] h (λv h'=> ∃A,dW (bX n (· ∈S)) A/\A.length<=120/\SP h' v A/\Fr h h'):=
 alN 120 n a S h l c d m (λ_ nd i=>vQ c nd λx j=>(i x j).cU d) f
end
section
variable {n:Nat} {G:List Nat->Prop} {L:LN} {K:List Nat}
variable (hG:iX n G) (E:dW G L) (k:Cm n G L K)
include hG E k
end
section
variable {n:Nat} {G:List Nat->Prop} {L:LN}
variable (hG:iX n G) (E:dW G L)
include hG E
end
theorem akV {h:H}{v:V}{L:LN}(s:SP h v L):bT v=some (aC (L.length:Int))/\dE v v=true/\ ∃(id off:Nat) (ws:List V),Sl v 1 L.length id off/\ ∀i,i<L.length->id<h.next/\h.cell id (off+i)=some (ws.getD i V.undef)/\SI h (ws.getD i V.undef) (zi (L.getD i [])):=by
 have j:=s.lens;rw[jV] at j;obtain⟨id,off,ws,f,b,c,k,a⟩:=s.open;rw[jV] at f b c k;obtain⟨l,d,_⟩:=s;exact⟨j,SV.dE d,id,off,ws,f,λi hi=>⟨b om,k i hi,Ml a hi⟩⟩
set_option maxRecDepth 100000
set_option maxRecDepth 100000
def wrC (C:LN)(k s j:Nat):Prop:=(∃q,q<k/\j∈C.getD q [])∨j∈(C.getD k []).take s
open Classical in
noncomputable def NA (C:LN)(x:List Nat)(k s j:Nat):V:=if wrC C k s j then aC (x.getD j 0:Nat) else aC 0
section
variable {O:List (List Int)} {R:List (List (List Int))}
theorem Lx {h:H}{v:V}(s:SR h v O):bT v=some (aC (O.length:Int))/\dE v v=true/\v.cells= [v]/\v.one=true/\ ∃(id off:Nat) (ws:List V),Sl v 1 O.length id off/\ ∀i,i<O.length->id<h.next/\h.cell id (off+i)=some (ws.getD i V.undef)/\SI h (ws.getD i V.undef) (O.getD i []):=by
 have d:=s.lens;obtain⟨ws,sv,b⟩:=s;have j:=aM.length b;obtain⟨id,off,c,a,f⟩:=SV.shape sv O.length om om;exact⟨d,SV.dE sv,(SV.cK sv).1,(SV.cK sv).2.1,id,off,ws,c,λi hi=>⟨a om,by rw[f i om];simp [List.getD,show i<ws.length by omega],akD b hi⟩⟩
theorem aiE {h:H}{v:V}(s:SRR h v R):bT v=some (aC (R.length:Int))/\dE v v=true/\v.cells= [v]/\v.one=true/\ ∃(id off:Nat) (ws:List V),Sl v 1 R.length id off/\ ∀i,i<R.length->id<h.next/\h.cell id (off+i)=some (ws.getD i V.undef)/\SR h (ws.getD i V.undef) (R.getD i []):=by
 obtain⟨ws,sv,b,_⟩:=s;have f:=aM.length b;obtain⟨id,off,c,a,d⟩:=SV.shape sv R.length om om;refine⟨by unfold bT;rw[SV.len sv (n:=R.length) om om];rfl,SV.dE sv,(SV.cK sv).1,(SV.cK sv).2.1,id,off,ws,c,λi hi=>⟨a om,by rw[d i om];simp [List.getD,show i<ws.length by omega],?_⟩⟩;have:=aM.get b i om hi;rw[List.getD,List.getD,dD (show i<ws.length by omega),dD hi];exact this
structure FrR (n:Nat)(O:List (List Int))(R:List (List (List Int)))(i k:Nat):Prop where
 row: ∀j,j<i->(O.getD j []).length<=n/\(O.getD j []).length=(R.getD j []).length
 perm: ∀j,j<i-> ∀x∈R.getD j [],x.length=n/\mV x=true
 last: ∀x∈(R.getD i []).take k,x.length=n/\mV x=true
theorem FrR.nat {n:Nat}(f:FrR n O R n 0)(k:R.length=n): ∃R':jI,R=R'.map (List.map zi)/\ ∀g∈R'.flatten,bE n g:=by
 have a: ∀r∈R,∀x∈r,x.length=n/\mV x=true:=λr b x c=>by
  obtain⟨i,hi,rfl⟩:=zF.1 b;exact f.perm i om x (by rw[List.getD,dD hi];exact c)
 refine⟨R.map (List.map (List.map Int.toNat)),?_,λg h=>?_⟩
 ·rw[List.map_map]
  refine (List.map_id R).symm.trans (Vy λr b=>?_);show r=(r.map (List.map Int.toNat)).map zi;rw[List.map_map];exact (List.map_id r).symm.trans (Vy λx c=>(Iz (a r b x c).2).1)
 ·obtain⟨j,d,h⟩:=List.mem_flatten.1 h
  obtain⟨r,b,rfl⟩:=uF.1 d;obtain⟨x,c,rfl⟩:=uF.1 h;have:=(Iz (a r b x c).2).2;rwa [(a r b x c).1] at this
theorem FrR.next {n:Nat}{i k:Nat}(f:FrR n O R i k)(d:(R.getD i []).length<=k)(c:(O.getD i []).length<=n)(h2:(O.getD i []).length=(R.getD i []).length):FrR n O R (i+1) 0:=by
 have b:=f.last;rw[Tn d] at b;refine⟨λj h=>?_,λj h=>?_,λx a=>by rw[List.take_zero] at a;cases a⟩
 ·by_cases e:j=i
  ·subst e;exact⟨c,h2⟩
  ·exact f.row j om
 ·by_cases e:j=i
  ·subst e;exact b
  ·exact f.perm j om
theorem alS {x:List Int}(a:1<=x.length)(h2:x.length<=64):AT x=0↔mV x=true:=by
 unfold AT;rw[bI om];constructor
 ·intro h
  split at h
  ·assumption
  ·omega
 ·intro h;rw[bF h]
theorem ajP (vc:V)(d:Int)(O:List (List Int))(R:List (List (List Int)))(h:H)(hc:WI h vc d O R)(hd:d<=7∨64<d)(so:zV O)(sr:Mf R):
  Ev T 95 [vc] h (λv h'=>v= aC (Um d O R)/\Fr h h'):=by
 have c5:=hc
 obtain⟨vO,vR,rfl,sO,sR⟩:=hc
 refine cV Fo rfl ?_
 obtain⟨lO,e3,_,a9,c4,b7,a3,a2,cO⟩:=Lx sO
 obtain⟨lR,e0,_,a8,c8,b1,b5,r,cR⟩:=aiE sR
 obtain⟨B,hB⟩:=exI h.next
 obtain⟨b,e1,n1,g1,o1,q⟩:=dF hB [aC d,vO,vR]
 have c0: ∀a,Fr b a->a.cell B 0=some (aC d):=λa f=>by rw[f.cell om,H.aF g1];rfl
 have c1: ∀a,Fr b a->a.cell B 1=some vO:=λa f=>by rw[f.cell om,H.aF g1];rfl
 have P: ∀a,Fr b a->a.cell B 2=some vR:=λa f=>by rw[f.cell om,H.aF g1];rfl
 have rB: ∀a,Fr b a->a.row B 0 3=some [aC d,vO,vR]:=λa f=>aI (by rw[f.get B om];exact g1)
 have bx:=bM h (v:= aC d) (u:=vO) (w:=vR) rfl a9 a8
 by_cases a1:d<1
 ·have x1:=bP a1
  simp(disch:=omega)only[go_sem,Fo,aD,bx,hB,e1,c0 b (Fr.refl _),x1]
  exact⟨by unfold Um;rw[bF (.inl a1)],q⟩
 have x1:=bH a1
 by_cases a0:64<d
 ·have x2:=bP a0
  simp(disch:=omega)only[go_sem,Fo,aD,bx,hB,e1,c0 b (Fr.refl _),x1,x2]
  exact⟨by unfold Um;rw[bF (.inr a0)],q⟩
 have x2:=bH a0
 obtain⟨n,rfl⟩: ∃n:Nat,d=(n:Int):=⟨d.toNat,om⟩
 have K:1<=n:=om
 have c6:n<=7:=om
 by_cases d4:O.length=n
 case neg=>
  have x3:decide ((O.length:Int)≠(n:Int))=true:=bP om;simp(disch:=omega)only[go_sem,Fo,aD,bx,hB,e1,c0 b (Fr.refl _),x1,x2,c1 b (Fr.refl _),lO,x3];exact⟨by rw[Pq K om (λf=>d4 f.lo)],q⟩
 have x3:decide ((O.length:Int)≠(n:Int))=false:=bH om
 by_cases a4:R.length=n
 case neg=>
  have x4:decide ((R.length:Int)≠(n:Int))=true:=bP om;simp(disch:=omega)only[go_sem,Fo,aD,bx,hB,e1,c0 b (Fr.refl _),x1,x2,c1 b (Fr.refl _),lO,x3,P b (Fr.refl _),lR,x4];exact⟨by rw[Pq K om (λf=>a4 f.lr)],q⟩
 have x4:decide ((R.length:Int)≠(n:Int))=false:=bH om
 simp(disch:=omega)only[go_sem,Fo,aD,bx,hB,e1,c0 b (Fr.refl _),x1,x2,c1 b (Fr.refl _),lO,x3,P b (Fr.refl _),lR,x4]
 have Z: ¬ON n O R->Um (n:Int) O R=3:=Pq K om
 refine aH (λk' o a=> ∃(i:Nat) (G:V) (A:List V),(∃g:Nat->V,o= [g 0,.ptr B 0,g 2,aC n,G,aC i,g 6,g 7,g 8,g 9,g 10,g 11,g 12,g 13,g 14,g 15])/\i<=n/\cY a G 1 A b.next/\aM (SI b) A (R.take i).flatten/\FrR n O R i 0/\Fr b a/\k'=n-i) n
   ⟨0,.aE, [],aB rfl,iJ _,cY.aE _ _ _,trivial,⟨λj hj=>om,λj hj=>om,λx hx=>by rw[List.take_zero] at hx;cases hx⟩,Fr.refl b,rfl⟩ ?_
 rintro k' o l ⟨i,G,A,⟨g,rfl⟩,hi,ow,J,fr,F,rfl⟩
 by_cases b4:(i:Int)<(n:Int)
 case pos=>
  have d1:=bP b4;have Q:i<n:=om
  obtain⟨i1,ci,si⟩:=cO i om;obtain⟨j1,cj,sj⟩:=cR i om;have lo:=si.lens;have b8:=SV.dE si;obtain⟨lr,c9,_,_,d7,b0,b3,L,cr⟩:=Lx sj;have U: ∀a,Fr b a->a.cell c4 (b7+i)=some (a3.getD i V.undef):=λa f=>by rw[(q.trans f).cell i1];exact ci
  have p: ∀a,Fr b a->a.cell c8 (b1+i)=some (b5.getD i V.undef):=λa f=>by rw[(q.trans f).cell j1];exact cj
  generalize a3.getD i V.undef=vo at U lo b8;generalize b5.getD i V.undef=vr at p lr c9 L sj;have e2:(R.getD i []).length<1000000:=sr.2 i om
  by_cases q1:(n:Int)<((O.getD i []).length:Int)
  case pos=>
   have y1:=bP q1;simp(disch:=omega)only[go_sem,d1,c1 l F,P l F,a2.ixa,r.ixa,U l F,p l F,lo,lr,y1];exact⟨by rw[Z λf=>by have:=f.row i Q;omega],q.trans (F.bA om)⟩
  have y1:=bH q1
  by_cases q2:(O.getD i []).length=(R.getD i []).length
  case neg=>
   have y2:decide (((O.getD i []).length:Int)≠((R.getD i []).length:Int))=true:=bP om;simp(disch:=omega)only[go_sem,d1,c1 l F,P l F,a2.ixa,r.ixa,U l F,p l F,lo,lr,y1,y2];exact⟨by rw[Z λf=>by have:=f.row i Q;omega],q.trans (F.bA om)⟩
  have y2:decide (((O.getD i []).length:Int)≠((R.getD i []).length:Int))=false:=bH om;have Fb:Fr b (H.mk l.tr (l.next+23)):=F.bA om;have a5:cY (H.mk l.tr (l.next+23)) G 1 A b.next:=ow.fr ((Fr.refl l).bA om);simp(disch:=omega)only[go_sem,d1,c1 l F,P l F,a2.ixa,r.ixa,U l F,p l F,lo,lr,y1,y2];generalize (H.mk l.tr (l.next+23))=h3 at*;refine aH (λk' o a=> ∃(k:Nat) (G:V) (A:List V),(∃g:Nat->V,o= [g 0,.ptr B 0,g 2,aC n,G,aC i,aC k,g 7,g 8,g 9,g 10,g 11,g 12,g 13,g 14,g 15])/\k<=(R.getD i []).length/\cY a G 1 A b.next/\aM (SI b) A ((R.take i).flatten++(R.getD i []).take k)/\FrR n O R i k/\Fr b a/\k'=(R.getD i []).length-k) (R.getD i []).length
   ⟨0,G,A,aB rfl,iJ _,a5,by rw[List.take_zero,vF];exact J,fr,Fb,rfl⟩ ?_
  clear ow a5 J fr Fb;rintro k' o s ⟨k,G,A,⟨g,rfl⟩,hk,ow,J,fr,t,rfl⟩
  by_cases a7:(k:Int)<((R.getD i []).length:Int)
  case neg=>
   have d2:=bH a7;have b6:(R.getD i []).length<=k:=om
   rw[Tn b6,←LV om] at J;simp(disch:=omega)only[go_sem,P s t,r.ixa,p s t,lr,d2];rw[eJ i];exact⟨n-(i+1),om,i+1,G,A,aB rfl,om,ow,J,fr.next b6 om q2,t,rfl⟩
  have d2:=bP a7;have W:k<(R.getD i []).length:=om
  obtain⟨k1,ck,sk⟩:=cr k W;have N: ∀a,Fr b a->a.cell d7 (b0+k)=some (b3.getD k V.undef):=λa f=>by rw[(q.trans f).cell k1];exact ck
  generalize b3.getD k V.undef=vx at N sk;have mx:(R.getD i []).getD k []∈R.getD i []:=bD W;obtain⟨x,hx⟩:=exI ((R.getD i []).getD k []);rw[hx] at sk mx;have lx:=sk.lens;have e5:=SV.dE sk
  by_cases q3:x.length=n
  case neg=>
   have y3:decide ((x.length:Int)≠(n:Int))=true:=bP om;simp(disch:=omega)only[go_sem,P s t,r.ixa,p s t,lr,d2,L.ixa,N s t,lx,y3];exact⟨by rw[Z λf=>q3 (f.perm i Q x mx).1],q.trans t⟩
  have y3:decide ((x.length:Int)≠(n:Int))=false:=bH om;simp(disch:=omega)only[go_sem,P s t,r.ixa,p s t,lr,d2,L.ixa,N s t,lx,y3];refine (Vs vx x _ om (sk.mono (q.trans t))).mono ?_;rintro _ h5 ⟨rfl,f5⟩;have Y:=t.trans f5
  by_cases q4:AT x=0
  case neg=>
   have y4:=bP q4;simp(disch:=omega)only[go_sem,y4];exact⟨by rw[Z λf=>q4 ((alS om om).2 (f.perm i Q x mx).2)],q.trans Y⟩
  have y4:decide (AT x≠0)=false:=bH om;have ok:=(alS om om).1 q4;have b2:=J.length
  have d8:((R.take i).flatten++(R.getD i []).take k).length<=400:=by
   have b:=tY (m:=7) (R:=R) (i:=i) om (λj hj=>by have:=fr.row j hj;omega);have l:i*7<=7*7:=Nat.mul_le_mul_right 7 om;rw[jZ,Fj];omega
  have one:=SV.cK sk;obtain⟨h6,a6,d3,f6,n6,o6⟩:=Hi (v:=vx) (ow.fr f5) Y om (bytes:=24) om;simp(disch:=omega)only[go_sem,y4,P h5 Y,r.ixa,p h5 Y,L.ixa,N h5 Y,cT _ (z:= .aE) one.1 one.2.1,a6];rw[eJ k];refine⟨(R.getD i []).length-(k+1),om,k+1,_,_,aB rfl,om,d3,?_,⟨fr.row,fr.perm,λy hy=>?_⟩,f6,rfl⟩
  ·rw[cE [] W,hx,←Ll]
   exact J.append ⟨sk.mono q,trivial⟩
  ·rw[cE [] W,hx] at hy
   rcases pH.1 hy with hy|hy
   ·exact fr.last y hy
   ·rw[List.mem_singleton.1 hy];exact⟨q3,ok⟩
 have d1:=bH b4
 obtain rfl:i=n:=om
 rw[Tn om] at J
 obtain⟨R',eR,hP⟩:=fr.nat a4
 have eF:R.flatten=R'.flatten.map zi:=by rw[eR,List.map_flatten]
 have fl:R.flatten.length<=49:=by
  have b:=tY (m:=7) (R:=R) (i:=R.length) om (λj hj=>by have:=fr.row j om;omega);have l:R.length*7<=7*7:=Nat.mul_le_mul_right 7 om;rw[Tn om] at b;omega
 have d9:R'.flatten.length<=49:=by rw[eF,jV] at fl;exact fl
 have b2:=J.length
 have d0:=cY.lens ow b2
 have d5:decide ((4096:Int)<(R.flatten.length:Int))=false:=bH om
 rw[eF] at J
 simp(disch:=omega)only[go_sem,d1,d0,d5]
 refine (afJ G i R'.flatten l K c6 om ⟨A,ow.sv,J.mono λ_ _ x=>x.mono F⟩ hP).mono ?_
 rintro _ h3 ⟨vm,O2,R2,rfl,gc,f3⟩
 obtain⟨_,⟨uO,uR,rfl,tO,tR⟩⟩:True/\WI h3 vm (i:Int) (O2.map zi) (R2.map (List.map zi)):=⟨trivial,gc.ch⟩
 obtain⟨_,_,_,c3,_⟩:=Lx tO
 obtain⟨_,_,_,d6,_⟩:=aiE tR
 obtain⟨M,hM⟩:=exI h3.next
 obtain⟨s,e4,n4,g4,o4,f4⟩:=dF hM [aC 0,.aE,.aE]
 have e6:=f3.next
 have nF:=F.next
 have Y:Fr h3 (s.set M (aZ [aC i,uO,uR])):=f4.set om _
 have g5:(s.set M (aZ [aC i,uO,uR])).get M=aZ [aC i,uO,uR]:=H.aS ..
 simp(disch:=omega)only[go_sem,hM,e4,bW s M 0 (v:= aC i) (u:=uO) (w:=uR) rfl c3 d6,g4,cF]
 generalize s.set M (aZ [aC i,uO,uR])=h5 at Y g5 ⊢
 have G5:Fr b h5:=(F.trans f3).trans Y
 obtain⟨b9,c7⟩:=gc.small
 simp(disch:=omega)only[go_sem,rB h5 G5,aI g5]
 refine (Ve _ _ (i:Int) (i:Int) O (O2.map zi) R (R2.map (List.map zi)) h5 (c5.mono (q.trans G5)) (WI.mono ⟨uO,uR,rfl,tO,tR⟩ Y) so b9 (sr.inn (λj hj x hx=>(fr.perm j om x hx).1) om) c7).mono ?_
 rintro _ h6 ⟨rfl,f6⟩
 have iff:=IX.iff (O:=O) K om hP gc.isc
 rw[←eR] at iff
 by_cases hq:(i:Int)=(i:Int)/\O=O2.map zi/\R=R2.map (List.map zi)
 ·have ed:=bP hq
  rw[ed]
  simp(disch:=omega)only[go_sem]
  refine⟨?_,q.trans (G5.trans f6)⟩
  unfold Um
  rw[bI om,bF (iff.2 hq.2)]
 ·have ed:=bH hq
  rw[ed]
  simp(disch:=omega)only[go_sem]
  refine⟨?_,q.trans (G5.trans f6)⟩
  unfold Um
  rw[bI om,bI (λc=>hq ⟨rfl,iff.1 c⟩)]
end
set_option maxRecDepth 100000
section
variable {n:Nat} {G:List Nat->Prop} {O:LN} {R:jI}
end
set_option maxRecDepth 100000
theorem afZ {i h:H}{d v:V}{a:List V}{ls:LN}{x:List Nat}{b:Nat}(o:cY h d 1 a i.next)(f:Fr i h)(z:a.length<1000000)(A:b<=i.next)(p:fW (λq=>q<b∨dO d q) h a ls)(pv:PV (λq=>q<b∨dO d q) h v x):
  ∃h2,xQ (h.new (.cells false [v])) 1 24 d (.sl h.next 0 1 (.kn 1))=some (.sl (h.next+1) 0 (a.length+1) (.un 1),h2)/\cY h2 (.sl (h.next+1) 0 (a.length+1) (.un 1)) 1 (a++ [v]) i.next/\fW (λq=>q<b∨dO (.sl (h.next+1) 0 (a.length+1) (.un 1)) q) h2 (a++ [v]) (ls++ [x])/\Fr i h2/\h2.next=h.next+2:=by
 obtain⟨h2,t,y,u,w,r⟩:=Hi (v:=v) o f z (bytes:=24) om
 have n:Fx (λq=>q<b∨dO d q) h h2:=⟨om,λq k h2=>r q k λid j m c e s=>h2 (.inr ⟨j,m,c,s▸e⟩)⟩
 have l: ∀q,q<h.next->(q<b∨dO (.sl (h.next+1) 0 (a.length+1) (.un 1)) q)->(q<b∨dO d q):=λq k h2=>by
  rcases h2 with h2|⟨_,_,_,e⟩
  ·exact .inl h2
  ·cases e;omega
 exact⟨h2,t,y,(fW.go p n l).append (fW.one (PV.go pv n l)),u,w⟩
theorem PV.ahN {h h':H}{a v:V}{d:List V}{b sz c:Nat}{x:List Nat}(o:cY h a sz d b)(f:c<=h.next)(p:PV (λq=>q<h.next) h' v x):PV (λq=>q<c∨dO a q) h' v x:=
 p.lH λq _ e=>by
  rcases e with e|⟨_,_,_,e⟩
  ·omega
  ·exact (o.in _ _ _ _ e).1
theorem fW.fr {h h':H}{W:Nat->Prop}{vs:List V}{ls:LN}(p:fW W h vs ls)(f:Fr h h'):fW W h' vs ls:=p.mono λ_ _ x=>⟨x.si.mono f,x.off⟩
theorem GC.akH {W:Nat->Prop}{h:H}{a:V}{n:Nat}{O:LN}{R:jI}{G:List Nat->Prop}(g:GC W h a n O R G):Ev T 95 [a] h (λv h'=>v= aC 0/\Fr h h'):=by
 obtain⟨b,sr⟩:=g.small;have:=ajP a (n:Int) (O.map zi) (R.map (List.map zi)) h g.ch (.inl (by have:=g.n7;omega)) b sr.out;rwa [g.chk] at this
theorem fW.agY {W:Nat->Prop}{h:H}{ws:List V}{l:LN}(p:fW W h ws l){i:Nat}(hi:i<l.length):SI h (ws.getD i V.undef) (zi (l.getD i [])):=by
 have a:=aM.length p;have:=(aM.get p i om hi).si;rwa [rN (d:=V.undef),rN (d:= []) hi] at this
theorem Zv {W W':Nat->Prop}(vc vd:V)(n:Nat)(O O':LN)(R R':jI)(G G':List Nat->Prop)(h:H)(L:GC W h vc n O R G)(gd:GC W' h vd n O' R' G'):
  Ev T 78 [vc,vd] h (λv h'=> ∃vr O2 R2,v= .tup [vr,aC 0]/\GC (λq=>q<h.next) h' vr n O2 R2 (Ad n R R')/\Fr h h'):=by
 obtain⟨vO,vR,rfl,oO,oR⟩:=L.shape
 obtain⟨uO,uR,rfl,pO,pR⟩:=gd.shape
 refine cV rJ rfl ?_
 have n0:=L.n0
 have n7:=L.n7
 have hG:=L.dN
 have b9:=gd.dN
 obtain⟨B,hB⟩:=exI h.next
 obtain⟨h1,e1,n1,g1,o1,f1⟩:=dF hB [aC n,vO,vR]
 obtain⟨h2,e2,n2,g2,o2,f2⟩:=dF n1 [aC n,uO,uR]
 obtain⟨N,e3,n3,g3,o3,f3⟩:=dF n2 [aC 0,.aE,.aE]
 have F3:=(f1.trans f2).trans f3
 have gB: ∀a,Fr N a->a.get B=aZ [aC n,vO,vR]:=λa f=>by rw[f.get B om,o3 B om,o2 B om];exact g1
 have gC: ∀a,Fr N a->a.get (B+1)=aZ [aC n,uO,uR]:=λa f=>by rw[f.get (B+1) om,o3 _ om];exact g2
 have gA: ∀a,Fr N a->a.get (B+1+1)=aZ [aC 0,.aE,.aE]:=λa f=>by rw[f.get _ om];exact g3
 have r3:=Fr.refl N
 simp(disch:=omega)only[go_sem,rJ,aD,bM h (v:= aC n) (u:=vO) (w:=vR) rfl oO oR,hB,e1,bM h1 (v:= aC n) (u:=uO) (w:=uR) rfl pO pR,n1,e2,n2,e3,aI (gB N r3),aI (gC N r3)]
 refine (QF _ _ n O O' R R' G G' N (L.mono F3) (gd.mono F3)).mono ?_
 rintro _ r ⟨rfl,f4⟩
 simp(disch:=omega)only[go_sem]
 refine aW (λhc=>(hc rfl).elim) (λ_=>?_)
 have F4:=F3.trans f4
 have fb:Fr r (H.mk r.tr (r.next+6)):=(Fr.refl r).bA om
 simp(disch:=omega)only[go_sem,aI (gB r f4),aI (gC r f4)]
 refine (xV _ n O R G h _ L (F4.trans fb)).mono ?_
 rintro P h5 ⟨wA,J,pA,f5⟩
 have a0:=fb.trans f5
 have F5:=f4.trans a0
 have ec:dE uO uO=true/\dE uR uR=true:=by
  obtain⟨_,_,_,_,e,sO,_,_,sR,_,_⟩:=gd.cw;cases e;exact⟨SV.dE sO,SV.dE sR⟩
 simp(disch:=omega)only[go_sem,aI (gC h5 F5),ec.1,ec.2]
 refine (xV _ n O' R' G' h h5 gd (F4.trans a0)).mono ?_
 rintro vb K ⟨wB,c0,pB,f6⟩
 have F6:=F5.trans f6
 have b8:=F3.trans F6
 have lA:=aM.length pA
 have lB:=aM.length pB
 have sA:=qV hG L.isc
 have sB:=qV b9 gd.isc
 have nn:n*n<=7*7:=Nat.mul_le_mul n7 n7
 obtain⟨A,hA⟩:=exI (bQ R)
 obtain⟨C,hC⟩:=exI (bQ R')
 have a6: ∀g∈A,bE n g:=λg Q=>hG.cU (bV L.isc (hA▸Q))
 have a4: ∀g∈C,bE n g:=λg Q=>b9.cU (bV gd.isc (hC▸Q))
 rw[hA] at pA lA sA
 rw[hC] at pB lB sB
 have d7: ∀a,Fr K a->SV a P 1 wA:=λa f=>J.sv.mono (f6.trans f)
 have b7: ∀a,Fr K a->SV a vb 1 wB:=λa f=>c0.sv.mono f
 have d3:bT P=some (aC (A.length:Int)):=by unfold bT;rw[SV.len J.sv (n:=A.length) om om];rfl
 have d0:bT vb=some (aC (C.length:Int)):=by unfold bT;rw[SV.len c0.sv (n:=C.length) om om];rfl
 have d6: ∀{i k},i<=A.length->k<=C.length->(IP A C i k).length<=50*49:=λ{i k} hi hk=>mT (abL hi hk) (Nat.mul_le_mul om om)
 simp(disch:=omega)only[go_sem,d3]
 obtain⟨b,hb⟩:=exI K.next
 refine bJ (λvs a=> ∃(j:V) (o:List V),(∃g:Nat->V,vs= [g 0,g 1,.ptr B 0,.ptr (B+1) 0,.ptr (B+1+1) 0,aC 0,g 6,P,vb,j,g 10,g 11,g 12,g 13,g 14,g 15,g 16,g 17,g 18,g 19,g 20,g 21])/\cY a j 1 o K.next/\fW (λq=>q<b∨dO j q) a o (NB A C)/\Fr K a) ?_ ?_
 ·refine aH (λk' l a=> ∃(i:Nat) (j:V) (o:List V),(∃g:Nat->V,l= [g 0,g 1,.ptr B 0,.ptr (B+1) 0,.ptr (B+1+1) 0,aC 0,g 6,P,vb,j,g 10,g 11,g 12,g 13,P,aC (A.length:Int),aC i,g 17,g 18,g 19,g 20,g 21])/\i<=A.length/\cY a j 1 o K.next/\fW (λq=>q<b∨dO j q) a o (IP A C i 0)/\Fr K a/\k'=A.length-i) A.length
   ⟨0,.aE, [],aB rfl,iJ _,cY.aE _ _ _,trivial,Fr.refl _,rfl⟩ ?_
  rintro k' l a ⟨i,j,o,⟨g,rfl⟩,hi,t,pv,F,rfl⟩
  by_cases b6:(i:Int)<(A.length:Int)
  case neg=>
   have d1:=bH b6;obtain rfl:i=A.length:=om
   simp(disch:=omega)only[go_sem,d1];exact⟨j,o,aB rfl,t,by rw[abO] at pv;exact pv,F⟩
  have d1:=bP b6
  have a5:i<A.length:=om
  obtain⟨c4,b1,e5,a9,b3⟩:=(d7 a F).shape A.length om om
  have cA:a.cell c4 (b1+i)=some (wA.getD i V.undef):=by rw[b3 i om,List.getD,dD om];rfl
  have KI:=fW.agY pA a5
  have P1:=a6 _ (bD (d:= []) a5)
  generalize wA.getD i V.undef=vp at cA KI
  simp(disch:=omega)only[go_sem,d1,e5.ixa,cA,d0]
  refine aH (λk' l a=> ∃(k:Nat) (j:V) (o:List V),(∃g:Nat->V,l= [g 0,g 1,.ptr B 0,.ptr (B+1) 0,.ptr (B+1+1) 0,aC 0,g 6,P,vb,j,vp,g 11,g 12,g 13,P,aC (A.length:Int),aC i,g 17,vb,aC (C.length:Int),aC k,g 21])/\k<=C.length/\cY a j 1 o K.next/\fW (λq=>q<b∨dO j q) a o (IP A C i k)/\Fr K a/\k'=C.length-k) C.length
   ⟨0,j,o,aB rfl,iJ _,t,pv,F,rfl⟩ ?_
  clear t pv F cA b3 a9
  rintro k' l Y ⟨k,j,o,⟨g,rfl⟩,hk,t,pv,F,rfl⟩
  by_cases b0:(k:Int)<(C.length:Int)
  case neg=>
   have d2:=bH b0;obtain rfl:k=C.length:=om
   simp(disch:=omega)only[go_sem,d2];rw[eJ i];exact⟨A.length-(i+1),om,i+1,j,o,aB rfl,om,t,by rw[XS A C a5] at pv;exact pv,F,rfl⟩
  have d2:=bP b0
  have a1:k<C.length:=om
  obtain⟨c5,b4,c6,e6,d9⟩:=(b7 Y F).shape C.length om om
  have cC:Y.cell c5 (b4+k)=some (wB.getD k V.undef):=by rw[d9 k om,List.getD,dD om];rfl
  have sq:=(fW.agY pB a1).mono (b8.trans F)
  have Q1:=a4 _ (bD (d:= []) a1)
  generalize wB.getD k V.undef=vq at cC sq
  simp(disch:=omega)only[go_sem,d2,c6.ixa,cC]
  have sp:=KI.mono (b8.trans F)
  refine (SG vp vq n _ _ Y n0 om P1 Q1 sp sq).mono ?_
  rintro _ e4 ⟨w,rfl,pw,Z⟩
  have ll:=d6 (i:=i) (k:=k) om om
  have l9:=aM.length pv
  obtain⟨g0,a3,e0,d8,c3,f0⟩:=afZ (x:=jE (A.getD i []) (C.getD k [])) (v:=w) (t.fr Z) (F.trans Z) om (b:=b) om (fW.fr pv Z) (PV.ahN t (by have:=F.next;omega) pw)
  have wx:=SV.cK pw.si
  simp(disch:=omega)only[go_sem,cT e4 (z:= .aE) wx.1 wx.2.1,a3]
  rw[eJ k]
  exact⟨C.length-(k+1),om,k+1,_,_,aB rfl,om,e0,by rw[QV A C a1];exact d8,c3,rfl⟩
 rintro l a ⟨j,o,⟨g,rfl⟩,t,pv,F⟩
 have l9:=aM.length pv
 rw[Uk] at l9
 have g4:A.length*C.length<=49*49:=Nat.mul_le_mul om om
 have b2:=F6.trans F
 have f7:=F3.trans b2
 have U:Fr a (H.mk a.tr (a.next+12)):=(Fr.refl a).bA om
 have f8:(H.mk r.tr (r.next+6)).next=r.next+6:=rfl
 have e7:r.next+6<=h5.next:=f5.next
 have e8:=f6.next
 have nF:=F.next
 have nb:(H.mk a.tr (a.next+12)).next=a.next+12:=rfl
 have FA:Fr h5 (H.mk a.tr (a.next+12)):=f6.trans (F.trans U)
 obtain⟨vl,s,c1,Ap⟩:=cY.app (h:=H.mk a.tr (a.next+12)) (bytes:=24) (b:=r.next) ((J.fr FA).le om) om ((b7 a F).mono U) (n:=A.length) (m:=C.length) om om om om
 have nq:=Ap.next
 have aA: ∀k,b<=k->dL P k:=λk hk f9 c7 m c e e2=>by have:=(J.in _ _ _ _ e).1;omega
 have a8:Fx (λq=>q<b) a s:=⟨om,λq h1 h2=>Ap.get q om (aA q om)⟩
 have c2:Fr r s:=Ap.fr r (a0.trans (f6.trans (F.trans U))) (fM _)
 have y:Fr N s:=f4.trans c2
 have b5:Fr h s:=F3.trans y
 have cB:okV (s.cell B 0) (aC n)=true:=by rw[H.aF (gB s y)];simp [okV,dE]
 have d4:SP s j (NB A C):=by
  refine fW.KI (W:=λq=>q<b) (SV.fx t.sv (W:=λq=>q<b) ?_ a8) (aM.mono (λ_ _ p=>PV.go p (Fx.wide a8 λq h=> .inl h) λq _ h=> .inl h) pv)
  cases j with
  |sl id c7 m c=>exact λ(e:id<b)=>by have:=(t.in _ _ _ _ rfl).2.1;omega
  |_=>trivial
 have c9:SP s vl (A++C):=fW.KI (W:=λ_=>False) Ap.own.sv (aM.append (aM.mono (λ_ _ p=>⟨p.si.mono b5,Bc _⟩) pA) (aM.mono (λ_ _ p=>⟨p.si.mono b5,Bc _⟩) pB))
 simp(disch:=omega)only[go_sem,H.aF (gB a b2),c1]
 refine⟨cB,?_⟩
 refine (Qx j vl n (NB A C) (A++C) s n0 n7 (λg Q=>?_) (λg Q=>(pH.1 Q).elim (a6 g) (a4 g)) (by rw[Uk];omega) (by rw[jZ];omega) d4 c9).mono ?_
 ·obtain⟨p,hp,q,s,rfl⟩:=GP.1 Q
  exact Rh (a6 p hp) (a4 q s)
 rintro _ hr ⟨D,rfl,hD,bd,fr⟩
 obtain⟨xO,xR,O2,R2,gD,a2⟩:=bd.ex
 obtain⟨_,d5,c8⟩:=a2.one
 have e9:=fr.next
 have a7:=y.trans fr
 obtain⟨hs,es,ns,gs,os⟩:=pJ hr (B+1+1) [aC n,xO,xR]
 simp(disch:=omega)only[go_sem,aI gD,bW hr (B+1+1) 0 (v:= aC n) (u:=xO) (w:=xR) rfl d5 c8,gA hr a7,cF,es,aI gs]
 have q3:=y.next
 refine⟨_,O2,R2,rfl,?_,⟨om,λq s=>by rw[os q om,a7.get q om];exact F3.get q s⟩⟩
 have e1:(λx=>x∈NB A C)=(λx=> ∃p,p∈A/\ ∃q,q∈C/\x=jE p q):=funext λx=>propext GP
 have e2:(λx=>x∈A++C)=(λx=>x∈A∨x∈C):=funext λx=>propext pH
 rw[e1,e2] at a2
 unfold Ad
 rw[hA,hC]
 exact a2.go ⟨om,λq h1 h2=>os q λe=>h2 (.inl om)⟩ λq _ h=> .inl om
theorem vW {W:Nat->Prop}(Y:V)(n:Nat)(O:LN)(R:jI)(G:List Nat->Prop)(h:H)(k:GC W h Y n O R G):
  Ev T 65 [Y] h (λv h'=>v= aC (kI O n 0:Nat)/\Fr h h'):=by
 obtain⟨t,vR,o,a0,rfl,L,oO,Q,sR,oR,aR⟩:=k.cw
 refine cV Dj rfl ?_
 have r:=(SV.cK L).2.1
 have q:=(SV.cK sR).2.1
 have d:=k.isc
 have n7:=k.n7
 have a1:=jH k
 have lO:=aM.length Q
 rw[d.lo] at lO
 obtain⟨B,U⟩:=exI h.next
 obtain⟨P,e1,n1,g1,o1,N⟩:=dF U [aC n,t,vR]
 have F:bT t=some (aC n):=by unfold bT;rw[SV.len L (n:=n) om om];rfl
 obtain⟨K,s,x,p,cO⟩:=SV.shape L n om om
 simp(disch:=omega)only[go_sem,Dj,aD,bM h (v:= aC n) (u:=t) (w:=vR) rfl r q,U,e1,H.aF g1,F]
 refine aH (λk' b y=> ∃(i a:Nat),(∃g:Nat->V,b= [g 0,g 1,g 2,aC a,g 4,t,aC n,aC i,g 8])/\i<=n/\a*kI O (n-i) i=kI O n 0/\y=P/\k'=n-i) n
  ⟨0,1,aB rfl,iJ _,by rw[Nat.one_mul];rfl,rfl,rfl⟩ ?_
 rintro k' b y ⟨i,a,⟨g,rfl⟩,hi,c,rfl,rfl⟩
 by_cases l:(i:Int)<(n:Int)
 case neg=>
  have z:=bH l;obtain rfl:i=n:=om
  simp(disch:=omega)only[go_sem,z];rw[Nat.sub_self] at c;have:kI O 0 i=1:=rfl;rw[this,uW] at c;exact⟨by rw[c],N⟩
 have z:=bP l
 have f:i<n:=om
 have J:=aM.get Q i om (by rw[d.lo];exact f)
 rw[show O[i]'(by rw[d.lo];exact f)=O.getD i [] from rN _] at J
 have co:y.cell K (s+i)=some (o[i]'om):=by
  rw[N.cell (p om),cO i om,dD om]
 generalize o[i]'om=vo at J co
 have A:=(J.si.mono N).lens
 rw[aQ] at A
 obtain⟨r1,r2⟩:=k.row f
 have st:kI O (n-i) i=(O.getD i []).length*kI O (n-(i+1)) (i+1):=by
  rw[show n-i=(n-(i+1))+1 by omega];rfl
 have pos:=Ln (O:=O) (n-(i+1)) (i+1) (λj P h2=>(k.row om).1)
 obtain⟨m,Z⟩:=exI ((O.getD i []).length)
 rw[st,←Nat.mul_assoc,Z] at c
 rw[Z] at A
 have bd:a*m<=kI O n 0:=by rw[←c];exact Nat.le_mul_of_pos_right _ pos
 have em:(a:Int)*(m:Int)=((a*m:Nat):Int):=rfl
 obtain⟨w,hw⟩:=exI (a*m)
 rw[hw] at em bd c
 simp(disch:=omega)only[go_sem,z,x.ixa,co,A,em]
 rw[eJ i]
 exact⟨n-(i+1),om,i+1,w,aB rfl,om,c,rfl⟩
theorem Yb {W:Nat->Prop}(c:V)(n:Nat)(O:LN)(R:jI)(G:List Nat->Prop)(h:H)(a:GC W h c n O R G):
  Ev T 74 [c] h (λv h'=>v= .tup [aC (kI O n 0:Nat),aC 0]/\Fr h h'):=by
 obtain⟨d,f,rfl,p,l⟩:=a.shape
 refine cV Aj rfl ?_
 have j:=jH a
 obtain⟨B,b⟩:=exI h.next
 obtain⟨k,o,x,m,s,i⟩:=dF b [aC n,d,f]
 simp(disch:=omega)only[go_sem,Aj,aD,bM h (v:= aC n) (u:=d) (w:=f) rfl p l,b,o,aI m]
 refine (XX _ n O R G k (a.mono i)).mono ?_
 rintro _ t ⟨rfl,q⟩
 have r:decide ((5040:Int)<((kI O n 0:Nat):Int))=false:=bH om
 simp(disch:=omega)only[go_sem,r,eq_self,decide_true]
 exact i.trans q
abbrev nE:=LN×jI
def Kf (n:Nat)(w:Bool)(c d:nE):List Nat->Prop:=Ad n d.2 (if w then c.2 else d.2)
structure uC (n:Nat)(w:Bool)(c:nE)(l:List nE):Prop where
 hd:l[0]? =some c
 st: ∀k d e,l[k]? =some d->l[k+1]? =some e->bC n (Kf n w c d) e.1 e.2/\e≠d
 en: ∀d,l[l.length- 1]? =some d->bC n (Kf n w c d) d.1 d.2
theorem uC.uniq {n:Nat}{w:Bool}{c:nE}{l m:List nE}(a:uC n w c l)(b:uC n w c m):l=m:=by
 have one: ∀{d e f:nE},bC n (Kf n w c d) e.1 e.2->bC n (Kf n w c d) f.1 f.2->e=f:=λh k=>by
  obtain⟨q,i⟩:=h.uniq k;exact Prod.ext q i
 have z:0<l.length:=by
  cases l with
  |nil=>exact absurd a.hd (by simp)
  |cons x r=>simp
 have lb:0<m.length:=by
  cases m with
  |nil=>exact absurd b.hd (by simp)
  |cons x r=>simp
 have u: ∀k,(k<l.length↔k<m.length)/\l[k]? =m[k]? :=by
  intro k
  induction k with
  |zero=>exact⟨⟨λ_=>lb,λ_=>z⟩,by rw[a.hd,b.hd]⟩
  |succ k ih=>
   obtain⟨p,o⟩:=ih
   have j: ∀{l m:List nE},uC n w c l->uC n w c m->(k<l.length↔k<m.length)->l[k]? =m[k]? ->k+1<l.length->k+1<m.length/\l[k+1]? =m[k+1]? :=λ{l m} a b p o h=>by
    have v:k<l.length:=om
    have A:=p.1 v;have s:=a.st k _ _ (dD v) (dD h);have y:m[k]? =some l[k]:=by rw[←o];exact dD v
    by_cases i:k+1<m.length
    ·have t:=b.st k _ _ y (dD i)
     exact⟨i,by rw[dD h,dD i,one s.1 t.1]⟩
    ·have t:=b.en l[k] (by rw[show m.length- 1=k by omega];exact y)
     exact absurd (one s.1 t) s.2
   by_cases h:k+1<l.length
   ·obtain⟨q,i⟩:=j a b p o h
    exact⟨⟨λ_=>q,λ_=>h⟩,i⟩
   ·have i: ¬k+1<m.length:=λi=>h (j b a p.symm o.symm i).1
    exact⟨⟨λx=>absurd x h,λx=>absurd x i⟩,by rw[List.getElem?_eq_none om,List.getElem?_eq_none om]⟩
 exact List.ext_getElem? λk=>(u k).2
theorem abY {G K:List Nat->Prop}{L M:LN}(E:dW G L)(F:dW K M)(h: ∀x,K x->G x)(j:M.length=L.length)(x:List Nat):G x↔K x:=by
 refine⟨λi=>?_,h x⟩;have d: ∀y∈M,y∈L:=λy a=>(E.mem y).2 (h y ((F.mem y).1 a))
 refine (F.mem x).1 ?_;have c:=(E.mem x).2 i;apply Jg;intro f
 have b: ∀y∈M,y∈L.erase x:=λy a=>by
  have ne:y≠x:=λe=>by subst e;exact f a
  exact (List.mem_erase_of_ne ne).2 (d y a)
 have:=List.Nodup.length_le_of_subset F.nodup b;rw[List.length_erase_of_mem c] at this;have:=HJ c;omega
section
variable {n:Nat} {w:Bool} {c d e:nE} {Gc Gd:List Nat->Prop}
structure Dx (n:Nat)(w:Bool)(Gc:List Nat->Prop)(d:nE)(Gd:List Nat->Prop):Prop where
 dN:iX n Gd
 isc:bC n Gd d.1 d.2
 le: ∀x,Gd x->Gc x
 norm:w=true-> ∀y b,Gd y->Gc b->Gd (cW y b)
theorem Dx.first (a:iX n Gc)(j:bC n Gc c.1 c.2):Dx n w Gc c Gc:=
 ⟨a,j,λ_ h=>h,λ_ y b i f=>a.mul (a.mul (a.inv f) i) f⟩
theorem Dx.nx (f:iX n Gc)(i:bC n Gc c.1 c.2)(x:Dx n w Gc d Gd):iX n (Kf n w c d)/\(∀y,Kf n w c d y->Gd y)/\(w=true-> ∀y b,Kf n w c d y->Gc b->Kf n w c d (cW y b)):=by
 unfold Kf
 cases w with
 |false=>exact⟨Ad.dN x.dN x.dN x.isc x.isc,λy a=>Ad.self x.dN x.isc a,λh=>by cases h⟩
 |true=>exact⟨Ad.dN x.dN f x.isc i,λy a=>Ad.le x.dN f x.isc i (x.norm rfl) a,λ_ y b a j=>Ad.norm x.dN f x.isc i a j⟩
theorem Dx.next (h:iX n Gc)(k:bC n Gc c.1 c.2)(x:Dx n w Gc d Gd)(a:bC n (Kf n w c d) e.1 e.2):Dx n w Gc e (Kf n w c d):=by
 obtain⟨b,f,i⟩:=x.nx h k;exact⟨b,a,λy j=>x.le y (f y j),i⟩
theorem Dx.size (p:iX n Gc)(q:bC n Gc c.1 c.2)(x:Dx n w Gc d Gd)(j:bC n (Kf n w c d) e.1 e.2):kI e.1 n 0<=kI d.1 n 0/\(kI e.1 n 0=kI d.1 n 0->e=d):=by
 obtain⟨o,l,_⟩:=x.nx p q;obtain⟨m,k⟩:=dM x.dN x.isc;obtain⟨f,i⟩:=dM o j;refine⟨?_,λh=>?_⟩
 ·rw[←k,←i]
  exact List.Nodup.length_le_of_subset f.nodup λy r=>(m.mem y).2 (l y ((f.mem y).1 r))
 ·have:=abY m f l (by rw[k,i,h])
  obtain⟨a,b⟩:=(j.congr λy=>(this y).symm).uniq x.isc;exact Prod.ext a b
structure Na (n:Nat)(w:Bool)(c:nE)(l:List nE)(d:nE):Prop where
 hd:l= []->d=c
 h0:l≠ []->l[0]? =some c
 st: ∀k d e,l[k]? =some d->l[k+1]? =some e->bC n (Kf n w c d) e.1 e.2/\e≠d
 la: ∀e,l[l.length- 1]? =some e->bC n (Kf n w c e) d.1 d.2
theorem Na.start:Na n w c [] c:=⟨λ_=>rfl,λh=>absurd rfl h,λk d e h=>by simp at h,λe h=>by simp at h⟩
theorem Na.push {l:List nE}(s:Na n w c l d)(j: ∀e,l[l.length- 1]? =some e->d≠e)(p:bC n (Kf n w c d) e.1 e.2):Na n w c (l++ [d]) e:=by
 refine⟨λh=>by simp at h,λ_=>?_,λk a b f i=>?_,λa f=>?_⟩
 ·cases l with
  |nil=>rw[s.hd rfl];rfl
  |cons x r=>have:=s.h0 (by simp);simpa using this
 ·by_cases o:k+1<l.length
  ·rw[Dv o] at i
   rw[Dv om] at f;exact s.st k a b f i
  ·have q:k+1=l.length:=by
    have:=(Ax.1 i).1;simp at this;omega
   rw[Dv om] at f;rw[q,gAR om,Nat.sub_self] at i;have i:d=b:=by simpa using i
   subst i;have m:l[l.length- 1]? =some a:=by rw[show l.length- 1=k by omega];exact f
   exact⟨s.la a m,j a m⟩
 ·have:a=d:=by
   rw[jZ,show l.length+ [d].length- 1=l.length from rfl,gAR om,Nat.sub_self] at f;simpa using f.symm
  rw[this];exact p
theorem Na.done {l:List nE}(s:Na n w c l d)(b:l≠ [])(h:l[l.length- 1]? =some d):uC n w c l:=
 ⟨s.h0 b,s.st,λe a=>by rw[h] at a;cases a;exact s.la d h⟩
end
section
variable {n:Nat} {x y z a b:List Nat}
theorem ahL (A:bE n a)(Y:bE n y)(B:bE n b):aX (aX a y) (aX (dA y) b)=aX a b:=by
 rw[aV A Y (Y.inv.mul B),←aV Y Y.inv B,fC Y,cL B]
theorem Qm (X:bE n x)(Y:bE n y)(Z:bE n z):jE (aX x y) z=aX (cW (jE x z) y) (jE y z):=by
 have A:=qG X Z;have B:=qG Y Z;rw[xX (X.mul Y) Z,Ef X Y Z,Nr X Y,xX X Z,xX Y Z];show _=aX (aX (aX (dA y) (aX (dA x) (cW x z))) y) (aX (dA y) (cW y z));rw[ahL (Y.inv.mul (X.inv.mul A)) Y B,aV Y.inv X.inv (A.mul B),aV Y.inv (X.inv.mul A) B,aV X.inv A B]
theorem zK (X:bE n x)(Y:bE n y):jE x y=aX (cW (dA y) x) y:=by
 show aX (aX (dA x) (dA y)) (aX x y)=aX (aX (aX (dA x) (dA y)) x) y;rw[aV (X.inv.mul Y.inv) X Y]
theorem Mo (X:bE n x)(Y:bE n y)(Z:bE n z):jE x (aX y z)=aX (jE x z) (cW (jE x y) z):=by
 have A:=qG Z.inv X;have B:=qG Y.inv X;rw[zK X (Y.mul Z),Nr Y Z,Ef Z.inv Y.inv X,zK X Z,zK X Y];show _=aX (aX (cW (dA z) x) z) (aX (aX (dA z) (aX (cW (dA y) x) y)) z);rw[aV Z.inv (B.mul Y) Z,ahL A Z ((B.mul Y).mul Z),aV A B (Y.mul Z),aV B Y Z]
end
section
variable {n:Nat} {G K:List Nat->Prop} {O O':LN} {R R':jI}
theorem Ad.all (j:iX n G)(o:iX n K)(c:bC n G O R)(d:bC n K O' R'){p q:List Nat}(f:G p)(r:K q):Ad n R R' (jE p q):=by
 have i:=Ad.dN j o c d;have s: ∀g∈bQ R,bE n g:=λg h=>j.cU (bV c h)
 have l: ∀g∈bQ R',bE n g:=λg h=>o.cU (bV d h)
 have st1: ∀{p},G p-> ∀k,k∈bQ R'->Ad n R R' (jE p k):=λ{p} f k m=>by
  have h:=nJ j c f;clear f
  induction h with
  |one=>rw[KJ (l k m)];exact i.one
  | @mul y g hy hg ih=>
   rw[Qm (hy.cU s) (s g hg) (l k m)];exact i.mul (NC.cj ih (.inl hg)) (NC.of ⟨g,hg,k,m,rfl⟩)
 have h:=nJ o d r;have P:=j.cU f;clear r
 induction h with
 |one=>rw[JY P];exact i.one
 | @mul y g hy hg ih=>
  rw[Mo P (hy.cU l) (l g hg)];exact i.mul (st1 f g hg) (NC.cj ih (.inr hg))
def Cq (n:Nat)(A C D:LN)(ws:List (List (Nat×Nat))):Bool:=
 D==ws.map (λw=>w.foldl (λx i=>aX x (jE (A.getD i.1 []) (C.getD i.2 []))) (bL n))&&ws.all (λw=>w.all λi=>decide (i.1<A.length/\i.2<C.length))&&decide (D.Pairwise λx y=>yU x y=true)&&D.all (λx=>x.length==n)&&D.contains (bL n)&&D.all (λx=>D.all λy=>D.contains (aX x y))&&D.all (λx=>D.contains (dA x))&&A.all (λp=>C.all λq=>D.contains (jE p q))&&D.all (λy=>A.all (λg=>D.contains (cW y g))&&C.all λg=>D.contains (cW y g))
theorem Cq.Xz (r:iX n G)(u:iX n K)(c:bC n G O R)(d:bC n K O' R'){A C D:LN}{ws:List (List (Nat×Nat))}(E:dW G A)(F:dW K C)(h:Cq n A C D ws=true):dW (Ad n R R') D:=by
 unfold Cq at h;simp only[vN,beq_iff_eq,Kv,Qf,List.contains_iff_mem] at h;obtain⟨⟨⟨⟨⟨⟨⟨⟨v,Y⟩,J⟩,s⟩,U⟩,h6⟩,L⟩,Z⟩,t⟩:=h;have o:=Ad.dN r u c d
 have sub: ∀x,x∈D->Ad n R R' x:=λx f=>by
  rw[v] at f;obtain⟨w,B,rfl⟩:=uF.1 f
  have l: ∀(w:List (Nat×Nat)) (x:List Nat),(∀i∈w,i.1<A.length/\i.2<C.length)->Ad n R R' x->Ad n R R' (w.foldl (λx i=>aX x (jE (A.getD i.1 []) (C.getD i.2 []))) x):=by
   intro w
   induction w with
   |nil=>exact λx _ h=>h
   |cons i w ih=>
    intro x hi f;have:=hi i (by simp);exact ih _ (λj P=>hi j (by simp [P])) (o.mul f (Ad.all r u c d ((E.mem _).1 (bD this.1)) ((F.mem _).1 (bD this.2))))
  exact l w _ (Y w B) o.one
 refine⟨List.Pairwise.imp_of_mem (λf k h=>(Cb (by rw[s _ f,s _ k])).1 h) J,λx=>⟨sub x,λf=>?_⟩⟩
 have W:iX n (· ∈D):=⟨λh=>o.cU (sub _ h),U,λa b=>h6 _ a _ b,λa=>L _ a⟩
 refine NC.le (H:=(· ∈D)) f W ?_ ?_
 ·rintro a ⟨p,N,q,Q,rfl⟩
  exact Z p ((E.mem _).2 (bV c N)) q ((F.mem _).2 (bV d Q))
 ·rintro y b k (m|m)
  ·exact (t y k).1 b ((E.mem _).2 (bV c m))
  ·exact (t y k).2 b ((F.mem _).2 (bV d m))
end
section
variable {n:Nat} {G K:List Nat->Prop} {O O':List (List Nat)} {R R':List (List (List Nat))} {x y g:List Nat} {c d e:nE} {l:List nE} {w:Bool}
theorem NG (X:bE n x)(B:bE n g):cW (dA x) g=dA (cW x g):=by
 have A:=qG X B;have a:=qG X.inv B;have h:aX (cW (dA x) g) (cW x g)=bL n:=by rw[←Ef X.inv X B,iE X,Ro B]
 have:=congrArg (λz=>aX z (dA (cW x g))) h;rwa [aV a A A.inv,fC A,bZ a,cL A.inv] at this
theorem alO (X:bE n x)(Y:bE n y)(B:bE n g):cW (jE x y) g=jE (cW x g) (cW y g):=by
 unfold jE;rw[Ef (X.inv.mul Y.inv) (X.mul Y) B,Ef X.inv Y.inv B,Ef X Y B,NG X B,NG Y B]
theorem amU (s:iX n G)(f:iX n K)(c:bC n K O R)(le: ∀x,K x->G x)(m: ∀y g,K y->G g->K (cW y g))(o:Ad n R R y)(i:G g):Ad n R R (cW y g):=by
 have B:=s.cU i;have r:=Ad.dN f f c c;refine (NC.le o (H:=λy=>bE n y/\Ad n R R (cW y g)) ⟨λh=>h.1,⟨bE.one n,by rw[Ro B];exact r.one⟩,λh k=>⟨h.1.mul k.1,by rw[Ef h.1 k.1 B];exact r.mul h.2 k.2⟩,λh=>⟨h.1.inv,by rw[NG h.1 B];exact r.inv h.2⟩⟩ ?_ ?_).2
 ·rintro a ⟨p,t,q,u,rfl⟩
  have P:=bV c t;have Q:=bV c u;exact⟨Rh (f.cU P) (f.cU Q),by rw[alO (f.cU P) (f.cU Q) B];exact Ad.all f f c c (m _ _ P i) (m _ _ Q i)⟩
 ·rintro y b ⟨Y,o⟩ j
  have j:K b:=j.elim (λh=>bV c h) λh=>bV c h
  have Bb:=f.cU j;exact⟨qG Y Bb,by rw[←ajN Y Bb B];exact Ad.norm f f c c o (m _ _ j i)⟩
structure aiU (n:Nat)(G:List Nat->Prop)(d:nE)(K:List Nat->Prop):Prop where
 dN:iX n K
 isc:bC n K d.1 d.2
 le: ∀x,K x->G x
 nm: ∀y g,K y->G g->K (cW y g)
theorem aiU.first (a:iX n G)(i:bC n G c.1 c.2):aiU n G c G:=⟨a,i,λ_ h=>h,λ_ _ f b=>a.mul (a.mul (a.inv b) f) b⟩
theorem aiU.nx (a:iX n G)(b:bC n G c.1 c.2)(m:aiU n G d K)(f:bC n (Kf n w c d) e.1 e.2):aiU n G e (Kf n w c d)/\ ∀x,Kf n w c d x->K x:=by
 unfold Kf at f ⊢
 cases w with
 |false=>
  have le: ∀x,Ad n d.2 d.2 x->K x:=λx h=>Ad.self m.dN m.isc h
  exact⟨⟨Ad.dN m.dN m.dN m.isc m.isc,f,λx h=>m.le x (le x h),λy g j i=>amU a m.dN m.isc m.le m.nm j i⟩,le⟩
 |true=>
  have le: ∀x,Ad n d.2 c.2 x->K x:=λx h=>Ad.le m.dN a m.isc b m.nm h
  exact⟨⟨Ad.dN m.dN a m.isc b,f,λx h=>m.le x (le x h),λy g j i=>Ad.norm m.dN a m.isc b j i⟩,le⟩
theorem akB (a:iX n G)(b:bC n G c.1 c.2)(s:uC n w c l): ∀(k:Nat) (d:nE),l[k]? =some d-> ∃K,aiU n G d K
 |0,d,hd=>by
  rw[s.hd] at hd;cases hd;exact⟨G,aiU.first a b⟩
 |k+1,d,hd=>by
  have h:=(Ax.1 hd).1;have f:=dD (show k<l.length by omega);obtain⟨K,m⟩:=akB a b s k _ f;exact⟨_,(m.nx a b (s.st k _ _ f hd).1).1⟩
theorem anK (a:iX n G)(b:bC n G c.1 c.2)(s:uC n w c l){k:Nat}(f:l[k]? =some d)(h:l[k+1]? =some e): ∃K K',aiU n G d K/\aiU n G e K'/\ ∀x,K' x->K x:=by
 obtain⟨K,m⟩:=akB a b s k d f;obtain⟨i,le⟩:=m.nx a b (s.st k _ _ f h).1;exact⟨K,_,m,i,le⟩
theorem aiU.uniq {f:List Nat->Prop}(a:aiU n G d K)(b:aiU n G d f):K=f:=
 funext λx=>propext ((Ti a.dN a.isc x).symm.trans (Ti b.dN b.isc x))
end
def NxF (n:Nat)(w:Bool)(c:nE)(h:H)(F:Nat)(caps:List V):Prop:=
 ∀(hh:H) (vd:V) (W:Nat->Prop) (d:nE) (Gd:List Nat->Prop),Fr h hh->GC W hh vd n d.1 d.2 Gd->
  Ev T F (vd::caps) hh (λv h'=> ∃(p:V×V) (e:nE),v= .agg [aC n,p.1,p.2]/\GC (λq=>q<hh.next) h' v n e.1 e.2 (Kf n w c d)/\Fr hh h')
theorem QU (n:Nat)(c:nE)(h:H):NxF n false c h 77 []:=by
 intro F vd W d A _ t;obtain⟨l,x,rfl,oO,oR⟩:=t.shape;refine cV tK rfl ?_;obtain⟨B,z⟩:=exI F.next;obtain⟨h1,e1,O,U,Y,f1⟩:=dF z [aC n,l,x];obtain⟨k,e2,n2,g2,J,f2⟩:=dF O [aC 0,.aE,.aE];have y:k.get B=aZ [aC n,l,x]:=by rw[J B om];exact U
 simp(disch:=omega)only[go_sem,tK,aD,bM F (v:= aC n) (u:=l) (w:=x) rfl oO oR,z,e1,O,e2,aI y];have F2:=f1.trans f2;refine (Zv _ _ n d.1 d.1 d.2 d.2 A A k (t.mono F2) (t.mono F2)).mono ?_;rintro _ R ⟨vr,O2,R2,rfl,L,m⟩;obtain⟨b,a,rfl,j,f⟩:=L.shape;have n3:=m.next;obtain⟨S,N⟩:=exI R.next;obtain⟨K,P,n4,Q,p,f4⟩:=dF N [aC 0,.aE,.aE];obtain⟨s,e5,n5,g5,r⟩:=pJ K S [aC n,b,a];have o:s.get (B+1)=aZ [aC 0,.aE,.aE]:=by rw[r _ om,p _ om,m.get _ om];exact g2
 obtain⟨h6,e6,n6,g6,G⟩:=pJ s (B+1) [aC n,b,a];simp(disch:=omega)only[go_sem,N,P,bW K S 0 (v:= aC n) (u:=b) (w:=a) rfl j f,Q,cF,e5,aI g5,bW s (B+1) 0 (v:= aC n) (u:=b) (w:=a) rfl j f,o,e6,aI g6];refine⟨(b,a),(O2,R2),rfl,?_,⟨om,λq hq=>by rw[G q om,r q om,p q om,m.get q om,J q om,Y q om]⟩⟩;refine L.go ⟨om,λq Z i=>?_⟩ λq _ (h:q<B)=>by show q<k.next;omega
 have i: ¬q<k.next:=i;rw[G q om,r q om,p q om]
theorem UL {W0:Nat->Prop}(n:Nat)(c:nE)(h:H)(i:Nat)(b a:V)(U:List Nat->Prop)(r:h.get i=aZ [aC n,b,a])(z:i<h.next)(g0:GC W0 h (.agg [aC n,b,a]) n c.1 c.2 U):NxF n true c h 81 [.ptr i 0]:=by
 intro N vd W d Gd A Q;obtain⟨p,J,rfl,oO,oR⟩:=Q.shape;refine cV vY rfl ?_;obtain⟨B,L⟩:=exI N.next;have nh:=A.next;obtain⟨h1,e1,R,g1,o1,f1⟩:=dF L [aC n,p,J];obtain⟨m,e2,n2,g2,Z,f2⟩:=dF R [aC 0,.aE,.aE];have K:m.get B=aZ [aC n,p,J]:=by rw[Z B om];exact g1
 have F2:=f1.trans f2;have G:m.get i=aZ [aC n,b,a]:=by rw[(A.trans F2).get i z];exact r
 simp(disch:=omega)only[go_sem,vY,aD,bM N (v:= aC n) (u:=p) (w:=J) rfl oO oR,L,e1,R,e2,aI K,aI G];refine (Zv _ _ n d.1 c.1 d.2 c.2 Gd U m (Q.mono F2) (g0.mono (A.trans F2))).mono ?_;rintro _ h3 ⟨vr,O2,R2,rfl,O,F⟩;obtain⟨f,j,rfl,o,k⟩:=O.shape;have n3:=F.next;obtain⟨S,P⟩:=exI h3.next;obtain⟨h4,e4,n4,g4,t,f4⟩:=dF P [aC 0,.aE,.aE];obtain⟨y,e5,n5,g5,x⟩:=pJ h4 S [aC n,f,j];have s:y.get (B+1)=aZ [aC 0,.aE,.aE]:=by rw[x _ om,t _ om,F.get _ om];exact g2
 obtain⟨h6,e6,n6,g6,Y⟩:=pJ y (B+1) [aC n,f,j];simp(disch:=omega)only[go_sem,P,e4,bW h4 S 0 (v:= aC n) (u:=f) (w:=j) rfl o k,g4,cF,e5,aI g5,bW y (B+1) 0 (v:= aC n) (u:=f) (w:=j) rfl o k,s,e6,aI g6];refine⟨(f,j),(O2,R2),rfl,?_,⟨om,λq hq=>by rw[Y q om,x q om,t q om,F.get q om,Z q om,o1 q om]⟩⟩;refine O.go ⟨om,λq a0 l=>?_⟩ λq _ (h:q<B)=>by show q<m.next;omega
 have l: ¬q<m.next:=l;rw[Y q om,x q om,t q om]
def Kr (n:Nat)(ls:List (V×V)):List V:=ls.flatMap λp=> [aC n,p.1,p.2]
theorem Tt (n:Nat)(a b:List (V×V)):Kr n (a++b)=Kr n a++Kr n b:=by unfold Kr;rw[List.flatMap_append]
theorem lC (n:Nat)(ls:List (V×V)):(Kr n ls).length=ls.length*3:=by
 induction ls with
 |nil=>rfl
 |cons a r ih=>
  unfold Kr at ih ⊢;rw[List.flatMap_cons,jZ,ih,List.length_cons,List.length_cons,List.length_cons,List.length_cons,List.length_nil];omega
theorem QY {n:Nat}: ∀{ls:List (V×V)} {i:Nat} (hi:i<ls.length),(Kr n ls)[i*3]? =some (aC n)/\(Kr n ls)[i*3+1]? =some ls[i].1/\(Kr n ls)[i*3+2]? =some ls[i].2
 |p::r,0,_=>⟨rfl,rfl,rfl⟩
 |p::r,i+1,hi=>by
  have:=QY (n:=n) (ls:=r) (i:=i) (by simpa using hi);have e:Kr n (p::r)= [aC n,p.1,p.2]++Kr n r:=rfl;rw[e];refine⟨?_,?_,?_⟩
  ·rw[gAR (by show 3<=(i+1)*3;omega)]
   rw[show (i+1)*3- [aC n,p.1,p.2].length=i*3 from by show (i+1)*3- 3=i*3;omega];exact this.1
  ·rw[gAR (by show 3<=(i+1)*3+1;omega)]
   rw[show (i+1)*3+1- [aC n,p.1,p.2].length=i*3+1 from by show (i+1)*3+1- 3=i*3+1;omega];exact this.2.1
  ·rw[gAR (by show 3<=(i+1)*3+2;omega)]
   rw[show (i+1)*3+2- [aC n,p.1,p.2].length=i*3+2 from by show (i+1)*3+2- 3=i*3+2;omega];exact this.2.2
def WO (C1 P id:Nat)(vl:V)(q:Nat):Prop:=q=C1∨q=P∨q=id∨dO vl q
def GD (W:Nat->Prop)(h:H)(n:Nat)(w:Bool)(Gc:List Nat->Prop)(p:V×V)(e:nE):Prop:= ∃G,GC W h (.agg [aC n,p.1,p.2]) n e.1 e.2 G/\Dx n w Gc e G
theorem GD.go {W W':Nat->Prop}{h h':H}{n:Nat}{w:Bool}{a:List Nat->Prop}{p:V×V}{e:nE}(g:GD W h n w a p e)(f:Fx W h h')(b: ∀q,q<h.next->W' q->W q):GD W' h' n w a p e:=by
 obtain⟨G,c,x⟩:=g;exact⟨G,c.go f b,x⟩
structure DeH (h0 hh:H)(C1 C2 K P id:Nat)(r:eH)(f:V)(n:Nat)(w:Bool)(Gc:List Nat->Prop)(l:List nE)(d:nE):Prop where
 ex: ∃vl ls p,hh.get P=aZ [vl]/\cY hh vl 3 (Kr n ls) 0/\(∀q,dO vl q->h0.next<=q/\q≠C1/\q≠C2/\q≠K/\q≠P/\q≠id/\q<hh.next)/\aM (GD (WO C1 P id vl) hh n w Gc) ls l/\hh.get C1=aZ [aC n,p.1,p.2]/\GD (WO C1 P id vl) hh n w Gc p d
 k:hh.get K=aZ [.fn 65 [] []]
 c2:hh.get C2=aZ [f]
 gr:hh.get id=some (.loop r)
 fr:Fr h0 hh
 nx:id<hh.next
def muS (n:Nat)(l:List nE):Nat:=match l[l.length- 1]? with|none=>6000|some e=>kI e.1 n 0
theorem YQ (n:Nat)(l:List nE)(d:nE):muS n (l++ [d])=kI d.1 n 0:=by
 unfold muS
 have:(l++ [d])[(l++ [d]).length- 1]? =some d:=by
  rw[jZ,show l.length+ [d].length- 1=l.length from rfl,gAR om,Nat.sub_self];rfl
 rw[this]
theorem DeH.at {h c:H}{k o K P id:Nat}{r:eH}{f:V}{n:Nat}{w:Bool}{a:List Nat->Prop}{l:List nE}{d:nE}(j:DeH h c k o K P id r f n w a l d){i:Nat}{e:nE}(m:l[i]? =some e): ∃W p,GD W c n w a p e:=by
 obtain⟨s,q,p,_,_,_,b,_⟩:=j.ex;obtain⟨hi,rfl⟩:=Ax.1 m;have:=aM.length b;exact⟨_,_,aM.get b i om hi⟩
theorem UR (U:H)(f y K P id:Nat)(r:eH)(F:Nat)(m:List V)(n:Nat)(w:Bool)(c:nE)(R:List Nat->Prop)(hG:iX n R)(hc:bC n R c.1 c.2)(nx:NxF n w c U F m)(B:U.next<=f)(ho:f<id/\y<id/\K<id/\P<id)(O:f≠y/\f≠K/\f≠P)(h:H)(j0:DeH U h f y K P id r (.fn F [] m) n w R [] c)(Q:H->Prop)
  (hy: ∀l d hh (p:V×V),DeH U hh f y K P id r (.fn F [] m) n w R l d->hh.get f=aZ [aC n,p.1,p.2]->Na n w c l d->Ey T id [.agg [aC n,p.1,p.2]] hh (λv h'=>v= .bool true/\DeH U h' f y K P id r (.fn F [] m) n w R (l++ [d]) d/\(∀e,l[l.length- 1]? =some e->d≠e)∨v= .bool false/\Q h')):
  Ev T 120 [.yl id,.ptr f 0,.ptr y 0] h (λ_ h'=>Q h'):=by
 refine cV tJ rfl ?_
 simp(disch:=omega)only[go_sem,tJ,aD]
 refine aH (λk' A hh=> ∃(l:List nE) (d:nE),(∃g:Nat->V,A= [.yl id,.ptr f 0,.ptr y 0,g 3])/\DeH U hh f y K P id r (.fn F [] m) n w R l d/\Na n w c l d/\k'=muS n l) 6000
  ⟨[],c,aB rfl,j0,Na.start,rfl⟩ ?_
 rintro k' A hh ⟨l,d,⟨g,rfl⟩,j,s,rfl⟩
 obtain⟨vl,ls,p,gP,ow,bl,al,Y,gd⟩:=j.ex
 simp(disch:=omega)only[go_sem,aI Y]
 refine (hy l d hh p j Y s).mono ?_
 rintro _ o (⟨rfl,t,z⟩|⟨rfl,q2⟩)
 case inr=>
  simp(disch:=omega)only[go_sem];exact q2
 obtain⟨L,a8,p2,a4,a1,N,a0,Z,a2⟩:=t.ex
 obtain⟨Gd,G,dx⟩:=a2
 obtain⟨_,b5,b4⟩:=G.one
 simp(disch:=omega)only[go_sem,H.aF t.c2,aI Z]
 refine (nx o _ _ d Gd t.fr G).mono ?_
 rintro _ h3 ⟨p3,e,rfl,J,f3⟩
 obtain⟨_,a6,b0⟩:=J.one
 have n3:=f3.next
 have b3:=t.nx
 have a7:h3.get f=aZ [aC n,p2.1,p2.2]:=by rw[f3.get f om];exact Z
 obtain⟨h4,e4,n4,g4,o4⟩:=pJ h3 f [aC n,p3.1,p3.2]
 simp(disch:=omega)only[go_sem,bW h3 f 0 (v:= aC n) (u:=p3.1) (w:=p3.2) rfl a6 b0,a7,cF,e4]
 have hE:=J.isc
 have b2:=jH G
 have a9:muS n (l++ [d])<muS n l:=by
  rw[YQ];unfold muS
  cases hl:l[l.length- 1]? with
  |none=>show kI d.1 n 0<6000;omega
  |some a=>
   obtain⟨_,_,Ga,b1,a3⟩:=j.at hl;have:=a3.size hG hc (s.la a hl);have ne:kI d.1 n 0≠kI a.1 n 0:=λh=>z a hl (this.2 h)
   show kI d.1 n 0<kI a.1 n 0;omega
 have fx:Fx (WO f P id L) o h4:=⟨om,λq B o=>by rw[o4 q λe=>o (.inl e),f3.get q B]⟩
 have W: ∀q,q<o.next->q≠f->h4.get q=o.get q:=λq B o=>by rw[o4 q o,f3.get q B]
 refine⟨_,a9,l++ [d],e,aB rfl,⟨⟨L,a8,p3,by rw[W P om (Ne.symm O.2.2)];exact a4,a1.mono om λq _ _ _ ee _ B=>W q B (N q ⟨_,_,_,ee⟩).2.1,λq hq=>by obtain⟨a,b,c,d,e,g,i⟩:=N q hq;exact⟨a,b,c,d,e,g,om⟩,aM.mono (λ_ _ x=>x.go fx λ_ _ h=>h) a0,g4,Kf n w c d,?_,dx.next hG hc hE⟩,by rw[W K om (Ne.symm O.2.1)];exact t.k,by rw[W y om (Ne.symm O.1)];exact t.c2,by rw[W id om om];exact t.gr,⟨by have:=t.fr.next;omega,λq hq=>by rw[W q (by have:=t.fr.next;omega) om];exact t.fr.get q hq⟩,om⟩,s.push z hE,rfl⟩
 have a5: ∀q,WO f P id L q->q<o.next:=λq h=>by
  rcases h with h|h|h|h
  ·omega
  ·omega
  ·omega
  ·exact (N q h).2.2.2.2.2.2
 exact J.go ⟨om,λq B o=>o4 q λe=>o (by show q<_;omega)⟩ λq _ h=>a5 q h
theorem akP {h:H}{id o:Nat}{a b c:V}(i:h.cell id o=some a)(f:h.cell id (o+1)=some b)(d:h.cell id (o+2)=some c):h.row id o 3=some [a,b,c]:=by
 unfold H.cell at i f d;unfold H.row;split at i
 ·rename_i q j e
  rw[e] at f d;have f:j[o+1]? =some b:=f;have d:j[o+2]? =some c:=d;obtain⟨n,l⟩:=Ax.1 i;obtain⟨lb,m⟩:=Ax.1 f;obtain⟨p,k⟩:=Ax.1 d;rw[e];simp only[sub];rw[bF om,AR n,AR lb,AR p,l,m,k]
  rfl
 ·cases i
theorem Lw {h:H}{v:V}{n:Nat}{ls:List (V×V)}(s:SV h v 3 (Kr n ls)){i:Nat}(hi:i<ls.length): ∃id off,Sl v 3 ls.length id off/\h.row id (off+i*3) 3=some [aC n,ls[i].1,ls[i].2]:=by
 obtain⟨id,off,c,j,a⟩:=s.shape ls.length (lC n ls) om;obtain⟨d,b,f⟩:=QY (n:=n) hi;have k:=lC n ls;refine⟨id,off,c,akP ((a (i*3) om).trans d) ?_ ?_⟩
 ·have:=(a (i*3+1) om).trans b
  rwa [←Nat.add_assoc] at this
 ·have:=(a (i*3+2) om).trans f
  rwa [←Nat.add_assoc] at this
theorem Vj (h:H){x y:V}{d:Int}(a:x.one=true)(b:y.one=true):lQ h 3 [aC 0,.aE,.aE] 1 [(0,3,.agg [aC d,x,y])]=some (.sl h.next 0 1 (.kn 1),h.new (.cells false [aC d,x,y])):=by
 have e:cX [aC 0,.aE,.aE] (1*3)= [aC 0,.aE,.aE]:=rfl;simp [lQ,iS,e,putAt,V.cells,a,b,show (aC d).one=true from rfl]
theorem DeH.short {A B:H}{u F K P id:Nat}{r:eH}{f:V}{n:Nat}{w:Bool}{c:nE}{m:List Nat->Prop}{l:List nE}{d:nE}(j:DeH A B u F K P id r f n w m l d)(q:iX n m)(v:bC n m c.1 c.2)(s:Na n w c l d):l.length<=6000:=by
 have o: ∀k e,l[k]? =some e->k+kI e.1 n 0<=5999:=by
  intro k
  induction k with
  |zero=>
   intro e a;obtain⟨_,_,_,z,_⟩:=j.at a;have:=jH z;omega
  |succ k ih=>
   intro e a;have x:k<l.length:=by have:=(Ax.1 a).1;omega
   have b:l[k]? =some l[k]:=dD x;obtain⟨_,_,J,_,i⟩:=j.at b;obtain⟨p,y⟩:=s.st k _ _ b a;have t:=i.size q v p;have G:=ih _ b;have:kI e.1 n 0≠kI l[k].1 n 0:=λh=>y (t.2 h)
   omega
 by_cases h:l.length=0
 ·omega
 ·have:=o (l.length- 1) _ (dD om)
  omega
theorem Rd {W0:Nat->Prop}(Y h:H)(y Q:Nat)(F:Nat)(A:List V)(n:Nat)(w:Bool)(c:nE)(Gc:List Nat->Prop)(vO vR:V)(f0:Fr Y h)(a:Y.next<=y)(h2:Y.next<=Q)(d0:y≠Q)(l1:y<h.next)(l2:Q<h.next)(b5:h.get y=aZ [aC n,vO,vR])(c8:h.get Q=aZ [.fn F [] A])(W:GC W0 Y (.agg [aC n,vO,vR]) n c.1 c.2 Gc)(nx:NxF n w c Y F A):
  Ev T 75 [.fn 120 [] [.ptr y 0,.ptr Q 0],.fn 65 [] []] h (λv h'=> ∃ls l,SV h' v 3 (Kr n ls)/\aM (GD (λ_=>False) h' n w Gc) ls l/\uC n w c l/\Fr Y h'):=by
 refine cV jA rfl ?_
 obtain⟨K,hK⟩:=exI h.next
 obtain⟨h3,e3,n3,g3,o3,f3⟩:=dF hK [.fn 65 [] []]
 obtain⟨Z,e4,n4,g4,o4,f4⟩:=dF n3 [.aE]
 simp(disch:=omega)only[go_sem,jA,aD,mF (x:= .fn 65 [] []) rfl rfl h,hK,e3,n3,e4]
 obtain⟨P,hP⟩:=exI (K+1)
 rw[hP] at n3 n4 g4 o4 ⊢
 obtain⟨id,a3⟩:=exI Z.next
 refine⟨rfl,uJ λr hr=>?_⟩
 rw[a3]
 have iP:r.st= .ready:=by rw[hr]
 have b8:r.pend=none:=by rw[hr]
 have oA: ∀k,k<id->(Z.new (.loop r)).get k=Z.get k:=λk hk=>H.bG Z om _
 have nA:(Z.new (.loop r)).next=id+1:=by rw[H.aU,a3]
 have fA:Fr h (Z.new (.loop r)):=(f3.trans f4).new _
 have n0:=f0.next
 have J0:DeH Y (Z.new (.loop r)) y Q K P id r (.fn F [] A) n w Gc [] c:=by
  refine⟨⟨.aE, [],(vO,vR),by rw[oA _ om];exact g4,cY.aE _ _ _,λq ⟨_,_,_,e⟩=>(by cases e),trivial,by rw[fA.get _ l1];exact b5,Gc,(W.lH λq a h2=>?_).mono (f0.trans fA),Dx.first W.dN W.isc⟩,by rw[oA _ om,o4 _ om];exact g3,by rw[fA.get _ l2];exact c8,by rw[←a3,H.aL],f0.trans fA,om⟩;rcases h2 with h|h|h|⟨_,_,_,e⟩
  ·omega
  ·omega
  ·omega
  ·cases e
 refine (UR Y y Q K P id r F A n w c Gc W.dN W.isc nx a om om _ J0 (λh'=> ∃f ls l,h'.get P=aZ [f]/\(cY h' f 3 (Kr n ls) 0/\ ∀q,dO f q->q≠id)/\aM (GD (WO y P id f) h' n w Gc) ls l/\uC n w c l/\Fr Y h'/\h'.get id=some (.loop (tX r (.exit 0)))/\id<h'.next) ?_).mono ?_
 ·intro l d B p j gp s
  obtain⟨f,ls,t,gP,ow,U,al,a1,a6⟩:=j.ex
  have c3:t=p:=by
   have:=a1.symm.trans gp;simp only[Option.some.injEq,Ob.cells.injEq,List.cons.injEq,true_and,and_true] at this;exact Prod.ext this.1 this.2
  subst c3
  have c9:=a6
  obtain⟨Gd,gc,dx⟩:=c9
  obtain⟨_,b4,b3⟩:=gc.one
  have jn:=j.nx
  have jf:=j.fr.next
  have la:=aM.length al
  have l6:=j.short W.dN W.isc s
  obtain⟨X,hX⟩:=exI B.next
  obtain⟨hA,eA,nA,gA,oA,fA⟩:=dF hX [aC 0,.aE,.aE]
  obtain⟨hB,eB,nB,gB,oB⟩:=pJ hA X [aC n,t.1,t.2]
  refine acY j.gr (by rw[hr];rfl) ?_
  rw[congrArg eH.assign hr,congrArg eH.vars hr,congrArg eH.pars hr]
  simp(disch:=omega)only[go_sem,List.zip_cons_cons,List.zip_nil_left,hX,eA,bW hA X 0 (v:= aC n) (u:=t.1) (w:=t.2) rfl b4 b3,gA,cF,eB]
  refine⟨r,by rw[oB _ om,oA _ om];exact j.gr,iP,?_⟩
  obtain⟨z,eC⟩: ∃x,hB.set id (some (.loop (pW r)))=x:=⟨_,rfl⟩
  have b7:hB.set id (some (.loop {r with st:= .busy}))=z:=eC
  rw[b7,congrArg eH.body hr]
  have nC:z.next=X+1:=by rw[←eC];show hB.next=_;omega
  have b1:z.get id=some (.loop (pW r)):=by rw[←eC,H.aS]
  have oC: ∀q,q≠id->q≠X->z.get q=B.get q:=λq a h2=>by rw[←eC,H.aG _ a,oB q h2,oA q h2]
  have a4:z.get X=aZ [aC n,t.1,t.2]:=by rw[←eC,H.aG _ om];exact gB
  have fx:Fx (WO y P id f) B z:=⟨om,λq a h2=>oC q (λe=>h2 (.inr (.inr (.inl e)))) om⟩
  rw[AD]
  refine xW (λa2 hf=>(∃g:Nat->V,a2= [g 0,g 1,g 2,g 3,.ptr P 0,.ptr X 0,g 6,g 7,g 8])/\Fr z hf/\ ∀e,l[l.length- 1]? =some e->d≠e) ?_ ?_
  ·have sv:=(ow.mono (h':=z) om λq o m R e _ a=>oC q (U q ⟨o,m,R,e⟩).2.2.2.2.2.1 om).sv
   have lv:bT f=some (aC (ls.length:Int)):=by unfold bT;rw[SV.len sv (n:=ls.length) (lC n ls) om];rfl
   have a9:z.get P=aZ [f]:=by rw[oC P om om];exact gP
   have fb:Fr z (H.mk z.tr (z.next+17)):=(Fr.refl z).bA om
   have b0:z.get K=aZ [.fn 65 [] []]:=by rw[oC K om om];exact j.k
   by_cases hl:ls.length=0
   ·have d1:decide ((ls.length:Int)>0)=false:=bH om
    have l0:l= []:=WJ om
    simp(disch:=omega)only[go_sem,H.aF a9,lv,d1]
    exact .inl ⟨aB rfl,fb,λe he=>by rw[l0] at he;cases he⟩
   ·have d1:decide ((ls.length:Int)>0)=true:=bP om
    have hi:ls.length- 1<ls.length:=om
    obtain⟨ri,ro,c5,rC⟩:=Lw sv hi
    have gl:=aM.get al (ls.length- 1) hi om
    obtain⟨Gl,a5,a7⟩:=gl
    have em:((ls.length:Nat):Int)- 1=((ls.length- 1:Nat):Int):=om
    have J:l[ls.length- 1]? =some (l[ls.length- 1]'om):=dD om
    generalize (ls[ls.length- 1]'hi)=pl at a5 rC
    generalize (l[ls.length- 1]'om)=e0 at a5 a7 J
    rw[la] at J
    have c0:=a7.size W.dN W.isc (s.la e0 J)
    simp(disch:=omega)only[go_sem,H.aF a9,lv,d1,H.aF b0,em,c5.ixa,rC,aI a4]
    refine (vW _ n e0.1 e0.2 Gl _ ((a5.go fx λ_ _ h=>h).mono fb)).mono ?_
    rintro _ h5 ⟨rfl,f5⟩
    have F5:=fb.trans f5
    have ec:dE t.1 t.1=true/\dE t.2 t.2=true:=by
     obtain⟨_,_,_,_,e,sO,_,_,sR,_,_⟩:=gc.cw;simp only[V.agg.injEq,List.cons.injEq,true_and,and_true] at e;rw[e.1,e.2];exact⟨SV.dE sO,SV.dE sR⟩
    simp(disch:=omega)only[go_sem,aI (show h5.get X=_ from (F5.get X om).trans a4),H.aF (show h5.get K=_ from (F5.get K om).trans b0),ec.1,ec.2,show dE (.fn 65 [] []) (.fn 65 [] [])=true from rfl]
    refine (vW _ n d.1 d.2 Gd _ ((gc.go fx λ_ _ h=>h).mono F5)).mono ?_
    rintro _ h6 ⟨rfl,f6⟩
    have F6:=F5.trans f6
    by_cases hs:kI e0.1 n 0=kI d.1 n 0
    ·have d2:decide (((kI e0.1 n 0:Nat):Int)=((kI d.1 n 0:Nat):Int))=true:=bP (by rw[hs])
     simp(disch:=omega)only[go_sem,d2]
     obtain⟨hz,G⟩: ∃x,h6.set id (some (.loop (tX r (.exit 0))))=x:=⟨_,rfl⟩
     have nz:hz.next=h6.next:=by rw[←G];rfl
     have n6:=F6.next
     have oz: ∀q,q≠id->q<X->hz.get q=B.get q:=λq a h2=>by rw[←G,H.aG _ a,F6.get q om,oC q a om]
     have fz:Fx (WO y P id f) B hz:=⟨om,λq a h2=>oz q (λe=>h2 (.inr (.inr (.inl e)))) om⟩
     refine .inr ⟨λe=>(by cases e),DS (by rw[F6.get id om];exact b1) ?_⟩
     rw[G]
     exact .inr ⟨rfl,f,ls,l,by rw[oz P om om];exact gP,⟨ow.mono om λq o m R e _ a=>oz q (U q ⟨o,m,R,e⟩).2.2.2.2.2.1 om,λq h=>(U q h).2.2.2.2.2.1⟩,aM.mono (λ_ _ x=>x.go fz λ_ _ h=>h) al,s.done (λe=>hl (by rw[la,e];rfl)) (by rw[J,c0.2 hs.symm]),⟨om,λq L=>by rw[oz q om om];exact j.fr.get q L⟩,by rw[←G,H.aS],om⟩
    ·have d2:decide (((kI e0.1 n 0:Nat):Int)=((kI d.1 n 0:Nat):Int))=false:=bH om
     simp(disch:=omega)only[go_sem,d2]
     exact .inl ⟨aB rfl,F6,λe he b6=>by rw[J] at he;cases he;exact hs (by rw[b6])⟩
  ·rintro a2 hf ⟨⟨g,rfl⟩,ff,b2⟩
   have nf:=ff.next
   have of: ∀q,q≠id->q<X->hf.get q=B.get q:=λq a h2=>by rw[ff.get q om,oC q a om]
   obtain⟨S,hS⟩:=exI hf.next
   obtain⟨a,e1,n1,g1,o1,f1⟩:=dF hS [aC n,t.1,t.2]
   have c7:cY a f 3 (Kr n ls) 0:=ow.mono om λq o m R e _ L=>by rw[o1 q om,of q (U q ⟨o,m,R,e⟩).2.2.2.2.2.1 om]
   have b9:SV a (.sl S 0 1 (.kn 1)) 3 [aC n,t.1,t.2]:=SV.all rfl om g1 _
   obtain⟨h2,e2,pu⟩:=c7.push (bytes:=56) b9 (n:=ls.length) (m:=1) (lC n ls) rfl om om om
   have n2:=pu.next
   obtain⟨v2,O⟩: ∃x,V.sl a.next 0 (ls.length+1) (.un 3)=x:=⟨_,rfl⟩
   have c1: ∀q,¬dO f q->dL f q:=λq h i o m R e L=>h ⟨o,m,R,by rw[L];exact e⟩
   have o2: ∀q,q≠a.next-> ¬dO f q->h2.get q=a.get q:=λq a h2=>pu.old q a (c1 q h2)
   have c6:h2.get P=aZ [f]:=by rw[o2 P om (λh=>(U P h).2.2.2.2.1 rfl),o1 P om,of P om om];exact gP
   obtain⟨h3,e3,n3,g3,o3⟩:=pJ h2 P [v2]
   have st3:Wj h2 1 (.ptr P 0) v2=some h3:=by rw[←O,OV,c6,bN (by show 0<1;omega),O];exact congrArg some e3
   rw[O] at e2
   simp(disch:=omega)only[go_sem,H.aF (show hf.get P=_ from (of P om om).trans gP),aI (show hf.get X=_ from (ff.get X om).trans a4),Vj hf b4 b3,hS,e1,e2,st3]
   obtain⟨hz,G⟩: ∃x,h3.set id (some (.loop r))=x:=⟨_,rfl⟩
   have nz:hz.next=a.next+1:=by rw[←G];show h3.next=_;omega
   have N: ∀q,q<X->(¬dO f q->q≠id->q≠P->hz.get q=B.get q):=λq a h2 h3 Z=>by
    rw[←G,H.aG _ h3,o3 q Z,o2 q om h2,o1 q om,of q h3 a]
   have a0: ¬dO f y/\ ¬dO f Q/\ ¬dO f K/\ ¬dO f id:=⟨λh=>(U y h).2.1 rfl,λh=>(U Q h).2.2.1 rfl,λh=>(U K h).2.2.2.1 rfl,λh=>(U id h).2.2.2.2.2.1 rfl⟩
   have fz:Fx (WO y P id f) B hz:=⟨om,λq a h2=>N q om (λh=>h2 (.inr (.inr (.inr h)))) (λe=>h2 (.inr (.inr (.inl e)))) (λe=>h2 (.inr (.inl e)))⟩
   have a8: ∀q,dO v2 q->q=a.next:=λq ⟨_,_,_,e⟩=>by rw[←O] at e;cases e;rfl
   have hw: ∀q,q<B.next->WO y P id v2 q->WO y P id f q:=λq a h2=>by
    rcases h2 with h|h|h|h
    ·exact .inl h
    ·exact .inr (.inl h)
    ·exact .inr (.inr (.inl h))
    ·have:=a8 q h;omega
   refine oX iP b8 (by rw[o3 id om,o2 id om a0.2.2.2,o1 id om,ff.get id om];exact b1) ?_
   rw[G]
   refine .inl ⟨rfl,⟨⟨v2,ls++ [t],t,?_,?_,?_,?_,?_,?_⟩,?_,?_,?_,?_,?_⟩,b2⟩
   ·rw[←G,H.aG _ om];exact g3
   ·rw[Tt,←O]
    refine (pu.own (b:=0) (lC n ls) rfl om).mono om λq o m R e _ L=>?_
    cases e
    rw[←G,H.aG _ om,o3 _ om]
   ·intro q L
    have:=a8 q L
    omega
   ·exact aM.append (aM.mono (λ_ _ x=>x.go fz hw) al) ⟨a6.go fz hw,trivial⟩
   ·rw[N y om a0.1 om om];exact a1
   ·exact a6.go fz hw
   ·rw[N K om a0.2.2.1 om om];exact j.k
   ·rw[N Q om a0.2.1 om om];exact j.c2
   ·rw[←G,H.aS]
   ·refine⟨om,λq L=>?_⟩
    rw[N q om (λh=>?_) om om]
    ·exact j.fr.get q L
    ·have:=(U q h).1;omega
   ·omega
 ·rintro _ B ⟨f,ls,l,gP,⟨ow,bi⟩,al,s,F,gr,nx⟩
  refine⟨_,gr,by simp [tX],?_⟩
  have en:(tX r (.exit 0)).pend.getD .norm= .exit 0:=rfl
  rw[en]
  have c4:(B.set id (some (.loop {tX r (.exit 0) with st:= .out}))).get P=aZ [f]:=by rw[H.aG _ om];exact gP
  simp(disch:=omega)only[go_sem,H.aF c4]
  have n0:=F.next
  refine⟨ls,l,?_,?_,s,⟨?_,λq L=>?_⟩⟩
  ·refine cY.sv (b:=0) ?_
   exact ow.mono (fM _) λq o m R e _ a=>H.aG _ (bi q ⟨o,m,R,e⟩) _
  ·exact aM.mono (λ_ _ x=>x.go ⟨fM _,λq a h2=>H.aG _ (λe=>h2 (.inr (.inr (.inl e)))) _⟩ λ_ _ h=>h.elim) al
  ·exact n0
  ·rw[H.aG _ (by have:=f0.next;omega)]
   exact F.get q L
section
variable {W:Nat->Prop} {n:Nat} {w:Bool}
theorem Pc (h:H){a b c:V}(f:V)(k:a.one=true)(A:b.one=true)(o:c.one=true)(t:f.one=true)(d:f.cells= [f]):
  Ev T 76 [.agg [a,b,c],f] h (λv h'=>v= .fn 120 [] [.ptr h.next 0,.ptr (h.next+1) 0]/\h'.get h.next=aZ [a,b,c]/\h'.get (h.next+1)=aZ [f]/\h'.next=h.next+2/\Fr h h'):=by
 refine cV wM rfl ?_
 obtain⟨B,i⟩:=exI h.next
 obtain⟨l,q,j,p,G,F⟩:=dF i [a,b,c]
 obtain⟨J,s,z,r,m,y⟩:=dF j [f]
 simp(disch:=omega)only[go_sem,wM,aD,bM h (v:=a) (u:=b) (w:=c) k A o,i,q,mF (x:=f) d t l,j,s]
 exact⟨by rw[m B om];exact p,r,z,F.trans y⟩
def ahB (n:Nat)(w:Bool)(c:nE)(G:List Nat->Prop)(h:H)(v:V)(h':H):Prop:= ∃vl ls l,v= .tup [vl,aC 0]/\SV h' vl 3 (Kr n ls)/\aM (GD (λ_=>False) h' n w G) ls l/\uC n w c l/\Fr h h'
theorem Eu (p:V)(n:Nat)(O:LN)(R:jI)(G:List Nat->Prop)(h:H)(f:GC W h p n O R G):
  Ev T 18 [p] h (ahB n false (O,R) G h):=by
 obtain⟨b,d,rfl,r,o⟩:=f.shape
 refine cV wI rfl ?_
 obtain⟨B,m⟩:=exI h.next
 obtain⟨t,A,Z,q,U,k⟩:=dF m [aC n,b,d]
 simp(disch:=omega)only[go_sem,wI,aD,bM h (v:= aC n) (u:=b) (w:=d) rfl r o,m,A,aI q]
 refine (Yb _ n O R G t (f.mono k)).mono ?_
 rintro _ a ⟨rfl,j⟩
 have i:a.get B=aZ [aC n,b,d]:=by rw[j.get B om];exact q
 have N:decide ((0:Int)≠0)=false:=rfl
 simp(disch:=omega)only[go_sem,N,aI i]
 refine (Pc a (.fn 77 [] []) rfl r o rfl rfl).mono ?_
 rintro _ y ⟨rfl,x,P,Y,J⟩
 simp(disch:=omega)only[go_sem]
 refine (Rd (c:=(O,R)) a y a.next (a.next+1) 77 [] n false G b d J (fM _) om om om om x P (f.mono (k.trans j)) (QU n (O,R) a)).mono ?_
 rintro L Q ⟨F,l,sv,z,s,K⟩
 simp(disch:=omega)only[go_sem]
 exact⟨L,F,l,rfl,sv,z,s,(k.trans j).trans K⟩
theorem Nq (o:V)(n:Nat)(O:LN)(R:jI)(G:List Nat->Prop)(h:H)(j:GC W h o n O R G):
  Ev T 20 [o] h (ahB n true (O,R) G h):=by
 obtain⟨b,f,rfl,q,r⟩:=j.shape
 refine cV Av rfl ?_
 obtain⟨B,m⟩:=exI h.next
 obtain⟨t,L,Z,p,Q,k⟩:=dF m [aC n,b,f]
 simp(disch:=omega)only[go_sem,Av,aD,bM h (v:= aC n) (u:=b) (w:=f) rfl q r,m,L,aI p]
 refine (Yb _ n O R G t (j.mono k)).mono ?_
 rintro _ a ⟨rfl,d⟩
 have n2:=d.next
 have i:a.get B=aZ [aC n,b,f]:=by rw[d.get B om];exact p
 have F:decide ((0:Int)≠0)=false:=rfl
 simp(disch:=omega)only[go_sem,F,aI i]
 refine (Pc a (.fn 81 [] [.ptr B 0]) rfl q r rfl rfl).mono ?_
 rintro _ x ⟨rfl,J,P,Y,y⟩
 simp(disch:=omega)only[go_sem]
 refine (Rd (c:=(O,R)) a x a.next (a.next+1) 81 [.ptr B 0] n true G b f y (fM _) om om om om J P (j.mono (k.trans d)) (UL n (O,R) a B b f G i om (j.mono (k.trans d)))).mono ?_
 rintro A U ⟨N,l,sv,K,s,z⟩
 simp(disch:=omega)only[go_sem]
 exact⟨A,N,l,rfl,sv,K,s,(k.trans d).trans z⟩
def ajS (n:Nat)(l:List nE):Bool:=match l[l.length- 1]? with|none=>false|some e=>decide (kI e.1 n 0=1)
theorem uC.pos {c:nE}{l:List nE}(s:uC n w c l):0<l.length:=by
 have:=(Ax.1 s.hd).1;omega
theorem uC.short {h:H}{c:nE}{f:List Nat->Prop}{ls:List (V×V)}{l:List nE}(s:uC n w c l)(o:iX n f)(q:bC n f c.1 c.2)(al:aM (GD W h n w f) ls l):l.length<=6000:=by
 have x:=aM.length al
 have i: ∀k e,l[k]? =some e->k+kI e.1 n 0<=5999:=by
  intro k
  induction k with
  |zero=>
   intro e b;obtain⟨a,rfl⟩:=Ax.1 b;obtain⟨_,t,_⟩:=aM.get al 0 om a;have:=jH t;omega
  |succ k ih=>
   intro e b;have a:k<l.length:=by have:=(Ax.1 b).1;omega
   have j:l[k]? =some l[k]:=dD a;obtain⟨v,_,d⟩:=aM.get al k om a;obtain⟨m,r⟩:=s.st k _ _ j b;have p:=d.size o q m;have u:=ih _ j;have:kI e.1 n 0≠kI l[k].1 n 0:=λh=>r (p.2 h)
   omega
 by_cases h:l.length=0
 ·omega
 ·have:=i (l.length- 1) _ (dD om)
  omega
theorem alG {c:nE}{G:List Nat->Prop}{ls:List (V×V)}{l:List nE}(i:V)(h:H)(sv:SV h i 3 (Kr n ls))(al:aM (GD W h n w G) ls l)(s:uC n w c l)(m:iX n G)(o:bC n G c.1 c.2):
  Ev T 82 [i,aC 0] h (λr h'=>r= .tup [.bool (ajS n l),aC 0]/\Fr h h'):=by
 refine cV FF rfl ?_
 have x:=aM.length al
 have y:=s.pos
 have t:bT i=some (aC (ls.length:Int)):=by unfold bT;rw[SV.len sv (n:=ls.length) (lC n ls) om];rfl
 have hi:ls.length- 1<ls.length:=om
 obtain⟨B,F,j,k⟩:=Lw sv hi
 obtain⟨u,a,f⟩:=aM.get al (ls.length- 1) hi om
 have b:l[ls.length- 1]? =some (l[ls.length- 1]'om):=dD om
 generalize (ls[ls.length- 1]'hi)=pl at a k
 generalize (l[ls.length- 1]'om)=d at a f b
 have p:((ls.length:Nat):Int)- 1=((ls.length- 1:Nat):Int):=om
 have z:=s.short m o al
 have v:decide ((0:Int)≠0)=false:=rfl
 simp(disch:=omega)only[go_sem,FF,aD,v,t,p,j.ixa,k]
 refine (vW _ n d.1 d.2 u _ a).mono ?_
 rintro _ A ⟨rfl,q⟩
 simp(disch:=omega)only[go_sem]
 refine⟨?_,q⟩
 rw[x] at b
 unfold ajS
 rw[b]
 rw[show decide (((kI d.1 n 0:Nat):Int)=1)=decide (kI d.1 n 0=1) from by
  by_cases e:kI d.1 n 0=1
  ·rw[bP e,bP om]
  ·rw[bH e,bH om]]
theorem aiX (c:V)(n:Nat)(O:LN)(R:jI)(G:List Nat->Prop)(h:H)(a:GC W h c n O R G):
  Ev T 22 [c] h (λv h'=> ∃l,uC n false (O,R) l/\v= .tup [.bool (ajS n l),aC 0]/\Fr h h'):=by
 obtain⟨d,f,rfl,q,k⟩:=a.shape
 refine cV sM rfl ?_
 obtain⟨B,b⟩:=exI h.next
 obtain⟨j,p,J,o,A,i⟩:=dF b [aC n,d,f]
 simp(disch:=omega)only[go_sem,sM,aD,bM h (v:= aC n) (u:=d) (w:=f) rfl q k,b,p,aI o]
 refine (Eu _ n O R G j (a.mono i)).mono ?_
 rintro _ r ⟨x,F,l,rfl,sv,m,s,y⟩
 simp(disch:=omega)only[go_sem]
 refine (alG x r sv m s a.dN a.isc).mono ?_
 rintro _ z ⟨rfl,t⟩
 simp(disch:=omega)only[go_sem]
 exact⟨l,s,rfl,(i.trans y).trans t⟩
theorem PS (c:V)(n:Nat)(O:LN)(R:jI)(G:List Nat->Prop)(h:H)(a:GC W h c n O R G):
  Ev T 24 [c] h (λv h'=> ∃l,uC n true (O,R) l/\v= .tup [.bool (ajS n l),aC 0]/\Fr h h'):=by
 obtain⟨d,f,rfl,q,k⟩:=a.shape
 refine cV sL rfl ?_
 obtain⟨B,b⟩:=exI h.next
 obtain⟨j,p,J,o,A,i⟩:=dF b [aC n,d,f]
 simp(disch:=omega)only[go_sem,sL,aD,bM h (v:= aC n) (u:=d) (w:=f) rfl q k,b,p,aI o]
 refine (Nq _ n O R G j (a.mono i)).mono ?_
 rintro _ r ⟨x,F,l,rfl,sv,m,s,y⟩
 simp(disch:=omega)only[go_sem]
 refine (alG x r sv m s a.dN a.isc).mono ?_
 rintro _ z ⟨rfl,t⟩
 simp(disch:=omega)only[go_sem]
 exact⟨l,s,rfl,(i.trans y).trans t⟩
end
set_option maxRecDepth 100000
theorem dbl {n:Nat}{G K:List Nat->Prop}{L M:LN}(c:iX n G)(k:iX n K)(E:dW G L)(F:dW K M)(h: ∀y,G y->K y){x:List Nat}(j:K x)(nx: ¬G x):2*L.length<=M.length:=by
 have X:=k.cU j
 have nd:(L++L.map (aX x)).Nodup:=by
  refine List.nodup_append.2 ⟨E.nodup,?_,λa f b i e=>?_⟩
  ·refine List.pairwise_map.2 (List.Pairwise.imp_of_mem (λ{a b} f i ne e=>ne ?_) E.nodup)
   exact zN (c.cU ((E.mem a).1 f)) (c.cU ((E.mem b).1 i)) X e
  ·obtain⟨y,d,rfl⟩:=uF.1 i
   have Y:=(E.mem y).1 d;have A:=(E.mem a).1 f;rw[e] at A;have:=c.mul A (c.inv Y);rw[aV X (c.cU Y) (c.cU Y).inv,fC (c.cU Y),bZ X] at this;exact nx this
 have:=List.Nodup.length_le_of_subset nd (l₂:=M) λy d=>(F.mem y).2 (by
  rcases pH.1 d with d|d
  ·exact h y ((E.mem y).1 d)
  ·obtain⟨z,l,rfl⟩:=uF.1 d
   exact k.mul j (h z ((E.mem z).1 l)))
 rw[jZ,jV] at this;omega
theorem aoP {h:H}{v:V}{x:List Nat}{b:Nat}(s:SI h v (zi x))(f: ∀id off len cap,v= .sl id off len cap->b<=id):PV (λq=>q<b) h v x:=by
 refine⟨s,?_⟩
 cases v with
 |sl id off len cap=>exact λ(e:id<b)=>by have:=f id off len cap rfl;omega
 |_=>trivial
theorem ajY {n:Nat}{G:List Nat->Prop}{O:LN}{R:jI}(b:iX n G)(c:bC n G O R)(x:List Nat):bX n (· ∈R.flatten) x↔G x:=by
 constructor
 ·exact λh=>bX.le b (λg a=>Ji c g a) h
 ·intro h
  refine bX.mono (λg a=>?_) (nJ b c h);unfold bQ at a;obtain⟨r,d,f⟩:=List.mem_flatMap.1 a;exact List.mem_flatten.2 ⟨r,d,List.mem_of_mem_drop f⟩
theorem alL {W:Nat->Prop}{h:H}{c:V}{n:Nat}{O:LN}{R:jI}{G:List Nat->Prop}(a:GC W h c n O R G):R.flatten.length<=49:=by
 have l:=a.isc.lr;have b:=a.n7
 have f: ∀i,i<n->(R.getD i []).length<=n:=λi hi=>by
  rw[a.isc.rl i hi];have:=uQ (λx j=>a.dN.cU j) hi (a.isc.asc i hi) (a.isc.mem i hi);omega
 have d: ∀i,i<=n->((R.take i).flatten).length<=i*n:=λi hi=>by
  induction i with
  |zero=>simp
  |succ i ih=>
   have k:=f i om;rw[cE [] om,List.flatten_append,jZ,Nat.succ_mul];have:=ih om;simp only[List.flatten_cons,List.flatten_nil,vF];omega
 have:=d n (fM _);rw[Tn om] at this;exact mT this (Nat.mul_le_mul b b)
set_option maxHeartbeats 32000000
theorem ajQ {W:Nat->Prop}(k:V)(n:Nat)(O:List (List Nat))(R:List (List (List Nat)))(G:List Nat->Prop)(h:H)(a:GC W h k n O R G)(L:n<=5):
  Ev T 35 [k,.int .i64 (n:Int)] h (λv h'=> ∃A,dW G A/\A.length<=120/\SP h' v A/\Fr h h'):=by
 obtain⟨f,i,rfl,c,b⟩:=a.shape
 refine cV sP rfl ?_
 obtain⟨B,j⟩: ∃B,h.next=B:=⟨_,rfl⟩
 obtain⟨Q,J,Z,d,U,o⟩:=dF j [.int .i64 (n:Int),f,i]
 have t:decide ((0:Int)≠0)=false:=rfl
 have F:decide ((n:Int)≠(n:Int))=false:=decide_eq_false λh=>h rfl
 simp(disch:=omega)only[go_sem,sP,aD,bM h (v:= .int .i64 (n:Int)) (u:=f) (w:=i) rfl c b,j,J,H.aF d,F,Ag,aI d]
 refine ((a.mono o).akH).mono ?_
 rintro _ m ⟨rfl,l⟩
 have r:m.get B=some (.cells false [.int .i64 (n:Int),f,i]):=by rw[l.get _ om];exact d
 have F2:=o.trans l
 simp(disch:=omega)only[go_sem,t,Ag,aI r]
 refine (akI _ n O R G m (a.mono F2)).mono ?_
 rintro N q ⟨sp,y⟩
 have z:=alL a
 simp(disch:=omega)only[go_sem]
 refine (ajJ n N R.flatten q a.n0 L (λg s=>a.dN.cU (Ji a.isc g s)) om sp).mono ?_
 rintro v Y ⟨A,E,K,p,P⟩
 simp(disch:=omega)only[go_sem]
 exact⟨A,⟨E.asc,λx=>(E.mem x).trans (ajY a.dN a.isc x)⟩,K,p,F2.trans (y.trans P)⟩
theorem akM (L N:V)(n:Nat)(A S:List (List Nat))(K:List Nat->Prop)(h:H)(n5:n<=5)(hK:iX n K)(E:dW K A)(lA:A.length<=1000)(lS:S.length<=1000)(sA:SP h L A)(sS:SP h N S)(hS: ∀g∈S,bE n g)(hn: ∀x,K x-> ∀g∈S,K (cW x g)):
  Ev T 36 [L,N] h (λv h'=>v= .bool true/\Fr h h'):=by
 refine cV Df rfl ?_
 obtain⟨la,ea,a0,r,wa,G,ca⟩:=akV sA
 obtain⟨lg,eg,U,z,wg,l,cg⟩:=akV sS
 simp(disch:=omega)only[go_sem,Df,aD]
 refine aH (λt a hh=> ∃(i:Nat),(∃g:Nat->V,a= [L,N,g 2,.int .i64 (i:Int),g 4,g 5,g 6,g 7])/\i<=A.length/\Fr h hh/\t=A.length-i) A.length
  ⟨0,aB rfl,iJ _,Fr.refl _,rfl⟩ ?_
 rintro t a hh ⟨i,⟨g,rfl⟩,hi,F,rfl⟩
 by_cases B:(i:Int)<(A.length:Int)
 case neg=>
  have d1:decide ((i:Int)<(A.length:Int))=false:=decide_eq_false B;simp(disch:=omega)only[go_sem,la,d1];exact F
 have d1:decide ((i:Int)<(A.length:Int))=true:=decide_eq_true B
 have u:i<A.length:=om
 simp(disch:=omega)only[go_sem,la,d1]
 refine aH (λt a c=> ∃(k:Nat),(∃g:Nat->V,a= [L,N,g 2,.int .i64 (i:Int),.int .i64 (k:Int),g 5,g 6,g 7])/\k<=S.length/\Fr h c/\t=S.length-k) S.length
  ⟨0,aB rfl,iJ _,F,rfl⟩ ?_
 rintro t a c ⟨k,⟨g,rfl⟩,hk,F2,rfl⟩
 by_cases w:(k:Int)<(S.length:Int)
 case neg=>
  have R:decide ((k:Int)<(S.length:Int))=false:=decide_eq_false w;simp(disch:=omega)only[go_sem,lg,R];rw[show (i:Int)+1=((i+1:Nat):Int) from om];exact⟨A.length-(i+1),om,i+1,aB rfl,om,F2,rfl⟩
 have R:decide ((k:Int)<(S.length:Int))=true:=decide_eq_true w
 have o:k<S.length:=om
 obtain⟨b1,c1,s1⟩:=ca i u
 obtain⟨b2,c2,P⟩:=cg k o
 have kx:K (A.getD i []):=(E.mem _).1 (bD u)
 have X:=hK.cU kx
 have Y:=hS (S.getD k []) (bD o)
 have kc:=hn _ kx (S.getD k []) (bD o)
 generalize A.getD i []=x at*
 generalize S.getD k []=y at*
 generalize wa.getD i V.undef=vx at*
 generalize wg.getD k V.undef=vy at*
 have J: ∀b,Fr c b->b.cell a0 (r+i)=some vx:=λb f=>by rw[(F2.trans f).cell b1];exact c1
 have p: ∀b,Fr c b->b.cell U (z+k)=some vy:=λb f=>by rw[(F2.trans f).cell b2];exact c2
 have ex:=SV.dE s1
 have ey:=SV.dE P
 have fb:Fr c (H.mk c.tr (c.next+18)):=(Fr.refl c).bA om
 simp(disch:=omega)only[go_sem,lg,R,l.ixa,G.ixa,J c (Fr.refl _),p c (Fr.refl _)]
 refine (YV vy n y _ om Y (P.mono (F2.trans fb))).mono ?_
 rintro Q b s
 have f3:=s.fr
 have d:=fb.trans f3
 simp(disch:=omega)only[go_sem,G.ixa,l.ixa,J b d,p b d,ex,ey]
 refine (Lj Q vx (dA y) x b (by rw[Y.inv.len];omega) (AM.pv (W:=λ_=>False) s id).si (s1.mono (F2.trans d)) (λj hj=>by rw[X.len];exact Y.inv.iN (by rw[←Y.inv.len];exact hj))).mono ?_
 rintro a2 h4 ⟨a1,f4,_⟩
 have m:=d.trans f4
 simp(disch:=omega)only[go_sem,l.ixa,p h4 m,ey]
 have O:=Y.inv.mul X
 refine (Lj a2 vy (aX (dA y) x) y h4 (by rw[O.len];omega) a1 (P.mono (F2.trans m)) (λj hj=>by rw[Y.len];exact O.iN (by rw[←O.len];exact hj))).mono ?_
 rintro Z h5 ⟨a3,f5,_⟩
 have q:=m.trans f5
 simp(disch:=omega)only[go_sem]
 refine (anI L Z n A (aX (aX (dA y) x) y) h5 om om (λg hg=>hK.cU ((E.mem g).1 hg)) (O.mul Y) E.asc (sA.mono (F2.trans q)) a3).mono ?_
 rintro _ h6 ⟨hx,f6⟩
 have mx:aX (aX (dA y) x) y∈A:=(E.mem _).2 kc
 rcases hx with ⟨j,rfl,_,_⟩|⟨h,_⟩
 ·have d3:decide ((j:Int)<0)=false:=decide_eq_false om
  simp(disch:=omega)only[go_sem,d3]
  rw[show (k:Int)+1=((k+1:Nat):Int) from om]
  exact⟨S.length-(k+1),om,k+1,aB rfl,om,F2.trans (q.trans f6),rfl⟩
 ·exact absurd mx h
theorem Me (u:V)(a:List Nat)(h:H)(W:a.length<=1000)(G: ∀x∈a,x<256)(y:SI h u (zi a)):
  Ev T 99 [u] h (λv h'=>v= .str a/\Fr h h'):=by
 refine cV Db rfl ?_
 obtain⟨n,s⟩:=exI a.length
 have B:=y.lens
 rw[aQ,s] at B
 obtain⟨id,off,P,o,L⟩:=y.open
 rw[aQ,s] at P o L
 simp(disch:=omega)only[go_sem,Db,aD,B,Qp h n om]
 have m:Fr h (h.new (.cells false (rc n λ_=> .int .u8 0))):=(Fr.refl h).new _
 have d:(h.new (.cells false (rc n λ_=> .int .u8 0))).get h.next=some (.cells false (rc n λ_=> .int .u8 0)):=H.aL ..
 have f:(h.new (.cells false (rc n λ_=> .int .u8 0))).next=h.next+1:=H.aU ..
 generalize h.new (.cells false (rc n λ_=> .int .u8 0))=U at*
 obtain⟨S,N⟩:=exI h.next
 rw[N] at d f
 rw[N]
 refine aH (λA b t=> ∃(i:Nat),(∃j:Nat->V,b= [u,j 1,.sl S 0 n (.kn n),j 3,j 4,u,aC n,aC i,j 8])/\i<=n/\
   t.get S=some (.cells false (rc n λj=>if j<i then .int .u8 ((a.getD j 0:Nat):Int) else .int .u8 0))/\t.next=S+1/\Fr h t/\A=n-i) n
  ⟨0,aB rfl,iJ _,by rw[d];rfl,f,m,rfl⟩ ?_
 clear d m f
 rintro A b p ⟨i,⟨Y,rfl⟩,hi,K,R,F,rfl⟩
 simp(disch:=omega)only[go_sem]
 by_cases l:(i:Int)<(n:Int)
 ·rw[bP l]
  have c:i<n:=om
  have ci:p.cell id (off+i)=some (aC (a.getD i 0:Nat)):=by rw[F.cell (o om),L i c];congr 2;simp [zi,s,c]
  have r:=G (a.getD i 0) (bD om)
  generalize Q:a.getD i 0=k at ci r
  have J:=bN (vs:=rc n λj=>if j<i then .int .u8 ((a.getD j 0:Nat):Int) else .int .u8 0) (off:=i) (by rw[kH];exact c) p S (.int .u8 (k:Int))
  rw[mS] at J
  simp(disch:=omega)only[go_sem,P.ixa,ci,K,yH,J]
  rw[eJ i]
  refine⟨n-(i+1),om,i+1,aB rfl,om,?_,R,F.set om _,rfl⟩
  congr 2
  refine dB λj z=>?_
  by_cases e:j=i
  ·rw[bF e,bF om,e,Q]
  ·rw[bI e]
   by_cases O:j<i
   ·rw[bF O,bF om]
   ·rw[bI O,bI om]
 rw[bH l]
 obtain rfl:i=n:=om
 have q:p.row S 0 i=some (a.map λ(x:Nat)=>V.int .u8 (x:Int)):=by
  have e:(rc i λj=>if j<i then V.int .u8 ((a.getD j 0:Nat):Int) else .int .u8 0)=a.map λ(x:Nat)=>V.int .u8 (x:Int):=Kq (by rw[jV,s]) λj z=>by
   rw[bF z,Ol,dD om,List.getD,dD om];rfl
  unfold H.row;rw[K,e];simp only[sub];rw[bF (by rw[jV];omega)];rw[List.drop_zero,Tn (by rw[jV];omega)]
 have w:JA p (.sl S 0 i (.kn i))=some (.str a):=by
  show (match p.row S 0 i with|some ys=>(qH ys).map V.str|none=>none)=_;rw[q];show (qH (a.map λ(x:Nat)=>V.int .u8 (x:Int))).map V.str=_;rw[Ee a G];rfl
 simp(disch:=omega)only[go_sem,GH,w]
 exact F
structure WM (n:Nat)(O:LN)(R:jI)(G:List Nat->Prop)(L:LN)(K:List Nat)(h:H)(p:Nat):Prop where
 ex: ∃vO vR M vr,h.get p=some (.cells false [aC n,vO,vR,.mp M,vr])/\h.get M=some (.wmap .str (Ie L L.length))/\GC (λ_=>False) h (.agg [aC n,vO,vR]) n O R G/\SP h vr (K.map λr=>L.getD r [])/\M<h.next
 hL:cZ O R n 0 (bL n)=L
 isK:Cm n G L K
 nx:p<h.next
theorem WM.mono {n:Nat}{O:LN}{R:jI}{G:List Nat->Prop}{L:LN}{K:List Nat}{h h':H}{p:Nat}(l:WM n O R G L K h p)(f:Fr h h'):WM n O R G L K h' p:=by
 obtain⟨d,j,M,c,g,b,i,sp,a⟩:=l.ex;have nx:=l.nx;exact⟨⟨d,j,M,c,by rw[f.get p nx];exact g,by rw[f.get M a];exact b,i.mono f,sp.mono f,iW a f.next⟩,l.hL,l.isK,iW nx f.next⟩
theorem aaR {a b c m:V}(f:a.one=true)(h:b.one=true)(i:c.one=true)(j:m.cells= [m])(d:m.one=true):rO [aC 0,.aE,.aE,.nilm,.aE] [(0,3,.agg [a,b,c]),(3,1,m)]=some (.agg [a,b,c,m,.aE]):=by
 simp [rO,iS,putAt,f,h,i,j,d,show (V.agg [a,b,c]).cells= [a,b,c] from rfl]
theorem YK {a b:V}(c:a.one=true)(d:b.one=true)(n:Int)(M:Nat)(h:H):Cv h (.agg [aC n,a,b,.mp M,.aE])=some (.ptr h.next 0,h.new (.cells false [aC n,a,b,.mp M,.aE])):=tL h _ (by simp [c,d,show (aC n).one=true from rfl,show (V.mp M).one=true from rfl,show V.aE.one=true from rfl])
theorem SI.zC {h h':H}{v:V}{l:List Int}{q:Nat}{n:Int}{a b m x y:V}(s:SI h v l)(K:l≠ [])(g:h.get q=aZ [aC n,a,b,m,x])(g':h'.get q=aZ [aC n,a,b,m,y])(B: ∀z,a≠ aC z)(F: ∀z,b≠ aC z)(G: ∀z,m≠ aC z)(nx: ∀z,x≠ aC z)(f:Fx (· =q) h h'):SI h' v l:=by
 rcases s with s|⟨id,off,len,i,N,L,j,A,u,w,o,d⟩
 ·exact .inl s
 ·by_cases e:id=q
  ·subst e
   rw[g] at w;cases w
   cases l with
   |nil=>exact absurd rfl K
   |cons z r=>
    have p: ∀(c:V) (t:List V),(∀z,c≠ aC z)->c::t≠ints (z::r):=λc t J e=>J z (List.cons.inj e).1
    match off,len,j,o,d with
    |off,0,_,_,d=>simp [ints] at d
    |0,1,j,o,d=>exact .inr ⟨id,0,1,i,false,_,j,A,iW u f.next,g',o,d⟩
    |0,k+2,_,_,d=>
     exfalso
     cases r with
     |nil=>
      have:=congrArg List.length d;simp [ints] at this
      try omega
     |cons z2 r2=>
      have:=congrArg (λl:List V=>l[1]?) d;simp [ints] at this;exact B z2 this
    |1,k+1,_,_,d=>exact absurd d (by simpa using p a _ B)
    |2,k+1,_,_,d=>exact absurd d (by simpa using p b _ F)
    |3,k+1,_,_,d=>exact absurd d (by simpa using p m _ G)
    |4,k+1,_,_,d=>exact absurd d (by simpa using p x _ nx)
    |off+5,k+1,_,_,d=>simp [ints] at d
  ·exact .inr ⟨id,off,len,i,N,L,j,A,iW u f.next,by rw[f.get id u e];exact w,o,d⟩
theorem FX {W0:Nat->Prop}(vc:V)(n:Nat)(O:LN)(R:jI)(G:List Nat->Prop)(h:H)(gc:GC W0 h vc n O R G):
  Ev T 46 [vc] h (λv h'=> ∃p L K,v= .tup [.ptr p 0,aC 0]/\WM n O R G L K h' p/\Fr h h'):=by
 obtain⟨y,s,rfl,a3,a0⟩:=gc.shape
 refine cV rZ rfl ?_
 obtain⟨A,hA⟩:=exI h.next
 obtain⟨J,e1,n1,g1,o1,f1⟩:=dF hA [aC n,y,s]
 have bx:=bM h (v:= aC n) (u:=y) (w:=s) rfl a3 a0
 have rB:=aI g1
 obtain⟨L,hL⟩:=exI (cZ O R n 0 (bL n))
 obtain⟨E,ll⟩:=dM gc.dN gc.isc
 have g2:=jH gc
 rw[hL] at E ll
 have hG:=gc.dN
 have n7:=gc.n7
 have n0:=gc.n0
 simp(disch:=omega)only[go_sem,rZ,aD,bx,hA,e1,rB]
 refine (Wc _ n O R G J (gc.mono f1)).mono ?_
 rw[hL]
 rintro _ j ⟨vL,rfl,nw⟩
 obtain⟨wL,W,c9,c7,g0,W1⟩:=nw.ex
 have c4:=aM.length c7
 obtain⟨m,hm⟩:=exI L.length
 rw[hm] at c4
 have d9:=cY.lens c9 c4
 have f2:=nw.fr
 have d3:j.row A 0 3=some [aC n,y,s]:=aI (by rw[f2.get A om];exact g1)
 simp(disch:=omega)only[go_sem]
 refine aW (λhc=>(hc rfl).elim) (λ_=>?_)
 obtain⟨X,hX⟩:=exI j.next
 simp(disch:=omega)only[go_sem,d3,d9,hX,aaR (a:= aC n) (b:=y) (c:=s) (m:= .mp (X+3)) rfl a3 a0 rfl rfl,YK a3 a0]
 obtain⟨h3,Y⟩: ∃h3:H,h3=H.mk ((H.mk ((H.mk j.tr (X+3)).new (Ob.wmap Cy.str [])).tr (X+5)).new (Ob.cells false [aC n,y,s,.mp (X+3),.aE])).tr (X+7):=⟨_,rfl⟩
 rw[←Y]
 have n3:h3.next=X+7:=by rw[Y]
 have gB:h3.get (X+5)=aZ [aC n,y,s,.mp (X+3),.aE]:=by rw[Y];exact H.aL (H.mk _ (X+5)) _
 have gM:h3.get (X+3)=some (.wmap .str (Ie L 0)):=by
  rw[Y];exact (H.bG (H.mk _ (X+5)) (show X+3≠X+5 by omega) _).trans (H.aL (H.mk _ (X+3)) _)
 have f3:Fr j h3:=⟨om,λq hq=>by
  rw[Y]
  exact (H.bG (H.mk _ (X+5)) (show q≠X+5 by omega) _).trans (H.bG (H.mk _ (X+3)) (show q≠X+3 by omega) _)⟩
 clear Y
 have N: ∀i,i<m->(L.getD i []).length<=1000/\ ∀x∈L.getD i [],x<256:=λi hi=>by
  have P:=lY hG E (show i<L.length by omega);exact⟨by rw[P.len];omega,λx hx=>by have:=P.lt x hx;omega⟩
 obtain⟨d6,d2,f6,c3,d8⟩:=SV.shape c9.sv m om om
 have f9: ∀i,i<m-> ∃vx,(∀h',Fr j h'->h'.cell d6 (d2+i)=some vx)/\SI j vx (zi (L.getD i [])):=λi hi=>by
  obtain⟨v,J,f0⟩:=fW.at c7 (i:=i) om;exact⟨v,λh' f=>by rw[f.cell (c3 om),d8 i om,J],f0.si⟩
 have hK: ∀i,i<m->isKey .str (.str (L.getD i []))=true:=λi hi=>xY (N i hi).1 (N i hi).2
 refine bJ (λvs B=>(∃g:Nat->V,vs= [g 0,.ptr A 0,.nilp,aC 0,vL,g 5,.ptr (X+5) 0,g 7,g 8,g 9,g 10,g 11,g 12,g 13,g 14,g 15,g 16,g 17,g 18,g 19])/\B.get (X+3)=some (.wmap .str (Ie L m))/\Fx (· =X+3) h3 B) ?_ ?_
 ·refine aH (λk' vs B=> ∃(i:Nat),(∃g:Nat->V,vs= [g 0,.ptr A 0,.nilp,aC 0,vL,g 5,.ptr (X+5) 0,g 7,g 8,g 9,g 10,g 11,vL,aC m,aC i,g 15,g 16,g 17,g 18,g 19])/\i<=m/\B.get (X+3)=some (.wmap .str (Ie L i))/\Fx (· =X+3) h3 B/\k'=m-i) m
   ⟨0,aB rfl,iJ _,gM,Fx.refl _ h3,rfl⟩ ?_
  rintro k' b4 h4 ⟨i,⟨g,rfl⟩,hi,a9,F4,rfl⟩
  by_cases a5:(i:Int)<(m:Int)
  case neg=>
   have d4:=bH a5;obtain rfl:i=m:=om
   simp(disch:=omega)only[go_sem,d4];exact⟨aB rfl,a9,F4⟩
  have d4:=bP a5
  have l:i<m:=om
  have b0:Fr j h4:=⟨by have:=F4.next;omega,λq hq=>by rw[F4.get q om om];exact f3.get q hq⟩
  have b5:h4.get (X+5)=aZ [aC n,y,s,.mp (X+3),.aE]:=by rw[F4.get _ om om];exact gB
  obtain⟨vx,cx,sx⟩:=f9 i l
  have d0:h4.cell (X+5) 3=some (.mp (X+3)):=by rw[H.aF b5];rfl
  simp(disch:=omega)only[go_sem,d4,f6.ixa,cx h4 b0,d0]
  refine (Me vx (L.getD i []) _ (N i l).1 (N i l).2 (sx.mono (b0.trans ((Fr.refl h4).bA om)))).mono ?_
  rintro _ F ⟨rfl,f5⟩
  have a7:Fr h4 F:=((Fr.refl h4).bA om).trans f5
  have n4:=F4.next
  have b8:F.get (X+3)=some (.wmap .str (Ie L i)):=by rw[a7.get _ om];exact a9
  have e6:F.cell (X+5) 3=some (.mp (X+3)):=by rw[a7.cell om];exact d0
  have pt:=λB=>Xx E.nodup (show i<L.length by omega) (hK i l) B (X+3)
  simp(disch:=omega)only[go_sem,e6,b8,pt]
  rw[eJ i]
  refine⟨by simp [dE],m-(i+1),om,i+1,aB rfl,om,rfl,⟨by have:=a7.next;show h3.next<=F.next;omega,λq J j=>by rw[H.aG _ (λe=>j e),a7.get q om];exact F4.get q J j⟩,rfl⟩
 rintro b4 h4 ⟨⟨g,rfl⟩,a9,F4⟩
 have n4:=F4.next
 have b0:Fr j h4:=⟨om,λq hq=>by rw[F4.get q om om];exact f3.get q hq⟩
 have b5:h4.get (X+5)=aZ [aC n,y,s,.mp (X+3),.aE]:=by rw[F4.get _ om om];exact gB
 have b7:=f2.trans b0
 have rA:=aI (h:=h4) (id:=A) (ro:=false) (by rw[b7.get _ om];exact g1)
 simp(disch:=omega)only[go_sem,rA]
 refine (PY _ n O R G h4 (gc.mono (f1.trans b7)) L hL).mono ?_
 rintro _ F ⟨vl,K,ks,rfl,ik,sl,al,f5⟩
 have lk:=aM.length al
 have kl:K.length<=5040:=mT (List.Nodup.length_le_of_subset ik.nd (l₂:=List.range L.length) λx hx=>Gu.2 (ik.lt hx)) (by rw[NM];omega)
 have e9:bT vl=some (aC (K.length:Int)):=by unfold bT;rw[SV.len sl (n:=K.length) (by rw[sU,lk]) om];rfl
 have n5:=f5.next
 have c0:F.get (X+5)=aZ [aC n,y,s,.mp (X+3),.aE]:=by rw[f5.get _ om];exact b5
 obtain⟨b3,UY,e3,c6,a6⟩:=SV.shape sl K.length (by rw[sU,lk]) om
 have b2:=b7.trans f5
 obtain⟨nO,nR⟩:(∀k z,y≠ .int k z)/\ ∀k z,s≠ .int k z:=by
  obtain⟨_,_,_,_,ev,sO,_,_,sR,_,_⟩:=gc.cw;simp only[V.agg.injEq,List.cons.injEq,true_and,and_true] at ev;rw[←ev.1] at sO;rw[←ev.2] at sR;refine⟨λk z e=>?_,λk z e=>?_⟩
  ·rw[e] at sO
   rcases sO with ⟨h|⟨_,h⟩,_⟩|⟨_,_,_,_,_,_,h,_⟩<;>cases h
  ·rw[e] at sR
   rcases sR with ⟨h|⟨_,h⟩,_⟩|⟨_,_,_,_,_,_,h,_⟩<;>cases h
 simp(disch:=omega)only[go_sem,e9]
 refine aH (λk' vs B=> ∃(i:Nat) (vr:V) (wr:List V),(∃g:Nat->V,vs= [g 0,g 1,g 2,aC 0,g 4,g 5,.ptr (X+5) 0,g 7,g 8,g 9,g 10,g 11,g 12,g 13,g 14,g 15,vl,aC (K.length:Int),aC i,g 19])/\i<=K.length/\B.get (X+5)=aZ [aC n,y,s,.mp (X+3),vr]/\cY B vr 1 wr F.next/\aM (λv r=>SI F v (zi (L.getD r []))) wr (K.take i)/\Fx (· =X+5) F B/\k'=K.length-i) K.length
  ⟨0,.aE, [],aB rfl,iJ _,c0,cY.aE _ _ _,trivial,Fx.refl _ F,rfl⟩ ?_
 rintro k' b4 h6 ⟨i,vr,wr,⟨g,rfl⟩,hi,b1,ow,aw,F6,rfl⟩
 have n6:=F6.next
 by_cases a5:(i:Int)<(K.length:Int)
 case neg=>
  have d4:=bH a5;obtain rfl:i=K.length:=om
  have f4:Fr h h6:=⟨by have:=f1.next;have:=b2.next;omega,λq hq=>by rw[F6.get q (by have:=b2.next;omega) (by have:=f2.next;omega),b2.get q om];exact f1.get q hq⟩
  have e0: ∀q,q<F.next->q≠X+5->h6.get q=F.get q:=λq J j=>F6.get q J j
  simp(disch:=omega)only[go_sem,d4];rw[List.take_length] at aw;have b8:F.get (X+3)=some (.wmap .str (Ie L L.length)):=by rw[f5.get _ om,a9,hm]
  have Lp: ∀r∈K,zi (L.getD r [])≠ []:=λr hr e=>by
   have P:=lY hG E (ik.lt hr);have:=congrArg List.length e;rw[aQ,P.len] at this;exact absurd this (by show n≠0;omega)
  have d7:SP h6 vr (K.map λr=>L.getD r []):=by
   refine fW.KI (W:=λ_=>False) ow.sv (aM.mQ (by rw[jV];exact aM.length aw) λt J j=>?_);rw[jV] at j;rw[List.getElem_map];exact⟨SI.zC (aM.get aw t J j) (Lp _ (zG _)) c0 b1 (nO _) (nR _) (λ_ e=>(by cases e)) (λ_ e=>(by cases e)) F6,Bc _⟩
  have e5:GC (λ_=>False) h6 (.agg [aC n,y,s]) n O R G:=by
   refine (((gc.mono f1).lH (W':=λq=>q=X+5) λq hq h=>?_).mono b2).go (W':=λ_=>False) (h':=h6) F6 λq _ h=>h.elim
   have:=f2.next;omega
  exact⟨X+5,L,K,rfl,⟨⟨y,s,X+3,vr,b1,by rw[e0 _ om om];exact b8,e5,d7,om⟩,hL,ik,om⟩,f4⟩
 have d4:=bP a5
 have l:i<K.length:=om
 have b6:i<ks.length:=om
 have e4:b3≠X+5:=λe=>by
  obtain⟨_,c1,_⟩:=Ye b6;have Z:=a6 (i*3+1) (by rw[sU];omega);rw[c1,e,H.aF c0] at Z
  match ho:UY+(i*3+1),Z with
  |0,_=>omega
  |1,Z=>exact nO _ _ (Option.some.inj Z)
  |2,Z=>exact nR _ _ (Option.some.inj Z)
  |3,Z=>cases Z
  |4,Z=>cases Z
  |k+5,Z=>cases Z
 obtain⟨q1,q2,q3⟩:=Ye b6
 have r5:F.row b3 (UY+i*3) 3=some [ks[i].rep,aC (ks[i].ord:Int),aC (ks[i].size:Int)]:=by
  have ll:=sU ks;refine akP ((a6 (i*3) om).trans q1) ?_ ?_
  ·have:=(a6 (i*3+1) om).trans q2
   rwa [←Nat.add_assoc] at this
  ·have:=(a6 (i*3+2) om).trans q3
   rwa [←Nat.add_assoc] at this
 have r6:h6.row b3 (UY+i*3) 3=some [ks[i].rep,aC (ks[i].ord:Int),aC (ks[i].size:Int)]:=by
  rw[←r5];unfold H.row;rw[F6.get b3 (c6 om) e4]
 have kr:=(aM.get al i b6 l).rep
 have Q:=ks[i].hrep
 generalize ks[i].rep=rp at r6 kr Q
 generalize ((ks[i].ord:Nat):Int)=a1 at r6
 generalize ((ks[i].size:Nat):Int)=a2 at r6
 obtain⟨D,hD⟩:=exI h6.next
 obtain⟨h7,e7,g3,g7,o7,f7⟩:=dF hD [.aE,aC 0,aC 0]
 obtain⟨U,e8,n8,g8,o8⟩:=pJ h7 D [rp,aC a1,aC a2]
 have f8:U.get (X+5)=aZ [aC n,y,s,.mp (X+3),vr]:=by rw[o8 _ om,o7 _ om];exact b1
 simp(disch:=omega)only[go_sem,d4,e3.ixa,r6,hD,e7,bW h7 D 0 (v:=rp) (u:= aC a1) (w:= aC a2) Q.2.1 rfl rfl,g7,cF,e8,H.aF f8,H.aF g8,cT (H.mk U.tr (U.next+7)) (z:= .aE) Q.1 Q.2.1]
 obtain⟨h9,a4⟩: ∃h9:H,h9=H.mk ((H.mk U.tr (U.next+7)).new (Ob.cells false [rp])).tr (U.next+12):=⟨_,rfl⟩
 rw[←a4]
 have g9:h9.get (U.next+7)=aZ [rp]:=by rw[a4];exact H.aL (H.mk U.tr (U.next+7)) _
 have n9:h9.next=U.next+12:=by rw[a4]
 have o9: ∀k,k≠U.next+7->h9.get k=U.get k:=λk hk=>by rw[a4];exact H.bG (H.mk U.tr (U.next+7)) hk _
 clear a4
 have b9: ∀k,k<h6.next->h9.get k=h6.get k:=λk hk=>by rw[o9 k om,o8 k om,o7 k om]
 have lw:=aM.length aw
 rw[Fj,Nat.min_eq_left om] at lw
 obtain⟨c8,d5,a8⟩:=(ow.mono (h':=h9) om λq o m c e _ J=>b9 q J).push (bytes:=24) (SV.one om g9 (.kn 1)) (n:=i) (m:=1) om rfl om om om
 have g4:=a8.next
 have c5: ∀k,k<F.next->dL vr k:=λk hk id o m c e e2=>by have:=(ow.in _ _ _ _ e).2.1;omega
 have d1:c8.get (X+5)=aZ [aC n,y,s,.mp (X+3),vr]:=by rw[a8.old _ om (c5 _ om),b9 _ om];exact b1
 have pt: ∀(B:H) (x:V),dX (aZ [aC n,y,s,.mp (X+3),vr]) B (X+5) 4 [x]=some (B.set (X+5) (aZ [aC n,y,s,.mp (X+3),x])):=λB x=>bN (by simp) B _ x
 simp(disch:=omega)only[go_sem,d5,d1,pt]
 rw[eJ i]
 refine⟨K.length-(i+1),om,i+1,_,_,aB rfl,om,rfl,(a8.own om rfl om).mono (fM _) λq o m c e _ J=>H.aG _ (by cases e;omega) _,?_,⟨by show F.next<=c8.next;omega,λq J j=>?_⟩,rfl⟩
 ·rw[cE 0 l]
  exact aM.append aw ⟨by rw[←rN (d:=0) l];exact kr,trivial⟩
 ·rw[H.aG _ j,a8.old q om (c5 q J),b9 q om]
  exact F6.get q J j
section
variable {a b c d:V}
structure Rk (L:LN)(Gd:List Nat->Prop)(r:List Nat):Prop where
 asc:r.Pairwise (· < ·)
 mem: ∀i,i∈r↔i<L.length/\Gd (L.getD i [])
theorem kL (h:H)(id off:Nat)(f:a.one=true)(i:b.one=true)(j:c.one=true)(k:d.one=true):Wj h 4 (.ptr id off) (.agg [a,b,c,d])=dX (h.get id) h id off [a,b,c,d]:=Cd h id off 4 _ rfl (by simp [f,i,j,k])
theorem jS {x y z t:V}(h:H)(id:Nat):dX (some (.cells false [x,y,z,t])) h id 0 [a,b,c,d]=some (h.set id (some (.cells false [a,b,c,d]))):=by
 simp [dX,putAt]
theorem gU {h:H}{id:Nat}{ro:Bool}(f:h.get id=some (.cells ro [a,b,c,d])):h.row id 0 4=some [a,b,c,d]:=by
 simp [H.row,f,sub]
theorem acC (f:a.one=true)(h:b.one=true)(i:c.one=true):rO [aC 0,.aE,.aE,.aE] [(0,3,.agg [a,b,c])]=some (.agg [a,b,c,.aE]):=by
 simp [rO,iS,putAt,f,h,i,show (V.agg [a,b,c]).cells= [a,b,c] from rfl]
theorem ahH {G n:List Nat->Prop}{L l:LN}(u:dW G L)(E:dW n l)(le: ∀x,n x->G x){f:List Int}(p:f.Perm (zi (l.map λx=>L.idxOf x)))(s:f.Pairwise (· <= ·)): ∃r,f=zi r/\Rk L n r:=by
 have j: ∀x∈l,x∈L:=λx m=>(u.mem x).2 (le x ((E.mem x).1 m))
 have e:zi (f.map Int.toNat)=f:=by
  unfold zi;rw[List.map_map];refine (Vy λz y=>?_).trans (List.map_id _);have:=p.mem_iff.1 y;unfold zi at this;obtain⟨k,_,rfl⟩:=uF.1 this
  rfl
 have nd:(l.map λx=>L.idxOf x).Nodup:=by
  refine List.pairwise_map.2 (List.Pairwise.imp_of_mem (λ{a b} v F ne e=>ne ?_) E.nodup);have w:=List.getElem_idxOf (List.idxOf_lt_length_of_mem (j a v));have B:=List.getElem_idxOf (List.idxOf_lt_length_of_mem (j b F));rw[←w,←B];congr 1
 have t:(f.map Int.toNat).Perm (l.map λx=>L.idxOf x):=by
  have:=p.map Int.toNat;refine this.trans (List.Perm.of_eq ?_);unfold zi;rw[List.map_map];exact (Vy λz _=>rfl).trans (List.map_id _)
 refine⟨_,e.symm,?_,λi=>?_⟩
 ·have o:=t.nodup_iff.2 nd
  have A:(f.map Int.toNat).Pairwise (· <= ·):=List.pairwise_map.2 (s.imp λh=>Int.toNat_le_toNat h);exact (List.pairwise_and_iff.2 ⟨A,o⟩).imp λh=>Nat.lt_of_le_of_ne h.1 h.2
 ·rw[t.mem_iff,uF]
  constructor
  ·rintro⟨x,m,rfl⟩
   have q:=List.idxOf_lt_length_of_mem (j x m);refine⟨q,?_⟩;rw[List.getD,dD q,Option.getD_some,List.getElem_idxOf q];exact (E.mem x).1 m
  ·rintro⟨hi,hg⟩
   refine⟨_,(E.mem _).2 hg,?_⟩;rw[List.getD,dD hi,Option.getD_some];exact u.nodup.idxOf_getElem i hi
theorem UC {W:Nat->Prop}(T0:Nat)(vd:V)(n:Nat)(O O':LN)(R R':jI)(G Gd:List Nat->Prop)(L:LN)(K:List Nat)(h:H)(zC:WM n O R G L K h T0)(gd:GC W h vd n O' R' Gd)(le: ∀x,Gd x->G x):
  Ev T 102 [.ptr T0 0,vd] h (λv h'=> ∃vO vR vr r,vd= .agg [aC n,vO,vR]/\v= .agg [aC n,vO,vR,vr]/\SI h' vr (zi r)/\Rk L Gd r/\Mq (λq=>q<h.next) vr/\Fr h h'):=by
 obtain⟨vO,vR,rfl,F,B⟩:=gd.shape
 obtain⟨lO,lR,M,lr,gT,gM,gc,_,nM⟩:=zC.ex
 refine cV sE rfl ?_
 obtain⟨E0,d9⟩:=dM gc.dN gc.isc
 rw[zC.hL] at E0
 obtain⟨E,ll⟩:=dM gd.dN gd.isc
 have e3:=jH gd
 have n7:=gd.n7
 obtain⟨J,b1⟩:=exI (cZ O' R' n 0 (bL n))
 rw[b1] at E ll
 have nT:=zC.nx
 obtain⟨A,hA⟩:=exI h.next
 obtain⟨h1,e1,n1,g1,o1,f1⟩:=dF hA [aC n,vO,vR]
 obtain⟨h2,e2,n2,g2,o2,f2⟩:=dF n1 [aC 0,.aE,.aE,.aE]
 have F2:=f1.trans f2
 have b9:h2.get A=some (.cells false [aC n,vO,vR]):=by rw[o2 A om];exact g1
 simp(disch:=omega)only[go_sem,sE,aD,bM h (v:= aC n) (u:=vO) (w:=vR) rfl F B,hA,e1,n1,e2,aI b9]
 refine (Wc _ n O' R' Gd h2 (gd.mono F2)).mono ?_
 rw[b1]
 rintro _ h3 ⟨vL,rfl,nw⟩
 obtain⟨wL,W,b5,b4,e0,W1⟩:=nw.ex
 have b2:=aM.length b4
 have c9:=cY.lens b5 b2
 have f3:=nw.fr
 have n3:=f3.next
 have d0:h3.get A=some (.cells false [aC n,vO,vR]):=by rw[f3.get A om];exact b9
 obtain⟨D,hD⟩:=exI h3.next
 obtain⟨h4,e4,n4,g4,o4,f4⟩:=dF hD [aC 0,.aE,.aE,.aE]
 obtain⟨Z,e5,n5,g5,o5⟩:=pJ h4 D [aC n,vO,vR,.aE]
 simp(disch:=omega)only[go_sem,aI d0,acC (a:= aC n) (b:=vO) (c:=vR) rfl F B,hD,e4,kL h4 D 0 (a:= aC n) (b:=vO) (c:=vR) (d:= .aE) rfl F B rfl,g4,jS,e5,c9]
 obtain⟨m,hm⟩:=exI J.length
 rw[hm] at b2
 have a6:Fr h3 Z:=⟨om,λq hq=>by rw[o5 q om,o4 q om]⟩
 obtain⟨c4,b8,d7,b0,c7⟩:=SV.shape b5.sv m om om
 have d8: ∀i,i<m-> ∃vx,(∀h',Fr h3 h'->h'.cell c4 (b8+i)=some vx)/\SI h3 vx (zi (J.getD i [])):=λi hi=>by
  obtain⟨v,h1,d3⟩:=fW.at b4 (i:=i) om;exact⟨v,λh' f=>by rw[f.cell (b0 om),c7 i om,h1],d3.si⟩
 have y: ∀i,i<m->(J.getD i []).length<=1000/\ ∀x∈J.getD i [],x<256:=λi hi=>by
  have P:=lY gd.dN E (show i<J.length by omega);exact⟨by rw[P.len];omega,λx hx=>by have:=P.lt x hx;omega⟩
 have c6: ∀x∈J,x∈L:=λx hx=>(E0.mem x).2 (le x ((E.mem x).1 hx))
 have a5:Fr h h3:=F2.trans f3
 obtain⟨Y,a0⟩: ∃Y:Nat->List Int,Y=λi=>zi ((J.take i).map λx=>L.idxOf x):=⟨_,rfl⟩
 have rl: ∀i,i<=m->(Y i).length=i:=λi hi=>by rw[a0];simp [aQ];omega
 refine bJ (λvs s=> ∃S,(∃g:Nat->V,vs= [g 0,g 1,g 2,.ptr (A+1) 0,g 4,.ptr D 0,g 6,g 7,g 8,g 9,g 10])/\s.get D=some (.cells false [aC n,vO,vR,.sl S 0 m (.un 1)])/\s.get S=some (.cells false (ints (Y m)))/\S<s.next/\Z.next<=S/\Fx (· =D) Z s) ?_ ?_
 ·refine aH (λk' vs s=> ∃(i:Nat) (vr:V),(∃g:Nat->V,vs= [.ptr T0 0,g 1,g 2,.ptr (A+1) 0,g 4,.ptr D 0,g 6,vL,aC m,aC i,g 10])/\i<=m/\s.get D=some (.cells false [aC n,vO,vR,vr])/\cY s vr 1 (ints (Y i)) Z.next/\(0<i-> ∃S,vr= .sl S 0 i (.un 1)/\s.get S=some (.cells false (ints (Y i)))/\S<s.next/\Z.next<=S)/\Fx (· =D) Z s/\k'=m-i) m
   ⟨0,.aE,by rw[hm];exact aB rfl,iJ _,g5,by rw[a0];exact cY.aE _ _ _,λh=>absurd h om,Fx.refl _ Z,rfl⟩ ?_
  rintro k' b7 l ⟨i,vr,⟨g,rfl⟩,hi,t,ow,hS,F6,rfl⟩
  have n6:=F6.next
  by_cases b6:(i:Int)<(m:Int)
  case neg=>
   have d4:=bH b6;obtain rfl:i=m:=om
   have mp:0<i:=by
    have:=HJ ((E.mem _).2 gd.dN.one);omega
   obtain⟨S,rfl,gS,s1,s2⟩:=hS mp;simp(disch:=omega)only[go_sem,d4];exact⟨S,aB rfl,t,gS,s1,s2,F6⟩
  have d4:=bP b6
  have N:i<m:=om
  have a3:Fr h3 l:=⟨om,λq hq=>by rw[F6.get q om om];exact a6.get q hq⟩
  have a7:Fr h l:=a5.trans a3
  obtain⟨vx,cx,sx⟩:=d8 i N
  have a8:l.get T0=some (.cells false [aC n,lO,lR,.mp M,lr]):=by rw[a7.get T0 nT];exact gT
  have c8:dE vr vr=true:=ow.sv.dE
  obtain⟨j,hj⟩:=exI (L.idxOf (J.getD i []))
  have xL:J.getD i []∈L:=c6 _ (bD om)
  have jl:j<L.length:=hj▸List.idxOf_lt_length_of_mem xL
  have lj:L.getD j []=J.getD i []:=by
   rw[List.getD,dD jl,Option.getD_some];subst hj;exact List.getElem_idxOf _
  have c3:isKey .str (.str (J.getD i []))=true:=xY (y i N).1 (y i N).2
  have lk:=λz=>Np E0.nodup jl (by rw[lj];exact c3) z
  rw[lj] at lk
  have fb:Fr l (H.mk l.tr (l.next+13)):=(Fr.refl l).bA om
  simp(disch:=omega)only[go_sem,d4,d7.ixa,cx l a3,H.aF t,H.aF a8]
  refine (Me vx (J.getD i []) _ (y i N).1 (y i N).2 (sx.mono (a3.trans fb))).mono ?_
  rintro _ p ⟨rfl,f7⟩
  have a1:=fb.trans f7
  have d6:l.next+13<=p.next:=f7.next
  have a4:p.get D=some (.cells false [aC n,vO,vR,vr]):=by rw[a1.get D om];exact t
  have d1:p.get T0=some (.cells false [aC n,lO,lR,.mp M,lr]):=by rw[a1.get T0 (by have:=a7.next;omega)];exact a8
  have d5:p.get M=some (.wmap .str (Ie L L.length)):=by rw[(a7.trans a1).get M nM];exact gM
  simp(disch:=omega)only[go_sem,H.aF a4,H.aF d1,c8,d5,lk,show dE (.mp M) (.mp M)=true from by simp [dE],cT (H.mk p.tr (l.next+9)) (z:= aC 0) (v:= aC j) rfl rfl]
  obtain⟨h8,U⟩: ∃h8:H,h8=H.mk ((H.mk p.tr (l.next+9)).new (Ob.cells false [aC j])).tr p.next:=⟨_,rfl⟩
  rw[←U]
  have g8:h8.get (l.next+9)=some (.cells false [aC j]):=by rw[U];exact H.aL (H.mk p.tr (l.next+9)) _
  have n8:h8.next=p.next:=by rw[U]
  have o8: ∀k,k≠l.next+9->h8.get k=p.get k:=λk hk=>by rw[U];exact H.bG (H.mk p.tr (l.next+9)) hk _
  clear U
  have a2: ∀k,k<l.next->h8.get k=l.get k:=λk hk=>by rw[o8 k om,a1.get k hk]
  have li:=rl i om
  obtain⟨h9,a9,p9⟩:=(ow.mono (h':=h8) om λq o m c e _ h1=>a2 q h1).push (bytes:=8) (SV.one om g8 (.kn 1)) (n:=i) (m:=1) (by rw[aP];omega) rfl om om om
  have n9:=p9.next
  have c0: ∀k,k<Z.next->dL vr k:=λk hk id o m c e e2=>by have:=(ow.in _ _ _ _ e).2.1;omega
  have c2:h9.get D=some (.cells false [aC n,vO,vR,vr]):=by rw[p9.old _ om (c0 _ om),a2 _ om];exact t
  have pt: ∀(s:H) (x:V),dX (some (.cells false [aC n,vO,vR,vr])) s D 3 [x]=some (s.set D (some (.cells false [aC n,vO,vR,x]))):=λs x=>bN (by simp) s _ x
  simp(disch:=omega)only[go_sem,a9,c2,pt]
  rw[eJ i]
  have er:ints (Y i)++ [aC j]=ints (Y (i+1)):=by
   rw[a0];simp only;rw[cE [] om,List.map_append,List.map_singleton,hj];simp [zi,ints]
  have pg:=p9.get
  have po:=p9.own (b:=Z.next) (by rw[aP];omega) rfl om
  rw[er] at pg po
  refine⟨m-(i+1),om,i+1,_,aB rfl,om,rfl,po.mono (fM _) λq o m c e _ h1=>H.aG _ (by cases e;omega) _,λ_=>⟨_,rfl,(H.aG _ om _).trans pg,by show h8.next<h9.next;omega,om⟩,⟨by show Z.next<=h9.next;omega,λq h1 h2=>?_⟩,rfl⟩
  rw[H.aG _ h2,p9.old q om (c0 q h1),a2 q om]
  exact F6.get q h1 h2
 rintro b7 l ⟨S,⟨g,rfl⟩,t,gS,s1,s2,F6⟩
 have n6:=F6.next
 simp(disch:=omega)only[go_sem,H.aF t]
 have b3:=rl m (fM _)
 refine Ev.mono (Q:=λ_ h'=> ∃l',h'.get S=some (.cells false (ints l'))/\l'.Perm (Y m)/\l'.Pairwise (· <= ·)/\Fx (· =S) l h') (by have:=Lm l S (Y m) (.un 1) om gS s1;rwa [b3] at this) ?_
 rintro _ p ⟨l',c1,pm,so,F7⟩
 have a4:p.get D=some (.cells false [aC n,vO,vR,.sl S 0 m (.un 1)]):=by rw[F7.get D om om];exact t
 obtain⟨r,rfl,rk⟩:=ahH E0 E le (by rw[a0] at pm;simp only[←hm,List.take_length] at pm;exact pm) so
 have d2:(zi r).length=m:=by rw[pm.length_eq,b3]
 have d6:=F7.next
 have c5:p.get (A+1)=some (.cells false [aC 0,.aE,.aE,.aE]):=by rw[F7.get _ om om,F6.get _ om om,a6.get _ om,f3.get _ om];exact g2
 obtain⟨h8,e8,n8,g8,o8⟩:=pJ p (A+1) [aC n,vO,vR,.sl S 0 m (.un 1)]
 simp(disch:=omega)only[go_sem,gU a4,kL p (A+1) 0 (a:= aC n) (b:=vO) (c:=vR) (d:= .sl S 0 m (.un 1)) rfl F B rfl,c5,jS,e8,gU g8]
 refine⟨vO,vR,_,r,rfl,rfl,SV.all (by rw[aP,d2,uW]) om (by rw[o8 S om];exact c1) _,rk,λ(e:S<A)=>by have:=a5.next;omega,⟨om,λq hq=>?_⟩⟩
 rw[o8 q om,F7.get q om om,F6.get q om om,a6.get q om]
 exact a5.get q hq
end
def Lb (n:Nat)(G K:List Nat->Prop)(x:List Nat):List Nat->Prop:=NC n (λa=>K a∨a=x) G
def RG (L:LN)(r:List Nat)(x:List Nat):Prop:= ∃i,i∈r/\L.getD i []=x
section
variable {n:Nat} {G K K':List Nat->Prop} {O O':LN} {R R':jI} {x y:List Nat} {L:LN} {r r':List Nat}
theorem Lb.dN (c:iX n G)(le: ∀x,K x->G x)(d:G x):iX n (Lb n G K x):=
 NC.dN (λa h=>c.cU (h.elim (le a) λe=>by rw[e];exact d)) λb h=>c.cU h
theorem Lb.le (c:iX n G)(le: ∀x,K x->G x)(f:G x)(h:Lb n G K x y):G y:=
 NC.le h c (λa h=>h.elim (le a) λe=>by rw[e];exact f) λy b i d=>c.mul (c.mul (c.inv d) i) d
theorem abT (j:iX n G)(c:bC n G O R)(p:iX n K)(d:bC n K O' R')(le: ∀x,K x->G x)(o:G x)(y:List Nat):NC n (· ∈bQ R'++ [x]) (· ∈bQ R) y↔Lb n G K x y:=by
 have q: ∀a,a∈bQ R'++ [x]->bE n a:=λa k=>(pH.1 k).elim (λh=>p.cU (bV d h)) λh=>by rw[List.mem_singleton.1 h];exact j.cU o
 have m: ∀b,b∈bQ R->bE n b:=λb h=>j.cU (bV c h)
 constructor
 ·intro h
  exact NC.le h (Lb.dN j le o) (λa k=>(pH.1 k).elim (λh=>NC.of (.inl (bV d h))) λh=>NC.of (.inr (List.mem_singleton.1 h))) λy b i f=>NC.cj i (bV c f)
 ·intro h
  have l:=NC.dN q m;refine NC.le h l ?_ λy b i f=>Xw l m (λy b i f=>NC.cj i f) (nJ j c f) y i
  rintro a (h|rfl)
  ·exact bX.le l (λg s=>NC.of (pH.2 (.inl s))) (nJ p d h)
  ·exact NC.of (pH.2 (.inr (List.mem_singleton.2 rfl)))
theorem Lb.iff (e: ∀x,K x↔K' x)(y:List Nat):Lb n G K x y↔Lb n G K' x y:=by
 have:K=K':=funext λx=>propext (e x)
 rw[this]
theorem Rk.uniq (a:Rk L K r)(b:Rk L K r'):r=r':=VD a.asc b.asc λi=>(a.mem i).trans (b.mem i).symm
theorem Rk.iff (E:dW G L)(le: ∀x,K x->G x)(a:Rk L K r)(x:List Nat):K x↔RG L r x:=by
 constructor
 ·intro h
  obtain⟨i,hi,rfl⟩:=zF.1 ((E.mem x).2 (le x h));have e:L.getD i []=L[i]:=by rw[List.getD,dD hi];rfl
  exact⟨i,(a.mem i).2 ⟨hi,by rw[e];exact h⟩,e⟩
 ·rintro⟨i,hi,rfl⟩
  exact ((a.mem i).1 hi).2
theorem Rk.self (a:Rk L K r)(E:dW G L):Rk L (RG L r) r:=⟨a.asc,λi=>⟨λh=>⟨((a.mem i).1 h).1,i,h,rfl⟩,λ⟨hi,j,hj,e⟩=>by
 have b:=((a.mem j).1 hj).1;rw[List.getD,dD b,List.getD,dD hi] at e;have:j=i:=(List.getElem_inj E.nodup).1 e
 rw[←this];exact hj⟩⟩
theorem Rk.len (f:iX n K)(d:bC n K O' R')(E:dW G L)(le: ∀x,K x->G x)(a:Rk L K r):r.length=kI O' n 0:=by
 obtain⟨F,e⟩:=dM f d;rw[←e]
 have p:(r.map λi=>L.getD i []).Perm (cZ O' R' n 0 (bL n)):=by
  refine (List.perm_ext_iff_of_nodup ?_ F.nodup).2 λx=>?_
  ·refine List.pairwise_map.2 (List.Pairwise.imp_of_mem (λ{i j} hi h (ne:i<j) e=>?_) a.asc)
   have b:=((a.mem i).1 hi).1;have c:=((a.mem j).1 h).1;rw[List.getD,dD b,List.getD,dD c] at e;have:=(List.getElem_inj E.nodup).1 e;omega
  ·rw[F.mem,a.iff E le,uF]
   rfl
 have:=p.length_eq;rwa [jV] at this
end
open Classical in
noncomputable def Pz (L:LN)(K:List Nat->Prop):List Nat:=(List.range L.length).filter λi=>decide (K (L.getD i []))
open Classical in
theorem Dy (L:LN)(K:List Nat->Prop):Rk L K (Pz L K):=⟨List.pairwise_lt_range.filter _,λi=>by
 unfold Pz
 rw[CH,Gu,Qf]⟩
noncomputable def yR (n:Nat)(G:List Nat->Prop)(L:LN)(r:List Nat)(i:Nat):List Nat:=Pz L (Lb n G (RG L r) (L.getD i []))
def tF (l:LN)(a:List Nat):LN:=if a∈l then l else l++ [a]
noncomputable def XC (n:Nat)(G:List Nat->Prop)(L:LN)(r:List Nat)(K:List Nat):LN:=K.foldl (λl i=>if i∈r then l else tF l (yR n G L r i)) []
def Yc (l:LN)(a:List Nat):Bool:=l.any λb=>decide (b.length<a.length)&&b.all λi=>decide (i∈a)
def IN (l:LN):LN:=l.filter λa=>!Yc l a
def kP:List Nat->List Nat->Bool
 | [], []=>false
 | [],_::_=>true
 |_::_, []=>false
 |a::l,b::m=>if a=b then kP l m else decide (a<b)
def NH:LN->List Nat
 | []=> []
 |a::l=>l.foldl (λm x=>if kP x m then x else m) a
noncomputable def Pw (n:Nat)(G:List Nat->Prop)(L:LN)(K:List Nat)(r:List Nat):List Nat:=NH (IN (XC n G L r K))
theorem wF {l:LN}{a x:List Nat}:x∈tF l a↔x∈l∨x=a:=by
 unfold tF;split
 ·rename_i h
  exact⟨.inl,λk=>k.elim id λe=>by rw[e];exact h⟩
 ·simp
theorem Ft {n:Nat}{G:List Nat->Prop}{L:LN}{r K:List Nat}{x:List Nat}:x∈XC n G L r K↔ ∃i,i∈K/\i∉r/\x=yR n G L r i:=by
 have d: ∀(K:List Nat) (l:LN),x∈K.foldl (λl i=>if i∈r then l else tF l (yR n G L r i)) l↔x∈l∨ ∃i,i∈K/\i∉r/\x=yR n G L r i:=by
  intro K
  induction K with
  |nil=>intro l;simp
  |cons k K ih=>
   intro l;rw[List.foldl_cons,ih];split
   ·rename_i h
    refine or_congr_right ⟨λ⟨i,a,c,b⟩=>⟨i,Cu _ a,c,b⟩,λ⟨i,a,c,b⟩=>?_⟩;rcases zH.1 a with rfl|a
    ·exact absurd h c
    ·exact⟨i,a,c,b⟩
   ·rename_i h
    rw[wF,or_assoc];refine or_congr_right ⟨?_,λ⟨i,a,c,b⟩=>?_⟩
    ·rintro (e|⟨i,a,c,b⟩)
     ·exact⟨k,Ab,h,e⟩
     ·exact⟨i,Cu _ a,c,b⟩
    ·rcases zH.1 a with rfl|a
     ·exact .inl b
     ·exact .inr ⟨i,a,c,b⟩
 exact (d K []).trans (by simp)
theorem aaS: ∀{l:LN},l≠ []->NH l∈l
 |a::l,_=>by
  have c: ∀(l:LN) (a:List Nat),l.foldl (λm x=>if kP x m then x else m) a=a∨l.foldl (λm x=>if kP x m then x else m) a∈l:=by
   intro l
   induction l with
   |nil=>exact λa=> .inl rfl
   |cons b l ih=>
    intro a;rw[List.foldl_cons];split
    ·exact .inr ((ih b).elim (λe=>by rw[e];exact Ab) (Cu _))
    ·exact (ih a).imp id (Cu _)
  show l.foldl _ a∈_;exact (c l a).elim (λe=>by rw[e];exact Ab) (Cu _)
theorem TM {l:LN}(h:l≠ []):IN l≠ []:=by
 have d: ∀(k:Nat) (a:List Nat),a∈l->a.length<=k->IN l≠ []:=by
  intro k
  induction k with
  |zero=>
   intro a c i e
   have:a∈IN l:=CH.2 ⟨c,by
    rw[Bool.not_eq_true'];refine List.any_eq_false.2 λb f=>?_
    simp;omega⟩
   rw[e] at this;cases this
  |succ k ih=>
   intro a c i
   by_cases h:Yc l a=true
   ·obtain⟨b,f,j⟩:=List.any_eq_true.1 h
    simp only[vN,Qf] at j;exact ih b f om
   ·intro e
    have:a∈IN l:=CH.2 ⟨c,by simp [h]⟩;rw[e] at this;cases this
 cases l with
 |nil=>exact absurd rfl h
 |cons a l=>exact d _ a Ab (fM _)
theorem QQ {W:Nat->Prop}(vc s:V)(n:Nat)(O:LN)(R:jI)(G:List Nat->Prop)(l:LN)(h:H)(c:GC W h vc n O R G)(hl:l.length<=4096)(sl:SP h s l)(hP: ∀g∈l,bE n g):
  Ev T 107 [vc,s] h (λv h'=> ∃vr O2 R2,v= .tup [vr,aC 0]/\GC (λq=>q<h.next) h' vr n O2 R2 (NC n (· ∈l) (· ∈bQ R))/\Fr h h'):=by
 obtain⟨y,Y,rfl,oO,oR⟩:=c.shape
 refine cV uU rfl ?_
 have n0:=c.n0
 have t:=c.n7
 have hG:=c.dN
 obtain⟨B,hB⟩:=exI h.next
 obtain⟨h1,e1,n1,g1,o1,f1⟩:=dF hB [aC n,y,Y]
 obtain⟨r,e2,n2,g2,o2,f2⟩:=dF n1 [aC 0,.aE,.aE]
 have F2:=f1.trans f2
 have m: ∀d,Fr r d->d.get B=aZ [aC n,y,Y]:=λd f=>by rw[f.get B om,o2 B om];exact g1
 have gA: ∀d,Fr r d->d.get (B+1)=aZ [aC 0,.aE,.aE]:=λd f=>by rw[f.get _ om];exact g2
 simp(disch:=omega)only[go_sem,uU,aD,bM h (v:= aC n) (u:=y) (w:=Y) rfl oO oR,hB,e1,n1,e2,aI (m r (Fr.refl _))]
 refine ((c.mono F2).check).mono ?_
 rintro _ h3 ⟨rfl,N⟩
 simp(disch:=omega)only[go_sem]
 refine aW (λU=>(U rfl).elim) (λ_=>?_)
 simp(disch:=omega)only[go_sem,H.aF (m h3 N)]
 refine (Lo s n l h3 n0 t hl (sl.mono (F2.trans N)) hP).mono ?_
 rintro _ h4 ⟨vm,Om,Rm,rfl,gm,f4⟩
 obtain⟨mO,mR,rfl,P,F⟩:=gm.shape
 obtain⟨M,hM⟩:=exI h4.next
 obtain⟨h5,e5,n5,g5,o5,f5⟩:=dF hM [aC 0,.aE,.aE]
 obtain⟨i,e6,n6,g6,o6⟩:=pJ h5 M [aC n,mO,mR]
 simp(disch:=omega)only[go_sem,hM,e5,bW h5 M 0 (v:= aC n) (u:=mO) (w:=mR) rfl P F,g5,cF,e6]
 refine aW (λU=>(U rfl).elim) (λ_=>?_)
 have L:Fr h4 i:=⟨om,λq hq=>by rw[o6 q om,o5 q om]⟩
 have b:=N.trans (f4.trans L)
 have fb: ∀k,i.next<=k->Fr i (H.mk i.tr k):=λk hk=>(Fr.refl i).bA hk
 simp(disch:=omega)only[go_sem,H.aF (m i b),aI (m i b)]
 refine (xV _ n O R G h _ c (F2.trans (b.trans (fb _ om)))).mono ?_
 rintro va x ⟨wA,Q,pA,f7⟩
 have J:=(fb _ om).trans f7
 have a:=b.trans J
 have cB:okV (x.cell B 0) (aC n)=true:=by rw[H.aF (m x a)];simp [okV,dE]
 simp(disch:=omega)only[go_sem]
 refine⟨cB,?_⟩
 have sA:=qV hG c.isc
 have nn:n*n<=7*7:=Nat.mul_le_mul t t
 have z:SP x va (bQ R):=fW.KI (W:=λ_=>False) Q.sv (aM.mono (λ_ _ p=>⟨p.si.mono (F2.trans a),Bc _⟩) pA)
 refine (Qx s va n l (bQ R) x n0 t hP (λg hg=>hG.cU (bV c.isc hg)) om om (sl.mono (F2.trans a)) z).mono ?_
 rintro _ A ⟨D,rfl,hD,bd,f8⟩
 obtain⟨xO,xR,O2,R2,gD,j⟩:=bd.ex
 obtain⟨_,Z,K⟩:=j.one
 have o:=a.trans f8
 obtain⟨h9,e9,n9,g9,o9⟩:=pJ A (B+1) [aC n,xO,xR]
 simp(disch:=omega)only[go_sem,aI gD,bW A (B+1) 0 (v:= aC n) (u:=xO) (w:=xR) rfl Z K,gA A o,cF,e9,aI g9]
 have q2:=a.next
 have q8:=f8.next
 refine⟨_,O2,R2,rfl,?_,⟨om,λq hq=>by rw[o9 q om,o.get q om];exact F2.get q hq⟩⟩
 exact j.go ⟨om,λq h1 r=>o9 q λe=>r (.inl om)⟩ λq _ h=> .inl om
structure Nm (W:Nat->Prop)(n:Nat)(L:LN)(h:H)(p:V×V×V)(r:List Nat):Prop where
 ch: ∃O R,GC W h (.agg [aC n,p.1,p.2.1]) n O R (RG L r)
 si:SI h p.2.2 (zi r)
 off:Mq W p.2.2
 rk:Rk L (RG L r) r
abbrev Zw (n:Nat)(p:V×V×V):V:= .agg [aC n,p.1,p.2.1,p.2.2]
section
variable {W W':Nat->Prop} {n:Nat} {L:LN} {h h':H} {p:V×V×V} {r:List Nat}
theorem Nm.go (m:Nm W n L h p r)(f:Fx W h h')(a: ∀q,q<h.next->W' q->W q):Nm W' n L h' p r:=by
 obtain⟨O,R,g⟩:=m.ch;exact⟨⟨O,R,g.go f a⟩,SV.fx m.si m.off f,Mq.lH m.off m.si a,m.rk⟩
theorem Nm.mono (m:Nm W n L h p r)(f:Fr h h'):Nm W n L h' p r:=m.go (Fx.of f) λ_ _ h=>h
theorem Nm.one (m:Nm W n L h p r):p.1.one=true/\p.2.1.one=true/\p.2.2.one=true:=by
 obtain⟨O,R,g⟩:=m.ch;exact⟨g.one.2.1,g.one.2.2,(SV.cK m.si).2.1⟩
theorem Nm.eq (m:Nm W n L h p r):dE p.1 p.1=true/\dE p.2.1 p.2.1=true/\dE p.2.2 p.2.2=true:=by
 obtain⟨O,R,g⟩:=m.ch;obtain⟨_,_,_,_,e,a,_,_,b,_,_⟩:=g.cw;simp only[V.agg.injEq,List.cons.injEq,and_true,true_and] at e;rw[e.1,e.2];exact⟨SV.dE a,SV.dE b,SV.dE m.si⟩
theorem DL {h h':H}(f:Fr h h'){id off k:Nat}(a:id<h.next):h'.row id off k=h.row id off k:=by
 unfold H.row;rw[f.get id a]
theorem Rk.short (m:Rk L (RG L r) r):r.length<=L.length:=by
 have:=List.Nodup.length_le_of_subset (l₂:=List.range L.length) (m.asc.imp λh=>Nat.ne_of_lt h) λi hi=>Gu.2 ((m.mem i).1 hi).1
 rwa [NM] at this
end
theorem WM.few {n:Nat}{O:LN}{R:jI}{G:List Nat->Prop}{L:LN}{K:List Nat}{h:H}{p:Nat}(l:WM n O R G L K h p):L.length<=5040/\dW G L/\iX n G/\bC n G O R/\1<=n/\n<=7:=by
 obtain⟨f,i,M,d,g,b,a,sp,c⟩:=l.ex;obtain⟨E,e⟩:=dM a.dN a.isc;rw[l.hL] at E e;exact⟨by rw[e];exact jH a,E,a.dN,a.isc,a.n0,a.n7⟩
theorem fZ (h:H){a b c d:V}(f:a.one=true)(i:b.one=true)(j:c.one=true)(k:d.one=true):Cv h (.agg [a,b,c,d])=some (.ptr h.next 0,h.new (.cells false [a,b,c,d])):=tL h _ (by simp [f,i,j,k])
theorem GQ {W:Nat->Prop}(j:Nat)(p:V×V×V)(A:V)(n:Nat)(O:LN)(R:jI)(G:List Nat->Prop)(L:LN)(K r:List Nat)(i:Nat)(h:H)(zC:WM n O R G L K h j)(l:Nm W n L h p r)(hi:i<L.length)(u:SI h A (zi (L.getD i []))):
  Ev T 48 [.ptr j 0,Zw n p,A] h (λv h'=>v= .bool (decide (i∈r))/\Fr h h'):=by
 obtain⟨o1,o2,o3⟩:=l.one
 obtain⟨ll,E,hG,a0,n0,n7⟩:=zC.few
 obtain⟨Y,U,M,lr,gT,gM,gc,_,nM⟩:=zC.ex
 have nT:=zC.nx
 have rl:=l.rk.short
 refine cV qT rfl ?_
 obtain⟨B,N⟩:=exI h.next
 obtain⟨q,e1,n1,Q,q1,m⟩:=dF N [aC n,p.1,p.2.1,p.2.2]
 have P:=lY hG E hi
 have Z:(L.getD i []).length<=1000:=by rw[P.len];omega
 have J: ∀x∈L.getD i [],x<256:=λx u=>by have:=P.lt x u;omega
 have o:q.get j=some (.cells false [aC n,Y,U,.mp M,lr]):=by rw[m.get j nT];exact gT
 simp(disch:=omega)only[go_sem,qT,aD,fZ h (a:= aC n) (b:=p.1) (c:=p.2.1) (d:=p.2.2) rfl o1 o2 o3,N,e1,H.aF Q,H.aF o]
 refine (Me A (L.getD i []) _ Z J (u.mono (m.trans ((Fr.refl q).bA om)))).mono ?_
 rintro _ s ⟨rfl,f2⟩
 have f:=((Fr.refl q).bA (n:=q.next+15) om).trans f2
 have F:s.get B=some (.cells false [aC n,p.1,p.2.1,p.2.2]):=by rw[f.get B om];exact Q
 have y:s.get j=some (.cells false [aC n,Y,U,.mp M,lr]):=by rw[f.get j om];exact o
 have w:s.get M=some (.wmap .str (Ie L L.length)):=by rw[(m.trans f).get M nM];exact gM
 have lk:=λz=>Np E.nodup hi (xY Z J) z
 have t:dE p.2.2 p.2.2=true:=SV.dE l.si
 simp(disch:=omega)only[go_sem,H.aF F,H.aF y,w,lk,t,show dE (.mp M) (.mp M)=true from by simp [dE]]
 refine (Es p.2.2 r i s om l.rk.asc (l.si.mono (m.trans f))).mono ?_
 rintro _ h3 ⟨k,b,rfl,hb,_,f3⟩
 simp(disch:=omega)only[go_sem]
 refine⟨?_,m.trans (f.trans f3)⟩
 congr 1
 exact Py.2 (hb.trans Qf.symm)
theorem EU (t:Nat)(n:Nat)(O:LN)(R:jI)(G:List Nat->Prop)(L:LN)(K:List Nat)(h:H)(zC:WM n O R G L K h t):
  Ev T 47 [.ptr t 0] h (λv h'=> ∃p,v=Zw n p/\Nm (λq=>q<h.next) n L h' p (Pz L λx=>x=bL n)/\Fr h h'):=by
 obtain⟨ll,E,hG,a1,n0,n7⟩:=zC.few
 obtain⟨lO,lR,M,lr,gT,gM,gc,_,nM⟩:=zC.ex
 have nT:=zC.nx
 refine cV nV rfl ?_
 obtain⟨B,hB⟩:=exI h.next
 obtain⟨j,J,n1,g1,q1,f1⟩:=dF hB [aC 0,.aE,.aE,.aE]
 have a0:j.get t=some (.cells false [aC n,lO,lR,.mp M,lr]):=by rw[f1.get t nT];exact gT
 simp(disch:=omega)only[go_sem,nV,aD,hB,J,H.aF a0]
 refine (Lo .aE n [] j n0 n7 (by show 0<=4096;omega) ⟨[],SV.aE j 1,trivial⟩ (λg P=>by cases P)).mono ?_
 rintro _ N ⟨vm,Om,Rm,rfl,Q,m⟩
 obtain⟨l,k,rfl,s,o⟩:=Q.shape
 obtain⟨A,hA⟩:=exI N.next
 obtain⟨h3,e3,n3,g3,o3,f3⟩:=dF hA [aC 0,.aE,.aE]
 obtain⟨h4,e4,n4,g4,o4⟩:=pJ h3 A [aC n,l,k]
 have f:Fr N h4:=⟨om,λq hq=>by rw[o4 q om,o3 q om]⟩
 simp(disch:=omega)only[go_sem,hA,e3,bW h3 A 0 (v:= aC n) (u:=l) (w:=k) rfl s o,g3,cF,e4,aI g4]
 have J: ∀x,bX n (· ∈([]:LN)) x↔x=bL n:=λx=>⟨λh=>by
  have e: ∀g,g∈([]:LN)->g=bL n:=λg P=>by cases P
  have r:=bX.le (Vu n) e h
  exact r,λh=>by rw[h];exact .one⟩
 have F:=f1.trans (m.trans f)
 refine (UC t _ n O Om R Rm G _ L K h4 (zC.mono F) (((Q.lH (W':=λ_=>False) λ_ _ h=>h.elim).mono f).congr J) (λx Y=>by rw[Y];exact hG.one)).mono ?_
 rintro _ z ⟨vO,vR,vr,r,e5,rfl,sr,rk,U,y⟩
 obtain⟨rfl,rfl⟩:l=vO/\k=vR:=by simpa using e5
 obtain rfl:=rk.uniq (Dy _ _)
 have oR:=(SV.cK sr).2.1
 have gB:z.get B=some (.cells false [aC 0,.aE,.aE,.aE]):=by rw[y.get B (by have:=m.next;omega),f.get B (by have:=m.next;omega),m.get B om];exact g1
 obtain⟨h6,e6,n6,g6,o6⟩:=pJ z B [aC n,l,k,vr]
 simp(disch:=omega)only[go_sem,kL z B 0 (a:= aC n) (b:=l) (c:=k) (d:=vr) rfl s o oR,gB,jS,e6,gU g6]
 have a3:=m.next
 have a2:=y.next
 have Fb:Fx (· =B) z h6:=⟨om,λq j N=>o6 q N⟩
 have Z:=((((Q.mono f).mono y).go (Fx.wide Fb λq (e:q=B)=>(by omega:q<j.next)) (W':=λq=>q<B) λq _ h=>(by have:q<B:=h;omega:q<j.next)).congr J).congr (rk.iff E λx Y=>by rw[Y];exact hG.one)
 have i:=Mq.lH (W':=λq=>q<B∨q=B) U sr λq _ h=>(by have:q<B∨q=B:=h;omega:q<h4.next)
 refine⟨(l,k,vr),rfl,⟨⟨Om,Rm,Z⟩,SV.fx sr i (Fx.wide Fb λq h=> .inr h),Mq.lH i sr λq _ h=> .inl h,rk.self E⟩,⟨om,λq hq=>by rw[o6 q om,y.get q om,f.get q om,m.get q om];exact f1.get q hq⟩⟩
theorem Xn {W:Nat->Prop}(T0:Nat)(p:V×V×V)(vx:V)(n:Nat)(O:LN)(R:jI)(G:List Nat->Prop)(L:LN)(K r:List Nat)(i:Nat)(h:H)(zC:WM n O R G L K h T0)(nm:Nm W n L h p r)(hi:i<L.length)(A:SI h vx (zi (L.getD i []))):
  Ev T 50 [.ptr T0 0,Zw n p,vx] h (λv h'=> ∃q,v=Zw n q/\Nm (λq=>q<h.next) n L h' q (yR n G L r i)/\Fr h h'):=by
 obtain⟨o1,o2,o3⟩:=nm.one
 obtain⟨ll,E,hG,b0,n0,n7⟩:=zC.few
 obtain⟨lO,lR,M,lr,gT,gM,gc,_,nM⟩:=zC.ex
 obtain⟨_,oO,oR⟩:=gc.one
 have nT:=zC.nx
 obtain⟨Op,Rp,J⟩:=nm.ch
 refine cV pX rfl ?_
 obtain⟨B,hB⟩:=exI h.next
 obtain⟨h1,e1,n1,g1,q1,f1⟩:=dF hB [aC n,p.1,p.2.1,p.2.2]
 obtain⟨l,e2,n2,g2,q2,f2⟩:=dF n1 [aC 0,.aE,.aE,.aE]
 have F2:=f1.trans f2
 have gB: ∀j,Fr l j->j.get B=some (.cells false [aC n,p.1,p.2.1,p.2.2]):=λj f=>by rw[f.get B om,q2 B om];exact g1
 have gA: ∀j,Fr l j->j.get (B+1)=some (.cells false [aC 0,.aE,.aE,.aE]):=λj f=>by rw[f.get _ om];exact g2
 have a9: ∀j,Fr l j->j.get T0=some (.cells false [aC n,lO,lR,.mp M,lr]):=λj f=>by rw[f.get _ om,F2.get T0 nT];exact gT
 have b6: ∀{j:H} {id:Nat} {a b c d:V},j.get id=some (.cells false [a,b,c,d])->j.row id 0 3=some [a,b,c]:=λZ=>by simp [H.row,Z,sub]
 have a8: ∀{j:H} {id:Nat} {a b c d e:V},j.get id=some (.cells false [a,b,c,d,e])->j.row id 0 3=some [a,b,c]:=λZ=>by simp [H.row,Z,sub]
 simp(disch:=omega)only[go_sem,pX,aD,fZ h (a:= aC n) (b:=p.1) (c:=p.2.1) (d:=p.2.2) rfl o1 o2 o3,hB,e1,n1,e2,b6 (gB l (Fr.refl _))]
 refine (Qy _ n Op Rp _ l (J.mono F2)).mono ?_
 rintro _ k ⟨vs,rfl,nl⟩
 have f3:=nl.fr
 obtain⟨ws,W1,ow,pv,bk,lW⟩:=nl.ex
 have lw:=aM.length pv
 have sl:=qV J.dN J.isc
 have nn:n*n<=7*7:=Nat.mul_le_mul n7 n7
 have wx:=SV.cK A
 obtain⟨C,hC⟩:=exI k.next
 simp(disch:=omega)only[go_sem,a8 (a9 k f3),cT (H.mk k.tr (k.next+6)) (z:= .aE) wx.1 wx.2.1]
 obtain⟨h4,e4,n4,g4,o4⟩:=LF k (k.next+6) (k.next+15) [vx]
 rw[e4]
 have a0:Fr k h4:=⟨om,λq P=>o4 q om⟩
 obtain⟨y,a5,p5⟩:=((ow.fr a0).le (iJ _)).push (bytes:=24) (SV.one om g4 (.kn 1)) (n:=(bQ Rp).length) (m:=1) om rfl om om om
 have n5:=p5.next
 have c1:=f3.next
 have vb: ∀id t m c,vs= .sl id t m c->l.next<=id:=λid t m c e=>(ow.in _ _ _ _ e).2.1
 have o:Fr l y:=⟨om,λq P=>by rw[p5.old q om (λid t m c e e2=>by have:=vb _ _ _ _ e;omega),o4 q om,f3.get q P]⟩
 have ec:dE lO lO=true/\dE lR lR=true:=by
  obtain⟨_,_,_,_,e,sO,_,_,sR,_,_⟩:=gc.cw;cases e;exact⟨SV.dE sO,SV.dE sR⟩
 simp(disch:=omega)only[go_sem,a5,a8 (a9 y o),ec.1,ec.2]
 have a7:Fx W1 h4 y:=p5.fx λid t m c e=>bk _ _ _ _ e
 have sw:SP y (.sl h4.next 0 ((bQ Rp).length+1) (.un 1)) (bQ Rp++ [L.getD i []]):=fW.KI (W:=λ_=>False) (p5.own om rfl (iJ _)).sv (aM.append (aM.mono (λ_ _ p=>⟨SV.fx (p.si.mono a0) (W:=W1) p.off a7,Bc _⟩) pv) ⟨⟨A.mono (F2.trans o),Bc _⟩,trivial⟩)
 have le: ∀x,RG L r x->G x:=λx A=>by
  obtain⟨i,hi,rfl⟩:=A;exact (E.mem _).1 (bD ((nm.rk.mem i).1 hi).1)
 have s:G (L.getD i []):=(E.mem _).1 (bD hi)
 refine (QQ _ _ n O R G (bQ Rp++ [L.getD i []]) y (gc.mono (F2.trans o)) (by rw[jZ];show _+1<=4096;omega) sw (λg Z=>(pH.1 Z).elim (λh=>J.dN.cU (bV J.isc h)) λh=>by rw[List.mem_singleton.1 h];exact hG.cU s)).mono ?_
 rintro _ h6 ⟨vr,O2,R2,rfl,Q,f6⟩
 obtain⟨U,Y,rfl,a4,a2⟩:=Q.shape
 have n6:=f6.next
 obtain⟨h7,e7,b9,g7,o7⟩:=LF h6 (k.next+12) h6.next [aC 0,.aE,.aE]
 obtain⟨h8,e8,n8,g8,o8⟩:=pJ h7 (k.next+12) [aC n,U,Y]
 simp(disch:=omega)only[go_sem,e7,bW h7 (k.next+12) 0 (v:= aC n) (u:=U) (w:=Y) rfl a4 a2,g7,cF,e8,aI g8]
 have a6:Fr l h8:=⟨om,λq P=>by rw[o8 q om,o7 q om,f6.get q om,o.get q P]⟩
 have F:Fx (· =k.next+12) h6 h8:=⟨om,λq h1 l=>by rw[o8 q l,o7 q l]⟩
 have eN:=abT hG b0 J.dN J.isc le s
 refine (UC T0 _ n O O2 R R2 G _ L K h8 (zC.mono (F2.trans a6)) ((Q.go (Fx.wide F λq (e:q=k.next+12)=>(by omega:q<y.next)) (W':=λ_=>False) λ_ _ h=>h.elim).congr eN) (λx A=>Lb.le hG le s A)).mono ?_
 rintro _ h9 ⟨vO,vR,vr,r',e9,rfl,sr,rk,b4,f9⟩
 obtain⟨rfl,rfl⟩:U=vO/\Y=vR:=by simpa using e9
 obtain rfl:=rk.uniq (Dy _ _)
 have b3:=(SV.cK sr).2.1
 have N:=a6.trans f9
 obtain⟨b7,b5,c0,b2,a3⟩:=pJ h9 (B+1) [aC n,U,Y,vr]
 simp(disch:=omega)only[go_sem,kL h9 (B+1) 0 (a:= aC n) (b:=U) (c:=Y) (d:=vr) rfl a4 a2 b3,gA h9 N,jS,b5,gU b2]
 have b8:=N.next
 have c2:=f9.next
 have Fb:Fx (· =B+1) h9 b7:=⟨om,λq h1 l=>a3 q l⟩
 have b1: ∀x,Lb n G (RG L r) (L.getD i []) x->G x:=λx A=>Lb.le hG le s A
 have hw: ∀q,(q<B∨q=B+1)->q<h8.next:=λq P=>om
 have gq:=((((Q.go (Fx.wide F λq (e:q=k.next+12)=>(by omega:q<y.next)) (W':=λq=>q<B∨q=B+1) λq _ h=>(by have:q<B∨q=B+1:=h;omega:q<y.next)).mono f9).go (Fx.wide Fb λq h=> .inr h) (W':=λq=>q<B) λq _ h=> .inl h).congr eN).congr (rk.iff E b1)
 have a1:=Mq.lH (W':=λq=>q<B∨q=B+1) b4 sr λq _ h=>hw q h
 refine⟨(U,Y,vr),rfl,⟨⟨O2,R2,gq⟩,SV.fx sr a1 (Fx.wide Fb λq h=> .inr h),Mq.lH a1 sr λq _ h=> .inl h,rk.self E⟩,⟨om,λq P=>by rw[a3 q om,N.get q om];exact F2.get q P⟩⟩
section
variable {α:Type} {f:α->List V} {k:Nat}
theorem agV (b: ∀x,(f x).length=k): ∀ls:List α,(ls.flatMap f).length=ls.length*k
 | []=>by simp
 |a::l=>by rw[List.flatMap_cons,jZ,b,agV b l,List.length_cons,Nat.succ_mul];omega
theorem CD (b: ∀x,(f x).length=k): ∀(ls:List α) (i:Nat) (hi:i<ls.length),((ls.flatMap f).drop (i*k)).take k=f ls[i]
 |a::l,0,_=>by rw[List.flatMap_cons,Nat.zero_mul,List.drop_zero,←b a,List.take_left];rfl
 |a::l,i+1,hi=>by
  have:=CD b l i (by simpa using hi);rw[List.flatMap_cons,show (i+1)*k=(f a).length+i*k from by rw[b,Nat.succ_mul];omega,List.drop_append,List.drop_eq_nil_of_le om,List.nil_append,Nat.add_sub_cancel_left];exact this
theorem SV.rec {h:H}{v:V}(d:0<k)(n: ∀x,(f x).length=k){ls:List α}(s:SV h v k (ls.flatMap f)){i:Nat}(hi:i<ls.length): ∃id off,Sl v k ls.length id off/\h.row id (off+i*k) k=some (f ls[i])/\id<h.next:=by
 have c:=agV n ls;obtain⟨id,off,m,_,_⟩:=s.shape ls.length c d;refine⟨id,off,m,?_⟩;have o:(i+1)*k<=ls.length*k:=Nat.mul_le_mul_right k om;rw[Nat.succ_mul] at o;rcases s with ⟨_,s⟩|⟨j,b,len,u,z,y,rfl,l,p,q,w,r⟩
 ·rw[s] at c
  have:0=ls.length*k:=c;omega
 ·have e:=m.ixa .i64 0 om om
  obtain⟨rfl,rfl⟩:j=id/\b=off:=by
   have a:len=ls.length:=Nat.eq_of_mul_eq_mul_right d (l.symm.trans c);have t:0<len:=om
   simpa [Dz,t] using e
  have a:len=ls.length:=Nat.eq_of_mul_eq_mul_right d (l.symm.trans c);subst a;refine⟨?_,p⟩;unfold H.row;rw[q];simp only[sub];rw[bF om,←CD n ls i hi,←r,List.drop_take,List.take_take,Nat.min_eq_left om,List.drop_drop]
end
abbrev Bt (n:Nat)(p:V×V×V):List V:= [aC n,p.1,p.2.1,p.2.2]
def zB (n:Nat)(ps:List (V×V×V)):List V:=ps.flatMap (Bt n)
theorem mH (n:Nat)(ps:List (V×V×V)):(zB n ps).length=ps.length*4:=agV (k:=4) (f:=Bt n) (λ_=>rfl) ps
theorem Wh (n:Nat)(a b:List (V×V×V)):zB n (a++b)=zB n a++zB n b:=by unfold zB;rw[List.flatMap_append]
theorem Lu {h:H}{v:V}{n:Nat}{ps:List (V×V×V)}(s:SV h v 4 (zB n ps)){i:Nat}(hi:i<ps.length): ∃id off,Sl v 4 ps.length id off/\h.row id (off+i*4) 4=some [aC n,ps[i].1,ps[i].2.1,ps[i].2.2]/\id<h.next:=SV.rec (k:=4) (f:=Bt n) om (λ_=>rfl) s hi
theorem zP {h:H}{v:V}{n:Nat}{ps:List (V×V×V)}(s:SV h v 4 (zB n ps)):bT v=some (aC (ps.length:Int)):=by
 unfold bT;rw[SV.len s (n:=ps.length) (mH n ps) om];rfl
theorem FD (m:V)(F:Nat)(d:List V)(n:Nat)(ps:List (V×V×V))(P:Nat->Bool)(h:H)(sv:SV h m 4 (zB n ps))(y:ps.length<1000000)(w: ∀i (hi:i<ps.length) hh,Fr h hh->Ev T F (Zw n ps[i]::d) hh (λv h'=>v= .bool (P i)/\Fr hh h')):
  Ev T 108 [m,.fn F [] d] h (λv h'=> ∃k:Int,v= aC k/\((k= -1/\ ∀i,i<ps.length->P i=false)∨ ∃i,i<ps.length/\k=(i:Int)/\P i=true/\ ∀j,j<i->P j=false)/\Fr h h'):=by
 refine cV eM rfl ?_
 have u:=zP sv
 simp(disch:=omega)only[go_sem,eM,aD,u]
 refine aH (λq a hh=> ∃(i:Nat),(∃g:Nat->V,a= [m,.fn F [] d,g 2,g 3,aC (ps.length:Int),aC i,g 6,g 7])/\i<=ps.length/\(∀j,j<i->P j=false)/\Fr h hh/\q=ps.length-i) ps.length
  ⟨0,aB rfl,iJ _,λj p=>om,Fr.refl h,rfl⟩ ?_
 rintro q a hh ⟨i,⟨g,rfl⟩,hi,l,f,rfl⟩
 by_cases c:(i:Int)<(ps.length:Int)
 case neg=>
  have o:=bH c;simp(disch:=omega)only[go_sem,o];exact⟨_,rfl,.inl ⟨rfl,λj p=>l j om⟩,f⟩
 have o:=bP c
 have b:i<ps.length:=om
 obtain⟨id,s,t,row,_⟩:=Lu (sv.mono f) b
 simp(disch:=omega)only[go_sem,o,t.ixa,row]
 refine (w i b hh f).mono ?_
 rintro _ x ⟨rfl,r⟩
 cases hP:P i with
 |true=>
  simp(disch:=omega)only[go_sem];exact⟨_,rfl,.inr ⟨i,b,rfl,hP,l⟩,f.trans r⟩
 |false=>
  simp(disch:=omega)only[go_sem];rw[eJ i]
  exact⟨ps.length-(i+1),om,i+1,aB rfl,om,λj p=>by
   by_cases e:j=i
   ·rw[e];exact hP
   ·exact l j om,f.trans r,rfl⟩
theorem FW (c:V)(F:Nat)(a:List V)(n:Nat)(ps:List (V×V×V))(P:Nat->Bool)(h:H)(sv:SV h c 4 (zB n ps))(d:ps.length<1000000)(l: ∀i (hi:i<ps.length) hh,Fr h hh->Ev T F (Zw n ps[i]::a) hh (λv h'=>v= .bool (P i)/\Fr hh h')):
  Ev T 54 [c,.fn F [] a] h (λv h'=>(∃b,v= .bool b/\(b=true↔ ∃i,i<ps.length/\P i=true))/\Fr h h'):=by
 refine cV dY rfl ?_
 simp(disch:=omega)only[go_sem,dY,aD]
 refine (FD c F a n ps P h sv d l).mono ?_
 rintro _ p ⟨k,rfl,o,f⟩
 simp(disch:=omega)only[go_sem]
 refine⟨⟨_,rfl,?_⟩,f⟩
 rcases o with ⟨rfl,j⟩|⟨i,hi,rfl,m,_⟩
 ·refine⟨λh=>by simp at h,λ⟨i,hi,e⟩=>by rw[j i hi] at e;cases e⟩
 ·exact⟨λ_=>⟨i,hi,m⟩,λ_=>bP om⟩
theorem agP {a b:List Nat}:(zi a=zi b)=(a=b):=propext ⟨Vl,λh=>by rw[h]⟩
theorem WD (h:H){a b c d:V}(f:a.one=true)(j:b.one=true)(k:c.one=true)(i:d.one=true):lQ h 4 [aC 0,.aE,.aE,.aE] 1 [(0,4,.agg [a,b,c,d])]=some (.sl h.next 0 1 (.kn 1),h.new (.cells false [a,b,c,d])):=by
 have e:cX [aC 0,.aE,.aE,.aE] (1*4)= [aC 0,.aE,.aE,.aE]:=rfl;simp [lQ,iS,e,putAt,V.cells,f,j,k,i]
structure NmL (W:Nat->Prop)(n:Nat)(L:LN)(b:Nat)(h:H)(v:V)(rs:LN):Prop where
 ex: ∃ps,cY h v 4 (zB n ps) b/\aM (Nm (λq=>W q∨dO v q) n L h) ps rs/\ ∀id off m c,v= .sl id off m c->h.get id=some (.cells false (zB n ps))
theorem NmL.mono {W:Nat->Prop}{n:Nat}{L:LN}{b:Nat}{h h':H}{v:V}{rs:LN}(m:NmL W n L b h v rs)(f:Fr h h'):NmL W n L b h' v rs:=by
 obtain⟨j,o,a,e⟩:=m.ex;exact⟨j,o.fr f,aM.mono (λ_ _ x=>Nm.mono x f) a,λid i m c d=>by rw[f.get id (o.in _ _ _ _ d).1];exact e _ _ _ _ d⟩
theorem FQ {W:Nat->Prop}(n:Nat)(L:LN)(b Q:Nat)(j:V)(rs:LN)(p:V×V×V)(r:List Nat)(h:H)(m:NmL W n L b h j rs)(hb:b<=h.next)(P:Nm (λq=>W q∨dO j q) n L h p r)(hQ:h.get Q=some (.cells false [j]))(K:Q<h.next)(a7: ¬dO j Q)(a6:W Q)(hL:L.length<=5040)(hl:rs.length<1000000):
  Ev T 49 [.ptr Q 0,Zw n p] h (λv h'=>v= .tup []/\ ∃vl',h'.get Q=some (.cells false [vl'])/\NmL W n L b h' vl' (tF rs r)/\Fx (λq=>q=Q∨dO j q) h h'/\ ∀q,dO vl' q->dO j q∨h.next<=q):=by
 obtain⟨s,ow,al,_⟩:=m.ex
 obtain⟨o1,o2,o3⟩:=P.one
 have lp:=aM.length al
 refine cV uS rfl ?_
 obtain⟨B,hB⟩:=exI h.next
 obtain⟨F,e1,n1,g1,q1,O⟩:=dF hB [aC n,p.1,p.2.1,p.2.2]
 have a9:F.get Q=some (.cells false [j]):=by rw[O.get Q K];exact hQ
 simp(disch:=omega)only[go_sem,uS,aD,fZ h (a:= aC n) (b:=p.1) (c:=p.2.1) (d:=p.2.2) rfl o1 o2 o3,hB,e1,H.aF a9]
 have rl:=P.rk.short
 refine (FW j 104 [.ptr B 0] n s (λi=>decide (rs.getD i []=r)) F (ow.sv.mono O) om λi hi t f=>?_).mono ?_
 ·have mi:=aM.get al i hi om
  obtain⟨a1,a2,a3⟩:=mi.one
  have ri:=mi.rk.short
  have gB:t.get B=some (.cells false [aC n,p.1,p.2.1,p.2.2]):=by rw[f.get B om];exact g1
  refine cV sG rfl ?_
  obtain⟨C,hC⟩:=exI t.next
  obtain⟨k,N,n2,g2,q2,z⟩:=dF hC [aC n,s[i].1,s[i].2.1,s[i].2.2]
  have a8:k.get B=some (.cells false [aC n,p.1,p.2.1,p.2.2]):=by rw[z.get B (by have:=f.next;omega)];exact gB
  simp(disch:=omega)only[go_sem,sG,aD,fZ t (a:= aC n) (b:=s[i].1) (c:=s[i].2.1) (d:=s[i].2.2) rfl a1 a2 a3,hC,N,H.aF g2,H.aF a8]
  refine (Wr _ _ (zi rs[i]) (zi r) k (mi.si.mono (O.trans (f.trans z))) (P.si.mono (O.trans (f.trans z))) (by rw[aQ];omega) (by rw[aQ];omega)).mono ?_
  rintro _ U ⟨rfl,f3⟩
  simp(disch:=omega)only[go_sem]
  refine⟨?_,z.trans f3⟩
  congr 1
  rw[decide_eq_decide,agP,List.getD,dD om]
  rfl
 rintro _ k ⟨⟨c,rfl,hc⟩,z⟩
 have F2:=O.trans z
 have G:c=true↔r∈rs:=by
  rw[hc];constructor
  ·rintro⟨i,hi,e⟩
   rw[←of_decide_eq_true e];exact bD om
  ·intro hr
   obtain⟨i,hi,rfl⟩:=zF.1 hr;exact⟨i,om,bP (by rw[List.getD,dD hi];rfl)⟩
 have y:k.get Q=some (.cells false [j]):=by rw[F2.get Q K];exact hQ
 cases c with
 |true=>
  simp(disch:=omega)only[go_sem];refine⟨rfl,j,y,?_,Fx.of F2,λq h=> .inl h⟩;unfold tF;rw[bF (G.1 rfl)];exact m.mono F2
 |false=>
  have hn:r∉rs:=λh=>by have:=G.2 h;cases this
  have r4:k.row B 0 4=some [aC n,p.1,p.2.1,p.2.2]:=gU (by rw[z.get B om];exact g1);obtain⟨U,e3,n3,g3,q3⟩:=LF k (k.next+6) (k.next+11) [aC n,p.1,p.2.1,p.2.2]
  have a5:Fr k U:=⟨om,λq hq=>q3 q om⟩
  obtain⟨Y,a4,J⟩:=((ow.fr (F2.trans a5)).le (iJ _)).push (bytes:=80) (SV.all (sz:=4) (len:=1) (vs:=Bt n p) rfl om g3 (.kn 1)) (n:=s.length) (m:=1) (mH n s) rfl om om om;have n4:=J.next;have b0:=F2.next;have vb: ∀id l m c,j= .sl id l m c->b<=id/\id<h.next:=λid l m c e=>by have:=ow.in _ _ _ _ e;omega
  have a0:dL j Q:=λid l m c e N=>a7 (by rw[e,N];exact⟨_,_,_,rfl⟩)
  have Z:Y.get Q=some (.cells false [j]):=by rw[J.old Q om a0,q3 Q om];exact y
  have pt: ∀(t:H) (u w:V),dX (some (.cells false [u])) t Q 0 [w]=some (t.set Q (some (.cells false [w]))):=λt u w=>bN (by simp) t _ _
  simp(disch:=omega)only[go_sem,H.aF y,r4,WD (H.mk k.tr (k.next+6)) (a:= aC n) (b:=p.1) (c:=p.2.1) (d:=p.2.2) rfl o1 o2 o3,e3,a4,Z,pt];obtain⟨R,A⟩:=exI (Y.set Q (some (Ob.cells false [V.sl U.next 0 (s.length+1) (Kh.un 4)])));rw[A];have n5:R.next=Y.next:=by rw[←A];rfl
  have o5: ∀q,q≠Q->R.get q=Y.get q:=λq hq=>by rw[←A];exact H.aG _ hq _
  have fx:Fx (λq=>q=Q∨dO j q) h R:=⟨om,λq F k=>by
   rw[o5 q λe=>k (.inl e),J.old q om (λid l m c e N=>k (.inr (by rw[e,N];exact⟨_,_,_,rfl⟩))),q3 q om,F2.get q F]⟩
  have fw:Fx (λq=>W q∨dO j q) h R:=Fx.wide fx λq h=>h.imp (λe=>by rw[e];exact a6) id
  have wk: ∀q,q<h.next->(W q∨dO (V.sl U.next 0 (s.length+1) (Kh.un 4)) q)->(W q∨dO j q):=λq F k=>k.elim .inl λ⟨l,m,c,e⟩=>by cases e;omega
  refine⟨rfl,_,rfl,?_,fx,λq ⟨l,m,c,e⟩=> .inr (by cases e;omega)⟩;unfold tF;rw[bI hn];refine⟨s++ [p],?_,aM.append (aM.mono (λ_ _ x=>Nm.go x fw wk) al) ⟨P.go fw wk,trivial⟩,λid l m c e=>?_⟩
  rotate_left
  ·cases e
   rw[o5 _ om,Wh];exact J.get
  rw[Wh];exact (J.own (mH n s) rfl om).mono om λq o m c e _ F=>o5 q (by cases e;omega)
theorem KG (u:V)(ws:List V)(m:Nat)(h:H)(a:ws.length=m*4)(y:0<m)(w:m<1000000)(c:SV h u 4 ws):
  Ev T 52 [u] h (λv h'=> ∃id cap rest,v= .sl id 0 m cap/\(cap= .un 4∨cap= .kn m/\rest= [])/\h.next<=id/\id<h'.next/\h'.get id=some (.cells false (ws++rest))/\Fr h h'):=by
 refine cV fO rfl ?_
 have p:Hg false u=some (.bool false):=by
  rcases c with ⟨_,rfl⟩|⟨id,l,len,cap,B,z,rfl,q⟩
  ·simp at a;omega
  ·rfl
 have f:Fr h (h.new (.cells false [])):=(Fr.refl h).new _
 have j:cY (h.new (.cells false [])) (.sl h.next 0 0 (.kn 0)) 4 [] h.next:=cY.new h 4 0 _ [] rfl (fM _)
 obtain⟨x,q,s,A⟩:=j.app (bytes:=80) (by rw[H.aU];omega) (c.mono f) (n:=0) (m:=m) rfl a om om
 have t:lQ h 4 [aC 0,.aE,.aE,.aE] 0 []=some (.sl h.next 0 0 (.kn 0),h.new (.cells false [])):=rfl
 simp(disch:=omega)only[go_sem,fO,aD,p,t,s]
 have fr:=A.fr _ f (fM _)
 rcases A.own with ⟨_,e⟩|⟨id,k,cap,rest,rfl,d,r,o,i,b⟩
 ·rw[List.nil_append] at e
  rw[e] at a
  simp at a;omega
 ·rw[List.nil_append] at d b
  obtain rfl:k=m:=Nat.eq_of_mul_eq_mul_right (by omega:0<4) (d.symm.trans a)
  exact⟨id,cap,rest,rfl,r,o,i,b,fr⟩
def nY {α:Type}(P:Nat->Bool)(l:List α):List α:=l.zipIdx.filterMap λx=>if P x.2 then none else some x.1
section
variable {α β:Type} {P:Nat->Bool}
theorem IE (l:List α)(a:α):nY P (l++ [a])=nY P l++if P l.length then [] else [a]:=by
 unfold nY;rw[List.zipIdx_append,List.filterMap_append];congr 1;simp only[List.zipIdx_singleton,Nat.zero_add,List.filterMap_cons,List.filterMap_nil];split
 ·rename_i h
  split at h
  ·rename_i c;rw[bF c]
  ·cases h
 ·rename_i b h
  split at h
  ·cases h
  ·rename_i c
   cases h;rw[bI c]
theorem qJ {l:List α}{i:Nat}(hi:i<l.length):nY P (l.take (i+1))=nY P (l.take i)++if P i then [] else [l[i]]:=by
 rw[List.take_succ_eq_append_getElem hi,IE,Fj,Nat.min_eq_left om]
theorem Jk {l:List α}: ∀{i:Nat},i<=l.length->(∀j,j<i->P j=false)->nY P (l.take i)=l.take i
 |0,_,_=>rfl
 |i+1,hi,h=>by
  rw[qJ om,Jk om λj a=>h j om,bI (by rw[h i om];exact Bool.false_ne_true),List.take_succ_eq_append_getElem om]
theorem BD {R:α->β->Prop}{l:List α}{m:List β}(a:aM R l m):aM R (nY P l) (nY P m):=by
 have c:=aM.length a
 have b: ∀i,i<=l.length->aM R (nY P (l.take i)) (nY P (m.take i)):=by
  intro i
  induction i with
  |zero=>exact λ_=>trivial
  |succ i ih=>
   intro hi;rw[qJ om,qJ om];refine aM.append (ih om) ?_;split
   ·trivial
   ·exact⟨aM.get a i om om,trivial⟩
 have:=b l.length (fM _);rwa [List.take_length,c,List.take_length] at this
end
section
variable {rest:List V} {k:Nat}
def VU (h:H)(sz:Nat)(zero:List V):V->Option (V×H)
 | .aE=>some (V.undef,h)
 | .emp _=>some (V.undef,h)
 | .sl id off len _=>if len=0 then some (V.undef,h) else
   if zero.length=sz/\zero.all V.one=true then (h.put id off (cX zero (len*sz))).map (λh'=>(V.undef,h')) else none
 |_=>none
theorem HG (ρ:X->V)(h:H)(sz:Nat)(zero:List V)(x:X):cI ρ h (.clr sz zero x)=VU h sz zero (ρ x):=by
 simp only[cI,VU]
 rfl
section
variable {α:Type} {f:α->List V} {s:Nat} (hf: ∀x,(f x).length=s)
include hf
theorem GI {ps:List α}{i:Nat}(hi:i<ps.length):sub (ps.flatMap f++rest) (i*s) s=some (f ps[i]):=by
 have e:=CD hf ps i hi;have l:=agV hf ps;have a:(i+1)*s<=ps.length*s:=Nat.mul_le_mul_right s om;rw[Nat.succ_mul] at a;unfold sub;rw[bF (by rw[jZ];omega),List.drop_append,List.take_append_of_le_length (by rw[AQ];omega)];exact congrArg some e
theorem GN {ps:List α}(d:k<ps.length)(p:α):putAt (ps.flatMap f++rest) (k*s) (f p)=some ((ps.set k p).flatMap f++rest):=by
 have l:=agV hf ps;have h:(k+1)*s<=ps.length*s:=Nat.mul_le_mul_right s om;rw[Nat.succ_mul] at h;have e:ps.take k++ [ps[k]]++ps.drop (k+1)=ps:=by rw[←List.take_succ_eq_append_getElem d,List.take_append_drop]
 have m:ps.set k p=ps.take k++ [p]++ps.drop (k+1):=by rw[List.set_eq_take_append_cons_drop,bF d,Ll];rfl
 have b:=agV hf (ps.take k);rw[Fj,Nat.min_eq_left om] at b;have a:=agV hf (ps.take k++ [ps[k]]);rw[jZ,Fj,Nat.min_eq_left om] at a;have a:((ps.take k++ [ps[k]]).flatMap f).length=(k+1)*s:=a;rw[Nat.succ_mul] at a;have c:ps.flatMap f++rest=(ps.take k++ [ps[k]]).flatMap f++((ps.drop (k+1)).flatMap f++rest):=by rw[←Ll,←List.flatMap_append,e]
 unfold putAt;rw[bF (by rw[jZ,l,hf];omega)];refine congrArg some ?_
 have j:(ps.flatMap f++rest).take (k*s)=(ps.take k).flatMap f:=by
  rw[c,List.flatMap_append,Ll,←b,List.take_left]
 have i:(ps.flatMap f++rest).drop (k*s+(f p).length)=(ps.drop (k+1)).flatMap f++rest:=by
  rw[c,hf,←a,List.drop_left]
 rw[j,i,m,List.flatMap_append,List.flatMap_append,Ll,Ll,Ll];simp
end
section
variable {n:Nat}
theorem YB {ps:List (V×V×V)}{i:Nat}(hi:i<ps.length):sub (zB n ps++rest) (i*4) 4=some (Bt n ps[i]):=GI (s:=4) (f:=Bt n) (λ_=>rfl) hi
theorem XD {ps:List (V×V×V)}(a:k<ps.length)(p:V×V×V):putAt (zB n ps++rest) (k*4) (Bt n p)=some (zB n (ps.set k p)++rest):=GN (s:=4) (f:=Bt n) (λ_=>rfl) a p
theorem aaA {id m:Nat}{a:Kh}(d:a= .un 4∨a= .kn m/\rest= [])(b:k<=m): ∃off cap',xT 4 (.sl id 0 m a) (some (aC k)) none none=some (.sl id off (m-k) cap')/\(k<m->off=k*4):=by
 rcases d with rfl|⟨rfl,_⟩
 ·by_cases h:k<m
  ·exact⟨k*4,_,by simp [xT,oG,b,h];rfl,λ_=>rfl⟩
  ·exact⟨0,.un 4,by simp [xT,oG,b,h];omega,λc=>absurd c h⟩
 ·by_cases h:m=k
  ·exact⟨0,_,by simp [xT,oG,b,h];rfl,λc=>om⟩
  ·exact⟨k*4,_,by simp [xT,oG,b,h];rfl,λ_=>rfl⟩
theorem WU {id m:Nat}{a:Kh}(c:a= .un 4∨a= .kn m/\rest= [])(b:k<=m)(d:0<m): ∃cap',xT 4 (.sl id 0 m a) none (some (aC k)) none=some (.sl id 0 k cap'):=by
 rcases c with rfl|⟨rfl,_⟩
 ·exact⟨_,by simp [xT,oG,b,d];rfl⟩
 ·exact⟨_,by simp [xT,oG,b,show m≠0 by omega];rfl⟩
end
theorem abI (id m:Nat)(r:Kh)(rest:List V)(F:Nat)(cs:List V)(n:Nat)(ps:List (V×V×V))(P:Nat->Bool)(h:H)(Y:id<h.next)(hg:h.get id=some (.cells false (zB n ps++rest)))(hc:r= .un 4∨r= .kn m/\rest= [])(hm:ps.length=m)(h0:0<m)(w:m<1000000)(one: ∀p∈ps,p.1.one=true/\p.2.1.one=true/\p.2.2.one=true)(hf: ∀i (hi:i<ps.length) hh,Fx (· =id) h hh->Ev T F (Zw n ps[i]::cs) hh (λv h'=>v= .bool (P i)/\Fr hh h')):
  Ev T 51 [.sl id 0 m r,.fn F [] cs] h (λv h'=>SV h' v 4 (zB n (nY P ps))/\Fx (· =id) h h'):=by
 refine cV eD rfl ?_
 have sv:SV h (.sl id 0 m r) 4 (zB n ps):= .inr ⟨id,0,m,r,false,_,rfl,by rw[mH,hm],Y,hg,by rw[jZ,mH];omega,by rw[List.drop_zero,List.take_append_of_le_length (by rw[mH];omega),←hm,←mH n ps,List.take_length]⟩
 simp(disch:=omega)only[go_sem,eD,aD]
 refine (FD _ F cs n ps P h sv om λi hi hh f=>hf i hi hh (Fx.of f)).mono ?_
 rintro _ t ⟨k,rfl,J,U⟩
 rcases J with ⟨rfl,hn⟩|⟨R,a1,rfl,K,hn⟩
 ·simp(disch:=omega)only[go_sem,eq_self,decide_true]
  have e:nY P ps=ps:=by
   have:=Jk (P:=P) (l:=ps) (fM _) hn;rwa [List.take_length] at this
  rw[e]
  exact⟨sv.mono U,Fx.of U⟩
 have d0:decide ((R:Int)= -1)=false:=bH om
 simp(disch:=omega)only[go_sem,d0]
 rw[eJ R]
 refine aH (λk' y hh=> ∃(i k:Nat) (o:List (V×V×V)),(∃g:Nat->V,y= [.sl id 0 m r,.fn F [] cs,g 2,aC k,aC i,g 5,g 6,g 7,g 8])/\i<=m/\o.length=m/\k<=i/\o.take k=nY P (ps.take i)/\o.drop i=ps.drop i/\hh.get id=some (.cells false (zB n o++rest))/\Fx (· =id) h hh/\k'=m-i) (m-(R+1))
  ⟨R+1,R,ps,aB rfl,om,hm,om,?_,rfl,by rw[U.get id Y];exact hg,Fx.of U,rfl⟩ ?_
 ·rw[qJ a1,Jk om hn,bF K,vF]
 clear hn K d0 U
 rintro k' y hh ⟨i,k,o,⟨g,rfl⟩,hi,lc,ki,J,hd,gc,F2,rfl⟩
 by_cases O:(i:Int)<(m:Int)
 case neg=>
  have d1:=bH O;obtain rfl:i=m:=om
  obtain⟨a3,cp,s1,s2⟩:=aaA (id:=id) hc ki;obtain⟨N,s3⟩:=WU (id:=id) hc ki h0;rw[←hm,List.take_length] at J;have n2:=F2.next;have l4:=mH n o
  have W: ∀z u,z.next=hh.next->z.get id=some (.cells false u)->u.take (k*4)=zB n (o.take k)->k*4<=u.length->SV z (.sl id 0 k N) 4 (zB n (nY P ps)):=λz u e1 e2 e3 e4=>by
   rw[←J];exact .inr ⟨id,0,k,N,false,u,rfl,by rw[mH,Fj];rw[Nat.min_eq_left om],om,e2,om,by rw[List.drop_zero];exact e3⟩
  have t4:(zB n o++rest).take (k*4)=zB n (o.take k):=by
   have e:zB n o=zB n (o.take k)++zB n (o.drop k):=by rw[←Wh,List.take_append_drop]
   have l1:=mH n (o.take k);rw[Fj,Nat.min_eq_left om] at l1;rw[e,Ll,List.take_append_of_le_length om,←l1,List.take_length]
  by_cases e:k=i
  ·have cz:VU hh 4 [aC 0,.aE,.aE,.aE] (.sl id a3 (i-k) cp)=some (V.undef,hh):=by simp [VU,e]
   simp(disch:=omega)only[go_sem,d1,s1,HG,cz,s3];exact⟨W hh _ rfl gc t4 (by rw[jZ];omega),F2⟩
  ·obtain rfl:=s2 om
   have zl:(cX [aC 0,.aE,.aE,.aE] ((i-k)*4)).length=(i-k)*4:=by simp [cX]
   obtain⟨u,A⟩:=exI ((zB n o++rest).take (k*4)++cX [aC 0,.aE,.aE,.aE] ((i-k)*4)++(zB n o++rest).drop (k*4+(i-k)*4));have ik:k*4+(i-k)*4=i*4:=by rw[←Nat.add_mul];congr 1;omega
   have pa:putAt (zB n o++rest) (k*4) (cX [aC 0,.aE,.aE,.aE] ((i-k)*4))=some u:=by
    unfold putAt;rw[zl,bF (by rw[jZ];omega),A]
   have a0:((zB n o++rest).take (k*4)).length=k*4:=by rw[Fj,Nat.min_eq_left (by rw[jZ];omega)]
   have tv:u.take (k*4)=zB n (o.take k):=by rw[←A,Ll,List.take_append_of_le_length om,Tn om,t4]
   have cz:VU hh 4 [aC 0,.aE,.aE,.aE] (.sl id (k*4) (i-k) cp)=some (V.undef,hh.set id (some (.cells false u))):=by
    show (if i-k=0 then _ else if _ then _ else none)=_;rw[bI om,bF ⟨rfl,rfl⟩];unfold H.put;rw[gc];simp only[pa,Option.map_some]
   simp(disch:=omega)only[go_sem,d1,s1,HG,cz,s3];exact⟨W _ u rfl (H.aS _ _ _) tv (by rw[←A,jZ,jZ,a0];omega),⟨n2,λq w t=>by rw[H.aG _ t];exact F2.get q w t⟩⟩
 have d1:=bP O
 have a4:i<m:=om
 have ix: ∀j:Nat,j<m->Dz 4 (.sl id 0 m r) (aC j)=some (.ptr id (j*4)):=λj hj=>by simp [Dz,hj]
 have lP:i<ps.length:=om
 have ci:o[i]'om=ps[i]:=by
  have:=congrArg (λl=>l[0]?) hd;simp only[List.getElem?_drop,Nat.add_zero] at this;rw[dD om,dD lP] at this;exact Option.some.inj this
 have Q:hh.row id (i*4) 4=some (Bt n ps[i]):=by
  rw[←ci];unfold H.row;rw[gc];exact YB om
 obtain⟨o1,o2,o3⟩:=one _ (zG lP)
 have fi:=hf i lP
 have Z:nY P (ps.take (i+1))=nY P (ps.take i)++if P i then [] else [ps[i]]:=qJ lP
 generalize ps[i]=p at Q o1 o2 o3 fi Z ci
 obtain⟨B,hB⟩:=exI hh.next
 obtain⟨z,e3,n3,g3,q3,f3⟩:=dF hB [aC 0,.aE,.aE,.aE]
 obtain⟨h4,e4,n4,g4,q4⟩:=pJ z B (Bt n p)
 have n2:=F2.next
 have L:Fr hh h4:=⟨om,λq hq=>by rw[q4 q om,q3 q om]⟩
 have F4:Fx (· =id) h h4:=⟨om,λq w t=>by rw[L.get q om];exact F2.get q w t⟩
 simp(disch:=omega)only[go_sem,d1,ix i a4,Q,hB,e3,kL z B 0 (a:= aC n) (b:=p.1) (c:=p.2.1) (d:=p.2.2) rfl o1 o2 o3,g3,jS,e4,gU g4]
 refine (fi h4 F4).mono ?_
 rintro _ G ⟨rfl,f5⟩
 have F5:Fx (· =id) h G:=⟨by have:=f5.next;omega,λq w t=>by rw[f5.get q om];exact F4.get q w t⟩
 have g5:G.get id=some (.cells false (zB n o++rest)):=by rw[f5.get id om,L.get id om];exact gc
 have a2:G.get B=some (.cells false (Bt n p)):=by rw[f5.get B om];exact g4
 cases K:P i with
 |true=>
  rw[K,bF rfl,vF] at Z;simp(disch:=omega)only[go_sem];rw[eJ i];exact⟨m-(i+1),om,i+1,k,o,aB rfl,om,lc,om,by rw[J,Z],by rw[←List.drop_drop,hd,List.drop_drop],g5,F5,rfl⟩
 |false=>
  rw[K,bI (by simp)] at Z
  have pt:dX (some (.cells false (zB n o++rest))) G id (k*4) (Bt n p)=some (G.set id (some (.cells false (zB n (o.set k p)++rest)))):=by
   have:=XD (n:=n) (ps:=o) (rest:=rest) (k:=k) om p;simp only[dX,this,Option.map_some]
  simp(disch:=omega)only[go_sem,gU a2,ix k om,kL G id (k*4) (a:= aC n) (b:=p.1) (c:=p.2.1) (d:=p.2.2) rfl o1 o2 o3,g5,pt];rw[show (i:Int)+1=((i+1:Nat):Int) from om,show (k:Int)+1=((k+1:Nat):Int) from om];have lk:k<o.length:=om
  refine⟨m-(i+1),om,i+1,k+1,o.set k p,aB rfl,om,by rw[List.length_set];exact lc,om,?_,?_,rfl,⟨by have:=F5.next;simp only[H.bY];omega,λq w t=>by rw[H.aG _ t];exact F5.get q w t⟩,rfl⟩
  ·rw[List.take_succ_eq_append_getElem (by rw[List.length_set];exact lk),List.getElem_set_self,List.take_set_of_le (fM _),J,Z]
  ·rw[List.drop_set_of_lt om,←List.drop_drop,hd,List.drop_drop]
end
def Hx:List Nat->List Nat->Int
 | [], []=>0
 | [],_::_=> -1
 |_::_, []=>1
 |a::l,b::m=>if a=b then Hx l m else Cls.rQ a b
theorem Uq: ∀(a b:List Nat),Hx a b<0↔kP a b=true
 | [], []=>by simp [Hx,kP]
 | [],_::_=>by simp [Hx,kP]
 |_::_, []=>by simp [Hx,kP]
 |a::l,b::m=>by
  unfold Hx kP;split
  ·exact Uq l m
  ·unfold Cls.rQ
   rw[Qf];split
   ·omega
   ·split<;>omega
theorem XV (x A:V)(a b:List Nat)(h:H)(J:SI h x (zi a))(O:SI h A (zi b))(W:a.length<1000000)(Q:b.length<1000000):
  Ev T 109 [x,A] h (λv h'=>v= aC (Hx a b)/\Fr h h'):=by
 refine cV mX rfl ?_
 have w:=J.lens
 have lb:=O.lens
 rw[aQ] at w lb
 obtain⟨id,y,B,q,P⟩:=J.open
 obtain⟨z,s,u,l,t⟩:=O.open
 rw[aQ] at B q P u l t
 simp(disch:=omega)only[go_sem,mX,aD,w,lb]
 refine aH (λL k o=> ∃(i:Nat),(∃g:Nat->V,k= [x,A,g 2,g 3,g 4,g 5,g 6,x,aC (a.length:Int),aC i,g 10,g 11,g 12,g 13])/\i<=a.length/\i<=b.length/\Hx a b=Hx (a.drop i) (b.drop i)/\Fr h o/\L=a.length-i) a.length
  ⟨0,aB rfl,iJ _,iJ _,rfl,Fr.refl h,rfl⟩ ?_
 rintro L k o ⟨i,⟨g,rfl⟩,hi,U,c,f,rfl⟩
 by_cases n:(i:Int)<(a.length:Int)
 case neg=>
  have p:=bH n;rw[List.drop_eq_nil_of_le om] at c
  by_cases r:(a.length:Int)<(b.length:Int)
  ·have m:=bP r
   rw[AR (show i<b.length by omega)] at c;simp(disch:=omega)only[go_sem,p,w,lb,m];exact⟨by rw[c];rfl,f⟩
  ·have m:=bH r
   rw[List.drop_eq_nil_of_le om] at c;simp(disch:=omega)only[go_sem,p,w,lb,m];exact⟨by rw[c];rfl,f⟩
 have p:=bP n
 have j:i<a.length:=om
 have F:o.cell id (y+i)=some (aC (a.getD i 0:Nat)):=by rw[f.cell (q om),P i j];congr 2;simp [zi,j]
 rw[AR j] at c
 have R:a.getD i 0=a[i]:=by rw[List.getD,dD j];rfl
 by_cases r:(b.length:Int)<=(i:Int)
 ·have m:=bP r
  rw[show b.drop i= [] from List.drop_eq_nil_of_le om] at c
  simp(disch:=omega)only[go_sem,p,B.ixa,F,lb,m]
  exact⟨by rw[c];rfl,f⟩
 have m:=bH r
 have d:i<b.length:=om
 have K:o.cell z (s+i)=some (aC (b.getD i 0:Nat)):=by rw[f.cell (l om),t i d];congr 2;simp [zi,d]
 rw[AR d] at c
 have Y:b.getD i 0=b[i]:=by rw[List.getD,dD d];rfl
 rw[R] at F
 rw[Y] at K
 simp(disch:=omega)only[go_sem,p,B.ixa,F,lb,m,u.ixa,K]
 refine (Cls.yD _ _ o).mono ?_
 rintro _ Z ⟨rfl,N⟩
 rw[show Hx (a[i]::a.drop (i+1)) (b[i]::b.drop (i+1))=if a[i]=b[i] then Hx (a.drop (i+1)) (b.drop (i+1)) else Cls.rQ a[i] b[i] from rfl] at c
 by_cases e:a[i]=b[i]
 ·rw[bF e] at c
  have G:decide (Cls.rQ (a[i]:Int) (b[i]:Int)≠0)=false:=bH (by rw[e];unfold Cls.rQ;rw[bI om,bI om];omega)
  simp(disch:=omega)only[go_sem,G]
  rw[eJ i]
  exact⟨a.length-(i+1),om,i+1,aB rfl,om,om,c,f.trans N,rfl⟩
 ·rw[bI e] at c
  have G:decide (Cls.rQ (a[i]:Int) (b[i]:Int)≠0)=true:=bP (by unfold Cls.rQ;split;omega;split<;>omega)
  simp(disch:=omega)only[go_sem,G]
  exact⟨by rw[c],f.trans N⟩
section
variable {W W':Nat->Prop} {L:LN} {h:H} {p q:V×V×V} {a b:List Nat}
theorem ET (n:Nat)(P:L.length<=5040)(f:Nm W n L h p a)(k:Nm W' n L h q b):
  Ev T 58 [Zw n p,Zw n q] h (λv h'=>v= aC (Hx a b)/\Fr h h'):=by
 obtain⟨x,t,J⟩:=f.one
 obtain⟨A,K,z⟩:=k.one
 have U:=f.rk.short
 have lb:=k.rk.short
 refine cV aiS rfl ?_
 obtain⟨B,m⟩:=exI h.next
 obtain⟨s,w,r,u,Q,l⟩:=dF m [aC n,p.1,p.2.1,p.2.2]
 obtain⟨o,F,R,y,N,j⟩:=dF r [aC n,q.1,q.2.1,q.2.2]
 have i:o.get B=some (.cells false (Bt n p)):=by rw[N B om];exact u
 simp(disch:=omega)only[go_sem,aiS,aD,fZ h (a:= aC n) (b:=p.1) (c:=p.2.1) (d:=p.2.2) rfl x t J,m,w,fZ s (a:= aC n) (b:=q.1) (c:=q.2.1) (d:=q.2.2) rfl A K z,r,F,H.aF i,H.aF y]
 refine (XV _ _ a b o (f.si.mono (l.trans j)) (k.si.mono (l.trans j)) om om).mono ?_
 rintro _ O ⟨rfl,G⟩
 simp(disch:=omega)only[go_sem]
 exact l.trans (j.trans G)
theorem aaV (n:Nat)(hL:L.length<=5040)(y:Nm W n L h p a)(w:Nm W' n L h q b):
  Ev T 56 [Zw n p,Zw n q] h (λv h'=>v= .bool (a.all λi=>decide (i∈b))/\Fr h h'):=by
 obtain⟨o1,o2,o3⟩:=y.one
 obtain⟨u1,u2,u3⟩:=w.one
 have la:=y.rk.short
 have lb:=w.rk.short
 refine cV yW rfl ?_
 obtain⟨B,J⟩:=exI h.next
 obtain⟨Z,e1,Y,g1,q1,f1⟩:=dF J [aC n,p.1,p.2.1,p.2.2]
 obtain⟨G,e2,n2,g2,q2,f2⟩:=dF Y [aC n,q.1,q.2.1,q.2.2]
 have A:G.get B=some (.cells false (Bt n p)):=by rw[q2 B om];exact g1
 have F2:=f1.trans f2
 have U:=y.si.lens
 rw[aQ] at U
 obtain⟨id,z,R,t,Q⟩:=y.si.open
 rw[aQ] at R t Q
 simp(disch:=omega)only[go_sem,yW,aD,fZ h (a:= aC n) (b:=p.1) (c:=p.2.1) (d:=p.2.2) rfl o1 o2 o3,J,e1,fZ Z (a:= aC n) (b:=q.1) (c:=q.2.1) (d:=q.2.2) rfl u1 u2 u3,Y,e2,H.aF A,U]
 refine aH (λK l r=> ∃(i:Nat),(∃g:Nat->V,l= [g 0,g 1,g 2,.ptr (B+1) 0,.bool false,g 5,g 6,p.2.2,aC (a.length:Int),aC i,g 10,g 11])/\i<=a.length/\(∀j (u:j<i) (P:j<a.length),a[j]∈b)/\Fr G r/\K=a.length-i) a.length
  ⟨0,aB rfl,iJ _,λj u=>om,Fr.refl G,rfl⟩ ?_
 rintro K l r ⟨i,⟨g,rfl⟩,hi,N,f,rfl⟩
 by_cases m:(i:Int)<(a.length:Int)
 case neg=>
  have F:=bH m;simp(disch:=omega)only[go_sem,F];refine⟨?_,F2.trans f⟩;congr 1;refine (Kv.2 λx hx=>?_).symm;obtain⟨j,u,rfl⟩:=zF.1 hx;exact bP (N j om u)
 have F:=bP m
 have o:i<a.length:=om
 have c1:r.cell id (z+i)=some (aC (a[i]:Nat)):=by rw[(F2.trans f).cell (t om),Q i o];congr 2;simp [zi,o]
 have gq:r.get (B+1)=some (.cells false (Bt n q)):=by rw[f.get _ om];exact g2
 simp(disch:=omega)only[go_sem,F,R.ixa,c1,H.aF gq]
 refine (Es q.2.2 b a[i] r om w.rk.asc (w.si.mono (F2.trans f))).mono ?_
 rintro _ h3 ⟨k,c,rfl,s,_,O⟩
 cases c with
 |true=>
  simp(disch:=omega)only[go_sem,Bool.not_true];rw[eJ i]
  exact⟨a.length-(i+1),om,i+1,aB rfl,om,λj u P=>by
   by_cases e:j=i
   ·subst e;exact s.1 rfl
   ·exact N j om P,f.trans O,rfl⟩
 |false=>
  simp(disch:=omega)only[go_sem,Bool.not_false];refine⟨?_,F2.trans (f.trans O)⟩;congr 1;refine (List.all_eq_false.2 ⟨a[i],zG _,?_⟩).symm;rw[Qf];exact λh=>by have:=s.2 h;cases this
theorem abG (n B:Nat)(K:L.length<=5040)(k:Nm W n L h p a)(l:Nm W' n L h q b)(J:h.get B=some (.cells false (Bt n q)))(Q:B<h.next):
  Ev T 55 [Zw n p,.ptr B 0] h (λv h'=>v= .bool (decide (a.length<b.length)&&a.all λi=>decide (i∈b))/\Fr h h'):=by
 obtain⟨A,y,F⟩:=k.one
 obtain⟨R,Z,U⟩:=l.one
 have la:=k.rk.short
 have lb:=l.rk.short
 refine cV nH rfl ?_
 obtain⟨C,x⟩:=exI h.next
 obtain⟨G,z,Y,r,N,m⟩:=dF x [aC n,p.1,p.2.1,p.2.2]
 have s:B≠C:=om
 have f:G.get B=some (.cells false (Bt n q)):=by rw[N B s];exact J
 have u:=k.si.lens
 rw[aQ] at u
 have o:=l.si.lens
 rw[aQ] at o
 by_cases j:(a.length:Int)<(b.length:Int)
 case neg=>
  have w:=bH j;have t:decide (a.length<b.length)=false:=bH om;simp(disch:=omega)only[go_sem,nH,aD,fZ h (a:= aC n) (b:=p.1) (c:=p.2.1) (d:=p.2.2) rfl A y F,x,z,H.aF f,H.aF r,u,o,w,t,Bool.false_and];exact m
 ·have w:=bP j
  have t:decide (a.length<b.length)=true:=bP om
  simp(disch:=omega)only[go_sem,nH,aD,fZ h (a:= aC n) (b:=p.1) (c:=p.2.1) (d:=p.2.2) rfl A y F,x,z,H.aF f,H.aF r,u,o,w,gU f,gU r]
  refine (aaV n K (k.mono m) (l.mono m)).mono ?_
  rintro _ P ⟨rfl,O⟩
  simp(disch:=omega)only[go_sem,t,Bool.true_and]
  exact m.trans O
end
section
variable {W W':Nat->Prop} {L:LN} {h:H}
theorem adF {p:V×V×V}{r:List Nat}(n k Q:Nat)(j:V)(ps:List (V×V×V))(rs:LN)(J:L.length<=5040)(hl:rs.length<1000000)(G:h.get k=some (.cells false [.ptr Q 0]))(Y:k<h.next)(O:h.get Q=some (.cells false [j]))(nQ:Q<h.next)(sv:SV h j 4 (zB n ps))(al:aM (Nm W n L h) ps rs)(m:Nm W' n L h p r):
  Ev T 53 [Zw n p,.ptr k 0] h (λv h'=>v= .bool (Yc rs r)/\Fr h h'):=by
 obtain⟨A,w,K⟩:=m.one
 have R:=aM.length al
 refine cV xC rfl ?_
 obtain⟨B,t⟩:=exI h.next
 obtain⟨o,F,n1,y,u,l⟩:=dF t [aC n,p.1,p.2.1,p.2.2]
 have q:o.get k=some (.cells false [.ptr Q 0]):=by rw[u _ om];exact G
 have s:o.get Q=some (.cells false [j]):=by rw[u _ om];exact O
 simp(disch:=omega)only[go_sem,xC,aD,fZ h (a:= aC n) (b:=p.1) (c:=p.2.1) (d:=p.2.2) rfl A w K,t,F,H.aF q,H.aF s]
 refine (FW j 55 [.ptr B 0] n ps (λi=>decide ((rs.getD i []).length<r.length)&&(rs.getD i []).all λi=>decide (i∈r)) o (sv.mono l) om λi hi Z f=>?_).mono ?_
 ·have z:=(aM.get al i hi om).mono (l.trans f)
  rw[List.getD,dD om,Option.getD_some]
  exact abG n B J z (m.mono (l.trans f)) (by rw[f.get B om];exact y) (by have:=f.next;omega)
 rintro _ U ⟨⟨b,rfl,P⟩,N⟩
 simp(disch:=omega)only[go_sem]
 refine⟨?_,l.trans N⟩
 congr 1
 refine Py.2 (P.trans ?_)
 unfold Yc
 rw[List.any_eq_true]
 constructor
 ·rintro⟨i,hi,e⟩
  exact⟨_,bD om,e⟩
 ·rintro⟨x,hx,e⟩
  obtain⟨i,hi,rfl⟩:=zF.1 hx
  exact⟨i,om,by rw[List.getD,dD hi];exact e⟩
theorem OB {rs:LN}{i:Nat}(c:1<=i)(hi:i<rs.length):NH (rs.take (i+1))=if kP rs[i] (NH (rs.take i)) then rs[i] else NH (rs.take i):=by
 cases rs with
 |nil=>simp at hi
 |cons a l=>
  obtain⟨k,rfl⟩: ∃k,i=k+1:=⟨i- 1,om⟩
  have b:k<l.length:=by simpa using hi
  show (l.take (k+1)).foldl _ a=_;rw[List.take_succ_eq_append_getElem b,List.foldl_append]
  rfl
theorem aaF (n:Nat)(U:V)(ps:List (V×V×V))(rs:LN)(hL:L.length<=5040)(hl:rs.length<1000000)(h0:0<rs.length)(sv:SV h U 4 (zB n ps))(al:aM (Nm W n L h) ps rs):
  Ev T 57 [U,.fn 58 [] []] h (λv h'=>(∃i,∃hi:i<ps.length,v=Zw n ps[i]/\rs.getD i []=NH rs)/\Fr h h'):=by
 have lp:=aM.length al
 have lv:=zP sv
 have n0:0<ps.length:=om
 have one: ∀j (t:j<ps.length),ps[j].1.one=true/\ps[j].2.1.one=true/\ps[j].2.2.one=true:=λj t=>(aM.get al j t om).one
 have d0:decide ((ps.length:Int)<1)=false:=bH om
 refine cV eX rfl ?_
 obtain⟨B,hB⟩:=exI h.next
 obtain⟨h1,e1,n1,g1,q1,w⟩:=dF hB [aC 0,.aE,.aE,.aE]
 have y:=(Lu (sv.mono w) n0)
 obtain⟨id,a4,sh,row,_⟩:=y
 obtain⟨h2,e2,n2,g2,q2,f2⟩:=dF n1 [aC 0,.aE,.aE,.aE]
 obtain⟨h3,e3,n3,g3,q3⟩:=pJ h2 (B+1) (Bt n ps[0])
 obtain⟨o1,o2,o3⟩:=one 0 n0
 have ix:=sh.ixa .i64 0 om om
 simp only[Int.toNat_zero] at ix
 simp(disch:=omega)only[go_sem,eX,aD,hB,e1,lv,d0,ix,row,n1,e2,kL h2 (B+1) 0 (a:= aC n) (b:=ps[0].1) (c:=ps[0].2.1) (d:=ps[0].2.2) rfl o1 o2 o3,g2,jS,e3]
 have z:Fr h1 h3:=⟨om,λq K=>by rw[q3 q om,q2 q om]⟩
 have F3:=w.trans z
 refine aH (λk' s m=> ∃(i j:Nat),(∃g:Nat->V,s= [U,.fn 58 [] [],.ptr B 0,.ptr (B+1) 0,aC i,g 5,g 6,g 7])/\1<=i/\i<=ps.length/\(∃t:j<ps.length,m.get (B+1)=some (.cells false (Bt n ps[j])))/\rs.getD j []=NH (rs.take i)/\B+1<m.next/\Fr h1 m/\k'=ps.length-i) (ps.length- 1)
  ⟨1,0,aB rfl,om,om,⟨n0,g3⟩,?_,om,z,rfl⟩ ?_
 ·cases rs with
  |nil=>simp at h0
  |cons a l=>rfl
 rintro k' s m ⟨i,j,⟨g,rfl⟩,a0,hi,⟨t,gj⟩,N,nB,f,rfl⟩
 have gB:m.get B=some (.cells false [aC 0,.aE,.aE,.aE]):=by rw[f.get B om];exact g1
 obtain⟨w1,w2,w3⟩:=one j t
 by_cases F:(i:Int)<(ps.length:Int)
 case neg=>
  have d1:=bH F;obtain rfl:i=ps.length:=om
  obtain⟨G,e4,n4,g4,q4⟩:=pJ m B (Bt n ps[j]);rw[lp,List.take_length] at N;simp(disch:=omega)only[go_sem,lv,d1,gU gj,kL m B 0 (a:= aC n) (b:=ps[j].1) (c:=ps[j].2.1) (d:=ps[j].2.2) rfl w1 w2 w3,gB,jS,e4,gU g4];exact⟨⟨j,t,rfl,N⟩,⟨by have:=(w.trans f).next;omega,λq K=>by rw[q4 q om,(w.trans f).get q K]⟩⟩
 have d1:=bP F
 have p:i<ps.length:=om
 obtain⟨Z,J,x,r,Y⟩:=Lu (sv.mono (w.trans f)) p
 have mi:=aM.get al i p om
 have mj:=aM.get al j t om
 have fb: ∀k,m.next<=k->Fr m (H.mk m.tr k):=λk hk=>(Fr.refl m).bA hk
 simp(disch:=omega)only[go_sem,lv,d1,x.ixa,r,gU gj]
 refine (ET n hL (mi.mono ((w.trans f).trans (fb _ om))) (mj.mono ((w.trans f).trans (fb _ om)))).mono ?_
 rintro _ G ⟨rfl,f4⟩
 have o:=(fb _ om).trans f4
 have u:G.get (B+1)=some (.cells false (Bt n ps[j])):=by rw[o.get _ nB];exact gj
 have r4:G.row Z (J+i*4) 4=some (Bt n ps[i]):=by rw[DL o Y];exact r
 have Q:=mi.eq
 have ej:=mj.eq
 simp(disch:=omega)only[go_sem,gU u,r4,Q.1,Q.2.1,Q.2.2,ej.1,ej.2.1,ej.2.2]
 have P:=OB (rs:=rs) a0 om
 have lx:=Uq rs[i] rs[j]
 have A:rs[j]=NH (rs.take i):=by rw[←N,List.getD,dD om];rfl
 have n4:=o.next
 by_cases O:Hx rs[i] rs[j]<0
 ·have R:=bP O
  rw[bF (by rw[←A];exact lx.1 O)] at P
  obtain⟨a1,a2,a3⟩:=one i p
  obtain⟨h5,e5,n5,g5,q5⟩:=pJ G (B+1) (Bt n ps[i])
  simp(disch:=omega)only[go_sem,R,x.ixa,r4,kL G (B+1) 0 (a:= aC n) (b:=ps[i].1) (c:=ps[i].2.1) (d:=ps[i].2.2) rfl a1 a2 a3,u,jS,e5]
  rw[eJ i]
  exact⟨ps.length-(i+1),om,i+1,i,aB rfl,om,om,⟨p,g5⟩,by rw[P,List.getD,dD om];rfl,om,⟨by have:=f.next;omega,λq K=>by rw[q5 q om,o.get q (by have:=f.next;omega),f.get q K]⟩,rfl⟩
 ·have R:=bH O
  rw[bI (by rw[←A];exact λh=>O (lx.2 h))] at P
  simp(disch:=omega)only[go_sem,R]
  rw[eJ i]
  exact⟨ps.length-(i+1),om,i+1,j,aB rfl,om,om,⟨t,u⟩,by rw[P];exact N,om,f.trans o,rfl⟩
end
structure xJ (n:Nat)(G:List Nat->Prop)(L:LN)(r:List Nat):Prop where
 rk:Rk L (RG L r) r
 dN:iX n (RG L r)
 nm: ∀y g,RG L r y->G g->RG L r (cW y g)
 le: ∀x,RG L r x->G x
section
variable {n:Nat} {G:List Nat->Prop} {L:LN} {K r:List Nat} {i:Nat} (hG:iX n G) (E:dW G L)
include hG E
omit hG in
theorem xJ.Pz {N:List Nat->Prop}(b:iX n N)(le: ∀x,N x->G x)(a: ∀y g,N y->G g->N (cW y g)):xJ n G L (Pz L N):=by
 have k:=Dy L N;have e:N=RG L (Go.Proofs.YtcdbmkidaecdiaaGreat.Pz L N):=funext λx=>propext (k.iff E le x)
 exact⟨k.self E,by rw[←e];exact b,by rw[←e];exact a,by rw[←e];exact le⟩
theorem WA:xJ n G L (Pz L λx=>x=bL n):=
 xJ.Pz E (Vu n) (λx h=>by rw[h];exact hG.one) λy g b a=>by rw[b];exact Ro (hG.cU a)
theorem akE (k:xJ n G L r)(hi:i<L.length):xJ n G L (yR n G L r i):=by
 have a:=oS E hi;exact xJ.Pz E (Lb.dN hG k.le a) (λx h=>Lb.le hG k.le a h) λy g c b=>NC.cj c b
omit hG E in
theorem Bj (j:Nat):j∈yR n G L r i↔j<L.length/\Lb n G (RG L r) (L.getD i []) (L.getD j []):=(Dy L _).mem j
omit hG E in
theorem Gw (k:xJ n G L r)(hi:i<L.length)(d:i∉r):(∀x∈r,x∈yR n G L r i)/\i∈yR n G L r i/\r.length<(yR n G L r i).length:=by
 have a: ∀x∈r,x∈yR n G L r i:=λx c=>(Bj x).2 ⟨((k.rk.mem x).1 c).1,NC.of (.inl ⟨x,c,rfl⟩)⟩
 have b:i∈yR n G L r i:=(Bj i).2 ⟨hi,NC.of (.inr rfl)⟩;refine⟨a,b,?_⟩;have nd:(i::r).Nodup:=List.nodup_cons.2 ⟨d,k.rk.asc.imp λh=>Nat.ne_of_lt h⟩
 have:=List.Nodup.length_le_of_subset (l₂:=yR n G L r i) nd λx c=>by
  rcases zH.1 c with rfl|c
  ·exact b
  ·exact a x c
 rw[List.length_cons] at this;omega
theorem adC (k:xJ n G L r)(l:Cm n G L K)(q:r.length<L.length):XC n G L r K≠ []:=by
 intro e
 have all: ∀i,i∈K->i∈r:=λi hi=>Jg λh=>by
  have:yR n G L r i∈XC n G L r K:=Ft.2 ⟨i,hi,h,rfl⟩;rw[e] at this;cases this
 have: ∀j,j<L.length->j∈r:=λj a=>by
  obtain⟨s,p,m,g,d,e⟩:=Vo hG E a;have o:s∈K:=l.perm.mem_iff.2 (kV.2 ⟨om,m⟩);obtain⟨t,b,f⟩:=k.nm _ _ ⟨s,all s o,rfl⟩ d;have:t=j:=yK E.nodup ((k.rk.mem t).1 b).1 a (f.trans e);rw[←this];exact b
 have:=List.Nodup.length_le_of_subset (l₁:=List.range L.length) (l₂:=r) List.nodup_range λx c=>this x (Gu.1 c)
 rw[NM] at this;omega
theorem Fv (k:xJ n G L r)(m:Cm n G L K)(u:r.length<L.length):(∃i,i∈K/\i∉r/\Pw n G L K r=yR n G L r i)/\xJ n G L (Pw n G L K r)/\r.length<(Pw n G L K r).length/\
  ∀j,j∈K->j∉r->(∀x∈yR n G L r j,x∈Pw n G L K r)->yR n G L r j=Pw n G L K r:=by
 have s:=aaS (TM (adC hG E k m u))
 have e:NH (IN (XC n G L r K))=Pw n G L K r:=rfl
 rw[e] at s
 obtain⟨w,q⟩:=CH.1 s
 obtain⟨i,hi,c,e⟩:=Ft.1 w
 have a:=m.lt hi
 refine⟨⟨i,hi,c,e⟩,by rw[e];exact akE hG E k a,by rw[e];exact (Gw k a c).2.2,λj o d b=>?_⟩
 have p:=(akE hG E k (m.lt o)).rk
 have v:Rk L (RG L (Pw n G L K r)) (Pw n G L K r):=by rw[e];exact (akE hG E k a).rk
 have t:=p.asc.imp λh=>Nat.ne_of_lt h
 have A:=List.Nodup.length_le_of_subset t b
 have z:(Pw n G L K r).length<=(yR n G L r j).length:=by
  refine Nat.le_of_not_lt λh=>?_
  rw[Bool.not_eq_true'] at q;have:=List.any_eq_false.1 q _ (Ft.2 ⟨j,o,d,rfl⟩);rw[vN,Qf,Kv] at this;exact this ⟨h,λx f=>bP (b x f)⟩
 refine VD p.asc v.asc λx=>⟨b x,λf=>Jg λc=>?_⟩
 have:=List.Nodup.length_le_of_subset (List.nodup_cons.2 ⟨c,t⟩) (l₂:=Pw n G L K r) λy l=>by
  rcases zH.1 l with rfl|l
  ·exact f
  ·exact b y l
 rw[List.length_cons] at this
 omega
end
structure Ql (n:Nat)(G:List Nat->Prop)(L:LN)(K:List Nat)(rs:LN)(r:List Nat):Prop where
 hd:rs[0]? =some (Pz L λx=>x=bL n)
 st: ∀k a b,rs[k]? =some a->rs[k+1]? =some b->a.length<L.length/\b=Pw n G L K a
 la:rs[rs.length- 1]? =some r
 all: ∀a∈rs,xJ n G L a
 len:rs.length<=r.length
structure Ky (n:Nat)(G:List Nat->Prop)(L:LN)(K:List Nat)(rs:LN):Prop where
 ex: ∃r,Ql n G L K rs r/\r.length=L.length
section
variable {n:Nat} {G:List Nat->Prop} {L:LN} {K r:List Nat} {rs:LN} (hG:iX n G) (E:dW G L)
include hG E
theorem Ql.start:Ql n G L K [Pz L λx=>x=bL n] (Pz L λx=>x=bL n):=by
 refine⟨rfl,λk a b f d=>by simp at d,rfl,λa c=>by rw[List.mem_singleton.1 c];exact WA hG E,?_⟩;obtain⟨i,hi,e⟩:=zF.1 ((E.mem _).2 hG.one);have:i∈Pz L λx=>x=bL n:=((Dy L _).mem i).2 ⟨hi,by rw[List.getD,dD hi];exact e⟩
 exact HJ this
theorem Ql.push (c:Ql n G L K rs r)(u:Cm n G L K)(l:r.length<L.length):Ql n G L K (rs++ [Pw n G L K r]) (Pw n G L K r):=by
 have t:0<rs.length:=by
  have:=(Ax.1 c.hd).1;exact this
 have q:xJ n G L r:=c.all r (AW c.la);obtain⟨_,p,v,_⟩:=Fv hG E q u l;refine⟨by rw[Dv t];exact c.hd,λk a b d f=>?_,by rw[jZ];show (rs++_)[rs.length+1- 1]? =_;rw[Nat.add_sub_cancel,gAR (fM _),Nat.sub_self];rfl,λa o=>?_,by rw[jZ];show rs.length+1<=_;have:=c.len;omega⟩
 ·by_cases e:k+1<rs.length
  ·rw[Dv om] at d
   rw[Dv e] at f;exact c.st k a b d f
  ·have j:=(Ax.1 f).1
   rw[jZ] at j;have j:k+1<rs.length+1:=j;have s:k+1=rs.length:=om
   rw[Dv om] at d;rw[gAR om,s,Nat.sub_self] at f;have m:=c.la;rw[show rs.length- 1=k by omega] at m;rw[m] at d;cases d;cases f;exact⟨l,rfl⟩
 ·rcases pH.1 o with h|h
  ·exact c.all a h
  ·rw[List.mem_singleton.1 h];exact p
end
def AV (W:Nat->Prop)(n:Nat)(L:LN)(h:H)(p:V×V)(r:List Nat):Prop:= ∃O R,GC W h (.agg [aC n,p.1,p.2]) n O R (RG L r)
theorem AV.go {W W':Nat->Prop}{n:Nat}{L:LN}{h h':H}{p:V×V}{r:List Nat}(g:AV W n L h p r)(f:Fx W h h')(a: ∀q,q<h.next->W' q->W q):AV W' n L h' p r:=by
 obtain⟨O,R,g⟩:=g;exact⟨O,R,g.go f a⟩
structure WkJ (n:Nat)(L:LN)(Q:Nat)(h0 hh:H)(fd:LN):Prop where
 g8:hh.get (Q+1)=aZ [.ptr Q 0]
 ex: ∃vf,hh.get Q=aZ [vf]/\NmL (λq=>q<Q+2) n L (Q+2) hh vf fd
 fr:Fr h0 hh
 nx:Q+2<=hh.next
 len:fd.length<=6000
theorem VV {n:Nat}{G:List Nat->Prop}{L:LN}{r:List Nat}: ∀(K:List Nat) (l:LN),(K.foldl (λl i=>if i∈r then l else tF l (yR n G L r i)) l).length<=l.length+K.length
 | [],l=>fM _
 |k::K,l=>by
  rw[List.foldl_cons,List.length_cons];refine mT (VV K _) ?_;split
  ·omega
  ·unfold tF
   split
   ·omega
   ·rw[jZ];show l.length+1+_<=_;omega
theorem Vv {α:Type}[Inhabited α](l:List (List α))(f:List α->Bool):nY (λi=>f (l.getD i [])) l=l.filter λa=>!f a:=by
 have b: ∀i,i<=l.length->nY (λi=>f (l.getD i [])) (l.take i)=(l.take i).filter λa=>!f a:=by
  intro i
  induction i with
  |zero=>exact λ_=>rfl
  |succ i ih=>
   intro hi;rw[qJ om,ih om,List.take_succ_eq_append_getElem om,List.filter_append,List.getD,dD om,Option.getD_some];cases h:f l[i]<;>simp [h]
 have:=b l.length (fM _);rwa [List.take_length] at this
def Xa (h:H):V->Option (V×H)
 | .nilm=>some (aC 0,h)
 | .mp id=>match h.get id with|some (.map es)=>some (aC es.length,h)|some (.wmap _ es)=>some (aC es.length,h)|_=>none
 |_=>none
theorem Xi (ρ:X->V)(h:H)(x:X):cI ρ h (.lenm x)=Xa h (ρ x):=by
 simp only[cI,Xa]
 rfl
theorem NW {h:H}{M:Nat}{L:LN}(g:h.get M=some (.wmap .str (Ie L L.length))):Xa h (.mp M)=some (aC (L.length:Int),h):=by
 show (match h.get M with|some (.map es)=>some (aC es.length,h)|some (.wmap _ es)=>some (aC es.length,h)|_=>none)=_;rw[g];simp [Ie]
theorem Ph {W0:Nat->Prop}(vc:V)(n:Nat)(O:LN)(R:jI)(G:List Nat->Prop)(h:H)(gc:GC W0 h vc n O R G):
  Ev T 12 [vc] h (λv h'=> ∃vl ls L K rs,v= .tup [vl,aC 0]/\cZ O R n 0 (bL n)=L/\Cm n G L K/\Ky n G L K rs/\SV h' vl 3 (Kr n ls)/\aM (AV (λ_=>False) n L h') ls rs/\Fr h h'):=by
 obtain⟨vO,vR,rfl,d8,f0⟩:=gc.shape
 refine cV Ak rfl ?_
 obtain⟨A,hA⟩:=exI h.next
 obtain⟨h1,e1,n1,g1,q1,f1⟩:=dF hA [aC n,vO,vR]
 simp(disch:=omega)only[go_sem,Ak,aD,bM h (v:= aC n) (u:=vO) (w:=vR) rfl d8 f0,hA,e1,aI g1]
 refine (FX _ n O R G h1 (gc.mono f1)).mono ?_
 rintro _ J ⟨T0,L,K,rfl,zC,f2⟩
 obtain⟨ll,E,hG,m5,n0,n7⟩:=zC.few
 have ik:=zC.isK
 have eL:=zC.hL
 have F2:=f1.trans f2
 simp(disch:=omega)only[go_sem]
 refine aW (λhc=>(hc rfl).elim) (λ_=>?_)
 simp(disch:=omega)only[go_sem]
 refine (EU T0 n O R G L K J zC).mono ?_
 rintro _ h3 ⟨p0,rfl,c3,f3⟩
 obtain⟨o1,o2,o3⟩:=c3.one
 obtain⟨y,d7⟩:=exI h3.next
 obtain⟨h4,e4,n4,g4,q4,f4⟩:=dF d7 [aC 0,.aE,.aE,.aE]
 obtain⟨h5,e5,n5,g5,q5⟩:=pJ h4 y (Bt n p0)
 obtain⟨h6,e6,n6,g6,q6,f6⟩:=dF (h:=h5) (n5.trans n4) [aC n,p0.1,p0.2.1]
 have g9: ∀{t:H} {id:Nat} {a b c d:V},t.get id=aZ [a,b,c,d]->t.row id 0 3=some [a,b,c]:=λhg=>by simp [H.row,hg,sub]
 simp(disch:=omega)only[go_sem,d7,e4,kL h4 y 0 (a:= aC n) (b:=p0.1) (c:=p0.2.1) (d:=p0.2.2) rfl o1 o2 o3,g4,jS,e5,g9 g5,Vj h5 (d:=(n:Int)) o1 o2,n5,n4,e6]
 have o0:=f3.next
 have k0:Fr J h6:=⟨om,λq hq=>by rw[q6 q om,q5 q om,q4 q om,f3.get q hq]⟩
 have d5:h6.get y=aZ (Bt n p0):=by rw[q6 _ om];exact g5
 have k5:Fr h3 h6:=⟨om,λq hq=>by rw[q6 q om,q5 q om,q4 q om]⟩
 have w0: ∀q,q<h3.next->(q=y∨dO (.sl (y+1) 0 1 (.kn 1)) q)->q<J.next:=λq h1 J=>by
  rcases J with e|⟨_,_,_,e⟩
  ·omega
  ·cases e;omega
 have c7:Nm (λq=>q=y∨dO (.sl (y+1) 0 1 (.kn 1)) q) n L h6 p0 (Pz L λx=>x=bL n):=(c3.go (Fx.refl _ _) w0).mono k5
 obtain⟨K',m6⟩: ∃x,K=x:=⟨_,rfl⟩
 refine aH (λk' N t=> ∃(r:List Nat) (p:V×V×V) (vl:V) (ls:List (V×V)) (rs:LN),(∃g:Nat->V,N= [g 0,g 1,g 2,g 3,.ptr T0 0,g 5,.ptr y 0,vl,g 8,g 9,g 10,g 11,g 12,g 13,g 14,g 15,g 16,g 17])/\t.get y=aZ (Bt n p)/\Nm (λq=>q=y∨dO vl q) n L t p r/\cY t vl 3 (Kr n ls) (y+1)/\aM (AV (λq=>q=y∨dO vl q) n L t) ls rs/\Ql n G L K rs r/\Fr J t/\y<t.next/\k'=L.length-r.length) (L.length-(Pz L λx=>x=bL n).length)
  ⟨_,p0,_, [(p0.1,p0.2.1)], [Pz L λx=>x=bL n],aB rfl,d5,c7,.inr ⟨y+1,1,_, [],rfl,rfl,.inr ⟨rfl,rfl⟩,om,om,g6⟩,⟨c7.ch,trivial⟩,Ql.start hG E,k0,om,rfl⟩ ?_
 clear c7 w0 d5 g6 q6 q5 g5 g4 q4 c3
 rintro k' N t ⟨r,p,vl,ls,rs,⟨g,rfl⟩,g6,nm,ow,al,cb,F,i7,rfl⟩
 have kr:xJ n G L r:=cb.all r (AW cb.la)
 obtain⟨lO,lR,M,lr,gT,gM,_,f5,nM⟩:=(zC.mono F).ex
 have lv:=nm.si.lens
 rw[aQ] at lv
 have lm: ∀k,Xa (H.mk t.tr k) (.mp M)=some (aC (L.length:Int),H.mk t.tr k):=λk=>NW gM
 by_cases i1:(r.length:Int)<(L.length:Int)
 case neg=>
  have d1:=bH i1;simp(disch:=omega)only[go_sem,H.aF g6,H.aF gT,lv,Xi,lm,d1];have fb:Fr t (H.mk t.tr (t.next+9)):=(Fr.refl t).bA om;exact⟨vl,ls,L,K,rs,rfl,eL,ik,⟨r,cb,by have:=kr.rk.short;omega⟩,ow.sv.mono fb,aM.mono (λ_ _ x=>AV.go x (Fx.of fb) λ_ _ h=>h.elim) al,F2.trans (F.trans fb)⟩
 have d1:=bP i1
 have hr:r.length<L.length:=om
 obtain⟨hx,a6⟩: ∃x,H.mk t.tr (t.next+9)=x:=⟨_,rfl⟩
 have fx:Fr t hx:=by rw[←a6];exact (Fr.refl t).bA om
 have nx:hx.next=t.next+9:=by rw[←a6]
 obtain⟨Q,hQ⟩:=exI hx.next
 obtain⟨ha,ea,na,ga,qa,fa⟩:=dF hQ [.aE]
 obtain⟨hb,eb,nb,gb,qb,fb⟩:=dF na [.nilp]
 obtain⟨hI,eI,nI,gI,qI⟩:=pJ hb (Q+1) [.ptr Q 0]
 have bx:Cv hx (.agg [.aE])=some (.ptr Q 0,ha):=by rw[←ea,←hQ];rfl
 have pt: ∀(t:H) (id:Nat) (u w:V),dX (aZ [u]) t id 0 [w]=some (t.set id (aZ [w])):=λt id u w=>bN (by simp) t _ _
 have fI:Fr t hI:=⟨om,λq hq=>by rw[qI q om,qb q om,qa q om,fx.get q hq]⟩
 have FI:=F.trans fI
 have k7:=(zC.mono F).nx
 have f7: ∀h',Fr t h'->h'.get T0=aZ [aC n,lO,lR,.mp M,lr]:=λh' f=>by rw[f.get T0 k7];exact gT
 have b6: ∀h',Fr t h'->h'.get y=aZ (Bt n p):=λh' f=>by rw[f.get y i7];exact g6
 have kl:K.length<=L.length:=by
  have:=List.Nodup.length_le_of_subset (l₂:=List.range L.length) ik.nd λx hx=>Gu.2 (ik.lt hx)
  rwa [NM] at this
 have e7:=f5.lens
 simp only[jV] at e7
 have l4:Xa hx (.mp M)=some (aC (L.length:Int),hx):=by rw[←a6];exact lm _
 simp(disch:=omega)only[go_sem,a6,H.aF (b6 hx fx),H.aF (f7 hx fx),lv,Xi,l4,d1,show rO [.aE] []=some (.agg [.aE]) from rfl,a6,bx,na,eb,lG (show (V.ptr Q 0).cells= [V.ptr Q 0] from rfl) rfl,gb,pt,eI,H.aF (f7 hI fI),e7]
 obtain⟨fs,a0⟩: ∃f:LN->Nat->LN,(λl i=>if i∈r then l else tF l (yR n G L r i))=f:=⟨_,rfl⟩
 have i6: ∀i,i<=K.length->((K.take i).foldl fs []).length<=i:=λi hi=>by
  have:=VV (n:=n) (G:=G) (L:=L) (r:=r) (K.take i) [];rw[a0,Fj,Nat.min_eq_left hi] at this;simpa using this
 refine bJ (λvs h'=>(∃g:Nat->V,vs= [g 0,g 1,g 2,g 3,.ptr T0 0,g 5,.ptr y 0,vl,.ptr (Q+1) 0,g 9,g 10,g 11,g 12,g 13,g 14,g 15,g 16,g 17])/\WkJ n L Q t h' (XC n G L r K)) ?_ ?_
 ·refine aH (λk' N h'=> ∃(i:Nat),(∃g:Nat->V,N= [g 0,g 1,g 2,g 3,.ptr T0 0,g 5,.ptr y 0,vl,.ptr (Q+1) 0,g 9,g 10,g 11,g 12,lr,aC (K.length:Int),aC i,g 16,g 17])/\i<=K.length/\WkJ n L Q t h' ((K.take i).foldl fs [])/\k'=K.length-i) K.length
   ⟨0,aB rfl,iJ _,⟨gI,⟨.aE,by rw[qI _ om,qb _ om];exact ga, [],cY.aE _ _ _,trivial,λ_ _ _ _ e=>by cases e⟩,fI,om,by show 0<=6000;omega⟩,rfl⟩ ?_
  rintro k' N h7 ⟨i,⟨g,rfl⟩,hi,W,rfl⟩
  by_cases d6:(i:Int)<(K.length:Int)
  case neg=>
   have d2:=bH d6;obtain rfl:i=K.length:=om
   rw[List.take_length,←a0] at W;simp(disch:=omega)only[go_sem,d2];exact⟨aB rfl,W⟩
  have d2:=bP d6
  have a5:i<K.length:=om
  have F7:=W.fr
  obtain⟨id,z,ws,sh,g0,k4,hc,g3⟩:=f5.open
  simp only[jV] at sh g0 k4 hc
  have ci:h7.cell id (z+i)=some (ws.getD i .undef):=by rw[F7.cell (g0 om),hc i a5]
  have s0:=(Ml g3 (i:=i) (by rw[jV];exact a5)).mono F7
  have eK:(K.map λr=>L.getD r []).getD i []=L.getD K[i] []:=by rw[List.getD,Ol,dD a5];rfl
  rw[eK] at s0
  have c4:=ik.lt (zG a5)
  generalize ws.getD i .undef=vx at ci s0
  have step:(K.take (i+1)).foldl fs []=fs ((K.take i).foldl fs []) K[i]:=by rw[List.take_succ_eq_append_getElem a5,List.foldl_append,List.foldl_cons,List.foldl_nil]
  have a1:=i6 (i+1) om
  rw[step] at a1
  obtain⟨B,b5⟩:=exI ((K.take i).foldl fs [])
  rw[b5] at W step a1
  obtain⟨k,hk⟩:=exI (K[i])
  rw[hk] at s0 c4 step a1
  simp(disch:=omega)only[go_sem,d2,sh.ixa,ci,gU (b6 h7 F7)]
  refine (GQ T0 p vx n O R G L K r k h7 (zC.mono (F.trans F7)) (nm.mono F7) c4 s0).mono ?_
  rintro _ h8 ⟨rfl,Z⟩
  have W8:WkJ n L Q t h8 B:=by
   obtain⟨vf,gQ,ml⟩:=W.ex;have:=W.nx;have:=Z.next;exact⟨by rw[Z.get _ om];exact W.g8,⟨vf,by rw[Z.get _ om];exact gQ,ml.mono Z⟩,F7.trans Z,om,W.len⟩
  by_cases a8:k∈r
  ·have d3:=bP a8
   rw[←a0] at step
   simp only[bF a8] at step
   simp(disch:=omega)only[go_sem,d3,Bool.not_true]
   rw[eJ i]
   exact⟨K.length-(i+1),om,i+1,aB rfl,om,by rw[←a0,step];exact W8,rfl⟩
  ·have d3:=bH a8
   rw[←a0] at step a1
   simp only[bI a8] at step a1
   have F8:=W8.fr
   have a9: ∀m,h8.next<=m->Fr h8 (H.mk h8.tr m):=λm hm=>(Fr.refl h8).bA hm
   simp(disch:=omega)only[go_sem,d3,Bool.not_false,H.aF W8.g8,gU (b6 h8 F8)]
   refine (Xn T0 p vx n O R G L K r k _ (zC.mono (F.trans (F8.trans (a9 _ om)))) (nm.mono (F8.trans (a9 _ om))) c4 (s0.mono (Z.trans (a9 _ om)))).mono ?_
   rintro _ h9 ⟨q,rfl,nq,f9⟩
   have a3:=(a9 _ om).trans f9
   have F9:=F8.trans a3
   obtain⟨vf,j8,ml⟩:=W8.ex
   have n8:=W8.nx
   have n9:=a3.next
   have i2:h9.get (Q+1)=aZ [.ptr Q 0]:=by rw[a3.get _ om];exact W8.g8
   have j9:h9.get Q=aZ [vf]:=by rw[a3.get _ om];exact j8
   have c6: ∀s,dO vf s->s<h8.next:=λs ⟨z,m,c,e⟩=>by
    obtain⟨ps,o,_⟩:=ml.ex;exact (o.in _ _ _ _ e).1
   have l0:Nm (λq=>q<Q+2∨dO vf q) n L h9 q (yR n G L r k):=nq.go (Fx.refl _ _) λs _ h=>by
    rcases h with h|h
    ·show s<h8.next+6
     omega
    ·have:=c6 s h
     show s<h8.next+6;omega
   have eQ:dE (.ptr Q 0) (.ptr Q 0)=true:=by simp [dE]
   have e0: ∀s,dO vf s->Q+2<=s:=λs ⟨z,m,c,e⟩=>by
    obtain⟨ps,o,_⟩:=ml.ex;exact (o.in _ _ _ _ e).2.1
   simp(disch:=omega)only[go_sem,H.aF i2,eQ]
   refine (FQ n L (Q+2) Q vf B q _ h9 (ml.mono a3) om l0 j9 om (λh=>by have:=e0 Q h;omega) (by show Q<Q+2;omega) ll (by have:=W8.len;omega)).mono ?_
   rintro _ U ⟨rfl,k2,k9,j6,b9,_⟩
   have j1:=b9.next
   have nh:=F9.next
   simp(disch:=omega)only[go_sem]
   rw[eJ i]
   have g2: ∀s,s≠Q->s<Q+2->U.get s=h9.get s:=λs h1 J=>b9.get s om λh=>h.elim (λh=>h1 h) λh=>by have:=e0 _ h;omega
   have k6:WkJ n L Q t U (tF B (yR n G L r k)):=⟨by rw[g2 _ om om];exact i2,⟨k2,k9,j6⟩,⟨om,λs hq=>by rw[g2 s om om];exact F9.get s hq⟩,om,om⟩
   exact⟨K.length-(i+1),om,i+1,aB rfl,om,by rw[←a0,step];exact k6,rfl⟩
 rintro N h7 ⟨⟨g,rfl⟩,W⟩
 obtain⟨vf,i4,ml⟩:=W.ex
 obtain⟨ps,d4,c5,_⟩:=ml.ex
 have F7:=W.fr
 have n3:=W.nx
 have c8:=adC hG E kr ik hr
 obtain⟨B,b5⟩:=exI (XC n G L r K)
 rw[b5] at W ml c5 c8
 have m8:=aM.length c5
 have l7:0<B.length:=List.length_pos_iff.2 c8
 have fl:=W.len
 simp(disch:=omega)only[go_sem,H.aF W.g8,H.aF i4]
 refine (KG vf (zB n ps) ps.length h7 (mH n ps) om om d4.sv).mono ?_
 rintro _ h8 ⟨b3,j0,h0,rfl,e9,l6,e3,i8,Z⟩
 simp(disch:=omega)only[go_sem]
 have c6: ∀s,dO vf s->s<h7.next:=λs ⟨z,m,c,e⟩=>(d4.in _ _ _ _ e).1
 have c1:aM (Nm (λq=>q<Q+2∨q=b3) n L h8) ps B:=aM.mono (λ_ _ x=>Nm.go x (Fx.of Z) λs h1 J=>J.imp id λe=>om) c5
 refine (abI b3 ps.length j0 h0 53 [.ptr (Q+1) 0] n ps (λi=>Yc B (B.getD i [])) h8 e3 i8 e9 rfl om om (λs hq=>?_) λi hi h' a2=>?_).mono ?_
 ·obtain⟨i,hi,rfl⟩:=zF.1 hq
  exact (aM.get c1 i hi om).one
 ·have n8:=Z.next
  have n':=a2.next
  have g7:aM (Nm (λq=>q<Q+2) n L h') ps B:=aM.mono (λ_ _ x=>Nm.go x (Fx.wide a2 λs h=> .inr h) λs _ h=> .inl h) c1
  have mi:=aM.get g7 i hi om
  rw[List.getD,dD om,Option.getD_some]
  refine adF n (Q+1) Q vf ps B ll om ?_ om ?_ om (SV.fx (d4.sv.mono Z) (W:=λq=>q=b3) ?_ a2) g7 mi
  ·rw[a2.get _ om om,Z.get _ om];exact W.g8
  ·rw[a2.get _ om om,Z.get _ om];exact i4
  ·cases vf with
   |sl q z m c=>exact λ(e:q=b3)=>by have:=c6 q ⟨z,m,c,rfl⟩;omega
   |_=>trivial
 rintro vk h9 ⟨i5,c9⟩
 have n8:=Z.next
 have n9:=c9.next
 have Y:=BD (P:=λi=>Yc B (B.getD i [])) (aM.mono (λ_ _ x=>Nm.go (W':=λq=>q<Q+2) x (Fx.wide c9 λs h=> .inr h) λs _ h=> .inl h) c1)
 have ek:nY (λi=>Yc B (B.getD i [])) B=IN B:=Vv B _
 rw[ek] at Y
 have j7:=List.length_pos_iff.2 (TM c8)
 have l8:(IN B).length<=B.length:=List.length_filter_le _ _
 obtain⟨pk,l2⟩:=exI (nY (λi=>Yc B (B.getD i [])) ps)
 rw[l2] at i5 Y
 simp(disch:=omega)only[go_sem]
 refine (aaF n vk pk (IN B) ll om j7 i5 Y).mono ?_
 rintro _ U ⟨⟨j,hj,rfl,l3⟩,c2⟩
 have j1:=c2.next
 have Fm:Fr t U:=⟨by have:=F7.next;omega,λs hq=>by
  have:=F7.next;rw[c2.get s om,c9.get s om om,Z.get s om]
  exact F7.get s hq⟩
 have j3:NH (IN B)=Pw n G L K r:=by rw[←b5];rfl
 have mj:=(aM.get Y j hj (by have:=aM.length Y;omega)).mono c2
 have ej:(IN B)[j]'(by have:=aM.length Y;omega)=Pw n G L K r:=by rw[←j3,←l3,List.getD,dD (by have:=aM.length Y;omega)];rfl
 rw[ej] at mj
 generalize pk[j]=pn at mj
 obtain⟨o1,o2,o3⟩:=mj.one
 have i0:=b6 U Fm
 obtain⟨b2,j4,m0,i3,d0⟩:=pJ U y (Bt n pn)
 obtain⟨C,hC⟩:=exI b2.next
 obtain⟨b4,i9,m1,j5,a4,m4⟩:=dF hC [aC n,pn.1,pn.2.1]
 have l9:=Fm.next
 have a7: ∀s,dO vl s->y+1<=s/\s<t.next:=λs ⟨z,m,c,e⟩=>by
  have:=ow.in _ _ _ _ e;omega
 have j2: ∀s,dO vl s->s≠y:=λs hb=>by have:=a7 s hb;omega
 have m3:=aM.length al
 have m2:=cb.len
 have m9:=kr.rk.short
 have k8: ∀s,s<b2.next->b4.get s=b2.get s:=λs h=>a4 s om
 have l5:Fx (· =y) U b4:=⟨om,λs h1 J=>by rw[a4 s om,d0 s J]⟩
 have e8:cY b4 vl 3 (Kr n ls) (y+1):=ow.zA om λid z m c e h=>by
  have:=a7 id ⟨z,m,c,e⟩;rw[a4 _ om,d0 _ om];exact Fm.get id h
 obtain⟨b0,k3,b1⟩:=(e8.le (iJ _)).push (bytes:=56) (SV.all (sz:=3) (len:=1) (vs:= [aC n,pn.1,pn.2.1]) rfl om j5 (.kn 1)) (n:=ls.length) (m:=1) (lC n ls) rfl om om om
 have m7:=b1.next
 simp(disch:=omega)only[go_sem,kL U y 0 (a:= aC n) (b:=pn.1) (c:=pn.2.1) (d:=pn.2.2) rfl o1 o2 o3,i0,jS,j4,g9 i3,Vj b2 (d:=(n:Int)) o1 o2,hC,i9,k3]
 have nF:=F.next
 have ap: ∀s,¬dO vl s->dL vl s:=λs h id z m c e e2=>h (by rw[e,e2];exact⟨_,_,_,rfl⟩)
 have c0:Fx (λq=>q=y∨dO vl q) U b0:=⟨om,λs h1 J=>by rw[b1.old s om (ap s λh=>J (.inr h)),a4 s om,d0 s λh=>J (.inl h)]⟩
 have b7:Fx (λq=>q=y∨dO vl q) t b0:=⟨om,λs h1 J=>by rw[c0.get s om J];exact Fm.get s h1⟩
 have k1:Fr J b0:=⟨om,λs hq=>by rw[b7.get s om λh=>h.elim (λh=>om) λh=>by have:=a7 s h;omega];exact F.get s hq⟩
 have b8:Nm (λq=>q=y∨dO (.sl b4.next 0 (ls.length+1) (.un 3)) q) n L b0 pn (Pw n G L K r):=mj.go (Fx.wide c0 λs h=>h.elim (λh=>(by omega:s<Q+2)) λh=>(by have:=a7 s h;omega:s<Q+2)) λs h1 J=>J.elim (λh=>(by omega:s<Q+2)) λ⟨z,m,c,e⟩=>by cases e;omega
 obtain⟨st1,l1,st3,_⟩:=Fv hG E kr ik hr
 have n2:=l1.rk.short
 have d9:=b1.own (b:=y+1) (lC n ls) rfl om
 refine⟨L.length-(Pw n G L K r).length,om,Pw n G L K r,pn,_,ls++ [(pn.1,pn.2.1)],rs++ [Pw n G L K r],aB rfl,?_,b8,by rw[Tt];exact d9,aM.append (aM.mono (λ_ _ x=>AV.go x b7 λs h1 J=>J.imp id λ⟨z,m,c,e⟩=>by cases e;omega) al) ⟨b8.ch,trivial⟩,cb.push hG E ik hr,k1,om,rfl⟩
 rw[b1.old y om (ap y λh=>j2 y h rfl),a4 y om]
 exact i3
def vT (n:Nat):List Nat:=if n>9 then vT (n/10)++ [48+n%10] else [48+n]
theorem Yf (n:Nat):(vT n).length<=n+1:=by
 induction n using Nat.strongRecOn with
 |_ n ih=>
  unfold vT;split
  ·have:=ih (n/10) om
   rw[jZ];show _+1<=_;omega
  ·show 1<=_
   omega
def aeZ (h:H):V->Option (V×H)
 | .int _ n=>if 0<=n/\n<128 then some (.str [n.toNat],h) else none
 |_=>none
theorem GA (ρ:X->V)(h:H)(x:X):cI ρ h (.cir x)=aeZ h (ρ x):=by
 simp only[cI,aeZ]
 rfl
def ZX (h:H)(x y:V):Option (V×H):=match x,y with
 | .str a,.str b=>if a.length+b.length<2^62 then some (.str (a++b),h) else none
 |_,_=>none
theorem GF (ρ:X->V)(h:H)(x y:X):cI ρ h (.sad x y)=ZX h (ρ x) (ρ y):=by
 simp only[cI,ZX]
 rfl
theorem HF {k:Nat}(a:k<10)(h:H):aeZ h (.int .i32 (IntKind.i32.wrap ((48+k:Nat):Int)))=some (.str [48+k],h):=by
 have: ∀k,k<10->IntKind.i32.wrap ((48+k:Nat):Int)=((48+k:Nat):Int):=by decide
 rw[this k a];show (if _ then _ else none)=_;rw[bF ⟨om,om⟩,NK]
theorem SZ (h:H){a b:List Nat}(c:a.length+b.length<10000000):ZX h (.str a) (.str b)=some (.str (a++b),h):=by
 show (if _ then _ else none)=_;rw[bF om]
theorem WZ (n:Nat): ∀(h:H),n<1000000->Ev T 66 [aC n] h (λv h'=>v= .str (vT n)/\Fr h h'):=by
 induction n using Nat.strongRecOn with
 |_ n ih=>
  intro h o;refine cV pZ rfl ?_
  by_cases i:(9:Int)<(n:Int)
  ·have f:=bP i
   have k:Int.tdiv (n:Int) 10=((n/10:Nat):Int):=rfl;have m:Int.tmod (n:Int) 10=((n%10:Nat):Int):=rfl;simp(disch:=omega)only[go_sem,pZ,aD,f,k];refine (ih (n/10) om h om).mono ?_;rintro _ l ⟨rfl,j⟩;have d:(48:Int)+((n%10:Nat):Int)=((48+n%10:Nat):Int):=om
   have p:=Yf (n/10)
   have c:vT n=vT (n/10)++ [48+n%10]:=by
                               conv=>lhs;unfold vT
                               rw[bF om]
   simp(disch:=omega)only[go_sem,m,d,GA,HF (Nat.mod_lt n (by omega:10>0)),GF,SZ l (a:=vT (n/10)) (b:= [48+n%10]) (by show _+1<_;omega),c];exact j
  ·have f:=bH i
   have d:(48:Int)+(n:Int)=((48+n:Nat):Int):=om
   have c:vT n= [48+n]:=by unfold vT;rw[bI om]
   simp(disch:=omega)only[go_sem,pZ,aD,f,d,GA,HF (show n<10 by omega),c];exact Fr.refl _
abbrev Jj (x:Nat×List Nat):List V:= [aC (x.1:Int),.str x.2]
def Cr (l:List (Nat×List Nat)):List V:=l.flatMap Jj
theorem Hl (l:List (Nat×List Nat)):(Cr l).length=l.length*2:=agV (k:=2) (f:=Jj) (λ_=>rfl) l
theorem ZW (a b:List (Nat×List Nat)):Cr (a++b)=Cr a++Cr b:=by unfold Cr;rw[List.flatMap_append]
theorem Ul {h:H}{v:V}{l:List (Nat×List Nat)}(s:SV h v 2 (Cr l)){i:Nat}(hi:i<l.length): ∃id off,Sl v 2 l.length id off/\h.row id (off+i*2) 2=some (Jj l[i])/\id<h.next:=SV.rec (k:=2) (f:=Jj) om (λ_=>rfl) s hi
theorem Yx {h:H}{v:V}{l:List (Nat×List Nat)}(s:SV h v 2 (Cr l)):bT v=some (aC (l.length:Int)):=by
 unfold bT;rw[SV.len s (n:=l.length) (Hl l) om];rfl
theorem PB {h:H}{id:Nat}{ro:Bool}{a b:V}(c:h.get id=some (.cells ro [a,b])):h.row id 0 2=some [a,b]:=by
 simp [H.row,c,sub]
theorem wW (h:H){a b:V}(c:a.one=true)(d:b.one=true):Cv h (.agg [a,b])=some (.ptr h.next 0,h.new (.cells false [a,b])):=tL h _ (by simp [c,d])
def Eh:List (Nat×List Nat):= [(60, [65,53]),(168, [76,50,40,55,41]),(360, [65,54]),(504, [76,50,40,56,41]),(660, [76,50,40,49,49,41]),(1092, [76,50,40,49,51,41]),(2448, [76,50,40,49,55,41]),(2520, [65,55]),(3420, [76,50,40,49,57,41]),(4080, [76,50,40,49,54,41])]
theorem DM (z:Int)(s:List Nat):rO [aC 0,.str []] [(0,1,aC z),(1,1,.str s)]=some (.agg [aC z,.str s]):=rfl
theorem RA (h:H):Ev T 67 [] h (λv h'=>SV h' v 2 (Cr Eh)/\Fr h h'):=by
 refine cV Bs rfl ?_;have e:lQ h 2 [aC 0,.str []] 10 [(0,2,.agg [aC 60,.str [65,53]]),(2,2,.agg [aC 168,.str [76,50,40,55,41]]),(4,2,.agg [aC 360,.str [65,54]]),(6,2,.agg [aC 504,.str [76,50,40,56,41]]),(8,2,.agg [aC 660,.str [76,50,40,49,49,41]]),(10,2,.agg [aC 1092,.str [76,50,40,49,51,41]]),(12,2,.agg [aC 2448,.str [76,50,40,49,55,41]]),(14,2,.agg [aC 2520,.str [65,55]]),(16,2,.agg [aC 3420,.str [76,50,40,49,57,41]]),(18,2,.agg [aC 4080,.str [76,50,40,49,54,41]])]=some (.sl h.next 0 10 (.kn 10),h.new (.cells false (Cr Eh))):=rfl;simp(disch:=omega)only[go_sem,Bs,aD,DM,e];exact⟨SV.all rfl (by rw[H.aU];omega) (H.aL _ _) _,(Fr.refl h).new _⟩
theorem GO (x:Nat×List Nat)(n:Nat)(h:H)(d:x.1<1000000)(h2:n<1000000):Ev T 69 [.agg (Jj x),aC n] h (λv h'=>v= aC ((x.1:Int)-n)/\Fr h h'):=by
 refine cV tV rfl ?_;obtain⟨B,c⟩:=exI h.next;obtain⟨d,i,k,f,l,j⟩:=dF c (Jj x);simp(disch:=omega)only[go_sem,tV,aD,wW h (a:= aC (x.1:Int)) (b:= .str x.2) rfl rfl,c,i,H.aF f];exact j
theorem YC (x y:Nat×List Nat)(h:H)(d:x.1<1000000)(h2:y.1<1000000):Ev T 71 [.agg (Jj x),.agg (Jj y)] h (λv h'=>v= aC ((x.1:Int)-y.1)/\Fr h h'):=by
 refine cV tE rfl ?_;obtain⟨B,f⟩:=exI h.next;obtain⟨d,k,i,j,r,o⟩:=dF f (Jj x);obtain⟨h2,p,q,l,m,n⟩:=dF i (Jj y);have c:h2.get B=aZ (Jj x):=by rw[m B om];exact j
 simp(disch:=omega)only[go_sem,tE,aD,wW h (a:= aC (x.1:Int)) (b:= .str x.2) rfl rfl,f,k,wW d (a:= aC (y.1:Int)) (b:= .str y.2) rfl rfl,i,p,H.aF c,H.aF l];exact o.trans n
theorem TF (u:V)(a:List (Nat×List Nat))(p:Nat)(h:H)(hn:a.length<1000000)(W:p<1000000)(hs: ∀x∈a,x.1<1000000)(U:a.Pairwise λx y=>x.1<y.1)(L:SV h u 2 (Cr a)):
  Ev T 68 [u,aC p,.fn 69 [] []] h (λv h'=> ∃(k:Nat) (f:Bool),v= .tup [aC k,.bool f]/\(f=true-> ∃hk:k<a.length,a[k].1=p)/\(f=false-> ∀x∈a,x.1≠p)/\Fr h h'):=by
 refine cV dH rfl ?_
 have lv:=Yx L
 simp(disch:=omega)only[go_sem,dH,aD,lv]
 have mono: ∀i j (hi:i<a.length) (G:j<a.length),i<j->a[i].1<a[j].1:=λi j hi G h=>JX.1 U i j hi G h
 refine aH (λY l J=> ∃(i j:Nat),(∃g:Nat->V,l= [u,aC p,.fn 69 [] [],g 3,g 4,aC (a.length:Int),aC i,aC j,g 8,g 9,g 10])/\i<=j/\j<=a.length/\(∀m (c:m<a.length),m<i->a[m].1<p)/\(∀m (c:m<a.length),j<=m->p<=a[m].1)/\Fr h J/\Y=j-i) a.length
  ⟨0,a.length,aB rfl,om,om,λm c h=>om,λm h1 h2=>om,Fr.refl h,rfl⟩ ?_
 rintro Y l J ⟨i,j,⟨g,rfl⟩,a0,G,s,w,F,rfl⟩
 by_cases t:(i:Int)<(j:Int)
 ·have K:=bP t
  have ea:(i:Int)+(j:Int)=((i+j:Nat):Int):=om
  obtain⟨m,c⟩:=exI ((i+j)/2)
  have sr:=FC (x:=i+j)
  rw[c] at sr
  have d:m<a.length:=om
  obtain⟨id,N,R,o,_⟩:=Ul (L.mono F) d
  have sm:=hs _ (zG d)
  simp(disch:=omega)only[go_sem,K,ea,Gs,zY,dK (n:=((i+j:Nat):Int)) om om,sr,R.ixa,o]
  refine (GO a[m] p J sm W).mono ?_
  rintro _ h3 ⟨rfl,A⟩
  by_cases Z:((a[m].1:Nat):Int)-(p:Int)<0
  ·have r:=bP Z
   simp(disch:=omega)only[go_sem,r]
   rw[eJ m]
   refine⟨j-(m+1),om,m+1,j,aB rfl,om,G,λq P h=>?_,w,F.trans A,rfl⟩
   by_cases e:q=m
   ·subst e;omega
   ·have:=mono q m P d om;omega
  ·have r:=bH Z
   simp(disch:=omega)only[go_sem,r]
   refine⟨m-i,om,i,m,aB rfl,om,om,s,λq P h=>?_,F.trans A,rfl⟩
   by_cases e:q=m
   ·subst e;omega
   ·have:=mono m q d P om;omega
 have K:=bH t
 obtain rfl:i=j:=om
 by_cases z:(i:Int)<(a.length:Int)
 ·have r:=bP z
  have b:i<a.length:=om
  obtain⟨id,N,R,o,_⟩:=Ul (L.mono F) b
  simp(disch:=omega)only[go_sem,K,r,R.ixa,o]
  refine (GO a[i] p J (hs _ (zG b)) W).mono ?_
  rintro _ h3 ⟨rfl,A⟩
  by_cases B:((a[i].1:Nat):Int)-(p:Int)=0
  ·have Q:=bP B
   simp(disch:=omega)only[go_sem,Q]
   exact⟨i,true,rfl,λ_=>⟨b,om⟩,λh=>(by cases h),F.trans A⟩
  ·have Q:=bH B
   simp(disch:=omega)only[go_sem,Q]
   refine⟨i,false,rfl,λh=>(by cases h),λ_ x O e=>?_,F.trans A⟩
   obtain⟨m,c,rfl⟩:=zF.1 O
   rcases Nat.lt_trichotomy m i with h|h|h
   ·have:=s m c h;omega
   ·subst h;omega
   ·have h1:=mono i m b c h
    have h2:=w i b (fM _)
    omega
 ·have r:=bH z
  simp(disch:=omega)only[go_sem,K,r]
  refine⟨i,false,rfl,λh=>(by cases h),λ_ x O e=>?_,F⟩
  obtain⟨m,c,rfl⟩:=zF.1 O
  have:=s m c om
  omega
section
variable {x:Nat×List Nat} {l:List (Nat×List Nat)}
def Ep (x:Nat×List Nat):List (Nat×List Nat)->List (Nat×List Nat)
 | []=> [x]
 |y::r=>if y.1<=x.1 then y::Ep x r else x::y::r
def Lr (l:List (Nat×List Nat)):List (Nat×List Nat):=l.foldl (λa x=>Ep x a) []
def aeN (l:List (Nat×List Nat)):Prop:=l.Pairwise λx y=>x.1<=y.1
theorem Pe {x:Nat×List Nat}: ∀{A B:List (Nat×List Nat)},(∀y∈A,y.1<=x.1)->(∀y∈B,x.1<y.1)->Ep x (A++B)=A++x::B
 | [], [],_,_=>rfl
 | [],y::r,_,h=>by
  show (if y.1<=x.1 then _ else _)=_;rw[bI (by have:=h y Ab;omega)];rfl
 |y::A,B,h,h2=>by
  show (if y.1<=x.1 then _ else _)=_;rw[bF (h y Ab)];have:=Pe (λz a=>h z (Cu _ a)) h2;rw[List.cons_append,←this]
  rfl
theorem Xj (x:Nat×List Nat): ∀l,(Ep x l).length=l.length+1
 | []=>rfl
 |y::r=>by
  unfold Ep;split
  ·rw[List.length_cons,Xj x r];rfl
  ·rfl
theorem Ny {x z:Nat×List Nat}: ∀{l},z∈Ep x l↔z=x∨z∈l
 | []=>by simp [Ep]
 |y::r=>by
  unfold Ep;split
  ·rw[zH,Ny,zH]
   constructor
   ·rintro (h|h|h)<;>simp [h]
   ·rintro (h|h|h)<;>simp [h]
  ·rw[zH]
theorem Zh {x:Nat×List Nat}: ∀{l},aeN l->aeN (Ep x l)
 | [],_=>List.pairwise_singleton _ _
 |y::r,h=>by
  obtain⟨b,d⟩:=List.pairwise_cons.1 h;unfold Ep;split
  ·rename_i c
   refine List.pairwise_cons.2 ⟨λz a=>?_,Zh d⟩;rcases Ny.1 a with rfl|a
   ·exact c
   ·exact b z a
  ·rename_i c
   refine List.pairwise_cons.2 ⟨λz a=>?_,h⟩;rcases zH.1 a with rfl|a
   ·omega
   ·have:=b z a;omega
theorem Yq {i:Nat}(hi:i<l.length):Lr (l.take (i+1))=Ep l[i] (Lr (l.take i)):=by
 unfold Lr;rw[List.take_succ_eq_append_getElem hi,List.foldl_append]
 rfl
theorem OJ (l:List (Nat×List Nat)): ∀i,i<=l.length->aeN (Lr (l.take i))/\(Lr (l.take i)).length=i/\ ∀x∈Lr (l.take i),x∈l:=by
 intro i
 induction i with
 |zero=>exact λ_=>⟨List.Pairwise.nil,rfl,λx a=>by cases a⟩
 |succ i ih=>
  intro hi;obtain⟨b,d,c⟩:=ih om;rw[Yq om];refine⟨Zh b,by rw[Xj,d],λx a=>?_⟩;rcases Ny.1 a with rfl|a
  ·exact zG _
  ·exact c x a
theorem FR {i:Nat}(hi:i<l.length):sub (Cr l) (i*2) 2=some (Jj l[i]):=by
 have:=GI (s:=2) (f:=Jj) (λ_=>rfl) (ps:=l) (rest:= []) hi;rwa [vF] at this
theorem FJ {k:Nat}(a:k<l.length)(x:Nat×List Nat):putAt (Cr l) (k*2) (Jj x)=some (Cr (l.set k x)):=by
 have:=GN (s:=2) (f:=Jj) (λ_=>rfl) (ps:=l) (rest:= []) a x;rwa [vF,vF] at this
theorem Gv (h:H)(id off:Nat){a b:V}(c:a.one=true)(d:b.one=true):Wj h 2 (.ptr id off) (.agg [a,b])=dX (h.get id) h id off [a,b]:=Cd h id off 2 _ rfl (by simp [c,d])
theorem abQ (S N:Nat)(v:V)(l:List (Nat×List Nat))(h:H)(hl:l.length=N)(hN:N<1000000)(ix: ∀j:Nat,j<N->Dz 2 v (aC j)=some (.ptr S (j*2)))(hS:0<N->S<h.next)(gS:0<N->h.get S=aZ (Cr l))(hs: ∀x∈l,x.1<1000000):
  Ev T 155 [v,aC 0,aC N,.fn 71 [] []] h (λ_ h'=>(0<N->h'.get S=aZ (Cr (Lr l)))/\Fx (· =S) h h'):=by
 refine cV fJ rfl ?_
 simp(disch:=omega)only[go_sem,fJ,aD,Int.zero_add]
 by_cases Y:N=0
 ·subst Y
  have e0:l= []:=List.length_eq_zero_iff.1 hl
  subst e0
  refine aH (λw f U=>(∃g:Nat->V,f= [g 0,g 1,aC 0,g 3,aC 1,g 5,g 6,g 7])/\h=U/\w=0) 0 ⟨aB rfl,rfl,rfl⟩ ?_
  rintro w f U ⟨⟨g,rfl⟩,rfl,rfl⟩
  simp(disch:=omega)only[go_sem,show decide ((1:Int)<0)=false from rfl]
  exact⟨λh=>om,Fx.refl _ _⟩
 have gS:=gS om
 have hS:=hS om
 have f1:Lr (l.take 1)++l.drop 1=l:=by
  cases l with
  |nil=>exact absurd hl.symm Y
  |cons a r=>rfl
 refine aH (λw f U=> ∃(i:Nat),(∃g:Nat->V,f= [v,aC 0,aC N,.fn 71 [] [],aC i,g 5,g 6,g 7])/\1<=i/\i<=N/\U.get S=aZ (Cr (Lr (l.take i)++l.drop i))/\Fx (· =S) h U/\w=N-i) (N- 1)
  ⟨1,aB rfl,om,om,by rw[f1];exact gS,Fx.refl _ h,rfl⟩ ?_
 rintro w f U ⟨i,⟨g,rfl⟩,a8,hi,gi,F,rfl⟩
 by_cases a3:(i:Int)<(N:Int)
 case neg=>
  have d1:=bH a3;obtain rfl:i=N:=om
  rw[←hl,List.take_length,List.drop_length,vF] at gi;simp(disch:=omega)only[go_sem,d1];exact⟨λ_=>gi,F⟩
 have d1:=bP a3
 have O:i<l.length:=om
 obtain⟨a1,len,mem⟩:=OJ l i om
 have st:=Yq O
 rw[AR O] at gi
 have hx:=hs _ (zG O)
 generalize l[i]=x at gi st hx
 simp(disch:=omega)only[go_sem,d1]
 refine xE (λvs h'=>(∃g:Nat->V,vs= [v,aC 0,aC N,.fn 71 [] [],aC i,g 5,g 6,g 7])/\h'.get S=aZ (Cr (Ep x (Lr (l.take i))++l.drop (i+1)))/\Fx (· =S) h h') ?_ ?_
 ·refine aH (λw f h'=> ∃(j:Nat),(∃g:Nat->V,f= [v,aC 0,aC N,.fn 71 [] [],aC i,aC j,g 6,g 7])/\j<=i/\(∀y∈(Lr (l.take i)).drop j,x.1<y.1)/\h'.get S=aZ (Cr ((Lr (l.take i)).take j++x::(Lr (l.take i)).drop j++l.drop (i+1)))/\Fx (· =S) h h'/\j=w) i
   ⟨i,aB rfl,fM _,λy s=>(by rw[List.drop_eq_nil_of_le om] at s;cases s),by rw[Tn om,List.drop_eq_nil_of_le om,Ll];exact gi,F,rfl⟩ ?_
  obtain⟨c,K⟩:=exI (Lr (l.take i))
  rw[K] at a1 len mem
  rw[K]
  obtain⟨Q,a4⟩:=exI (l.drop (i+1))
  rw[a4]
  rintro w f n ⟨j,⟨g,rfl⟩,hj,hB,P,F2,rfl⟩
  by_cases a6:(0:Int)<(j:Int)
  case neg=>
   have d2:=bH a6;obtain rfl:j=0:=om
   rw[List.take_zero,List.drop_zero,List.nil_append] at P;have im:=Pe (x:=x) (A:= []) (B:=c) (λy s=>by cases s) hB;rw[List.nil_append,List.nil_append] at im;simp(disch:=omega)only[go_sem,d2];exact⟨aB rfl,by rw[im];exact P,⟨by have:=F2.next;show _<=n.next+17;omega,λq Z n=>F2.get q Z n⟩⟩
  have d2:=bP a6
  have a7:1<=j:=om
  have ja:j- 1<c.length:=om
  obtain⟨d,o⟩:=exI (c.take j++x::c.drop j++Q)
  rw[o] at P
  have et:c.take j=c.take (j- 1)++ [c[j- 1]]:=by
   have:=List.take_succ_eq_append_getElem ja;rwa [show j- 1+1=j by omega] at this
  have t:(c.take (j- 1)).length=j- 1:=by rw[Fj,Nat.min_eq_left om]
  have lj:j<d.length:=by
   rw[←o,jZ,jZ,Fj,Nat.min_eq_left om,List.length_cons];omega
  have R:j- 1<d.length:=om
  have u:c.take (j- 1)++c[j- 1]::x::(c.drop j++Q)=d:=by rw[←o,et];simp only[Ll,List.cons_append,List.nil_append]
  have cj:d[j]=x:=by
   have:d[j]? =some x:=by
    rw[←u,gAR om,t,show j-(j- 1)=1 by omega];rfl
   rw[dD lj] at this;exact Option.some.inj this
  have a2:d[j- 1]=c[j- 1]:=by
   have:d[j- 1]? =some c[j- 1]:=by
    rw[←u,gAR om,t,Nat.sub_self];rfl
   rw[dD R] at this;exact Option.some.inj this
  obtain⟨y,s⟩:=exI (c[j- 1])
  have ys:y.1<1000000:=hs _ (mem y (by rw[←s];exact zG _))
  rw[s] at a2 u
  have a5: ∀h':H,h'.get S=aZ (Cr d)->h'.row S (j*2) 2=some (Jj x)/\h'.row S ((j- 1)*2) 2=some (Jj y):=λh' hg=>by
   have s1:=FR lj;have s2:=FR R;rw[cj] at s1;rw[a2] at s2;unfold H.row;rw[hg];exact⟨s1,s2⟩
  have a0:=ix j om
  have J:=ix (j- 1) om
  have ej:(j:Int)- 1=((j- 1:Nat):Int):=om
  have n2:=F2.next
  have fb: ∀k,n.next<=k->Fr n (H.mk n.tr k):=λk hk=>(Fr.refl n).bA hk
  obtain⟨r1,r2⟩:=a5 n P
  simp(disch:=omega)only[go_sem,d2,ej,a0,J,r1,r2]
  refine (YC x y _ hx ys).mono ?_
  rintro _ h3 ⟨rfl,f3⟩
  have p:=(fb _ om).trans f3
  have g3:h3.get S=aZ (Cr d):=by rw[p.get S om];exact P
  obtain⟨r3,r4⟩:=a5 h3 g3
  have es: ∀l,dE (.str l) (.str l)=true:=λl=>by simp [dE]
  by_cases G:(x.1:Int)-(y.1:Int)<0
  case neg=>
   have d3:=bH G
   have hA: ∀z∈c.take j,z.1<=x.1:=λz W=>by
    obtain⟨m,hm,rfl⟩:=zF.1 W;rw[Fj,Nat.min_eq_left om] at hm;rw[List.getElem_take]
    by_cases e:m=j- 1
    ·subst e;rw[s];omega
    ·have:=JX.1 a1 m (j- 1) om ja om
     rw[s] at this;omega
   have im:=Pe hA hB;rw[List.take_append_drop] at im;simp(disch:=omega)only[go_sem,r3,r4,es,d3];exact⟨aB rfl,by rw[im,o];exact g3,⟨by have:=p.next;omega,λq Z n=>by rw[p.get q om];exact F2.get q Z n⟩⟩
  have d3:=bP G
  have p1: ∀L:H,dX (aZ (Cr d)) L S (j*2) (Jj y)=some (L.set S (aZ (Cr (d.set j y)))):=λL=>by simp only[dX,FJ lj,Option.map_some]
  have p2: ∀L:H,dX (aZ (Cr (d.set j y))) L S ((j- 1)*2) (Jj x)=some (L.set S (aZ (Cr ((d.set j y).set (j- 1) x)))):=λL=>by simp only[dX,FJ (show j- 1<(d.set j y).length by rw[List.length_set];exact R),Option.map_some]
  simp(disch:=omega)only[go_sem,r3,r4,es,d3,ej,a0,J,Gv _ S (j*2) (a:= aC (y.1:Int)) (b:= .str y.2) rfl rfl,Gv _ S ((j- 1)*2) (a:= aC (x.1:Int)) (b:= .str x.2) rfl rfl,g3,p1,p2]
  have ed:c.drop (j- 1)=y::c.drop j:=by rw[AR ja,s,show j- 1+1=j by omega]
  have el:(d.set j y).set (j- 1) x=c.take (j- 1)++x::c.drop (j- 1)++Q:=by
   rw[←u,List.set_append_right _ _ om,t,show j-(j- 1)=1 by omega,List.set_append_right _ _ om,t,Nat.sub_self,ed];simp
  have nf:=p.next
  refine⟨j- 1,om,j- 1,aB rfl,om,λz W=>?_,by rw[el],⟨by simp only[H.bY];show _<=h3.next+18;omega,λq Z n=>?_⟩,rfl⟩
  ·rw[ed] at W
   rcases zH.1 W with rfl|W
   ·omega
   ·exact hB z W
  ·rw[H.aG _ n,H.aG _ n]
   show h3.get q=_
   rw[p.get q om]
   exact F2.get q Z n
 rintro f n ⟨⟨g,rfl⟩,P,F2⟩
 simp(disch:=omega)only[go_sem]
 rw[eJ i]
 exact⟨N-(i+1),om,i+1,aB rfl,om,om,by rw[st];exact P,F2,rfl⟩
theorem Zy (S N:Nat)(v:V)(l:List (Nat×List Nat))(h:H)(q:l.length=N)(s:N<20)(o:bT v=some (aC N))(r: ∀j:Nat,j<N->Dz 2 v (aC j)=some (.ptr S (j*2)))(m:0<N->S<h.next)(k:0<N->h.get S=aZ (Cr l))(i: ∀x∈l,x.1<1000000):
  Ev T 70 [v,.fn 71 [] []] h (λ_ h'=>(0<N->h'.get S=aZ (Cr (Lr l)))/\Fx (· =S) h h'):=by
 refine cV dQ rfl ?_
 simp(disch:=omega)only[go_sem,dQ,aD,o]
 refine Ev.mono (Q:=λ_ h'=>(0<N->h'.get S=aZ (Cr (Lr l)))/\Fx (· =S) h h') ?_ ?_
 ·refine cV iK rfl ?_
  simp(disch:=omega)only[go_sem,iK,aD]
  have p:decide ((20:Int)<=(N:Int))=false:=bH om
  have n:decide ((20:Int)<(N:Int))=false:=bH om
  refine aH (λb a c=>(∃g:Nat->V,a= [v,aC N,.fn 71 [] [],aC 20,aC 0,aC 20,g 6,g 7,g 8,g 9,g 10])/\h=c/\b=0) 0 ⟨aB rfl,rfl,rfl⟩ ?_
  rintro b a c ⟨⟨g,rfl⟩,rfl,rfl⟩
  simp(disch:=omega)only[go_sem,p]
  refine (abQ S N v l h q om r m k i).mono ?_
  rintro _ f ⟨d,F2⟩
  simp(disch:=omega)only[go_sem]
  refine aH (λb a c=>(∃g:Nat->V,a= [g 0,aC N,g 2,aC 20,g 4,g 5,g 6,g 7,g 8,g 9,g 10])/\f=c/\b=0) 0 ⟨aB rfl,rfl,rfl⟩ ?_
  rintro b a c ⟨⟨g,rfl⟩,rfl,rfl⟩
  simp(disch:=omega)only[go_sem,n]
  exact⟨d,F2⟩
 rintro _ f ⟨d,F2⟩
 simp(disch:=omega)only[go_sem]
 exact⟨d,F2⟩
end
def LY:Nat->Nat->Nat->Nat
 |0,_,p=>p
 |f+1,q,p=>if q%p=0 then p else LY f q (p+1)
def stA:Nat->Nat->Nat->Nat->Nat×Nat
 |0,_,k,r=>(k,r)
 |f+1,p,k,r=>if r%p=0 then stA f p (k+1) (r/p) else (k,r)
def Eg (p k q r:Nat):List (Nat×List Nat):=if r=1 then List.replicate k (p,67::vT p) else match Eh.find? (λx=>x.1==q) with|some x=> [(q,x.2)]|none=> []
def iY (q:Nat):List (Nat×List Nat):=Eg (LY (q- 2) q 2) (stA q (LY (q- 2) q 2) 0 q).1 q (stA q (LY (q- 2) q 2) 0 q).2
def mU:List Nat->List (Nat×List Nat)
 |a::b::r=>iY (b/a)++mU (b::r)
 |_=> []
theorem Qr: ∀(l:List Nat) (i:Nat) (hi:i+1<l.length),mU (l.take (i+2))=mU (l.take (i+1))++iY (l[i+1]/l[i])
 |a::b::r,0,_=>by simp [mU]
 |a::b::r,i+1,hi=>by
  have c:i+1<(b::r).length:=by simpa using hi
  have:=Qr (b::r) i c;have e: ∀k,mU (a::b::r.take k)=iY (b/a)++mU (b::r.take k):=λk=>rfl
  show mU (a::b::r.take (i+1))=mU (a::b::r.take i)++_;rw[e,e];have d:mU (b::r.take (i+1))=mU (b::r.take i)++iY ((b::r)[i+1]/(b::r)[i]):=this;rw[d,Ll]
  rfl
theorem SJ {p k q r:Nat}(a:2<=p)(b:2<=q)(h:q=p^k*r)(c:1<=r):2^(Eg p k q r).length<=q:=by
 unfold Eg;split
 ·rename_i e
  rw[List.length_replicate,h,e,uW];exact Nat.pow_le_pow_left a k
 ·split
  ·exact b
  ·show 1<=q;omega
section
variable {n:Nat} {G:List Nat->Prop} {L:LN} {K r:List Nat} {rs:LN} (hG:iX n G) (E:dW G L)
theorem UA (E:dW G L)(k:xJ n G L r):dW (RG L r) (r.map λi=>L.getD i []):=by
 refine⟨List.pairwise_map.2 (List.Pairwise.imp_of_mem (λ{i j} hi c (h:i<j)=>?_) k.rk.asc),λx=>?_⟩
 ·have a:=((k.rk.mem i).1 hi).1
  have b:=((k.rk.mem j).1 c).1;rw[List.getD,dD a,List.getD,dD b];exact JX.1 E.asc i j a b h
 ·rw[uF]
  exact Iff.rfl
include hG E
theorem abS (c:Ql n G L K rs r)(b:Cm n G L K){i:Nat}(hi:i+1<rs.length):2*rs[i].length<=rs[i+1].length:=by
 have a:=c.all _ (zG (show i<rs.length by omega));have f:=c.all _ (zG hi);obtain⟨k,l⟩:=c.st i _ _ (dD om) (dD hi);obtain⟨⟨j,h,d,e⟩,_⟩:=Fv hG E a b k;rw[←l] at e;have g:=Gw a (b.lt h) d;rw[←e] at g;have:=dbl (x:=L.getD j []) a.dN f.dN (UA E a) (UA E f) (λy ⟨t,ht,e⟩=>⟨t,g.1 t ht,e⟩) ⟨j,g.2.1,rfl⟩ λ⟨t,ht,e⟩=>d (by rw[←yK E.nodup ((a.rk.mem t).1 ht).1 (b.lt h) e];exact ht)
 simpa using this
end
end Go.Proofs.YtcdbmkidaecdiaaGreat
